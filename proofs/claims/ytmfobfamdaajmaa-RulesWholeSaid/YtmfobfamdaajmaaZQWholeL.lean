/- The law RulesWhole: its walk. -/
import Derived.Test.YtmfobfamdaajmaaZQWPlain
import Derived.Test.YtmfobfamdaajmaaZQKinds
namespace Go.Proofs.Ytmfobfamdaajmaa
open Go.V
set_option linter.unusedVariables false
set_option linter.unusedSimpArgs false

theorem Rd.tail {w : World} {no : List Nat} {b o c m : Nat} {e vs : List Value} (h : Rd w no (some ⟨b, o, none⟩) (e ++ vs)) (he : e.length = m) (hc : vs ≠ [] → 1 < c) : Rd w no (cutA (some ⟨b, o, none⟩) c 1 m) vs := by
  intro j v hv
  have hc := hc (fun e => by subst e; simp at hv)
  obtain ⟨b', o', h1, h2, h3⟩ := h (m + j) v (by rw [List.getElem?_append_right (by omega)]; rw [← hv]; congr 1; omega)
  cases h1
  refine ⟨b, o + 1 * m, cutA_some hc, h2, ?_⟩
  rw [Nat.one_mul, Nat.add_assoc]; exact h3
theorem Sat.apart {w0 w : World} {own : List Nat} {b : Nat} {c : Ch} {q hs fr : Hp} (s : Sat w0 own hs w) [TakeI ((b, c) :: q) hs fr] : ∀ x ∈ bl q, x ∉ [b] := fun x hx hm => by
  simp at hm; subst hm
  exact (Sat.take (pre := (x, c) :: q) s).not_in (fun _ h => h) hx
def ccl (k id tg mb sd ty pr q pk : Int) : List Value := [.int .i64 k, .int .u64 id, .int .u64 tg, .int .u32 mb, .int .i64 sd, .int .i64 ty, .int .i64 pr, .int .u64 q, .int .u64 pk]
set_option maxRecDepth 10000 in
theorem RulesWhole_ok (w : World) (cc cm : Int) (A : Option Addr) (len cap : Nat) (l : List Cm) (o : Cm) (hl : len = l.length) (hA : Rd w [] A (crows l)) (hb : len ≤ 4503599627370496) (hw : ∀ c ∈ l, c.wf) (hwo : o.wf) :
    Is Try.prog 10 [.agg ⟨[.int .i64 cc, .int .i64 cm]⟩, .slice A len cap, .agg ⟨o.cells⟩] w (.bool true) := by
  refine Does.pure (Does.of (n := 152) Try.func10 rfl rfl rfl rfl ?_)
  refine .seq ((.region (.nw (.box rfl rfl) fun b3 => (.nw (.box rfl rfl) fun b5 => (.v (.assign rfl) (.nil ?_))))))
  refine .seq ((.region (.v (.loadA (vs := [.int .i64 cc, .int .i64 cm]) rfl .whole rfl) ?_)))
  refine .ef (.call0 rfl rfl fun w s => begun_ok w cc cm) ?_
  rintro _ _ ⟨_, hN, rfl⟩
  by_cases hc : Cfg cc cm
  case neg =>
    rw [if_neg hc] at hN
    obtain ⟨rfl, rfl⟩ := hN
    refine .v (.move rfl) (.v (.extract rfl rfl) (.v (.extract rfl rfl) (.v (.assign rfl) (.v (.assign rfl) (.nil ?_)))))
    refine .seq (.seq ((.region (.v (.move rfl) (.v (.eql_ptr_nil rfl rfl) (.v (.move rfl) (.or (b2 := false) 23 25 2 2 rfl rfl (fun g1 => absurd g1 (by simp)) (.nil ?_))))))))
    refine .cond rfl (fun _ => ?_) (fun h => absurd h (by simp))
    refine .seq ((.region (.v (.move rfl) (.v (.assign rfl) (.nil ?_)))))
    exact .ret ⟨[_], ⟨rfl, trivial⟩, rfl⟩
  rw [if_pos hc] at hN
  obtain ⟨b, rfl, rfl⟩ := hN
  refine .v (.move rfl) (.v (.extract rfl rfl) (.v (.extract rfl rfl) (.v (.assign rfl) (.v (.assign rfl) (.nil ?_)))))
  refine .seq (.seq ((.region (.v (.move rfl) (.v (.eql_ptr_nil rfl rfl) (.v (.move rfl) (.or 23 25 2 2 rfl rfl (fun g1 => .v (.move rfl) (.v (.not rfl) (.nil ⟨rfl, rfl, rfl, rfl⟩))) (.nil ?_))))))))
  refine .cond rfl (fun h => absurd h (by simp)) (fun _ => .skip ?_)
  obtain ⟨k0, id, tg, mb, sd, ty0, pr, q, pk⟩ := o
  refine .heap (hs' := Bx b3 cc cm :: ((b5, .cells [.int .i64 k0, .int .u64 id, .int .u64 tg, .int .u32 mb, .int .i64 sd, .int .i64 ty0, .int .i64 pr, .int .u64 q, .int .u64 pk] 25) :: Tb b (Bc (newB cc cm) (.slice none 0 0) (.slice none 0 0)) :: ([] ++ []))) (fun _ s => Sat.take (pre := Bx b3 cc cm :: ((b5, .cells (Cm.cells ⟨k0, id, tg, mb, sd, ty0, pr, q, pk⟩) 25) :: Tb b (Bc (newB cc cm) (.slice none 0 0) (.slice none 0 0)) :: ([] ++ []))) s) ?_
  refine .seq (.seq ((.region (.v (.assign rfl) (.nil ?_)))))
  refine .block (.loop (X := BS) (fun x => [(1, .slice A len cap), (3, .pointer (some ⟨b3, 0, none⟩)), (5, .pointer (some ⟨b5, 0, none⟩)), (7, .pointer (some ⟨b, 0, none⟩)), (9, .int .i64 x.i)]) (fun x => Bx b3 cc cm :: ((b5, .cells [.int .i64 k0, .int .u64 id, .int .u64 tg, .int .u32 mb, .int .i64 sd, .int .i64 ty0, .int .i64 pr, .int .u64 q, .int .u64 pk] 25) :: x.H b)) (fun x => x.V len cc) (fun x => len - x.i)
    ⟨0, newB cc cm, .slice none 0 0, .slice none 0 0, [], []⟩ ⟨by simp, newB_vl hc, rfl, OwnS.nil _ _, OwnS.nil _ _⟩ (.cons rfl (.cons rfl (.cons rfl (.cons rfl (.cons rfl (.nil _)))))) (fun _ s => s) ?_)
  rintro ⟨i, B, v1, v2, k1, k2⟩ ⟨hi, hI, hcap0, h1, h2⟩
  dsimp only at hi hI hcap0 h1 h2 ⊢
  refine .seq (.seq ((.region (.v (.move rfl) (.v (.move rfl) (.v (.len rfl) (.v (.lss rfl rfl) (.nil ?_))))))))
  refine .cond_dec rfl (fun g2 => .skip ?_) (fun g2 => .exit ?_)
  · have hil : i < l.length := by omega
    obtain ⟨ba, oa, rfl, hat⟩ := Rd.cm hA (by omega)
    have hcw := hw _ (List.getElem_mem hil)
    have hat := hat i hil
    generalize l[i] = c at hat hcw
    have hI' := does_vl hI hcw
    have hcap' := (does_cap B c).1.trans hcap0
    refine .seq (.block ((.region (.v (.move rfl) (.v (.move rfl) (.v (.move rfl) (.v (.indexAddr rfl rfl (by omega) (by omega)) (.v (.loadA (vs := c.cells) rfl (hat _ _ (by simp [bl])) rfl) ?_))))))))
    refine .ef (.callT (Tb b (Bc B v1 v2) :: (k1 ++ k2)) rfl rfl (fun w s => Does.call_Do w b B hI.inv.ok c hcw.2.1 hcw.2.2 v1 v2 k1 k2 h1 h2)) ?_
    generalize B.does c = D at hI' hcap'
    obtain ⟨B', evs⟩ := D
    rintro _ _ ⟨_, ⟨A', c', v1', v2', k1', k2', ke, rfl, rfl, h1', h2', hE⟩, rfl⟩
    dsimp only at hI' hcap' h1' h2' hE ⊢
    refine .nil ?_
    refine .region (.v (.move rfl) (.v (.addi rfl rfl (by omega)) (.v (.assign rfl) (.nil ?_))))
    exact ⟨⟨i + 1, B', _, _, k1', k2'⟩, ⟨by dsimp only; omega, hI', hcap', h1', h2'⟩, by dsimp only; omega, .cons rfl (.cons rfl (.cons rfl (.cons rfl (.cons rfl (.nil _))))), fun _ s => Sat.take (pre := Bx b3 cc cm :: ((b5, .cells [.int .i64 k0, .int .u64 id, .int .u64 tg, .int .u32 mb, .int .i64 sd, .int .i64 ty0, .int .i64 pr, .int .u64 q, .int .u64 pk] 25) :: Tb b (Bc B' v1' v2') :: (k1' ++ k2'))) s⟩
  · obtain ⟨A1, c1, rfl⟩ := OwnS.sl h1
    obtain ⟨A2, c2, rfl⟩ := OwnS.sl h2
    have hlen := hI.len
    have hcapb := hI.inv.hi
    refine .seq ((.region (.v (.loadA (vs := [.int .i64 cc, .int .i64 cm]) rfl .whole rfl) ?_)))
    refine .ef (.call0 rfl rfl fun w s => New_ok w cc cm) ?_
    rintro _ _ ⟨_, hN, rfl⟩
    rw [if_pos hc] at hN
    obtain ⟨bq, rfl, rfl⟩ := hN
    refine .v (.move rfl) (.v (.extract rfl rfl) (.v (.extract rfl rfl) (.v (.assign rfl) (.v (.assign rfl) (.nil ?_)))))
    refine .heap (hs' := Tb bq [.int .i64 cc, .int .i64 cm, .slice none 0 0, .slice none 0 0, .int .u64 0, .int .u64 0] :: (Bx b3 cc cm :: ((b5, .cells [.int .i64 k0, .int .u64 id, .int .u64 tg, .int .u32 mb, .int .i64 sd, .int .i64 ty0, .int .i64 pr, .int .u64 q, .int .u64 pk] 25) :: Tb b (Bc B (.slice A1 B.bs.length c1) (.slice A2 B.ss.length c2)) :: (k1 ++ k2)))) (fun _ s => s) ?_
    refine .seq (.seq ((.region (.v (.move rfl) (.v (.eql_ptr_nil rfl rfl) (.v (.move rfl) (.v (.move rfl) (.v (.move rfl) ?_))))))))
    refine .ef (.call0 rfl rfl fun w s => Book_ok w b B.cap B.meet B.high B.seq A1 A2 c1 c2 B.bs B.ss (Rd.chunk s (T := 67) (l := Bc B (.slice A1 B.bs.length c1) (.slice A2 B.ss.length c2)) (by simp) (fun j v hv => by rw [Nat.zero_add]; exact hv)) (OwnS.rd h1 s (no := []) (fun p hp => by simp [hp]) (by simp)) (OwnS.rd h2 s (no := []) (fun p hp => by simp [hp]) (by simp)) (by omega) (by omega)) ?_
    rintro _ _ ⟨_, ⟨E1, E2, d1, d2, q1, q2, rfl, rfl, oe1, oe2⟩, rfl⟩
    refine .ef (.callT [Tb bq [.int .i64 cc, .int .i64 cm, .slice none 0 0, .slice none 0 0, .int .u64 0, .int .u64 0]] rfl rfl (fun w s => Load_ok w bq _ _ _ _ _ _ B.cap B.meet B.high B.seq E1 E2 d1 d2 B.bs B.ss (OwnS.rd oe1 s (fun p hp => by simp [hp]) (Sat.apart (c := .cells [.int .i64 cc, .int .i64 cm, .slice none 0 0, .slice none 0 0, .int .u64 0, .int .u64 0] 67) s)) (OwnS.rd oe2 s (fun p hp => by simp [hp]) (Sat.apart (c := .cells [.int .i64 cc, .int .i64 cm, .slice none 0 0, .slice none 0 0, .int .u64 0, .int .u64 0] 67) s)) (fun o ho => (hI.rests o ho).2) (by omega) (by omega) hI.vld)) ?_
    rintro _ _ ⟨_, ⟨rfl, u1, u2, m1, m2, rfl, hu1, hu2⟩, rfl⟩
    refine .v (.nei rfl rfl) (.v (.pick rfl rfl rfl) (.nil ?_))
    refine .cond rfl (fun h => absurd h (by simp)) (fun _ => .skip ?_)
    refine .seq ((.region (.v (.fieldAddr rfl) (.st (.storeL rfl rfl rfl) (.v (.fieldAddr rfl) (.st (.storeL rfl rfl rfl) (.nil ?_)))))))
    refine .keep (Tb b (Bc B (.slice A1 B.bs.length c1) (.slice A2 B.ss.length c2)) :: (k1 ++ k2) ++ (Tb bq (Bc ⟨B.cap, B.meet, B.bs, B.ss, B.high, B.seq⟩ u1 u2) :: (m1 ++ m2) ++ [(b5, Ch.cells [.int .i64 1, .int .u64 id, .int .u64 tg, .int .u32 mb, .int .i64 sd, .int .i64 4, .int .i64 pr, .int .u64 q, .int .u64 pk] 25)])) ?_
    have hwh := does_whole hI (c := ⟨k0, id, tg, mb, sd, ty0, pr, q, pk⟩) hwo
    have hok4 := does_len hI.inv (c := (⟨k0, id, tg, mb, sd, ty0, pr, q, pk⟩ : Cm).kd 4) hwo
    have hok3 := does_len hI.inv (c := (⟨k0, id, tg, mb, sd, ty0, pr, q, pk⟩ : Cm).kd 3) hwo
    have hB4 := B.does ((⟨k0, id, tg, mb, sd, ty0, pr, q, pk⟩ : Cm).kd 4)
    refine .seq ((.region (.v (.move rfl) (.v (.loadA (vs := ((⟨k0, id, tg, mb, sd, ty0, pr, q, pk⟩ : Cm).kd 4).cells) rfl .whole rfl) ?_))))
    refine .ef (.callT (Tb b (Bc B (.slice A1 B.bs.length c1) (.slice A2 B.ss.length c2)) :: (k1 ++ k2)) rfl rfl (fun w s => Does.call_Do w b B hI.inv.ok ((⟨k0, id, tg, mb, sd, ty0, pr, q, pk⟩ : Cm).kd 4) hwo.2.1 hwo.2.2 _ _ k1 k2 h1 h2)) ?_
    generalize B.does ((⟨k0, id, tg, mb, sd, ty0, pr, q, pk⟩ : Cm).kd 4) = DF at hwh hok4 ⊢
    obtain ⟨BF, x⟩ := DF
    rintro _ _ ⟨_, ⟨AF, cF, vF1, vF2, kF1, kF2, keF, rfl, rfl, -, -, hF⟩, rfl⟩
    dsimp only at hwh hok4 hF ⊢
    refine .v (.assign rfl) (.nil ?_)
    refine .keep (keF ++ (Tb bq (Bc B u1 u2) :: (m1 ++ m2) ++ [(b5, Ch.cells [.int .i64 1, .int .u64 id, .int .u64 tg, .int .u32 mb, .int .i64 sd, .int .i64 4, .int .i64 pr, .int .u64 q, .int .u64 pk] 25)])) ?_
    refine .seq ((.region (.v (.fieldAddr rfl) (.st (.storeL rfl rfl rfl) (.nil ?_)))))
    refine .seq ((.region (.v (.move rfl) (.v (.loadA (vs := ((⟨k0, id, tg, mb, sd, ty0, pr, q, pk⟩ : Cm).kd 3).cells) rfl .whole rfl) ?_))))
    refine .ef (.callT (Tb bq (Bc B u1 u2) :: (m1 ++ m2)) rfl rfl (fun w s => Does.call_Do w bq B hI.inv.ok ((⟨k0, id, tg, mb, sd, ty0, pr, q, pk⟩ : Cm).kd 3) hwo.2.1 hwo.2.2 _ _ m1 m2 hu1 hu2)) ?_
    generalize B.does ((⟨k0, id, tg, mb, sd, ty0, pr, q, pk⟩ : Cm).kd 3) = DI at hwh hok3 ⊢
    obtain ⟨BI, y⟩ := DI
    rintro _ _ ⟨_, ⟨AI, cI, vI1, vI2, kI1, kI2, keI, rfl, rfl, -, -, hI3⟩, rfl⟩
    dsimp only at hwh hok3 hI3 ⊢
    refine .v (.assign rfl) (.nil ?_)
    refine .keep (keF ++ keI ++ [(b5, Ch.cells [.int .i64 1, .int .u64 id, .int .u64 tg, .int .u32 mb, .int .i64 sd, .int .i64 3, .int .i64 pr, .int .u64 q, .int .u64 pk] 25)]) ?_
    obtain ⟨xe, xr, ye, yr, rfl, rfl, hk, hcd, hlast⟩ := hwh.ok
    obtain ⟨bx, ox, lx, rfl, -, rfl, hcx, -, -⟩ := hF.some_ (by simp)
    obtain ⟨by_, oy, ly, rfl, -, rfl, hcy, -, -⟩ := hI3.some_ (by simp)
    have hldx : ∀ (j k : Nat) (hj : j < (xe :: xr).length) (v : Value) (own : List Nat) (hs : Hp), [(bx, Ch.cells lx 50)] ⊆ hs → k < 13 → (((xe :: xr)[j]).cells)[k]? = some v → At w own hs ⟨bx, ox + j * 13 + k, none⟩ [v] := fun j k hj v own hs hh hk hv => hF.ld hh hj hk hv
    have hldy : ∀ (j k : Nat) (hj : j < (ye :: yr).length) (v : Value) (own : List Nat) (hs : Hp), [(by_, Ch.cells ly 50)] ⊆ hs → k < 13 → (((ye :: yr)[j]).cells)[k]? = some v → At w own hs ⟨by_, oy + j * 13 + k, none⟩ [v] := fun j k hj v own hs hh hk hv => hI3.ld hh hj hk hv
    have hlx : 0 < (xe :: xr).length := by simp
    have hly : 0 < (ye :: yr).length := by simp
    refine .seq (.seq ((.drawK _ (fun _ h => h) (by kernel_rfl) (by kernel_rfl) ?_)))
    refine .v (fun _ f => .move rfl) (.v (fun _ f => .len rfl) (.v (fun _ f => .eqi rfl rfl) (.v (fun _ f => .move rfl) (.or 66 69 3 3 rfl rfl (fun g3 => .v (fun _ f => .move rfl) (.v (fun _ f => .len rfl) (.v (fun _ f => .eqi rfl rfl) (.nil ⟨rfl, rfl, rfl, rfl⟩)))) (.v (fun _ f => .move rfl) ?_)))))
    refine .or 71 80 9 9 rfl rfl (fun g4 => .v (fun _ f => .move rfl) (.v (fun _ f => .indexAddr rfl rfl (by omega) (by omega)) (.v (fun _ f => .fieldAddr rfl) (.v (fun _ f => .load (v := .int .i64 xe.kind) rfl (hldx 0 1 hlx _ _ _ (fun p hp => f (by simp at hp ⊢; simp [hp])) (by omega) rfl)) (.v (fun _ f => .move rfl) (.v (fun _ f => .indexAddr rfl rfl (by omega) (by omega)) (.v (fun _ f => .fieldAddr rfl) (.v (fun _ f => .load (v := .int .i64 ye.kind) rfl (hldy 0 1 hly _ _ _ (fun p hp => f (by simp at hp ⊢; simp [hp])) (by omega) rfl)) (.v (fun _ f => .nei rfl rfl) (.nil ⟨rfl, rfl, rfl, rfl⟩)))))))))) ?_
    refine .v (fun _ f => .move rfl) (.or 82 91 9 9 rfl rfl (fun g5 => .v (fun _ f => .move rfl) (.v (fun _ f => .indexAddr rfl rfl (by omega) (by omega)) (.v (fun _ f => .fieldAddr rfl) (.v (fun _ f => .load (v := .int .i64 xe.code) rfl (hldx 0 12 hlx _ _ _ (fun p hp => f (by simp at hp ⊢; simp [hp])) (by omega) rfl)) (.v (fun _ f => .move rfl) (.v (fun _ f => .indexAddr rfl rfl (by omega) (by omega)) (.v (fun _ f => .fieldAddr rfl) (.v (fun _ f => .load (v := .int .i64 ye.code) rfl (hldy 0 12 hly _ _ _ (fun p hp => f (by simp at hp ⊢; simp [hp])) (by omega) rfl)) (.v (fun _ f => .nei rfl rfl) (.nil ⟨rfl, rfl, rfl, rfl⟩)))))))))) (.nil ?_))
    refine .cond rfl (fun h => ?_) (fun _ => .skip ?_)
    · exfalso
      simp at h; omega
    refine .seq (.seq ((.region (.v (.move rfl) (.v (.indexAddr rfl rfl (by omega) (by omega)) (.v (.fieldAddr rfl) (.v (.load (v := .int .i64 xe.kind) rfl (hldx 0 1 hlx _ _ _ (fun p hp => by simp at hp ⊢; simp [hp]) (by omega) rfl)) (.v (.eqi rfl rfl) (.nil ?_)))))))))
    refine .cond_dec rfl (fun h5 => ?_) (fun h5 => .skip ?_)
    · refine .seq ((.region (.v (.assign rfl) (.nil ?_))))
      exact .ret ⟨[_], ⟨rfl, trivial⟩, rfl⟩
    refine .seq ((.region (.v (.assign rfl) (.nil ?_))))
    refine .seq (.seq ((.region (.v (.assign rfl) (.nil ?_)))))
    refine .block (.loop (X := Nat) (fun j => [(5, .pointer (some ⟨b5, 0, none⟩)), (12, .slice (some ⟨bx, ox, none⟩) (xe :: xr).length cF), (13, .slice (some ⟨by_, oy, none⟩) (ye :: yr).length cI), (14, .int .u64 (tsum ((ye :: yr).take j))), (15, .int .i64 j)]) (fun _ => [(bx, Ch.cells lx 50)] ++ [(by_, Ch.cells ly 50)] ++ [(b5, Ch.cells [.int .i64 1, .int .u64 id, .int .u64 tg, .int .u32 mb, .int .i64 sd, .int .i64 3, .int .i64 pr, .int .u64 q, .int .u64 pk] 25)])
      (fun j => j ≤ (ye :: yr).length) (fun j => (ye :: yr).length - j) 0 (Nat.zero_le _) (.cons rfl (.cons rfl (.cons rfl (.cons rfl (.cons rfl (.nil _)))))) (fun _ s => s) ?_)
    intro j hj
    refine .seq (.seq ((.region (.v (.move rfl) (.v (.move rfl) (.v (.len rfl) (.v (.lss rfl rfl) (.nil ?_))))))))
    refine .cond_dec rfl (fun h7 => .skip ?_) (fun h7 => .exit ?_)
    · have hjl : j < (ye :: yr).length := by omega
      have htk := tsum_take hjl
      have hld := fun k => hldy j k hjl
      generalize (ye :: yr)[j] = e at htk hld
      refine .mid (X := Unit) (fun _ => [(5, .pointer (some ⟨b5, 0, none⟩)), (12, .slice (some ⟨bx, ox, none⟩) (xe :: xr).length cF), (13, .slice (some ⟨by_, oy, none⟩) (ye :: yr).length cI), (14, .int .u64 (tsum ((ye :: yr).take (j + 1)))), (15, .int .i64 j)]) (fun _ => [(bx, Ch.cells lx 50)] ++ [(by_, Ch.cells ly 50)] ++ [(b5, Ch.cells [.int .i64 1, .int .u64 id, .int .u64 tg, .int .u32 mb, .int .i64 sd, .int .i64 3, .int .i64 pr, .int .u64 q, .int .u64 pk] 25)])
        (fun _ => True) (.block (.seq ((.region (.v (.move rfl) (.v (.move rfl) (.v (.indexAddr rfl rfl (by omega) (by omega)) (.v (.fieldAddr rfl) (.v (.load (v := .int .i64 e.kind) rfl (hld 1 _ _ _ (fun p hp => by simp at hp ⊢; simp [hp]) (by omega) rfl)) (.v (.eqi rfl rfl) (.nil ?_))))))))))) ?_
      · refine .cond_dec rfl (fun h8 => ?_) (fun h8 => .skip ?_)
        · rw [if_pos h8] at htk
          refine .region (.v (.move rfl) (.v (.move rfl) (.v (.move rfl) (.v (.indexAddr rfl rfl (by omega) (by omega)) (.v (.fieldAddr rfl) (.v (.load (v := .int .u64 e.q) rfl (hld 9 _ _ _ (fun p hp => by simp at hp ⊢; simp [hp]) (by omega) rfl)) (.v (.add rfl rfl) (.v (.assign rfl) (.nil ?_)))))))))
          rw [← htk]
          exact ⟨(), trivial, .cons rfl (.cons rfl (.cons rfl (.cons rfl (.cons rfl (.nil _))))), fun _ s => s⟩
        · rw [if_neg h8] at htk
          rw [htk]
          exact ⟨(), trivial, .cons rfl (.cons rfl (.cons rfl (.cons rfl (.cons rfl (.nil _))))), fun _ s => s⟩
      · rintro ⟨⟩ -
        refine .region (.v (.move rfl) (.v (.addi rfl rfl (by omega)) (.v (.assign rfl) (.nil ?_))))
        exact ⟨j + 1, by omega, by omega, .cons rfl (.cons rfl (.cons rfl (.cons rfl (.cons rfl (.nil _))))), fun _ s => s⟩
    · have htake : (ye :: yr).take j = ye :: yr := List.take_of_length_le (by omega)
      rw [htake]
      have hne2 : ye.kind ≠ 2 := by omega
      have hlast : tsum (ye :: yr) ≠ q ∧ (∃ e, xr = [e] ∧ e.kind = 4 ∧ e.q = q ∧ e.reason = 4) ∨ tsum (ye :: yr) = q ∧ xr = yr := by
        rcases hlast with h | h
        · exact absurd h hne2
        · exact h.2
      refine .seq (.seq ((.region (.v (.move rfl) (.v (.fieldAddr rfl) (.v (.load (v := .int .u64 q) rfl (.one rfl)) (.v (.nei rfl rfl) (.nil ?_))))))))
      refine .cond_dec rfl (fun h8 => ?_) (fun h8 => .skip ?_)
      · rcases hlast with ⟨_, e, rfl, e1, e2, e3⟩ | ⟨h, _⟩
        case inr => exact absurd h h8
        refine .seq ((.drawK _ (fun _ h => h) (by kernel_rfl) (by kernel_rfl) ?_))
        refine .v (fun _ f => .move rfl) (.v (fun _ f => .len rfl) (.v (fun _ f => .eqi rfl rfl) (.v (fun _ f => .move rfl) (.and 124 129 5 5 rfl rfl (fun g6 => .v (fun _ f => .move rfl) (.v (fun _ f => .indexAddr rfl rfl (by omega) (by simp)) (.v (fun _ f => .fieldAddr rfl) (.v (fun _ f => .load (v := .int .i64 e.kind) rfl (hldx 1 1 (by simp) _ _ _ (fun p hp => f (by simp at hp ⊢; simp [hp])) (by omega) rfl)) (.v (fun _ f => .eqi rfl rfl) (.nil ⟨rfl, rfl, rfl, rfl⟩)))))) (.v (fun _ f => .move rfl) ?_)))))
        refine .and 131 138 7 7 rfl rfl (fun g7 => .v (fun _ f => .move rfl) (.v (fun _ f => .indexAddr rfl rfl (by omega) (by simp)) (.v (fun _ f => .fieldAddr rfl) (.v (fun _ f => .load (v := .int .u64 e.q) rfl (hldx 1 9 (by simp) _ _ _ (fun p hp => f (by simp at hp ⊢; simp [hp])) (by omega) rfl)) (.v (fun _ f => .fieldAddr rfl) (.v (fun _ f => .load (v := .int .u64 q) rfl (.one (hb := .sub f) rfl)) (.v (fun _ f => .eqi rfl rfl) (.nil ⟨rfl, rfl, rfl, rfl⟩)))))))) ?_
        refine .v (fun _ f => .move rfl) (.and 140 145 5 5 rfl rfl (fun g8 => .v (fun _ f => .move rfl) (.v (fun _ f => .indexAddr rfl rfl (by omega) (by simp)) (.v (fun _ f => .fieldAddr rfl) (.v (fun _ f => .load (v := .int .i64 e.reason) rfl (hldx 1 11 (by simp) _ _ _ (fun p hp => f (by simp at hp ⊢; simp [hp])) (by omega) rfl)) (.v (fun _ f => .eqi rfl rfl) (.nil ⟨rfl, rfl, rfl, rfl⟩)))))) (.v (fun _ f => .assign rfl) (.nil ?_)))
        exact .ret ⟨[_], ⟨rfl, trivial⟩, congrArg Value.bool (by rw [e1, e2, e3]; simp)⟩
      · rcases hlast with ⟨h, _⟩ | ⟨_, rfl⟩
        · exact absurd h h8
        refine .seq ((.drawK _ (fun _ h => h) (by kernel_rfl) (by kernel_rfl) ?_))
        refine .v (fun _ f => .move rfl) (.v (fun _ f => .slLo rfl rfl (by omega) (by simp only [List.length_cons]; omega)) (.v (fun _ f => .move rfl) (.v (fun _ f => .slLo rfl rfl (by omega) (by simp only [List.length_cons]; omega)) ?_)))
        refine .pc (v := .bool true) rfl rfl (fun w s => events_ok w (cutA (some ⟨bx, ox, none⟩) cF 1 13) (cutA (some ⟨by_, oy, none⟩) cI 1 13) xr.length (cF - 1) (cI - 1) xr (Rd.tail (h := OwnS.rd hF s (no := []) (fun p hp => by simp at hp ⊢; simp [hp]) (by simp)) (e := xe.cells) rfl (fun hne => by have : 0 < xr.length := List.length_pos_iff.2 (fun e => by subst e; exact hne rfl); simp only [List.length_cons] at hcx hcy; omega)) (Rd.tail (h := OwnS.rd hI3 s (no := []) (fun p hp => by simp at hp ⊢; simp [hp]) (by simp)) (e := ye.cells) rfl (fun hne => by have : 0 < xr.length := List.length_pos_iff.2 (fun e => by subst e; exact hne rfl); simp only [List.length_cons] at hcx hcy; omega)) rfl (by simp only [List.length_cons] at hok4; omega)) ?_
        refine .v (fun _ f => .assign rfl) (.nil ?_)
        exact .ret ⟨[_], ⟨rfl, trivial⟩, rfl⟩
end Go.Proofs.Ytmfobfamdaajmaa
