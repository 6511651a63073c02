/- The law RulesKinds: its walk. -/
import Derived.Test.YtmfobfamdaajmaaMG
namespace Go.Proofs.Ytmfobfamdaajmaa
open Go.V
set_option linter.unusedVariables false
set_option linter.unusedSimpArgs false

theorem At.cell_ {w0 : World} {own : List Nat} {hs : Hp} {b o : Nat} {vs : List Value} {v : Value} (h : At w0 own hs ⟨b, o, none⟩ vs) (k : Nat) (hv : vs[k]? = some v) : At w0 own hs ⟨b, o + k, none⟩ [v] := by
  intro w s j u hu
  match j, hu with
  | 0, hu => simp at hu; subst hu; rw [add_none, Nat.add_zero]; have := h w s k v hv; rw [add_none] at this; exact this
theorem fndV_form (f : Option (Int × Ord)) : ∃ (o : Ord) (s : Int), fndV f = .tuple ⟨[.agg ⟨o.cells⟩, .int .i64 s, .bool f.isSome]⟩ := by
  cases f with
  | none => exact ⟨ord0, 0, rfl⟩
  | some p => exact ⟨p.2, p.1, rfl⟩
theorem tsum_take {l : List Ev} {j : Nat} (h : j < l.length) : tsum (l.take (j + 1)) = if l[j].kind = 3 then IntKind.u64.wrap (tsum (l.take j) + l[j].q) else tsum (l.take j) := by
  rw [← List.take_append_getElem h, tsum_snoc]
def BS.W (x : BS) (i : Nat) : Prop := x.i = i ∧ x.B.Vl ∧ Side x.v1 x.B.bs x.k1 ∧ Side x.v2 x.B.ss x.k2
set_option maxRecDepth 10000 in
theorem RulesKinds_ok (w : World) (cc cm : Int) (A : Option Addr) (len cap : Nat) (l : List Cm) (hl : len = l.length) (hA : Rd w [] A (crows l)) (hb : len ≤ 4503599627370496) (hw : ∀ c ∈ l, c.wf) :
    Is Try.prog 7 [.agg ⟨[.int .i64 cc, .int .i64 cm]⟩, .slice A len cap] w (.bool true) := by
  refine Does.pure (Does.of (n := 141) Try.func7 rfl rfl rfl rfl ?_)
  refine .seq ((.region (.nw (.box rfl rfl) fun b2 => (.v (.assign rfl) (.nil ?_)))))
  refine .seq ((.region (.v (.loadA (vs := [.int .i64 cc, .int .i64 cm]) rfl .whole rfl) ?_)))
  refine .ef (.call0 rfl rfl fun w s => begun_ok w cc cm) ?_
  rintro _ _ ⟨_, hN, rfl⟩
  by_cases hc : Cfg cc cm
  case neg =>
    rw [if_neg hc] at hN
    obtain ⟨rfl, rfl⟩ := hN
    refine .v (.move rfl) (.v (.extract rfl rfl) (.v (.extract rfl rfl) (.v (.assign rfl) (.v (.assign rfl) (.nil ?_)))))
    refine .seq (.seq ((.region (.v (.move rfl) (.v (.eql_ptr_nil rfl rfl) (.v (.move rfl) (.or (b2 := false) 23 25 2 2 rfl rfl (fun g1 => absurd g1 (by simp)) (.nil ?_))))))))
    refine .cond rfl (fun _ => ?_) (fun h => absurd h (by simp))
    refine .seq ((.region (.v (.move rfl) (.v (.assign rfl) (.nil ?_)))))
    exact .ret ⟨[_], ⟨rfl, trivial⟩, rfl⟩
  rw [if_pos hc] at hN
  obtain ⟨b, rfl, rfl⟩ := hN
  refine .v (.move rfl) (.v (.extract rfl rfl) (.v (.extract rfl rfl) (.v (.assign rfl) (.v (.assign rfl) (.nil ?_)))))
  refine .seq (.seq ((.region (.v (.move rfl) (.v (.eql_ptr_nil rfl rfl) (.v (.move rfl) (.or 23 25 2 2 rfl rfl (fun g1 => .v (.move rfl) (.v (.not rfl) (.nil ⟨rfl, rfl, rfl, rfl⟩))) (.nil ?_))))))))
  refine .cond rfl (fun h => absurd h (by simp)) (fun _ => .skip ?_)
  refine .seq (.seq ((.region (.v (.assign rfl) (.nil ?_)))))
  refine .block (.loop (X := BS) (fun x => [(1, .slice A len cap), (5, .pointer (some ⟨b, 0, none⟩)), (7, .int .i64 x.i)]) (fun x => x.H b) (fun x => x.V len cc) (fun x => len - x.i)
    ⟨0, newB cc cm, .slice none 0 0, .slice none 0 0, [], []⟩ ⟨by simp, newB_vl hc, rfl, OwnS.nil _ _, OwnS.nil _ _⟩ (.cons rfl (.cons rfl (.cons rfl (.nil _)))) (fun _ s => s.take) ?_)
  rintro ⟨i, B, v1, v2, k1, k2⟩ ⟨hi, hI, hcap0, h1, h2⟩
  dsimp only at hi hI hcap0 h1 h2 ⊢
  refine .seq (.seq ((.region (.v (.move rfl) (.v (.move rfl) (.v (.len rfl) (.v (.lss rfl rfl) (.nil ?_))))))))
  refine .cond_dec rfl (fun g2 => .skip ?_) (fun g2 => .exit ?_)
  · have hil : i < l.length := by omega
    obtain ⟨ba, oa, rfl, hat⟩ := Rd.cm hA (by omega)
    have hcw := hw _ (List.getElem_mem hil)
    have hat := hat i hil
    generalize l[i] = c at hat hcw
    have hI' := does_vl hI hcw
    have hel := does_len hI.inv hcw
    have hcap' := (does_cap B c).1.trans hcap0
    have hlen0 := hI.len
    have hcapb0 := hI.inv.hi
    have hlen := hI'.len
    have hcapb := hI'.inv.hi
    refine .mid (X := BS) (fun _ => [(1, .slice (some ⟨ba, oa, none⟩) len cap), (5, .pointer (some ⟨b, 0, none⟩)), (7, .int .i64 i)]) (fun x => x.H b) (fun x => x.i = i ∧ x.B = (B.does c).1 ∧ Side x.v1 x.B.bs x.k1 ∧ Side x.v2 x.B.ss x.k2) (.block (.seq ((.region (.v (.move rfl) ?_))))) ?_
    · obtain ⟨A1, c1, rfl⟩ := OwnS.sl h1
      obtain ⟨A2, c2, rfl⟩ := OwnS.sl h2
      refine .ef (.call0 rfl rfl fun w s => Book_ok w b B.cap B.meet B.high B.seq A1 A2 c1 c2 B.bs B.ss (Rd.chunk s (T := 67) (l := Bc B (.slice A1 B.bs.length c1) (.slice A2 B.ss.length c2)) (by simp) (fun j v hv => by rw [Nat.zero_add]; exact hv)) (OwnS.rd h1 s (no := []) (fun p hp => by simp [hp]) (by simp)) (OwnS.rd h2 s (no := []) (fun p hp => by simp [hp]) (by simp)) (by omega) (by omega)) ?_
      rintro _ _ ⟨_, ⟨E1, E2, d1, d2, q1, q2, rfl, rfl, oe1, oe2⟩, rfl⟩
      refine .nw .alloc fun b8 => (.st (.sw rfl rfl) (.nil ?_))
      refine .heap (hs' := (b8, .cells [.int .i64 B.cap, .int .i64 B.meet, .slice E1 B.bs.length d1, .slice E2 B.ss.length d2, .int .u64 B.high, .int .u64 B.seq] 30) :: ((q2 ++ q1) ++ (Tb b (Bc B (.slice A1 B.bs.length c1) (.slice A2 B.ss.length c2)) :: (k1 ++ k2)))) (fun _ s => s) ?_
      refine .seq ((.region (.v (.move rfl) (.v (.move rfl) (.v (.move rfl) (.v (.indexAddr rfl rfl (by omega) (by omega)) (.v (.loadA (vs := c.cells) rfl (hat _ _ (by simp [bl])) rfl) ?_)))))))
      refine .ef (.callT (Tb b (Bc B (.slice A1 B.bs.length c1) (.slice A2 B.ss.length c2)) :: (k1 ++ k2)) rfl rfl (fun w s => Does.call_Do w b B hI.inv.ok c hcw.2.1 hcw.2.2 _ _ k1 k2 h1 h2)) ?_
      have hno := does_no (B := B) (c := c)
      have hhd := does_head hI hcw
      have hkd := does_kind hI hcw
      generalize B.does c = D at hI' hel hcap' hlen hcapb hno hhd hkd ⊢
      obtain ⟨B', evs⟩ := D
      rintro _ _ ⟨_, ⟨A', c', v1', v2', k1', k2', ke, rfl, rfl, h1', h2', hE⟩, rfl⟩
      dsimp only at hI' hel hcap' hlen hcapb hno hhd hkd h1' h2' hE ⊢
      refine .v (.assign rfl) (.nil ?_)
      have hne : 0 < evs.length := by
        by_cases h0 : B.why c = 0
        · obtain ⟨e, r, he, _⟩ := hhd h0; rw [he]; simp
        · have := congrArg Prod.snd (hno h0); dsimp only at this; rw [this]; simp
      obtain ⟨be, oe, le, rfl, -, rfl, -, -, -⟩ := hE.some_ hne
      have hld : ∀ (j k : Nat) (hj : j < evs.length) (v : Value) (own : List Nat) (hs : Hp), [(be, Ch.cells le 50)] ⊆ hs → k < 13 → (evs[j].cells)[k]? = some v → At w own hs ⟨be, oe + j * 13 + k, none⟩ [v] := fun j k hj v own hs hh hk hv => hE.ld hh hj hk hv
      obtain ⟨A1', c1', rfl⟩ := OwnS.sl h1'
      obtain ⟨A2', c2', rfl⟩ := OwnS.sl h2'
      refine .seq (.seq ((.region (.v (.move rfl) (.v (.len rfl) (.v (.eqi rfl rfl) (.nil ?_)))))))
      refine .cond_dec rfl (fun h3 => False.elim (by omega)) (fun h3 => .skip ?_)
      refine .seq (.seq ((.region (.v (.move rfl) (.v (.indexAddr rfl rfl (by omega) (by omega)) (.v (.fieldAddr rfl) (.v (.load (v := .int .i64 (evs[0]'hne).kind) rfl (hld 0 1 hne _ _ _ (fun p hp => by simp at hp ⊢; simp [hp]) (by omega) rfl)) (.v (.eqi rfl rfl) (.nil ?_)))))))))
      by_cases h0 : B.why c = 0
      · obtain ⟨e, r, he, hek⟩ := hhd h0
        refine .cond_dec rfl (fun h4 => False.elim ?_) (fun h4 => .skip ?_)
        · subst he; exact hek h4
        refine .seq (.seq ((.region (.v (.move rfl) (.v (.move rfl) (.v (.indexAddr rfl rfl (by omega) (by omega)) (.v (.fieldAddr rfl) (.v (.load (v := .int .i64 c.k) rfl (At.cell_ (hat _ _ (by simp [bl])) 0 rfl)) (.v (.nei rfl rfl) (.nil ?_))))))))))
        refine .cond_dec rfl (fun h6 => .exit ?_) (fun h6 => .skip ?_)
        · exact ⟨⟨i, B', _, _, k1', k2'⟩, ⟨rfl, rfl, h1', h2'⟩, .cons rfl (.cons rfl (.cons rfl (.nil _))), fun _ s => Sat.take (pre := Tb b (Bc B' (.slice A1' B'.bs.length c1') (.slice A2' B'.ss.length c2')) :: (k1' ++ k2')) s⟩
        have hk1 : c.k = 1 := Decidable.of_not_not h6
        have hkd := hkd h0 hk1
        obtain ⟨o, sd, hfv⟩ := fndV_form (fnd c.id B'.bs B'.ss)
        refine .seq ((.region (.v (.move rfl) (.v (.move rfl) (.v (.move rfl) (.v (.indexAddr rfl rfl (by omega) (by omega)) (.v (.fieldAddr rfl) (.v (.load (v := .int .u64 c.id) rfl (At.cell_ (hat _ _ (by simp [bl])) 1 rfl)) ?_))))))))
        refine .pc (v := .tuple ⟨[.agg ⟨o.cells⟩, .int .i64 sd, .bool (fnd c.id B'.bs B'.ss).isSome]⟩) rfl rfl (fun w s => by rw [← hfv]; exact Find_ok w b B'.cap B'.meet B'.high B'.seq c.id A1' A2' c1' c2' B'.bs B'.ss (Rd.chunk s (T := 67) (l := Bc B' (.slice A1' B'.bs.length c1') (.slice A2' B'.ss.length c2')) (by simp) (fun j v hv => by rw [Nat.zero_add]; exact hv)) (OwnS.rd h1' s (no := []) (fun p hp => by simp [hp]) (by simp)) (OwnS.rd h2' s (no := []) (fun p hp => by simp [hp]) (by simp)) (by omega) (by omega)) ?_
        obtain ⟨kg, kf, kp⟩ := hkd
        have hgoes : c.ty = 2 ∨ c.ty = 3 ∨ c.ty = 4 → (fnd c.id B'.bs B'.ss).isSome = false := fun h => by rw [kg h]; rfl
        generalize (fnd c.id B'.bs B'.ss).isSome = rr at *
        refine .v (.move rfl) (.v (.extract rfl rfl) (.v (.extract rfl rfl) (.v (.extract rfl rfl) (.nw .alloc fun b11 => (.st (.sw rfl rfl) (.v (.assign rfl) (.v (.assign rfl) (.nil ?_))))))))
        refine .heap (hs' := (Tb b (Bc B' (.slice A1' B'.bs.length c1') (.slice A2' B'.ss.length c2')) :: (k1' ++ k2')) ++ [(be, Ch.cells le 50)]) (fun _ s => Sat.take (pre := (Tb b (Bc B' (.slice A1' B'.bs.length c1') (.slice A2' B'.ss.length c2')) :: (k1' ++ k2')) ++ [(be, Ch.cells le 50)]) s) ?_
        refine .seq ((.region (.v (.assign rfl) (.nil ?_))))
        refine .seq (.seq ((.region (.v (.assign rfl) (.nil ?_)))))
        refine .block (.loop (X := Nat) (fun j => [(1, .slice (some ⟨ba, oa, none⟩) len cap), (5, .pointer (some ⟨b, 0, none⟩)), (7, .int .i64 i), (9, .slice (some ⟨be, oe, none⟩) evs.length c'), (13, .bool rr), (14, .int .u64 (tsum (evs.take j))), (15, .int .i64 j)]) (fun _ => (Tb b (Bc B' (.slice A1' B'.bs.length c1') (.slice A2' B'.ss.length c2')) :: (k1' ++ k2')) ++ [(be, Ch.cells le 50)])
          (fun j => j ≤ evs.length) (fun j => evs.length - j) 0 (Nat.zero_le _) (.cons rfl (.cons rfl (.cons rfl (.cons rfl (.cons rfl (.cons rfl (.cons rfl (.nil _)))))))) (fun _ s => s) ?_)
        intro j hj
        refine .seq (.seq ((.region (.v (.move rfl) (.v (.move rfl) (.v (.len rfl) (.v (.lss rfl rfl) (.nil ?_))))))))
        refine .cond_dec rfl (fun h7 => .skip ?_) (fun h7 => .exit ?_)
        · have hjl : j < evs.length := by omega
          have htk := tsum_take hjl
          have hld := fun k => hld j k hjl
          generalize evs[j] = e at htk hld
          refine .mid (X := Unit) (fun _ => [(1, .slice (some ⟨ba, oa, none⟩) len cap), (5, .pointer (some ⟨b, 0, none⟩)), (7, .int .i64 i), (9, .slice (some ⟨be, oe, none⟩) evs.length c'), (13, .bool rr), (14, .int .u64 (tsum (evs.take (j + 1)))), (15, .int .i64 j)]) (fun _ => (Tb b (Bc B' (.slice A1' B'.bs.length c1') (.slice A2' B'.ss.length c2')) :: (k1' ++ k2')) ++ [(be, Ch.cells le 50)])
            (fun _ => True) (.block (.seq ((.region (.v (.move rfl) (.v (.move rfl) (.v (.indexAddr rfl rfl (by omega) (by omega)) (.v (.fieldAddr rfl) (.v (.load (v := .int .i64 e.kind) rfl (hld 1 _ _ _ (fun p hp => by simp at hp ⊢; simp [hp]) (by omega) rfl)) (.v (.eqi rfl rfl) (.nil ?_))))))))))) ?_
          · refine .cond_dec rfl (fun h8 => ?_) (fun h8 => .skip ?_)
            · rw [if_pos h8] at htk
              refine .region (.v (.move rfl) (.v (.move rfl) (.v (.move rfl) (.v (.indexAddr rfl rfl (by omega) (by omega)) (.v (.fieldAddr rfl) (.v (.load (v := .int .u64 e.q) rfl (hld 9 _ _ _ (fun p hp => by simp at hp ⊢; simp [hp]) (by omega) rfl)) (.v (.add rfl rfl) (.v (.assign rfl) (.nil ?_)))))))))
              rw [← htk]
              exact ⟨(), trivial, .cons rfl (.cons rfl (.cons rfl (.cons rfl (.cons rfl (.cons rfl (.cons rfl (.nil _))))))), fun _ s => s⟩
            · rw [if_neg h8] at htk
              rw [htk]
              exact ⟨(), trivial, .cons rfl (.cons rfl (.cons rfl (.cons rfl (.cons rfl (.cons rfl (.cons rfl (.nil _))))))), fun _ s => s⟩
          · rintro ⟨⟩ -
            refine .region (.v (.move rfl) (.v (.addi rfl rfl (by omega)) (.v (.assign rfl) (.nil ?_))))
            exact ⟨j + 1, by omega, by omega, .cons rfl (.cons rfl (.cons rfl (.cons rfl (.cons rfl (.cons rfl (.cons rfl (.nil _))))))), fun _ s => s⟩
        · have htake : evs.take j = evs := List.take_of_length_le (by omega)
          rw [htake]
          refine .seq ((.region (.v (.move rfl) (.v (.move rfl) (.v (.indexAddr rfl rfl (by omega) (by omega)) (.v (.fieldAddr rfl) (.v (.load (v := .int .i64 c.ty) rfl (At.cell_ (hat _ _ (by simp [bl])) 5 rfl)) (.nil ?_))))))))
          refine .block (.seq (.seq ((.region (.v (.eqi rfl rfl) (.v (.assign rfl) (.nil ?_)))))))
          have hrest : ∀ hrr : c.ty = 2 ∨ c.ty = 3, rr = false := fun h => hgoes (by omega)
          refine .cond_dec rfl (fun h9 => .skip ?_) (fun h9 => ?_)
          · refine .cond_dec rfl (fun h10 => ?_) (fun h10 => absurd h9 h10)
            obtain rfl := hrest (.inl h9)
            refine .seq ((.region (.v (.move rfl) (.nil ?_))))
            refine .cond rfl (fun h => absurd h (by simp)) (fun _ => .skip ?_)
            exact ⟨⟨i, B', _, _, k1', k2'⟩, ⟨rfl, rfl, h1', h2'⟩, .cons rfl (.cons rfl (.cons rfl (.nil _))), fun _ s => Sat.take (pre := Tb b (Bc B' (.slice A1' B'.bs.length c1') (.slice A2' B'.ss.length c2')) :: (k1' ++ k2')) s⟩
          · refine .region (.v (.eqi rfl rfl) (.v (.assign rfl) (.nil ?_)))
            refine .cond_dec rfl (fun h16 => ?_) (fun h16 => ?_)
            · obtain rfl := hrest (.inr h16)
              refine .seq ((.region (.v (.move rfl) (.nil ?_))))
              refine .cond rfl (fun h => absurd h (by simp)) (fun _ => .skip ?_)
              exact ⟨⟨i, B', _, _, k1', k2'⟩, ⟨rfl, rfl, h1', h2'⟩, .cons rfl (.cons rfl (.cons rfl (.nil _))), fun _ s => Sat.take (pre := Tb b (Bc B' (.slice A1' B'.bs.length c1') (.slice A2' B'.ss.length c2')) :: (k1' ++ k2')) s⟩
            · refine .seq ((.region (.v (.eqi rfl rfl) (.v (.assign rfl) (.nil ?_)))))
              refine .cond_dec rfl (fun h18 => ?_) (fun h18 => ?_)
              · obtain rfl := hgoes (.inr (.inr h18))
                have hkf := kf h18
                refine .seq ((.region (.v (.move rfl) (.v (.move rfl) (.or 120 131 11 4 rfl rfl (fun g7 => .v (.move rfl) (.v (.nei rfl rfl) (.v (.move rfl) (.and 123 130 7 7 rfl rfl (fun g8 => .v (.move rfl) (.v (.move rfl) (.v (.move rfl) (.v (.indexAddr rfl rfl (by omega) (by omega)) (.v (.fieldAddr rfl) (.v (.load (v := .int .u64 c.q) rfl (At.cell_ (hat _ _ (by simp [bl])) 7 rfl)) (.v (.nei rfl rfl) (.nil ⟨rfl, rfl, rfl, rfl⟩)))))))) (.nil ⟨rfl, rfl, rfl, rfl⟩))))) (.nil ?_))))))
                refine .cond rfl (fun h => ?_) (fun _ => .skip ?_)
                · exfalso
                  simp at h
                  omega
                exact ⟨⟨i, B', _, _, k1', k2'⟩, ⟨rfl, rfl, h1', h2'⟩, .cons rfl (.cons rfl (.cons rfl (.nil _))), fun _ s => Sat.take (pre := Tb b (Bc B' (.slice A1' B'.bs.length c1') (.slice A2' B'.ss.length c2')) :: (k1' ++ k2')) s⟩
              · refine .seq ((.region (.v (.eqi rfl rfl) (.v (.assign rfl) (.nil ?_)))))
                refine .cond_dec rfl (fun h20 => ?_) (fun h20 => .skip ?_)
                · obtain ⟨rfl, hs0⟩ := kp h20
                  rw [hs0]
                  refine .seq ((.region (.v (.move rfl) (.v (.not rfl) (.v (.move rfl) (.or 137 139 2 2 rfl rfl (fun g9 => .v (.move rfl) (.v (.nei rfl rfl) (.nil ⟨rfl, rfl, rfl, rfl⟩))) (.nil ?_)))))))
                  refine .cond rfl (fun h => absurd h (by simp)) (fun _ => .skip ?_)
                  exact ⟨⟨i, B', _, _, k1', k2'⟩, ⟨rfl, rfl, h1', h2'⟩, .cons rfl (.cons rfl (.cons rfl (.nil _))), fun _ s => Sat.take (pre := Tb b (Bc B' (.slice A1' B'.bs.length c1') (.slice A2' B'.ss.length c2')) :: (k1' ++ k2')) s⟩
                · exact ⟨⟨i, B', _, _, k1', k2'⟩, ⟨rfl, rfl, h1', h2'⟩, .cons rfl (.cons rfl (.cons rfl (.nil _))), fun _ s => Sat.take (pre := Tb b (Bc B' (.slice A1' B'.bs.length c1') (.slice A2' B'.ss.length c2')) :: (k1' ++ k2')) s⟩
      · have hno := hno h0
        obtain ⟨rfl, rfl⟩ : B' = B.num (nx B.seq) ∧ evs = [(evReject (if c.k = 2 then 0 else c.id) (if c.k = 1 then 0 else c.tg) (B.why c)).num (nx B.seq)] := ⟨congrArg Prod.fst hno, congrArg Prod.snd hno⟩
        generalize hge : (evReject (if c.k = 2 then 0 else c.id) (if c.k = 1 then 0 else c.tg) (B.why c)).num (nx B.seq) = ev at *
        have hgk : ev.kind = 2 := by subst hge; rfl
        have hgc : ev.code = B.why c := by subst hge; rfl
        refine .cond_dec rfl (fun h4 => ?_) (fun h4 => absurd hgk h4)
        refine .seq ((.region (.v (.move rfl) ?_)))
        refine .ef (.call0 rfl rfl fun w s => Book_ok w b B.cap B.meet B.high (nx B.seq) A1' A2' c1' c2' B.bs B.ss (Rd.chunk s (T := 67) (l := Bc (B.num (nx B.seq)) (.slice A1' B.bs.length c1') (.slice A2' B.ss.length c2')) (by simp) (fun j v hv => by rw [Nat.zero_add]; exact hv)) (OwnS.rd h1' s (no := []) (fun p hp => by simp [hp]) (by simp)) (OwnS.rd h2' s (no := []) (fun p hp => by simp [hp]) (by simp)) (by omega) (by omega)) ?_
        rintro _ _ ⟨_, ⟨F1, F2, x1, x2, y1, y2, rfl, rfl, of1, of2⟩, rfl⟩
        refine .nw .alloc fun b10 => (.st (.sw rfl rfl) (.nil ?_))
        refine .seq ((.region (.v (.fieldAddr rfl) (.v (.load (v := .int .u64 B.seq) rfl (.one rfl)) (.v (.add rfl rfl) (.v (.fieldAddr rfl) (.st (.storeL rfl rfl rfl) (.nil ?_))))))))
        refine .seq (.seq ((.region (.v (.move rfl) (.v (.len rfl) (.v (.nei rfl rfl) (.v (.move rfl) (.or (b2 := decide (B.why c = 0)) 59 64 5 5 rfl rfl (fun g2 => .v (.move rfl) (.v (.indexAddr rfl rfl (by omega) (by omega)) (.v (.fieldAddr rfl) (.v (.load (v := .int .i64 (B.why c)) rfl (hld 0 12 hne _ _ _ (fun p hp => by simp at hp ⊢; simp [hp]) (by omega) (by rw [← hgc]; rfl))) (.v (.eqi rfl rfl) (.nil ⟨rfl, rfl, rfl, rfl⟩)))))) (.v (.move rfl) (.or 66 70 4 4 rfl rfl (fun g3 => .v (.loadA (vs := bcells B.cap B.meet (.slice E1 B.bs.length d1) (.slice E2 B.ss.length d2) B.high (nx B.seq)) rfl .whole rfl) (.v (.loadA (vs := bcells B.cap B.meet (.slice F1 B.bs.length x1) (.slice F2 B.ss.length x2) B.high (nx B.seq)) rfl .whole rfl) (.pc rfl rfl (fun w s => books_ok w B.cap B.meet B.high (nx B.seq) E1 E2 F1 F2 d1 d2 x1 x2 B.bs B.ss (OwnS.rd oe1 s (no := []) (fun p hp => by simp [hp]) (by simp)) (OwnS.rd oe2 s (no := []) (fun p hp => by simp [hp]) (by simp)) (OwnS.rd of1 s (no := []) (fun p hp => by simp [hp]) (by simp)) (OwnS.rd of2 s (no := []) (fun p hp => by simp [hp]) (by simp)) (by omega) (by omega)) (.v (.not rfl) (.nil ⟨rfl, rfl, rfl, rfl⟩))))) (.nil ?_)))))))))))
        refine .cond rfl (fun h => ?_) (fun _ => .skip ?_)
        · exfalso
          simp [h0] at h
        refine .exit ?_
        exact ⟨⟨i, B.num (nx B.seq), _, _, k1', k2'⟩, ⟨rfl, rfl, h1', h2'⟩, .cons rfl (.cons rfl (.cons rfl (.nil _))), fun _ s => Sat.take (pre := Tb b (Bc (B.num (nx B.seq)) (.slice A1' (B.num (nx B.seq)).bs.length c1') (.slice A2' (B.num (nx B.seq)).ss.length c2')) :: (k1' ++ k2')) s⟩
    · rintro ⟨i', B', v1', v2', k1', k2'⟩ ⟨hii, hB, h1', h2'⟩
      dsimp only at hii hB h1' h2'
      subst hii
      refine .region (.v (.move rfl) (.v (.addi rfl rfl (by omega)) (.v (.assign rfl) (.nil ?_))))
      subst hB
      exact ⟨⟨i' + 1, (B.does c).1, _, _, k1', k2'⟩, ⟨by dsimp only; omega, hI', hcap', h1', h2'⟩, by dsimp only; omega, .cons rfl (.cons rfl (.cons rfl (.nil _))), fun _ s => s⟩
  · refine .seq ((.region (.v (.assign rfl) (.nil ?_))))
    exact .ret ⟨[_], ⟨rfl, trivial⟩, rfl⟩
end Go.Proofs.Ytmfobfamdaajmaa
