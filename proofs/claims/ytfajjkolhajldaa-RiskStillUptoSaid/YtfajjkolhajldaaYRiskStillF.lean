/- Texts that the row RRiskStill stands on: QDoW, QBegun, QInv, QNumbers, QRead, QReadC, RKRd. -/
import Derived.Test.YtfajjkolhajldaaYRiskStillE
import Derived.Test.YtfajjkolhajldaaYRiskStillB
/- (*Book).Do: its walk. -/
namespace Go.Proofs.Ytfajjkolhajldaa
open Go.V
set_option linter.unusedVariables false
set_option linter.unusedSimpArgs false

structure MS where
  v1 : Value
  v2 : Value
  ve : Value
  k1 : Hp
  k2 : Hp
  ke : Hp
abbrev MS.H (m : MS) (t b : Nat) (B : Bk) : Hp := TBh t b B m.v1 m.v2 m.ve m.k1 m.k2 m.ke
def MS.I (m : MS) (B : Bk) (evs : List Ev) : Prop := Side m.v1 B.bs m.k1 ∧ Side m.v2 B.ss m.k2 ∧ Evs m.ve evs m.ke
theorem gone_len (B : Bk) (c : Cm) : (B.gone c).length ≤ 1 := by
  unfold Bk.gone
  split
  · cases B.tgt c <;> simp
  · simp
set_option maxRecDepth 20000 in
set_option maxHeartbeats 1000000 in
theorem do_ok (w : World) (b : Nat) (B : Bk) (hOk : B.Ok) (c : Cm) (hq : U c.q) (hpk : U c.pk) (v1 v2 : Value) (k1 k2 : Hp) (h1 : Side v1 B.bs k1) (h2 : Side v2 B.ss k2) :
    Does Try.prog 19 [.pointer (some ⟨b, 0, none⟩), .agg ⟨c.cells⟩] (Tb b (Bc B v1 v2) :: (k1 ++ k2)) w
      (fun v hs => ∃ h ke, hs = h ++ ke ∧ BkH b (B.does c).1 h ∧ Evs v (B.does c).2 ke) := by
  have hlen := hOk.len
  obtain ⟨A1, c1, rfl⟩ := OwnS.sl h1
  obtain ⟨A2, c2, rfl⟩ := OwnS.sl h2
  have hsp := at_spec B c
  have hside : B.tgt c ≠ none → (B.at_ c).1 = 1 ∨ (B.at_ c).1 = 2 := by
    intro hne
    rcases hsp with ⟨_, h, _⟩ | ⟨s, hs, i, hi, e, _, _⟩
    · exact absurd h hne
    · rw [e]; exact hs
  refine Does.less (Does.of (n := 139) Try.func19 rfl rfl rfl rfl ?_)
  refine .seq ((.region (.nw (.box (l := c.cells) rfl rfl) fun b3 => (.v (.assign rfl) (.nil ?_)))))
  refine .seq ((.region (.v (.move rfl) (.v (.build (out := [.pointer (some ⟨b, 0, none⟩), .slice none 0 0]) rfl rfl) (.nw (.box (l := [.pointer (some ⟨b, 0, none⟩), .slice none 0 0]) rfl rfl) fun t => (.v (.assign rfl) (.nil ?_)))))))
  refine .seq ((.region (.v (.assign rfl) (.nil ?_))))
  refine .keep ((b3, Ch.cells c.cells 37) :: TBh t b B (.slice A1 B.bs.length c1) (.slice A2 B.ss.length c2) (.slice none 0 0) k1 k2 []) ?_
  refine .seq ((.region (.v (.move rfl) (.v (.fieldAddr rfl) (.v (.load (v := .int .u64 c.tg) rfl (.one rfl)) (.pc (v := plcV (B.at_ c)) rfl rfl (fun w s => place_ok w b B.cap B.meet B.high B.seq c.tg A1 A2 c1 c2 B.bs B.ss (Rd.chunk s (T := 117) (l := Bc B (.slice A1 B.bs.length c1) (.slice A2 B.ss.length c2)) (by simp) (fun j v hv => by rw [Nat.zero_add]; exact hv)) (OwnS.rd h1 s (no := []) (fun p hp => by simp [hp]) (by simp)) (OwnS.rd h2 s (no := []) (fun p hp => by simp [hp]) (by simp)) (by omega) (by omega)) (.v (.move rfl) (.v (.extract rfl rfl) (.v (.extract rfl rfl) (.v (.extract rfl rfl) (.v (.assign rfl) (.v (.assign rfl) (.v (.assign rfl) (.nil ?_))))))))))))))
  -- the order that is spoken of
  refine .mid (X := Option Addr × Hp) (fun x => [(0, .pointer (some ⟨b, 0, none⟩)), (3, .pointer (some ⟨b3, 0, none⟩)), (5, .pointer (some ⟨t, 0, none⟩)), (6, .pointer x.1), (7, .int .i64 (B.at_ c).1), (8, .int .i64 (B.at_ c).2.1)])
    (fun x => x.2 ++ ((b3, Ch.cells c.cells 37) :: TBh t b B (.slice A1 B.bs.length c1) (.slice A2 B.ss.length c2) (.slice none 0 0) k1 k2 [])) (fun x => TgH x.1 x.2 (B.tgt c)) (.seq ((.region (.v (.move rfl) (.nil ?_))))) ?_
  · refine .cond rfl (fun g1 => ?_) (fun g1 => .skip ?_)
    · rcases hsp with ⟨e, _, _⟩ | ⟨s, hs, i, hi, e, htg, hid⟩
      · rw [e] at g1; cases g1
      rw [e]
      rcases hs with rfl | rfl
      · have hi' : i < B.bs.length := hi
        have htg' : B.tgt c = some B.bs[i] := htg
        obtain ⟨bk, ok, lk, rfl, -, rfl, -, -, -⟩ := h1.some_ (by omega)
        generalize ho : B.bs[i] = o at htg'
        have hat : ∀ own hs', [(bk, Ch.cells lk 125)] ⊆ hs' → At w own hs' ⟨bk, ok + i * 7, none⟩ o.cells := fun own hs' hh => h1.atN hh (fun j v hv => by
          have h7 := (List.getElem?_eq_some_iff.1 hv).1
          rw [rows_get B.bs i j hi' (by simpa [Ord.cells, rcells] using h7), ho]; exact hv)
        refine .seq ((.region (.v (.move rfl) (.v (.move rfl) (.pc (v := .pointer (some ⟨b, 2, none⟩)) rfl rfl (fun w' _ => side_ok w' b 1) (.v (.nilCheck rfl) (.v (.load (v := .slice (some ⟨bk, ok, none⟩) B.bs.length c1) rfl (.one rfl)) (.v (.move rfl) (.v (.indexAddr (i := (i : Int)) rfl rfl (by omega) (by omega)) (.v (.loadA (vs := o.cells) rfl (hat _ _ (fun p hp => by simp at hp ⊢; simp [hp])) rfl) (.nw .alloc fun b10 => (.st (.sw rfl rfl) (.nil ?_)))))))))))))
        refine .region (.v (.assign rfl) (.nil ?_))
        exact ⟨(some ⟨b10, 0, none⟩, [(b10, Ch.cells o.cells 125)]), by rw [htg']; exact ⟨b10, rfl, rfl⟩, .cons rfl (.cons rfl (.cons rfl (.cons rfl (.cons rfl (.cons rfl (.nil _)))))), fun _ s => s⟩
      · have hi' : i < B.ss.length := hi
        have htg' : B.tgt c = some B.ss[i] := htg
        obtain ⟨bk, ok, lk, rfl, -, rfl, -, -, -⟩ := h2.some_ (by omega)
        generalize ho : B.ss[i] = o at htg'
        have hat : ∀ own hs', [(bk, Ch.cells lk 125)] ⊆ hs' → At w own hs' ⟨bk, ok + i * 7, none⟩ o.cells := fun own hs' hh => h2.atN hh (fun j v hv => by
          have h7 := (List.getElem?_eq_some_iff.1 hv).1
          rw [rows_get B.ss i j hi' (by simpa [Ord.cells, rcells] using h7), ho]; exact hv)
        refine .seq ((.region (.v (.move rfl) (.v (.move rfl) (.pc (v := .pointer (some ⟨b, 3, none⟩)) rfl rfl (fun w' _ => side_ok w' b 2) (.v (.nilCheck rfl) (.v (.load (v := .slice (some ⟨bk, ok, none⟩) B.ss.length c2) rfl (.one rfl)) (.v (.move rfl) (.v (.indexAddr (i := (i : Int)) rfl rfl (by omega) (by omega)) (.v (.loadA (vs := o.cells) rfl (hat _ _ (fun p hp => by simp at hp ⊢; simp [hp])) rfl) (.nw .alloc fun b10 => (.st (.sw rfl rfl) (.nil ?_)))))))))))))
        refine .region (.v (.assign rfl) (.nil ?_))
        exact ⟨(some ⟨b10, 0, none⟩, [(b10, Ch.cells o.cells 125)]), by rw [htg']; exact ⟨b10, rfl, rfl⟩, .cons rfl (.cons rfl (.cons rfl (.cons rfl (.cons rfl (.cons rfl (.nil _)))))), fun _ s => s⟩
    · have htg : B.tgt c = none := by
        rcases hsp with ⟨_, h, _⟩ | ⟨s, hs, i, hi, e, _, _⟩
        · exact h
        · rw [e] at g1; cases g1
      exact ⟨(none, []), by rw [htg]; exact ⟨rfl, rfl⟩, .cons rfl (.cons rfl (.cons rfl (.cons rfl (.cons rfl (.cons rfl (.nil _)))))), fun _ s => s⟩
  rintro ⟨tp, ht⟩ hT
  dsimp only at hT ⊢
  refine .seq (.seq ((.region (.v (.move rfl) (.v (.loadA (vs := c.cells) rfl .whole rfl) (.v (.move rfl) (.v (.move rfl) (.pc (v := .int .i64 (rfs B.cap B.high B.bs B.ss c (B.tgt c) (B.at_ c).1)) rfl rfl (fun w' s => refused_ok w' b B.cap B.meet B.high B.seq A1 A2 c1 c2 B.bs B.ss (Rd.chunk s (T := 117) (l := Bc B (.slice A1 B.bs.length c1) (.slice A2 B.ss.length c2)) (by simp) (fun j v hv => by rw [Nat.zero_add]; exact hv)) (OwnS.rd h1 s (no := []) (fun p hp => by simp [hp]) (by simp)) (OwnS.rd h2 s (no := []) (fun p hp => by simp [hp]) (by simp)) (by omega) (by omega) c tp (B.tgt c) (B.at_ c).1 (hT.rd s (fun p hp => by simp [hp])) hside) (.v (.assign rfl) (.nil ?_))))))))))
  have ew : rfs B.cap B.high B.bs B.ss c (B.tgt c) (B.at_ c).1 = B.why c := rfl
  rw [ew]
  refine .seq ((.region (.v (.move rfl) (.v (.nei rfl rfl) (.nil ?_)))))
  refine .cond_dec rfl (fun g2 => ?_) (fun g2 => .skip ?_)
  · have eD : B.does c = (B.num (nx B.seq), [(evReject (if c.k = 2 then 0 else c.id) (if c.k = 1 then 0 else c.tg) (B.why c)).num (nx B.seq)]) := by unfold Bk.does; rw [if_pos g2]
    refine .seq ((.region (.v (.fieldAddr rfl) (.v (.load (v := .int .u64 c.id) rfl (.one rfl)) (.v (.fieldAddr rfl) (.v (.load (v := .int .u64 c.tg) rfl (.one rfl)) (.v (.move rfl) (.v (.build (out := [.int .u64 0, .int .i64 2, .int .u64 c.id, .int .u64 0, .int .u64 c.tg, .int .u32 0, .int .i64 0, .int .i64 0, .int .i64 0, .int .u64 0, .int .u64 0, .int .i64 0, .int .i64 (B.why c)]) rfl rfl) (.nw .alloc fun b12 => (.st (.sw rfl rfl) (.nil ?_)))))))))))
    refine .mid (X := Unit) (fun _ => [(5, .pointer (some ⟨t, 0, none⟩)), (12, .pointer (some ⟨b12, 0, none⟩))]) (fun _ => (b12, Ch.cells [.int .u64 0, .int .i64 2, .int .u64 (if c.k = 2 then 0 else c.id), .int .u64 0, .int .u64 (if c.k = 1 then 0 else c.tg), .int .u32 0, .int .i64 0, .int .i64 0, .int .i64 0, .int .u64 0, .int .u64 0, .int .i64 0, .int .i64 (B.why c)] 40) :: TBh t b B (.slice A1 B.bs.length c1) (.slice A2 B.ss.length c2) (.slice none 0 0) k1 k2 []) (fun _ => True)
      (.seq ((.region (.v (.fieldAddr rfl) (.v (.load (v := .int .i64 c.k) rfl (.one rfl)) (.nil ?_)))))) ?_
    · refine .block (.seq ((.region (.v (.eqi rfl rfl) (.v (.assign rfl) (.nil ?_))))))
      refine .cond_dec rfl (fun g3 => ?_) (fun g3 => ?_)
      · refine .region (.v (.fieldAddr rfl) (.st (.storeL rfl rfl rfl) (.nil ?_)))
        refine ⟨(), trivial, .cons rfl (.cons rfl (.nil _)), fun _ s => ?_⟩
        rw [if_pos g3, if_neg (by omega)]
        exact s.take
      · refine .seq ((.region (.v (.eqi rfl rfl) (.v (.assign rfl) (.nil ?_)))))
        refine .cond_dec rfl (fun g4 => ?_) (fun g4 => .skip ?_)
        · refine .region (.v (.fieldAddr rfl) (.st (.storeL rfl rfl rfl) (.nil ?_)))
          refine ⟨(), trivial, .cons rfl (.cons rfl (.nil _)), fun _ s => ?_⟩
          rw [if_neg g3, if_pos g4]
          exact s.take
        · refine ⟨(), trivial, .cons rfl (.cons rfl (.nil _)), fun _ s => ?_⟩
          rw [if_neg g3, if_neg g4]
          exact s.take
    · rintro _ _
      refine .seq ((.region (.v (.move rfl) (.v (.loadA (vs := (evReject (if c.k = 2 then 0 else c.id) (if c.k = 1 then 0 else c.tg) (B.why c)).cells) rfl .whole rfl) ?_))))
      refine .ef (.callT (TBh t b B (.slice A1 B.bs.length c1) (.slice A2 B.ss.length c2) (.slice none 0 0) k1 k2 []) rfl rfl (fun w' s' => tellB_ok w' t b B [] (evReject (if c.k = 2 then 0 else c.id) (if c.k = 1 then 0 else c.tg) (B.why c)) _ _ _ k1 k2 [] h1 h2 (OwnS.nil _ _) (by simp))) ?_
      rintro _ _ ⟨_, ⟨v1x, v2x, vex, k1x, k2x, kex, rfl, h1x, h2x, hEx⟩, rfl⟩
      refine .nil ?_
      refine .seq ((.region (.v (.move rfl) (.v (.nilCheck rfl) (.v (.fieldAddr rfl) (.v (.load (v := vex) rfl (.one rfl)) (.v (.assign rfl) (.nil ?_))))))))
      refine .ret ⟨[_], ⟨rfl, trivial⟩, _, fun _ s => Sat.take (pre := (Tb b (Bc (B.num (nx B.seq)) v1x v2x) :: (k1x ++ k2x)) ++ kex) s, ?_⟩
      rw [eD]
      exact ⟨_, kex, rfl, ⟨v1x, v2x, k1x, k2x, rfl, h1x, h2x⟩, hEx⟩
  · have g2' : B.why c = 0 := Decidable.of_not_not g2
    obtain ⟨z1, z2, z3, z4, z5⟩ := rfs_zero g2'
    obtain ⟨h3f, h3b⟩ : (c.k ≠ 1 → B.tgt c ≠ none) ∧ c.chk = 0 := ⟨z1, z2⟩
    refine .mid (X := MS) (fun _ => [(0, .pointer (some ⟨b, 0, none⟩)), (3, .pointer (some ⟨b3, 0, none⟩)), (5, .pointer (some ⟨t, 0, none⟩)), (6, .pointer tp), (7, .int .i64 (B.at_ c).1)]) (fun m => ht ++ ((b3, Ch.cells c.cells 37) :: m.H t b (B.goes c))) (fun m => m.I (B.goes c) (B.gone c))
      (.seq ((.region (.v (.fieldAddr rfl) (.v (.load (v := .int .i64 c.k) rfl (.one rfl)) (.v (.nei rfl rfl) (.nil ?_))))))) ?_
    · refine .cond_dec rfl (fun g5 => ?_) (fun g5 => .skip ?_)
      · refine .seq ((.region (.v (.assign rfl) (.nil ?_))))
        refine .mid (X := Unit) (fun _ => [(0, .pointer (some ⟨b, 0, none⟩)), (3, .pointer (some ⟨b3, 0, none⟩)), (5, .pointer (some ⟨t, 0, none⟩)), (6, .pointer tp), (7, .int .i64 (B.at_ c).1), (8, .int .i64 (B.at_ c).2.1), (13, .int .i64 (if c.k = 3 then 2 else 1))]) (fun _ => ht ++ ((b3, Ch.cells c.cells 37) :: TBh t b B (.slice A1 B.bs.length c1) (.slice A2 B.ss.length c2) (.slice none 0 0) k1 k2 [])) (fun _ => True)
          (.seq ((.region (.v (.fieldAddr rfl) (.v (.load (v := .int .i64 c.k) rfl (.one rfl)) (.v (.eqi rfl rfl) (.nil ?_))))))) ?_
        · refine .cond_dec rfl (fun g6 => ?_) (fun g6 => .skip ?_)
          · refine .region (.v (.assign rfl) (.nil ?_))
            exact ⟨(), trivial, .cons rfl (.cons rfl (.cons rfl (.cons rfl (.cons rfl (.cons rfl (.cons (by rw [if_pos g6]; rfl) (.nil _))))))), fun _ s => s⟩
          · exact ⟨(), trivial, .cons rfl (.cons rfl (.cons rfl (.cons rfl (.cons rfl (.cons rfl (.cons (by rw [if_neg g6]; rfl) (.nil _))))))), fun _ s => s⟩
        · rintro _ _
          obtain ⟨rs, hrs⟩ : ∃ rs : Int, (if c.k = 3 then 2 else 1) = rs := ⟨_, rfl⟩
          rw [hrs]
          rcases hsp with ⟨_, h, _⟩ | ⟨s, hs, i, hi, e, htg, hid⟩
          · exact absurd h (h3f g5)
          have hgood : (B.side s)[i].G := hOk.good _ (B.side_sub s _ (List.getElem_mem hi))
          generalize ho : (B.side s)[i] = o at htg hgood
          have egone : B.gone c = [(evCancel c.tg (o.v + o.hd) rs).num (nx B.seq)] := by unfold Bk.gone; rw [if_pos g5, htg, ← hrs]
          have egoes : B.goes c = (B.put s ((B.side s).eraseIdx i)).num (nx B.seq) := by unfold Bk.goes; rw [if_pos g5, e]; simp
          rw [egone, egoes]
          rw [htg] at hT
          obtain ⟨bt, rfl, rfl⟩ := hT
          obtain ⟨q1, q2, q3, q4, q5, q6⟩ := hgood
          rw [e]
          rcases hs with rfl | rfl
          · have hi' : i < B.bs.length := hi
            refine .seq ((.region (.v (.move rfl) (.v (.move rfl) (.pc (v := .pointer (some ⟨b, 2, none⟩)) rfl rfl (fun w' _ => side_ok w' b 1) (.v (.assign rfl) (.nil ?_)))))))
            refine .seq ((.region (.v (.move rfl) (.v (.move rfl) (.v (.nilCheck rfl) (.v (.load (v := .slice A1 B.bs.length c1) rfl (.one rfl)) (.v (.move rfl) (.v (.move rfl) (.v (.addi (i := (i : Int)) rfl rfl (by omega)) ?_)))))))))
            refine .ef (.callT k1 rfl rfl (fun w' s' => delete_ok w' A1 B.bs.length c1 i (rows B.bs) k1 h1 hi' (by omega) (rows_ones _))) ?_
            rintro v' _ ⟨ks', hS0, rfl⟩
            have hS' : Side v' (B.bs.eraseIdx i) ks' := by
              unfold Side
              rw [List.length_eraseIdx_of_lt hi', ← rows_erase]; exact hS0
            obtain ⟨A', c', rfl⟩ := OwnS.sl hS'
            refine .v (.nilCheck rfl) (.st (.storeL rfl rfl rfl) (.nil ?_))
            refine .keep ([(bt, Ch.cells o.cells 125)] ++ ((b3, Ch.cells c.cells 37) :: TBh t b ⟨B.cap, B.meet, B.bs.eraseIdx i, B.ss, B.high, B.seq⟩ (.slice A' (B.bs.eraseIdx i).length c') (.slice A2 B.ss.length c2) (.slice none 0 0) ks' k2 [])) ?_
            refine (.drawK [(bt, Ch.cells o.cells 125), (b3, Ch.cells c.cells 37)] (by intro p hp; simp at hp ⊢; rcases hp with rfl | rfl <;> simp) (by kernel_rfl) (by kernel_rfl) ?_)
            refine .v (fun _ f => .move rfl) (.v (fun _ f => .fieldAddr rfl) (.v (fun _ f => .load (v := .int .u64 c.tg) rfl (.one (hb := .sub f) rfl)) (.v (fun _ f => .move rfl) (.v (fun _ f => .nilCheck rfl) (.v (fun _ f => .fieldAddr rfl) (.v (fun _ f => .load (v := .int .u64 o.v) rfl (.one (hb := .sub f) rfl)) (.v (fun _ f => .move rfl) (.v (fun _ f => .nilCheck rfl) (.v (fun _ f => .fieldAddr rfl) (.v (fun _ f => .load (v := .int .u64 o.hd) rfl (.one (hb := .sub f) rfl)) (.v (fun _ f => .addU (o.v + o.hd) rfl rfl rfl (by omega)) (.v (fun _ f => .move rfl) (.v (fun _ _ => .build (out := (evCancel c.tg (o.v + o.hd) rs).cells) rfl rfl) ?_)))))))))))))
            refine .ef (.callT (TBh t b ⟨B.cap, B.meet, B.bs.eraseIdx i, B.ss, B.high, B.seq⟩ (.slice A' (B.bs.eraseIdx i).length c') (.slice A2 B.ss.length c2) (.slice none 0 0) ks' k2 []) rfl rfl (fun w' s' => tellB_ok w' t b ⟨B.cap, B.meet, B.bs.eraseIdx i, B.ss, B.high, B.seq⟩ [] (evCancel c.tg (o.v + o.hd) rs) _ _ _ ks' k2 [] hS' h2 (OwnS.nil _ _) (by simp))) (fun _ _ ⟨_, _, e⟩ _ => by subst e; intro p hp; simp at hp ⊢; rcases hp with rfl | rfl <;> simp) ?_
            rintro _ _ ⟨_, ⟨v1x, v2x, vex, k1x, k2x, kex, rfl, h1x, h2x, hEx⟩, rfl⟩
            exact .nil ⟨⟨v1x, v2x, vex, k1x, k2x, kex⟩, ⟨h1x, h2x, hEx⟩, .cons rfl (.cons rfl (.cons rfl (.cons rfl (.cons rfl (.nil _))))), fun _ s => Sat.take (pre := [(bt, Ch.cells o.cells 125)] ++ ((b3, Ch.cells c.cells 37) :: TBh t b (((⟨B.cap, B.meet, B.bs.eraseIdx i, B.ss, B.high, B.seq⟩ : Bk)).num (nx B.seq)) v1x v2x vex k1x k2x kex)) s⟩
          · have hi' : i < B.ss.length := hi
            refine .seq ((.region (.v (.move rfl) (.v (.move rfl) (.pc (v := .pointer (some ⟨b, 3, none⟩)) rfl rfl (fun w' _ => side_ok w' b 2) (.v (.assign rfl) (.nil ?_)))))))
            refine .seq ((.region (.v (.move rfl) (.v (.move rfl) (.v (.nilCheck rfl) (.v (.load (v := .slice A2 B.ss.length c2) rfl (.one rfl)) (.v (.move rfl) (.v (.move rfl) (.v (.addi (i := (i : Int)) rfl rfl (by omega)) ?_)))))))))
            refine .ef (.callT k2 rfl rfl (fun w' s' => delete_ok w' A2 B.ss.length c2 i (rows B.ss) k2 h2 hi' (by omega) (rows_ones _))) ?_
            rintro v' _ ⟨ks', hS0, rfl⟩
            have hS' : Side v' (B.ss.eraseIdx i) ks' := by
              unfold Side
              rw [List.length_eraseIdx_of_lt hi', ← rows_erase]; exact hS0
            obtain ⟨A', c', rfl⟩ := OwnS.sl hS'
            refine .v (.nilCheck rfl) (.st (.storeL rfl rfl rfl) (.nil ?_))
            refine .keep ([(bt, Ch.cells o.cells 125)] ++ ((b3, Ch.cells c.cells 37) :: TBh t b ⟨B.cap, B.meet, B.bs, B.ss.eraseIdx i, B.high, B.seq⟩ (.slice A1 B.bs.length c1) (.slice A' (B.ss.eraseIdx i).length c') (.slice none 0 0) k1 ks' [])) ?_
            refine (.drawK [(bt, Ch.cells o.cells 125), (b3, Ch.cells c.cells 37)] (by intro p hp; simp at hp ⊢; rcases hp with rfl | rfl <;> simp) (by kernel_rfl) (by kernel_rfl) ?_)
            refine .v (fun _ f => .move rfl) (.v (fun _ f => .fieldAddr rfl) (.v (fun _ f => .load (v := .int .u64 c.tg) rfl (.one (hb := .sub f) rfl)) (.v (fun _ f => .move rfl) (.v (fun _ f => .nilCheck rfl) (.v (fun _ f => .fieldAddr rfl) (.v (fun _ f => .load (v := .int .u64 o.v) rfl (.one (hb := .sub f) rfl)) (.v (fun _ f => .move rfl) (.v (fun _ f => .nilCheck rfl) (.v (fun _ f => .fieldAddr rfl) (.v (fun _ f => .load (v := .int .u64 o.hd) rfl (.one (hb := .sub f) rfl)) (.v (fun _ f => .addU (o.v + o.hd) rfl rfl rfl (by omega)) (.v (fun _ f => .move rfl) (.v (fun _ _ => .build (out := (evCancel c.tg (o.v + o.hd) rs).cells) rfl rfl) ?_)))))))))))))
            refine .ef (.callT (TBh t b ⟨B.cap, B.meet, B.bs, B.ss.eraseIdx i, B.high, B.seq⟩ (.slice A1 B.bs.length c1) (.slice A' (B.ss.eraseIdx i).length c') (.slice none 0 0) k1 ks' []) rfl rfl (fun w' s' => tellB_ok w' t b ⟨B.cap, B.meet, B.bs, B.ss.eraseIdx i, B.high, B.seq⟩ [] (evCancel c.tg (o.v + o.hd) rs) _ _ _ k1 ks' [] h1 hS' (OwnS.nil _ _) (by simp))) (fun _ _ ⟨_, _, e⟩ _ => by subst e; intro p hp; simp at hp ⊢; rcases hp with rfl | rfl <;> simp) ?_
            rintro _ _ ⟨_, ⟨v1x, v2x, vex, k1x, k2x, kex, rfl, h1x, h2x, hEx⟩, rfl⟩
            exact .nil ⟨⟨v1x, v2x, vex, k1x, k2x, kex⟩, ⟨h1x, h2x, hEx⟩, .cons rfl (.cons rfl (.cons rfl (.cons rfl (.cons rfl (.nil _))))), fun _ s => Sat.take (pre := [(bt, Ch.cells o.cells 125)] ++ ((b3, Ch.cells c.cells 37) :: TBh t b (((⟨B.cap, B.meet, B.bs, B.ss.eraseIdx i, B.high, B.seq⟩ : Bk)).num (nx B.seq)) v1x v2x vex k1x k2x kex)) s⟩
      · have g5' : c.k = 1 := Decidable.of_not_not g5
        have egoes : B.goes c = B := by unfold Bk.goes; rw [if_neg g5]
        have egone : B.gone c = [] := by unfold Bk.gone; rw [if_neg g5]
        rw [egoes, egone]
        exact ⟨⟨_, _, _, _, _, _⟩, ⟨h1, h2, OwnS.nil _ _⟩, .cons rfl (.cons rfl (.cons rfl (.cons rfl (.cons rfl (.nil _))))), fun _ s => s⟩
    rintro ⟨v1', v2', ve', k1', k2', ke'⟩ ⟨m1, m2, mE⟩
    dsimp only at m1 m2 mE ⊢
    refine .mid (X := MS) (fun _ => [(5, .pointer (some ⟨t, 0, none⟩))]) (fun m => m.H t b (B.does c).1) (fun m => m.I (B.does c).1 (B.does c).2)
      (.seq ((.region (.v (.fieldAddr rfl) (.v (.load (v := .int .i64 c.k) rfl (.one rfl)) (.v (.nei rfl rfl) (.nil ?_))))))) ?_
    · refine .cond_dec rfl (fun g7 => ?_) (fun g7 => .skip ?_)
      · have eD : B.does c = Bk.comes (((B.goes c).num (nx (B.goes c).seq)).top (cmg c (B.tgt c) (B.at_ c).1).o.id) (B.gone c ++ [(evAck (cmg c (B.tgt c) (B.at_ c).1)).num (nx (B.goes c).seq)]) (cmg c (B.tgt c) (B.at_ c).1) := by
          unfold Bk.does; rw [if_neg g2, if_pos g7]
        have hcs := cmg_side (c := c) (tg := B.tgt c) (side := (B.at_ c).1) h3b g7 (fun e => h3f (by omega)) hside
        obtain ⟨f1, f2, f3, f4⟩ := cmg_facts (c := c) (tg := B.tgt c) (side := (B.at_ c).1)
        have hgm := fun o => Bk.goes_mem (B := B) (c := c) (o := o)
        have hgl := B.goes_len c
        have hgn := gone_len B c
        rw [eD]
        refine .seq ((.region (.v (.loadA (vs := c.cells) rfl .whole rfl) (.v (.move rfl) (.v (.move rfl) (.pc rfl rfl (fun w' s => coming_ok w' c tp (B.tgt c) (B.at_ c).1 (hT.rd s (fun p hp => by simp [hp])) (fun e => h3f (by omega))) ?_))))))
        generalize cmg c (B.tgt c) (B.at_ c).1 = tk at hcs f1 f2 f3 f4 ⊢
        generalize B.goes c = B1 at m1 m2 hgm hgl ⊢
        generalize B.gone c = ev1 at mE hgn ⊢
        refine .nw .alloc fun b15 => (.st (.sw rfl rfl) (.nil ?_))
        refine .seq ((.region (.v (.move rfl) (.v (.fieldAddr rfl) (.v (.fieldAddr rfl) (.v (.load (v := .int .u64 tk.o.id) rfl (.one rfl)) (.v (.fieldAddr rfl) (.v (.fieldAddr rfl) (.v (.load (v := .int .u32 tk.o.mb) rfl (.one rfl)) (.v (.fieldAddr rfl) (.v (.load (v := .int .i64 tk.side) rfl (.one rfl)) (.v (.fieldAddr rfl) (.v (.load (v := .int .i64 tk.kind) rfl (.one rfl)) (.v (.fieldAddr rfl) (.v (.fieldAddr rfl) (.v (.load (v := .int .i64 tk.o.pr) rfl (.one rfl)) (.v (.fieldAddr rfl) (.v (.load (v := .int .u64 tk.left) rfl (.one rfl)) (.v (.fieldAddr rfl) (.v (.fieldAddr rfl) (.v (.load (v := .int .u64 tk.o.pk) rfl (.one rfl)) (.v (.build (out := (evAck tk).cells) rfl rfl) ?_))))))))))))))))))))))
        refine .ef (.callT (TBh t b B1 v1' v2' ve' k1' k2' ke') rfl rfl (fun w' s' => tellB_ok w' t b B1 ev1 (evAck tk) _ _ _ k1' k2' ke' m1 m2 mE (by omega))) ?_
        rintro _ _ ⟨_, ⟨v1x, v2x, vex, k1x, k2x, kex, rfl, h1x, h2x, hEx⟩, rfl⟩
        refine .nil ?_
        refine .keep ((b15, Ch.cells tk.cells 132) :: TBh t b (B1.num (nx B1.seq)) v1x v2x vex k1x k2x kex) ?_
        refine .seq ((.region (.v (.move rfl) (.v (.fieldAddr rfl) (.v (.fieldAddr rfl) (.v (.load (v := .int .u64 tk.o.id) rfl (.one rfl)) (.v (.nilCheck rfl) (.v (.fieldAddr rfl) (.v (.fieldAddr rfl) (.st (.storeL rfl rfl rfl) (.nil ?_)))))))))))
        refine .heap (hs' := (b15, Ch.cells tk.cells 132) :: TBh t b ((B1.num (nx B1.seq)).top tk.o.id) v1x v2x vex k1x k2x kex) (fun _ s => s) ?_
        refine .region (.v (.move rfl) (.v (.loadA (vs := tk.cells) rfl .whole rfl) ?_))
        have hU := hq
        unfold U at hU
        refine .ef (.callT (TBh t b ((B1.num (nx B1.seq)).top tk.o.id) v1x v2x vex k1x k2x kex) rfl rfl (fun w' s' => comes_ok w' t b ((B1.num (nx B1.seq)).top tk.o.id) (ev1 ++ [(evAck tk).num (nx B1.seq)]) tk hcs _ _ _ k1x k2x kex h1x h2x hEx ⟨fun o ho => hOk.good o (hgm o (Bk.side_sub B1 _ o ho)), by show 0 ≤ tk.left; omega, by show tk.left ≤ _; omega⟩ (by rw [f2]; exact hpk)
          (by show B1.bs.length ≤ _; omega) (by show B1.ss.length ≤ _; omega) (by simp; omega))) ?_
        rintro _ _ ⟨_, ⟨v1y, v2y, vey, k1y, k2y, key, rfl, h1y, h2y, hEy⟩, rfl⟩
        exact .nil ⟨⟨v1y, v2y, vey, k1y, k2y, key⟩, ⟨h1y, h2y, hEy⟩, .cons rfl (.nil _), fun _ s => s.take⟩
      · have eD : B.does c = (B.goes c, B.gone c) := by unfold Bk.does; rw [if_neg g2, if_neg g7]
        rw [eD]
        exact ⟨⟨v1', v2', ve', k1', k2', ke'⟩, ⟨m1, m2, mE⟩, .cons rfl (.nil _), fun _ s => Sat.take (pre := TBh t b (B.goes c) v1' v2' ve' k1' k2' ke') s⟩
    · rintro ⟨v1y, v2y, vey, k1y, k2y, key⟩ ⟨n1, n2, nE⟩
      dsimp only at n1 n2 nE ⊢
      refine .seq ((.region (.v (.move rfl) (.v (.nilCheck rfl) (.v (.fieldAddr rfl) (.v (.load (v := vey) rfl (.one rfl)) (.v (.assign rfl) (.nil ?_))))))))
      exact .ret ⟨[_], ⟨rfl, trivial⟩, _, fun _ s => Sat.take (pre := (Tb b (Bc (B.does c).1 v1y v2y) :: (k1y ++ k2y)) ++ key) s, _, key, rfl, ⟨v1y, v2y, k1y, k2y, rfl, n1, n2⟩, nE⟩
end Go.Proofs.Ytfajjkolhajldaa

/- The law's own parts: fit, lives, begun. -/
namespace Go.Proofs.Ytfajjkolhajldaa
open Go.V
set_option linter.unusedVariables false
set_option linter.unusedSimpArgs false

theorem Does.call_Do (w : World) (b : Nat) (B : Bk) (hOk : B.Ok) (c : Cm) (hq : U c.q) (hpk : U c.pk) (v1 v2 : Value) (k1 k2 : Hp) (h1 : Side v1 B.bs k1) (h2 : Side v2 B.ss k2) :
    Does Try.prog 19 [.pointer (some ⟨b, 0, none⟩), .agg ⟨c.cells⟩] (Tb b (Bc B v1 v2) :: (k1 ++ k2)) w
      (fun v hs => ∃ A c' v1' v2' k1' k2' ke, v = .slice A (B.does c).2.length c' ∧ hs = (Tb b (Bc (B.does c).1 v1' v2') :: (k1' ++ k2')) ++ ke ∧ Side v1' (B.does c).1.bs k1' ∧ Side v2' (B.does c).1.ss k2' ∧ Evs (.slice A (B.does c).2.length c') (B.does c).2 ke) := by
  refine (do_ok w b B hOk c hq hpk v1 v2 k1 k2 h1 h2).mono ?_
  rintro v _ ⟨_, ke, rfl, ⟨v1', v2', k1', k2', rfl, h1', h2'⟩, hE⟩
  obtain ⟨A, c', rfl⟩ := OwnS.sl hE
  exact ⟨A, c', v1', v2', k1', k2', ke, rfl, rfl, h1', h2', hE⟩
/-- a field of an event, loaded -/
theorem Evs.ld {w0 : World} {own : List Nat} {b o n c i j : Nat} {l : List Ev} {h hs : Hp} {v : Value} (k : Evs (.slice (some ⟨b, o, none⟩) n c) l h) (hh : h ⊆ hs) (hi : i < l.length) (hj : j < 13) (hv : (l[i].cells)[j]? = some v) : At w0 own hs ⟨b, o + i * 13 + j, none⟩ [v] := by
  rw [Nat.add_assoc]
  exact OwnS.at1 k hh (by rw [erows_get l i j hi hj]; exact hv)
def lb0 : Bk := ⟨4, 0, [], [], 0, 0⟩
def lb1 : Bk := ⟨4, 0, [], [⟨1, 0, 1, 10, 5, 0, 0⟩], 1, 1⟩
def lb2 : Bk := ⟨4, 0, [], [], 2, 4⟩
def lc1 : Cm := ⟨1, 1, 0, 0, 2, 1, 10, 5, 0⟩
def lc2 : Cm := ⟨1, 2, 0, 0, 1, 3, 11, 7, 0⟩
def le1 : List Ev := [⟨1, 1, 1, 0, 0, 0, 2, 1, 10, 5, 0, 0, 0⟩]
def le2 : List Ev := [⟨2, 1, 2, 0, 0, 0, 1, 3, 11, 7, 0, 0, 0⟩, ⟨3, 3, 2, 1, 0, 0, 1, 0, 10, 5, 0, 0, 0⟩, ⟨4, 4, 2, 0, 0, 0, 0, 0, 0, 2, 0, 3, 0⟩]
theorem lives1 : lb0.does lc1 = (lb1, le1) := by kernel_rfl
theorem lives2 : lb1.does lc2 = (lb2, le2) := by kernel_rfl
/-- a new book -/
def newB (c m : Int) : Bk := ⟨c, m, [], [], 0, 0⟩
end Go.Proofs.Ytfajjkolhajldaa

/- Plain: what a book keeps, whatever it is told; the numbers of its events. -/
namespace Go.Proofs.Ytfajjkolhajldaa
open Go.V
set_option linter.unusedVariables false
set_option linter.unusedSimpArgs false

structure Bk.Inv (B : Bk) : Prop where
  lo : 1 ≤ B.cap
  hi : B.cap ≤ 4096
  len : (B.bs.length : Int) + B.ss.length ≤ B.cap
  good : ∀ o ∈ B.bs ++ B.ss, o.G
theorem Bk.Inv.ok {B : Bk} (h : B.Inv) : B.Ok := ⟨h.good, by have := h.len; have := h.hi; omega⟩
theorem newB_inv {c m : Int} (h : Cfg c m) : (newB c m).Inv := ⟨h.1, h.2.1, by simp [newB]; unfold Cfg at h; omega, by simp [newB]⟩
/-- a command's numbers are in their kinds -/
def Cm.wf (c : Cm) : Prop := U c.id ∧ U c.q ∧ U c.pk
theorem chk_sized {c : Cm} (h : c.chk = 0) (hk : c.k ≠ 2) (hw : c.wf) : 1 ≤ c.q ∧ c.q ≤ 4294967295 ∧ c.pk ≤ c.q ∧ (c.pk = 0 ∨ c.q ≤ 256 * c.pk) ∧ 0 ≤ c.pr ∧ c.pr < 262144 ∧ c.id ≠ 0 ∧ (c.k = 1 → 1 ≤ c.ty ∧ c.ty ≤ 5 ∧ (c.pk ≠ 0 → c.ty = 1 ∨ c.ty = 5) ∧ (c.ty = 2 → c.pr = 0)) := by
  obtain ⟨w1, w2, w3⟩ := hw
  unfold U at w1 w2 w3
  have key : ∀ ty : Int, szd c.id c.pr c.q c.pk ty = 0 → 1 ≤ c.q ∧ c.q ≤ 4294967295 ∧ c.pk ≤ c.q ∧ (c.pk = 0 ∨ c.q ≤ 256 * c.pk) ∧ 0 ≤ c.pr ∧ c.pr < 262144 ∧ c.id ≠ 0 ∧ (c.pk ≠ 0 → ty = 1 ∨ ty = 5) ∧ (ty = 2 → c.pr = 0) := by
    intro ty hs
    unfold szd at hs
    by_cases a1 : c.pr < 0 ∨ 262144 ≤ c.pr ∨ ty = 2 ∧ c.pr ≠ 0
    · rw [if_pos a1] at hs; omega
    rw [if_neg a1] at hs
    by_cases a2 : c.q < 1 ∨ 4294967295 < c.q
    · rw [if_pos a2] at hs; omega
    rw [if_neg a2] at hs
    by_cases a3 : c.q < c.pk ∨ c.pk ≠ 0 ∧ (¬ (ty = 1 ∨ ty = 5) ∨ IntKind.u64.wrap (256 * c.pk) < c.q)
    · rw [if_pos a3] at hs; omega
    rw [if_neg a3] at hs
    by_cases a4 : c.id = 0
    · rw [if_pos a4] at hs; omega
    have hw : IntKind.u64.wrap (256 * c.pk) = 256 * c.pk := wrap_u64_in (by omega)
    rw [hw] at a3
    refine ⟨by omega, by omega, by omega, by omega, by omega, by omega, a4, by omega, by omega⟩
  unfold Cm.chk chk at h
  by_cases h1 : c.k = 1
  · rw [if_pos h1] at h
    by_cases h2 : c.sd ≠ 1 ∧ c.sd ≠ 2
    · rw [if_pos h2] at h; omega
    rw [if_neg h2] at h
    by_cases h3 : c.ty < 1 ∨ 5 < c.ty
    · rw [if_pos h3] at h; omega
    rw [if_neg h3] at h
    obtain ⟨k1, k2, k3, k4, k5, k6, k7, k8, k9⟩ := key _ h
    exact ⟨k1, k2, k3, k4, k5, k6, k7, fun _ => ⟨by omega, by omega, k8, k9⟩⟩
  · rw [if_neg h1] at h
    by_cases h3 : c.k = 3
    · rw [if_pos h3] at h
      obtain ⟨k1, k2, k3, k4, k5, k6, k7, k8, k9⟩ := key _ h
      exact ⟨k1, k2, k3, k4, k5, k6, k7, fun e => absurd e h1⟩
    · rw [if_neg h3, if_neg hk] at h; omega
theorem restOf_G {o : Ord} {left q : Int} (h0 : left ≠ 0) (h1 : 0 ≤ left) (h2 : left ≤ q) (h3 : q ≤ 4294967295) (h4 : o.pk ≤ q) (h5 : 0 ≤ o.pk) (h6 : o.pk = 0 ∨ q ≤ 256 * o.pk) : (restOf o left).G := by
  unfold restOf Ord.G
  simp only
  split <;> omega
theorem Bk.put_len {B : Bk} {s : Int} {l : List Ord} (h : l.length ≤ (B.side s).length) : (B.put s l).bs.length ≤ B.bs.length ∧ (B.put s l).ss.length ≤ B.ss.length := by
  unfold Bk.put Bk.side at *
  split at h <;> rename_i e
  · rw [if_pos e]; exact ⟨h, Nat.le_refl _⟩
  · rw [if_neg e]; exact ⟨Nat.le_refl _, h⟩
theorem Bk.put_len1 {B : Bk} {s : Int} {l : List Ord} (h : l.length = (B.side s).length + 1) : (B.put s l).bs.length + (B.put s l).ss.length = B.bs.length + B.ss.length + 1 := by
  unfold Bk.put Bk.side at *
  split at h <;> rename_i e
  · rw [if_pos e]; simp only; omega
  · rw [if_neg e]; simp only; omega
theorem Bk.put_cap (B : Bk) (s : Int) (l : List Ord) : (B.put s l).cap = B.cap ∧ (B.put s l).meet = B.meet ∧ (B.put s l).high = B.high ∧ (B.put s l).seq = B.seq := by
  unfold Bk.put; split <;> exact ⟨rfl, rfl, rfl, rfl⟩
theorem traded_inv {B : Bk} {t : Tk} {z : TS} (h : B.Inv) (hz : z.Ok) (hl : z.L.length ≤ (B.side (3 - t.side)).length) : (B.traded t z).Inv ∧ (B.traded t z).bs.length + (B.traded t z).ss.length ≤ B.bs.length + B.ss.length := by
  have hp := Bk.put_len hl
  have hc := B.put_cap (3 - t.side) z.L
  have e1 : (B.traded t z).bs = (B.put (3 - t.side) z.L).bs := rfl
  have e2 : (B.traded t z).ss = (B.put (3 - t.side) z.L).ss := rfl
  have e3 : (B.traded t z).cap = (B.put (3 - t.side) z.L).cap := rfl
  refine ⟨⟨by rw [e3, hc.1]; exact h.lo, by rw [e3, hc.1]; exact h.hi, ?_, fun o ho => ?_⟩, by rw [e1, e2]; omega⟩
  · have := h.len
    rw [e1, e2, e3, hc.1]; omega
  · rcases Bk.put_mem (B := B) (s := 3 - t.side) (l := z.L) ho with h1 | h1
    · exact hz.good o h1
    · exact h.good o h1
theorem num_inv {B : Bk} (q : Int) (h : B.Inv) : (B.num q).Inv := ⟨h.lo, h.hi, h.len, h.good⟩
theorem top_inv {B : Bk} (q : Int) (h : B.Inv) : (B.top q).Inv := ⟨h.lo, h.hi, h.len, h.good⟩
theorem ts_ok {B : Bk} {evs : List Ev} {t : Tk} (h : ∀ o ∈ B.bs ++ B.ss, o.G) (h1 : 0 ≤ t.left) (h2 : t.left ≤ 18446744073709551615) : (B.ts evs t).Ok := ⟨fun o ho => h o (B.side_sub _ o ho), h1, h2⟩
theorem comes_inv {B : Bk} {evs : List Ev} {t : Tk} (h : B.Inv) (hq : 0 ≤ t.left ∧ t.left ≤ 4294967295) (hp : 0 ≤ t.o.pk ∧ t.o.pk ≤ t.left) (hp2 : t.o.pk = 0 ∨ t.left ≤ 256 * t.o.pk) (hroom : t.kind = 1 ∨ t.kind = 5 → (B.bs.length : Int) + B.ss.length < B.cap) : (B.comes evs t).1.Inv := by
  have hOk : (B.ts evs t).Ok := ts_ok h.good hq.1 (by omega)
  obtain ⟨zok, zlen, _, zl⟩ := (tr_run (meet := B.meet) (t := t) hOk).ok hOk
  unfold Bk.comes
  split
  · exact num_inv _ h
  · simp only
    generalize tr B.meet t (B.ts evs t) = z at *
    obtain ⟨hT, hTl⟩ := traded_inv (t := t) h zok zlen
    split
    · exact hT
    · rename_i hl0
      split
      · exact num_inv _ hT
      · rename_i hk
        have hcap : (B.traded t z).cap = B.cap := (B.put_cap _ _).1
        generalize B.traded t z = B1 at *
        have hlo := zok.lo
        have hzl : z.left ≤ t.left := zl
        have hG := restOf_G (o := t.o) (left := z.left) (q := t.left) hl0 hlo hzl hq.2 hp.2 hp.1 hp2
        have hlen := Bk.put_len1 (B := B1) (s := t.side) (l := rst t.side (restOf t.o z.left) (B1.side t.side)) (rst_length _ _ _)
        have hc := B1.put_cap t.side (rst t.side (restOf t.o z.left) (B1.side t.side))
        have hr := hroom (by omega)
        show (B1.put t.side (rst t.side (restOf t.o z.left) (B1.side t.side))).Inv
        refine ⟨by rw [hc.1]; exact hT.lo, by rw [hc.1]; exact hT.hi, by rw [hc.1, hcap]; omega, fun o ho => ?_⟩
        rcases Bk.put_mem ho with h1 | h1
        · rcases rst_mem h1 with rfl | h1
          · exact hG
          · exact hT.good o (B1.side_sub _ o h1)
        · exact hT.good o h1
theorem goes_len1 {B : Bk} {c : Cm} (hk : c.k ≠ 1) (ht : B.tgt c ≠ none) : (B.goes c).bs.length + (B.goes c).ss.length + 1 = B.bs.length + B.ss.length := by
  rcases at_spec B c with ⟨_, h, _⟩ | ⟨s, hs, i, hi, e, _, _⟩
  · exact absurd h ht
  unfold Bk.goes
  rw [if_pos hk, e]
  simp only [Bk.num, Int.toNat_natCast]
  rcases hs with rfl | rfl
  · have hi' : i < B.bs.length := hi
    show (B.bs.eraseIdx i).length + B.ss.length + 1 = _
    rw [List.length_eraseIdx_of_lt hi']; omega
  · have hi' : i < B.ss.length := hi
    show B.bs.length + (B.ss.eraseIdx i).length + 1 = _
    rw [List.length_eraseIdx_of_lt hi']; omega
theorem goes_cap (B : Bk) (c : Cm) : (B.goes c).cap = B.cap ∧ (B.goes c).meet = B.meet ∧ (B.goes c).high = B.high := by
  unfold Bk.goes
  split
  · have := B.put_cap (B.at_ c).1 ((B.side (B.at_ c).1).eraseIdx (B.at_ c).2.1.toNat)
    exact ⟨this.1, this.2.1, this.2.2.1⟩
  · exact ⟨rfl, rfl, rfl⟩
theorem goes_inv {B : Bk} {c : Cm} (h : B.Inv) : (B.goes c).Inv := by
  have hc := goes_cap B c
  have hl := B.goes_len c
  have := h.len
  exact ⟨by rw [hc.1]; exact h.lo, by rw [hc.1]; exact h.hi, by rw [hc.1]; omega, fun o ho => h.good o (Bk.goes_mem ho)⟩
theorem does_inv {B : Bk} {c : Cm} (h : B.Inv) (hw : c.wf) : (B.does c).1.Inv := by
  unfold Bk.does
  by_cases h0 : B.why c ≠ 0
  · rw [if_pos h0]; exact num_inv _ h
  rw [if_neg h0]
  have h0' : B.why c = 0 := Decidable.of_not_not h0
  obtain ⟨z1, z2, z3, z4, z5⟩ := rfs_zero h0'
  by_cases h2 : c.k ≠ 2
  · rw [if_pos h2]
    obtain ⟨s1, s2, s3, s4, s5, s6, s7, s8⟩ := chk_sized z2 h2 hw
    obtain ⟨f1, f2, f3, f4⟩ := cmg_facts (c := c) (tg := B.tgt c) (side := (B.at_ c).1)
    have hpk := hw.2.2
    unfold U at hpk
    have hgi := goes_inv (c := c) h
    have hgc := goes_cap B c
    refine comes_inv (top_inv _ (num_inv _ hgi)) (by rw [f1]; omega) (by rw [f1, f2]; omega) (by rw [f1, f2]; exact s4) (fun hk => ?_)
    show ((B.goes c).bs.length : Int) + (B.goes c).ss.length < (B.goes c).cap
    rw [hgc.1]
    by_cases h1 : c.k = 1
    · have := z4 h1 hk
      have hl := B.goes_len c
      omega
    · have := goes_len1 h1 (z1 h1)
      have := h.len
      omega
  · rw [if_neg h2]; exact goes_inv h
/-- the events are numbered on from s, to s' -/
def Num : Int → List Ev → Int → Prop
  | s, [], s' => s' = s
  | s, e :: l, s' => e.seq = nx s ∧ Num (nx s) l s'
theorem Num.app : ∀ {l1 l2 : List Ev} {s s1 s2 : Int}, Num s l1 s1 → Num s1 l2 s2 → Num s (l1 ++ l2) s2
  | [], l2, s, s1, s2, h, k => by have : s1 = s := h; subst this; exact k
  | e :: l1, l2, s, s1, s2, h, k => ⟨h.1, Num.app h.2 k⟩
theorem Num.one (s : Int) (e : Ev) : Num s [e.num (nx s)] (nx s) := ⟨rfl, rfl⟩
/-- of trading: what is told is put behind; it is numbered on; it is of trades, cancels, refreshes -/
theorem step_evs {meet : Int} {t : Tk} {s s' : TS} (h : s.step meet t = some s') : ∃ l, s'.evs = s.evs ++ l ∧ Num s.seq l s'.seq ∧ ∀ e ∈ l, e.kind = 3 ∨ e.kind = 4 ∨ e.kind = 5 := by
  obtain ⟨L, left, seq, evs⟩ := s
  unfold TS.step at h
  simp only at h
  cases L with
  | nil => cases h
  | cons f rest =>
    simp only at h
    split at h
    · simp only [Option.some.injEq] at h
      subst h
      split
      · simp only [TS.meets]
        by_cases m1 : meet = 1
        · rw [if_pos m1, if_neg (show ¬ meet = 2 by omega)]
          exact ⟨_, rfl, Num.one _ _, by simp [evCancel, Ev.num]⟩
        · rw [if_neg m1]
          by_cases m2 : meet = 2
          · rw [if_pos m2]
            exact ⟨_, rfl, Num.one _ _, by simp [evCancel, Ev.num]⟩
          · rw [if_neg m2]
            exact ⟨_, List.append_assoc _ _ _, (Num.one _ _).app (Num.one _ _), by simp [evCancel, Ev.num]⟩
      · simp only [TS.hit]
        split
        · exact ⟨_, rfl, Num.one _ _, by simp [evTrade, Ev.num]⟩
        · split
          · exact ⟨_, List.append_assoc _ _ _, (Num.one _ _).app (Num.one _ _), by simp [evTrade, evRefresh, Ev.num]⟩
          · exact ⟨_, rfl, Num.one _ _, by simp [evTrade, Ev.num]⟩
    · cases h
theorem TRun.evs {meet : Int} {t : Tk} {s z : TS} (h : TRun meet t s z) : ∃ l, z.evs = s.evs ++ l ∧ Num s.seq l z.seq ∧ ∀ e ∈ l, e.kind = 3 ∨ e.kind = 4 ∨ e.kind = 5 := by
  induction h with
  | stop _ => exact ⟨[], by simp, rfl, by simp⟩
  | step hs _ ih =>
    obtain ⟨l1, a1, a2, a3⟩ := step_evs hs
    obtain ⟨l2, b1, b2, b3⟩ := ih
    refine ⟨l1 ++ l2, by rw [b1, a1, List.append_assoc], a2.app b2, fun e he => ?_⟩
    rcases List.mem_append.1 he with he | he
    · exact a3 e he
    · exact b3 e he
theorem comes_evs {B : Bk} {evs : List Ev} {t : Tk} (hOk : (B.ts evs t).Ok) : ∃ l, (B.comes evs t).2 = evs ++ l ∧ Num B.seq l (B.comes evs t).1.seq ∧ (∀ e ∈ l, e.kind = 3 ∨ e.kind = 4 ∨ e.kind = 5) ∧ (B.comes evs t).1.high = B.high := by
  obtain ⟨l, a1, a2, a3⟩ := (tr_run (meet := B.meet) (t := t) hOk).evs
  unfold Bk.comes
  split
  · exact ⟨_, rfl, Num.one _ _, by simp [evCancel, Ev.num], rfl⟩
  · simp only
    generalize tr B.meet t (B.ts evs t) = z at *
    have hh : (B.traded t z).high = B.high := (B.put_cap _ _).2.2.1
    have hsq : (B.traded t z).seq = z.seq := rfl
    split
    · exact ⟨l, a1, a2, a3, hh⟩
    · split
      · refine ⟨l ++ [(evCancel t.o.id z.left 3).num (nx (B.traded t z).seq)], by rw [a1, List.append_assoc]; rfl, a2.app (Num.one _ _), fun e he => ?_, hh⟩
        rcases List.mem_append.1 he with he | he
        · exact a3 e he
        · simp at he; subst he; simp [evCancel, Ev.num]
      · have hc := (B.traded t z).put_cap t.side (rst t.side (restOf t.o z.left) ((B.traded t z).side t.side))
        exact ⟨l, a1, by rw [hc.2.2.2]; exact a2, a3, by rw [hc.2.2.1]; exact hh⟩
/-- the acknowledgements' numbers rise, from h to h' -/
def Hi : Int → List Ev → Int → Prop
  | h, [], h' => h' = h
  | h, e :: l, h' => if e.kind = 1 then h < e.id ∧ Hi e.id l h' else Hi h l h'
theorem Hi.none : ∀ {l : List Ev} {h : Int}, (∀ e ∈ l, e.kind ≠ 1) → Hi h l h
  | [], h, _ => rfl
  | e :: l, h, k => by
    unfold Hi
    rw [if_neg (k e (by simp))]
    exact Hi.none fun e he => k e (by simp [he])
theorem Hi.app : ∀ {l1 l2 : List Ev} {s s1 s2 : Int}, Hi s l1 s1 → Hi s1 l2 s2 → Hi s (l1 ++ l2) s2
  | [], l2, s, s1, s2, h, k => by have : s1 = s := h; subst this; exact k
  | e :: l1, l2, s, s1, s2, h, k => by
    rw [List.cons_append]
    unfold Hi at h ⊢
    split at h
    · rename_i e1; rw [if_pos e1]; exact ⟨h.1, Hi.app h.2 k⟩
    · rename_i e1; rw [if_neg e1]; exact Hi.app h k
theorem does_num {B : Bk} {c : Cm} (h : B.Inv) (hw : c.wf) : Num B.seq (B.does c).2 (B.does c).1.seq ∧ Hi B.high (B.does c).2 (B.does c).1.high := by
  unfold Bk.does
  by_cases h0 : B.why c ≠ 0
  · rw [if_pos h0]; exact ⟨Num.one _ _, Hi.none (by simp [evReject, Ev.num])⟩
  rw [if_neg h0]
  obtain ⟨z1, z2, z3, z4, z5⟩ := rfs_zero (Decidable.of_not_not h0)
  have hgone : Num B.seq (B.gone c) (B.goes c).seq ∧ ∀ e ∈ B.gone c, e.kind ≠ 1 := by
    unfold Bk.gone Bk.goes
    by_cases h1 : c.k ≠ 1
    · rw [if_pos h1, if_pos h1]
      cases ht : B.tgt c with
      | none => exact absurd ht (z1 h1)
      | some o => exact ⟨Num.one _ _, by simp [evCancel, Ev.num]⟩
    · rw [if_neg h1, if_neg h1]; exact ⟨rfl, by simp⟩
  have hgh := (goes_cap B c).2.2
  by_cases h2 : c.k ≠ 2
  · rw [if_pos h2]
    obtain ⟨s1, s2, _⟩ := chk_sized z2 h2 hw
    obtain ⟨f1, f2, f3, f4⟩ := cmg_facts (c := c) (tg := B.tgt c) (side := (B.at_ c).1)
    generalize cmg c (B.tgt c) (B.at_ c).1 = tk at *
    obtain ⟨l, a1, a2, a3, a4⟩ := comes_evs (B := ((B.goes c).num (nx (B.goes c).seq)).top tk.o.id) (evs := B.gone c ++ [(evAck tk).num (nx (B.goes c).seq)]) (t := tk) (ts_ok (fun o ho => h.good o (Bk.goes_mem ho)) (by rw [f1]; omega) (by rw [f1]; omega))
    rw [a1, a4]
    refine ⟨(hgone.1.app (Num.one _ _)).app a2, ?_⟩
    have hh : Hi B.high (B.gone c ++ [(evAck tk).num (nx (B.goes c).seq)]) tk.o.id := (Hi.none hgone.2).app (by
      unfold Hi
      rw [if_pos (by rfl)]
      exact ⟨by show B.high < tk.o.id; rw [f3]; exact z3 h2, rfl⟩)
    exact hh.app (Hi.none fun e he => by rcases a3 e he with h | h | h <;> omega)
  · rw [if_neg h2]
    exact ⟨hgone.1, by rw [hgh]; exact Hi.none hgone.2⟩
theorem comes_len {B : Bk} {evs : List Ev} {t : Tk} (hOk : (B.ts evs t).Ok) (hl : (B.ts evs t).L.length ≤ 4096) : (B.comes evs t).2.length ≤ evs.length + 3000000 := by
  obtain ⟨_, _, h3, _⟩ := (tr_run (meet := B.meet) (t := t) hOk).ok hOk
  have hm := mu_le hOk
  have he : (B.ts evs t).evs.length = evs.length := rfl
  unfold Bk.comes
  split
  · simp
  · simp only
    generalize tr B.meet t (B.ts evs t) = z at *
    split
    · show z.evs.length ≤ _; omega
    · split
      · simp only [List.length_append, List.length_singleton]; omega
      · show z.evs.length ≤ _; omega
theorem does_len {B : Bk} {c : Cm} (h : B.Inv) (hw : c.wf) : (B.does c).2.length ≤ 4000000 := by
  have hlen := h.len
  have hhi := h.hi
  unfold Bk.does
  by_cases h0 : B.why c ≠ 0
  · rw [if_pos h0]; simp
  rw [if_neg h0]
  obtain ⟨z1, z2, z3, z4, z5⟩ := rfs_zero (Decidable.of_not_not h0)
  have hg := gone_len B c
  by_cases h2 : c.k ≠ 2
  · rw [if_pos h2]
    obtain ⟨s1, s2, _⟩ := chk_sized z2 h2 hw
    obtain ⟨f1, f2, f3, f4⟩ := cmg_facts (c := c) (tg := B.tgt c) (side := (B.at_ c).1)
    have hgl := B.goes_len c
    generalize cmg c (B.tgt c) (B.at_ c).1 = tk at *
    have hside : ((((B.goes c).num (nx (B.goes c).seq)).top tk.o.id).side (3 - tk.side)).length ≤ 4096 := by
      unfold Bk.side
      split
      · show (B.goes c).bs.length ≤ _; omega
      · show (B.goes c).ss.length ≤ _; omega
    have := comes_len (B := ((B.goes c).num (nx (B.goes c).seq)).top tk.o.id) (evs := B.gone c ++ [(evAck tk).num (nx (B.goes c).seq)]) (t := tk) (ts_ok (fun o ho => h.good o (Bk.goes_mem ho)) (by rw [f1]; omega) (by rw [f1]; omega)) hside
    simp only [List.length_append, List.length_singleton] at this
    omega
  · rw [if_neg h2]; show (B.gone c).length ≤ _; omega
end Go.Proofs.Ytfajjkolhajldaa

/- The law RulesNumbers: its walk. -/
namespace Go.Proofs.Ytfajjkolhajldaa
open Go.V
set_option linter.unusedVariables false
set_option linter.unusedSimpArgs false

def crows (l : List Cm) : List Value := l.flatMap Cm.cells
theorem crows_length (l : List Cm) : (crows l).length = l.length * 9 := flatMap_length _ 9 (fun _ => rfl) l
theorem crows_get (l : List Cm) (i j : Nat) (hi : i < l.length) (hj : j < 9) : (crows l)[i * 9 + j]? = (l[i].cells)[j]? := flatMap_get _ 9 (fun _ => rfl) l i j hi hj
theorem Rd.cm {w : World} {no : List Nat} {A : Option Addr} {l : List Cm} (h : Rd w no A (crows l)) (hn : 0 < l.length) :
    ∃ b o, A = some ⟨b, o, none⟩ ∧ ∀ (i : Nat) (hi : i < l.length) (own : List Nat) (hs : Hp), (∀ x ∈ own, x ∈ no) → At w own hs ⟨b, o + i * 9, none⟩ l[i].cells := by
  obtain ⟨b, o, e, hb, hc⟩ := h.base (by rw [crows_length]; omega)
  refine ⟨b, o, e, fun i hi own hs hsub => At.old (fun j v hv => ?_) (fun hx => hb (hsub _ hx))⟩
  have hj : j < 9 := (List.getElem?_eq_some_iff.1 hv).1
  rw [add_none, Nat.add_assoc]
  exact hc (i * 9 + j) v (by rw [crows_get l i j hi hj]; exact hv)
theorem drop_at {α : Type} {l : List α} {j : Nat} (hj : j < l.length) : l.drop j = l[j] :: l.drop (j + 1) := List.drop_eq_getElem_cons hj
structure N3 where
  j : Nat
  s : Int
  h : Int
structure BS where
  i : Nat
  B : Bk
  v1 : Value
  v2 : Value
  k1 : Hp
  k2 : Hp
abbrev BS.H (x : BS) (b : Nat) : Hp := Tb b (Bc x.B x.v1 x.v2) :: (x.k1 ++ x.k2)
def BS.I (x : BS) (n : Nat) : Prop := x.i ≤ n ∧ x.B.Inv ∧ Side x.v1 x.B.bs x.k1 ∧ Side x.v2 x.B.ss x.k2
end Go.Proofs.Ytfajjkolhajldaa

/- Commands and books as they come in. -/
namespace Go.Proofs.Ytfajjkolhajldaa
open Go.V Go.ChangeShapes Go.WideShapes Go.ChangeAt
set_option linter.unusedVariables false
set_option linter.unusedSimpArgs false

def I64 (x : Int) : Prop := -9223372036854775808 ≤ x ∧ x ≤ 9223372036854775807
def U32 (x : Int) : Prop := 0 ≤ x ∧ x ≤ 4294967295
theorem wf_i64 {n : Int} (h : (Lit.int .i64 n).wf = true) : I64 n := by
  simp [Lit.wf, IntKind.min, IntKind.max, IntKind.bits, IntKind.signed] at h; unfold I64; omega
theorem wf_u64 {n : Int} (h : (Lit.int .u64 n).wf = true) : U n := by
  simp [Lit.wf, IntKind.min, IntKind.max, IntKind.bits, IntKind.signed] at h; unfold U; omega
theorem wf_u32 {n : Int} (h : (Lit.int .u32 n).wf = true) : U32 n := by
  simp [Lit.wf, IntKind.min, IntKind.max, IntKind.bits, IntKind.signed] at h; unfold U32; omega
/-- an order's fields are in their kinds -/
def Ord.ok (o : Ord) : Prop := U o.id ∧ U32 o.mb ∧ I64 o.ty ∧ I64 o.pr ∧ U o.v ∧ U o.hd ∧ U o.pk
theorem Ord.ok.wf {o : Ord} (h : o.ok) : o.wf := ⟨h.1, h.2.2.2.2.1, h.2.2.2.2.2.1, h.2.2.2.2.2.2⟩
theorem okw_ord {cs : List Value} (h : okw OL cs) : ∃ o : Ord, cs = o.cells ∧ o.ok := by
  match cs, h with
  | [.int _ a, .int _ b, .int _ c, .int _ d, .int _ e, .int _ f, .int _ g], ⟨⟨h1, w1⟩, ⟨h2, w2⟩, ⟨h3, w3⟩, ⟨h4, w4⟩, ⟨h5, w5⟩, ⟨h6, w6⟩, ⟨h7, w7⟩, _⟩ =>
    subst h1; subst h2; subst h3; subst h4; subst h5; subst h6; subst h7
    exact ⟨⟨a, b, c, d, e, f, g⟩, rfl, wf_u64 w1, wf_u32 w2, wf_i64 w3, wf_i64 w4, wf_u64 w5, wf_u64 w6, wf_u64 w7⟩
abbrev CL : List Lf := [.i .i64, .i .u64, .i .u64, .i .u32, .i .i64, .i .i64, .i .i64, .i .u64, .i .u64]
def Cmd (k id tg mb sd ty pr q pk : Int) : Prop := I64 k ∧ U id ∧ U tg ∧ U32 mb ∧ I64 sd ∧ I64 ty ∧ I64 pr ∧ U q ∧ U pk
theorem okw_cmd {cs : List Value} (h : okw CL cs) : ∃ k id tg mb sd ty pr q pk, cs = ccells k id tg mb sd ty pr q pk ∧ Cmd k id tg mb sd ty pr q pk := by
  match cs, h with
  | [.int _ a, .int _ b, .int _ c, .int _ d, .int _ e, .int _ f, .int _ g, .int _ i, .int _ j], ⟨⟨h1, w1⟩, ⟨h2, w2⟩, ⟨h3, w3⟩, ⟨h4, w4⟩, ⟨h5, w5⟩, ⟨h6, w6⟩, ⟨h7, w7⟩, ⟨h8, w8⟩, ⟨h9, w9⟩, _⟩ =>
    subst h1; subst h2; subst h3; subst h4; subst h5; subst h6; subst h7; subst h8; subst h9
    exact ⟨a, b, c, d, e, f, g, i, j, rfl, wf_i64 w1, wf_u64 w2, wf_u64 w3, wf_u32 w4, wf_i64 w5, wf_i64 w6, wf_i64 w7, wf_u64 w8, wf_u64 w9⟩
/-- a side, as it comes in -/
def Len {H : Type} (d : DataW H) (n : Nat) : Prop := d = .nil ∧ n = 0 ∨ ∃ es sp, d = .slice es sp ∧ es.length = n
section
variable {H : Type} {enc : TypeId × Value → H} {w : World} {base : Nat} {spare : Nat → Bool} {held : Bool}
theorem TC.side {cs : List Value} {d : DataW H} (h : TC enc Try.prog w base spare held 113 cs d) :
    ∃ A c, ∃ l : List Ord, cs = [.slice A l.length c] ∧ Rd w [] A (rows l) ∧ (∀ o ∈ l, o.ok) ∧ Len d l.length := by
  obtain ⟨A, c, rs, h1, h2, h3, h4⟩ := h.recs (e := 125) (ls := OL) (by kernel_rfl) (by kernel_rfl) (by kernel_rfl) (by decide)
  obtain ⟨l, rfl, hl⟩ := map_of (f := Ord.cells) (Q := Ord.ok) rs fun r hr => okw_ord (h2 r hr)
  refine ⟨A, c, l, by rw [h1, List.length_map], by rw [rows, List.flatMap_def]; exact h3, hl, ?_⟩
  rcases h4 with ⟨e1, e2⟩ | ⟨ds, sp, e1, e2⟩
  · exact .inl ⟨e1, by simpa using e2⟩
  · exact .inr ⟨ds, sp, e1, by simpa using e2⟩
set_option maxRecDepth 20000 in
theorem read_book {cs : List Value} {d : DataW H} (h : TC enc Try.prog w base spare held 115 cs d) :
    ∃ cap meet A1 c1 A2 c2 high seq, ∃ bs ss : List Ord, cs = bcells cap meet (.slice A1 bs.length c1) (.slice A2 ss.length c2) high seq ∧ I64 cap ∧ I64 meet ∧ U high ∧ U seq ∧ Rd w [] A1 (rows bs) ∧ Rd w [] A2 (rows ss) ∧ (∀ o ∈ bs ++ ss, o.ok) ∧
      ∃ dc d1 d2 dh dq, d = .agg [dc, d1, d2, dh, dq] ∧ Len d1 bs.length ∧ Len d2 ss.length := by
  obtain ⟨ds, rfl, hn, hl, hf⟩ := h.struct Try.underlying115
  match ds, hn with
  | [dc, d1, d2, dh, dq], _ =>
  match cs, hl with
  | [x0, x1, x2, x3, x4, x5], _ =>
  have f0 := (hf 0 _ dc rfl rfl).plain (ls := [.i .i64, .i .i64]) (by kernel_rfl) (by kernel_rfl)
  obtain ⟨A1, c1, bs, e1, r1, o1, n1⟩ := TC.side (hf 1 _ d1 rfl rfl)
  obtain ⟨A2, c2, ss, e2, r2, o2, n2⟩ := TC.side (hf 2 _ d2 rfl rfl)
  obtain ⟨high, e3, w3⟩ := (hf 3 _ dh rfl rfl).int (k := .u64) (by kernel_rfl)
  obtain ⟨seq, e4, w4⟩ := (hf 4 _ dq rfl rfl).int (k := .u64) (by kernel_rfl)
  have z2 : Try.prog.cellsOf 64 = 2 := by kernel_rfl
  have z1 : Try.prog.cellsOf 113 = 1 := by kernel_rfl
  have zu : Try.prog.cellsOf 30 = 1 := by kernel_rfl
  have g0 : okw [.i .i64, .i .i64] [x0, x1] := by simpa [z2] using f0
  have g1 : x2 = .slice A1 bs.length c1 := by simpa [z1] using e1
  have g2 : x3 = .slice A2 ss.length c2 := by simpa [z1] using e2
  have g3 : x4 = .int .u64 high := by simpa [zu] using e3
  have g4 : x5 = .int .u64 seq := by simpa [zu] using e4
  match x0, x1, g0 with
  | .int _ cap, .int _ meet, ⟨⟨p1, w1⟩, ⟨p2, w2⟩, _⟩ =>
    subst p1; subst p2; subst g1; subst g2; subst g3; subst g4
    exact ⟨cap, meet, A1, c1, A2, c2, high, seq, bs, ss, rfl, wf_i64 w1, wf_i64 w2, wf_u64 w3, wf_u64 w4, r1, r2, fun o ho => by rcases List.mem_append.1 ho with ho | ho; exact o1 o ho; exact o2 o ho, dc, d1, d2, dh, dq, rfl, n1, n2⟩
end
end Go.Proofs.Ytfajjkolhajldaa

/- Lists of commands, as they come in. -/
namespace Go.Proofs.Ytfajjkolhajldaa
open Go.V Go.ChangeShapes Go.WideShapes Go.ChangeAt
set_option linter.unusedVariables false

def Cm.ok (c : Cm) : Prop := Cmd c.k c.id c.tg c.mb c.sd c.ty c.pr c.q c.pk
theorem Cm.ok.wf {c : Cm} (h : c.ok) : c.wf := ⟨h.2.1, h.2.2.2.2.2.2.2.1, h.2.2.2.2.2.2.2.2⟩
theorem okw_cm {cs : List Value} (h : okw CL cs) : ∃ c : Cm, cs = c.cells ∧ c.ok := by
  obtain ⟨k, id, tg, mb, sd, ty, pr, q, pk, rfl, hc⟩ := okw_cmd h
  exact ⟨⟨k, id, tg, mb, sd, ty, pr, q, pk⟩, rfl, hc⟩
theorem okw_cfg {cs : List Value} (h : okw [.i .i64, .i .i64] cs) : ∃ a b, cs = [.int .i64 a, .int .i64 b] ∧ I64 a ∧ I64 b := by
  match cs, h with
  | [.int _ a, .int _ b], ⟨⟨h1, w1⟩, ⟨h2, w2⟩, _⟩ => subst h1; subst h2; exact ⟨a, b, rfl, wf_i64 w1, wf_i64 w2⟩
section
variable {H : Type} {enc : TypeId × Value → H} {w : World} {base : Nat} {spare : Nat → Bool} {held : Bool}
theorem TC.cmds {cs : List Value} {d : DataW H} (h : TC enc Try.prog w base spare held 24 cs d) :
    ∃ A c, ∃ l : List Cm, cs = [.slice A l.length c] ∧ Rd w [] A (crows l) ∧ (∀ o ∈ l, o.ok) ∧ Len d l.length := by
  obtain ⟨A, c, rs, h1, h2, h3, h4⟩ := h.recs (e := 37) (ls := CL) (by kernel_rfl) (by kernel_rfl) (by kernel_rfl) (by decide)
  obtain ⟨l, rfl, hl⟩ := map_of (f := Cm.cells) (Q := Cm.ok) rs fun r hr => okw_cm (h2 r hr)
  refine ⟨A, c, l, by rw [h1, List.length_map], by rw [crows, List.flatMap_def]; exact h3, hl, ?_⟩
  rcases h4 with ⟨e1, e2⟩ | ⟨ds, sp, e1, e2⟩
  · exact .inl ⟨e1, by simpa using e2⟩
  · exact .inr ⟨ds, sp, e1, by simpa using e2⟩
end
end Go.Proofs.Ytfajjkolhajldaa

/- Limits and events as they come in. -/
namespace Go.Proofs.Ytfajjkolhajldaa
open Go.V Go.ChangeShapes Go.WideShapes Go.ChangeAt
set_option linter.unusedVariables false
set_option linter.unusedSimpArgs false

theorem wfU {n : Int} (h : (Lit.int .u64 n).wf = true) : U64r n := by
  simp [Lit.wf, IntKind.min, IntKind.max, IntKind.bits, IntKind.signed] at h; unfold U64r; omega
theorem wfM {n : Int} (h : (Lit.int .u32 n).wf = true) : 0 ≤ n ∧ n < 4294967296 := by
  simp [Lit.wf, IntKind.min, IntKind.max, IntKind.bits, IntKind.signed] at h; omega
abbrev RVL : List Lf := [.i .u64, .i .i64, .i .u64, .i .u64, .i .u64, .i .u32, .i .i64, .i .i64, .i .i64, .i .u64, .i .u64, .i .i64, .i .i64]
theorem okw_rev {cs : List Value} (h : okw RVL cs) : ∃ v : Ev, cs = v.cells ∧ U64r v.q := by
  obtain ⟨a, cs, rfl, w1, h⟩ := okw_i h
  obtain ⟨b, cs, rfl, w2, h⟩ := okw_i h
  obtain ⟨c, cs, rfl, w3, h⟩ := okw_i h
  obtain ⟨d, cs, rfl, w4, h⟩ := okw_i h
  obtain ⟨e, cs, rfl, w5, h⟩ := okw_i h
  obtain ⟨f, cs, rfl, w6, h⟩ := okw_i h
  obtain ⟨g, cs, rfl, w7, h⟩ := okw_i h
  obtain ⟨i, cs, rfl, w8, h⟩ := okw_i h
  obtain ⟨j, cs, rfl, w9, h⟩ := okw_i h
  obtain ⟨k, cs, rfl, w10, h⟩ := okw_i h
  obtain ⟨l, cs, rfl, w11, h⟩ := okw_i h
  obtain ⟨m, cs, rfl, w12, h⟩ := okw_i h
  obtain ⟨n, cs, rfl, w13, h⟩ := okw_i h
  have := okw_nil h
  subst this
  exact ⟨⟨a, b, c, d, e, f, g, i, j, k, l, m, n⟩, rfl, wfU w10⟩
abbrev LmL : List Lf := [.i .u32, .i .u64, .i .u64, .i .i64, .i .u64, .i .u64]
theorem okw_lm {cs : List Value} (h : okw LmL cs) : ∃ v : LmT, cs = v.cells ∧ v.l.R ∧ 0 ≤ v.m ∧ v.m < 4294967296 := by
  obtain ⟨a, cs, rfl, w1, h⟩ := okw_i h
  obtain ⟨b, cs, rfl, w2, h⟩ := okw_i h
  obtain ⟨c, cs, rfl, w3, h⟩ := okw_i h
  obtain ⟨d, cs, rfl, w4, h⟩ := okw_i h
  obtain ⟨e, cs, rfl, w5, h⟩ := okw_i h
  obtain ⟨f, cs, rfl, w6, h⟩ := okw_i h
  have := okw_nil h
  subst this
  exact ⟨⟨a, ⟨b, c, d, e, f⟩⟩, rfl, ⟨wfU w3, wfU w5, wfU w6⟩, wfM w1⟩
section
variable {H : Type} {enc : TypeId × Value → H} {w : World} {base : Nat} {spare : Nat → Bool} {held : Bool}
set_option maxRecDepth 20000 in
theorem read_revs {cs : List Value} {d : DataW H} (h : TC enc Try.prog w base spare held 23 cs d) :
    ∃ A cap, ∃ l : List Ev, cs = [.slice A l.length cap] ∧ Rd w [] A (erows l) ∧ (∀ e ∈ l, U64r e.q) ∧ l.length ≤ cap ∧ l.length ≤ Rows.uptoBulk d := by
  have hz2 : Try.prog.cellsOf 23 = 1 := by kernel_rfl
  obtain ⟨A, cap, l, g, hq, r, k, n⟩ := TC.list Ev.cells (fun e => U64r e.q) (ls := RVL) (e := 40) (by kernel_rfl) (by kernel_rfl) (by kernel_rfl) (by decide) (fun r hr => okw_rev hr) h
  exact ⟨A, cap, l, by simpa [hz2] using g, r, hq, k, n⟩
set_option maxRecDepth 20000 in
theorem read_lms {cs : List Value} {d : DataW H} (h : TC enc Try.prog w base spare held 22 cs d) :
    ∃ A cap, ∃ l : List LmT, cs = [.slice A l.length cap] ∧ Rd w [] A (l.flatMap LmT.cells) ∧ (∀ x ∈ l, x.l.R ∧ 0 ≤ x.m ∧ x.m < 4294967296) ∧ l.length ≤ Rows.uptoBulk d := by
  have hz2 : Try.prog.cellsOf 22 = 1 := by kernel_rfl
  obtain ⟨A, cap, l, g, hq, r, k, n⟩ := TC.list LmT.cells (fun x => x.l.R ∧ 0 ≤ x.m ∧ x.m < 4294967296) (ls := LmL) (e := 34) (by kernel_rfl) (by kernel_rfl) (by kernel_rfl) (by decide) (fun r hr => okw_lm hr) h
  exact ⟨A, cap, l, by simpa [hz2] using g, r, hq, n⟩
set_option maxRecDepth 20000 in
theorem read_cms {cs : List Value} {d : DataW H} (h : TC enc Try.prog w base spare held 24 cs d) :
    ∃ A cap, ∃ l : List Cm, cs = [.slice A l.length cap] ∧ Rd w [] A (l.flatMap Cm.cells) ∧ (∀ c ∈ l, c.ok) ∧ l.length ≤ Rows.uptoBulk d := by
  have hz2 : Try.prog.cellsOf 24 = 1 := by kernel_rfl
  obtain ⟨A, cap, l, g, hq, r, k, n⟩ := TC.list Cm.cells (fun c => c.ok) (ls := CL) (e := 37) (by kernel_rfl) (by kernel_rfl) (by kernel_rfl) (by decide) (fun r hr => okw_cm hr) h
  exact ⟨A, cap, l, by simpa [hz2] using g, r, hq, n⟩
end
end Go.Proofs.Ytfajjkolhajldaa
