/- Texts that the row RFeedFinds stands on: QDoW, QBegun, QInv, QVl, FDepthB, FTrd, FRPub, FLPub, FLPub2, FBPlain, VC, FLSlices, FSPlain, FDone, FSub, FDoes. -/
import Derived.Test.YtinmhhonpflojaaYFeedFindsC
import Derived.Test.YtinmhhonpflojaaYFeedFindsB
import Derived.Maps.RangeRun
/- (*Book).Do: its walk. -/
namespace Go.Proofs.Ytinmhhonpflojaa
open Go.V
set_option linter.unusedVariables false
set_option linter.unusedSimpArgs false

structure MS where
  v1 : Value
  v2 : Value
  ve : Value
  k1 : Hp
  k2 : Hp
  ke : Hp
abbrev MS.H (m : MS) (t b : Nat) (B : Bk) : Hp := TBh t b B m.v1 m.v2 m.ve m.k1 m.k2 m.ke
def MS.I (m : MS) (B : Bk) (evs : List Ev) : Prop := Side m.v1 B.bs m.k1 ∧ Side m.v2 B.ss m.k2 ∧ Evs m.ve evs m.ke
theorem gone_len (B : Bk) (c : Cm) : (B.gone c).length ≤ 1 := by
  unfold Bk.gone
  split
  · cases B.tgt c <;> simp
  · simp
set_option maxRecDepth 20000 in
set_option maxHeartbeats 1000000 in
theorem do_ok (w : World) (b : Nat) (B : Bk) (hOk : B.Ok) (c : Cm) (hq : U c.q) (hpk : U c.pk) (v1 v2 : Value) (k1 k2 : Hp) (h1 : Side v1 B.bs k1) (h2 : Side v2 B.ss k2) :
    Does Try.prog 31 [.pointer (some ⟨b, 0, none⟩), .agg ⟨c.cells⟩] (Tb b (Bc B v1 v2) :: (k1 ++ k2)) w
      (fun v hs => ∃ h ke, hs = h ++ ke ∧ BkH b (B.does c).1 h ∧ Evs v (B.does c).2 ke) := by
  have hlen := hOk.len
  obtain ⟨A1, c1, rfl⟩ := OwnS.sl h1
  obtain ⟨A2, c2, rfl⟩ := OwnS.sl h2
  have hsp := at_spec B c
  have hside : B.tgt c ≠ none → (B.at_ c).1 = 1 ∨ (B.at_ c).1 = 2 := by
    intro hne
    rcases hsp with ⟨_, h, _⟩ | ⟨s, hs, i, hi, e, _, _⟩
    · exact absurd h hne
    · rw [e]; exact hs
  refine Does.less (Does.of (n := 139) Try.func31 rfl rfl rfl rfl ?_)
  refine .seq ((.region (.nw (.box (l := c.cells) rfl rfl) fun b3 => (.v (.assign rfl) (.nil ?_)))))
  refine .seq ((.region (.v (.move rfl) (.v (.build (out := [.pointer (some ⟨b, 0, none⟩), .slice none 0 0]) rfl rfl) (.nw (.box (l := [.pointer (some ⟨b, 0, none⟩), .slice none 0 0]) rfl rfl) fun t => (.v (.assign rfl) (.nil ?_)))))))
  refine .seq ((.region (.v (.assign rfl) (.nil ?_))))
  refine .keep ((b3, Ch.cells c.cells 85) :: TBh t b B (.slice A1 B.bs.length c1) (.slice A2 B.ss.length c2) (.slice none 0 0) k1 k2 []) ?_
  refine .seq ((.region (.v (.move rfl) (.v (.fieldAddr rfl) (.v (.load (v := .int .u64 c.tg) rfl (.one rfl)) (.pc (v := plcV (B.at_ c)) rfl rfl (fun w s => place_ok w b B.cap B.meet B.high B.seq c.tg A1 A2 c1 c2 B.bs B.ss (Rd.chunk s (T := 126) (l := Bc B (.slice A1 B.bs.length c1) (.slice A2 B.ss.length c2)) (by simp) (fun j v hv => by rw [Nat.zero_add]; exact hv)) (OwnS.rd h1 s (no := []) (fun p hp => by simp [hp]) (by simp)) (OwnS.rd h2 s (no := []) (fun p hp => by simp [hp]) (by simp)) (by omega) (by omega)) (.v (.move rfl) (.v (.extract rfl rfl) (.v (.extract rfl rfl) (.v (.extract rfl rfl) (.v (.assign rfl) (.v (.assign rfl) (.v (.assign rfl) (.nil ?_))))))))))))))
  -- the order that is spoken of
  refine .mid (X := Option Addr × Hp) (fun x => [(0, .pointer (some ⟨b, 0, none⟩)), (3, .pointer (some ⟨b3, 0, none⟩)), (5, .pointer (some ⟨t, 0, none⟩)), (6, .pointer x.1), (7, .int .i64 (B.at_ c).1), (8, .int .i64 (B.at_ c).2.1)])
    (fun x => x.2 ++ ((b3, Ch.cells c.cells 85) :: TBh t b B (.slice A1 B.bs.length c1) (.slice A2 B.ss.length c2) (.slice none 0 0) k1 k2 [])) (fun x => TgH x.1 x.2 (B.tgt c)) (.seq ((.region (.v (.move rfl) (.nil ?_))))) ?_
  · refine .cond rfl (fun g1 => ?_) (fun g1 => .skip ?_)
    · rcases hsp with ⟨e, _, _⟩ | ⟨s, hs, i, hi, e, htg, hid⟩
      · rw [e] at g1; cases g1
      rw [e]
      rcases hs with rfl | rfl
      · have hi' : i < B.bs.length := hi
        have htg' : B.tgt c = some B.bs[i] := htg
        obtain ⟨bk, ok, lk, rfl, -, rfl, -, -, -⟩ := h1.some_ (by omega)
        generalize ho : B.bs[i] = o at htg'
        have hat : ∀ own hs', [(bk, Ch.cells lk 134)] ⊆ hs' → At w own hs' ⟨bk, ok + i * 7, none⟩ o.cells := fun own hs' hh => h1.atN hh (fun j v hv => by
          have h7 := (List.getElem?_eq_some_iff.1 hv).1
          rw [rows_get B.bs i j hi' (by simpa [Ord.cells, rcells] using h7), ho]; exact hv)
        refine .seq ((.region (.v (.move rfl) (.v (.move rfl) (.pc (v := .pointer (some ⟨b, 2, none⟩)) rfl rfl (fun w' _ => side_ok w' b 1) (.v (.nilCheck rfl) (.v (.load (v := .slice (some ⟨bk, ok, none⟩) B.bs.length c1) rfl (.one rfl)) (.v (.move rfl) (.v (.indexAddr (i := (i : Int)) rfl rfl (by omega) (by omega)) (.v (.loadA (vs := o.cells) rfl (hat _ _ (fun p hp => by simp at hp ⊢; simp [hp])) rfl) (.nw .alloc fun b10 => (.st (.sw rfl rfl) (.nil ?_)))))))))))))
        refine .region (.v (.assign rfl) (.nil ?_))
        exact ⟨(some ⟨b10, 0, none⟩, [(b10, Ch.cells o.cells 134)]), by rw [htg']; exact ⟨b10, rfl, rfl⟩, .cons rfl (.cons rfl (.cons rfl (.cons rfl (.cons rfl (.cons rfl (.nil _)))))), fun _ s => s⟩
      · have hi' : i < B.ss.length := hi
        have htg' : B.tgt c = some B.ss[i] := htg
        obtain ⟨bk, ok, lk, rfl, -, rfl, -, -, -⟩ := h2.some_ (by omega)
        generalize ho : B.ss[i] = o at htg'
        have hat : ∀ own hs', [(bk, Ch.cells lk 134)] ⊆ hs' → At w own hs' ⟨bk, ok + i * 7, none⟩ o.cells := fun own hs' hh => h2.atN hh (fun j v hv => by
          have h7 := (List.getElem?_eq_some_iff.1 hv).1
          rw [rows_get B.ss i j hi' (by simpa [Ord.cells, rcells] using h7), ho]; exact hv)
        refine .seq ((.region (.v (.move rfl) (.v (.move rfl) (.pc (v := .pointer (some ⟨b, 3, none⟩)) rfl rfl (fun w' _ => side_ok w' b 2) (.v (.nilCheck rfl) (.v (.load (v := .slice (some ⟨bk, ok, none⟩) B.ss.length c2) rfl (.one rfl)) (.v (.move rfl) (.v (.indexAddr (i := (i : Int)) rfl rfl (by omega) (by omega)) (.v (.loadA (vs := o.cells) rfl (hat _ _ (fun p hp => by simp at hp ⊢; simp [hp])) rfl) (.nw .alloc fun b10 => (.st (.sw rfl rfl) (.nil ?_)))))))))))))
        refine .region (.v (.assign rfl) (.nil ?_))
        exact ⟨(some ⟨b10, 0, none⟩, [(b10, Ch.cells o.cells 134)]), by rw [htg']; exact ⟨b10, rfl, rfl⟩, .cons rfl (.cons rfl (.cons rfl (.cons rfl (.cons rfl (.cons rfl (.nil _)))))), fun _ s => s⟩
    · have htg : B.tgt c = none := by
        rcases hsp with ⟨_, h, _⟩ | ⟨s, hs, i, hi, e, _, _⟩
        · exact h
        · rw [e] at g1; cases g1
      exact ⟨(none, []), by rw [htg]; exact ⟨rfl, rfl⟩, .cons rfl (.cons rfl (.cons rfl (.cons rfl (.cons rfl (.cons rfl (.nil _)))))), fun _ s => s⟩
  rintro ⟨tp, ht⟩ hT
  dsimp only at hT ⊢
  refine .seq (.seq ((.region (.v (.move rfl) (.v (.loadA (vs := c.cells) rfl .whole rfl) (.v (.move rfl) (.v (.move rfl) (.pc (v := .int .i64 (rfs B.cap B.high B.bs B.ss c (B.tgt c) (B.at_ c).1)) rfl rfl (fun w' s => refused_ok w' b B.cap B.meet B.high B.seq A1 A2 c1 c2 B.bs B.ss (Rd.chunk s (T := 126) (l := Bc B (.slice A1 B.bs.length c1) (.slice A2 B.ss.length c2)) (by simp) (fun j v hv => by rw [Nat.zero_add]; exact hv)) (OwnS.rd h1 s (no := []) (fun p hp => by simp [hp]) (by simp)) (OwnS.rd h2 s (no := []) (fun p hp => by simp [hp]) (by simp)) (by omega) (by omega) c tp (B.tgt c) (B.at_ c).1 (hT.rd s (fun p hp => by simp [hp])) hside) (.v (.assign rfl) (.nil ?_))))))))))
  have ew : rfs B.cap B.high B.bs B.ss c (B.tgt c) (B.at_ c).1 = B.why c := rfl
  rw [ew]
  refine .seq ((.region (.v (.move rfl) (.v (.nei rfl rfl) (.nil ?_)))))
  refine .cond_dec rfl (fun g2 => ?_) (fun g2 => .skip ?_)
  · have eD : B.does c = (B.num (nx B.seq), [(evReject (if c.k = 2 then 0 else c.id) (if c.k = 1 then 0 else c.tg) (B.why c)).num (nx B.seq)]) := by unfold Bk.does; rw [if_pos g2]
    refine .seq ((.region (.v (.fieldAddr rfl) (.v (.load (v := .int .u64 c.id) rfl (.one rfl)) (.v (.fieldAddr rfl) (.v (.load (v := .int .u64 c.tg) rfl (.one rfl)) (.v (.move rfl) (.v (.build (out := [.int .u64 0, .int .i64 2, .int .u64 c.id, .int .u64 0, .int .u64 c.tg, .int .u32 0, .int .i64 0, .int .i64 0, .int .i64 0, .int .u64 0, .int .u64 0, .int .i64 0, .int .i64 (B.why c)]) rfl rfl) (.nw .alloc fun b12 => (.st (.sw rfl rfl) (.nil ?_)))))))))))
    refine .mid (X := Unit) (fun _ => [(5, .pointer (some ⟨t, 0, none⟩)), (12, .pointer (some ⟨b12, 0, none⟩))]) (fun _ => (b12, Ch.cells [.int .u64 0, .int .i64 2, .int .u64 (if c.k = 2 then 0 else c.id), .int .u64 0, .int .u64 (if c.k = 1 then 0 else c.tg), .int .u32 0, .int .i64 0, .int .i64 0, .int .i64 0, .int .u64 0, .int .u64 0, .int .i64 0, .int .i64 (B.why c)] 88) :: TBh t b B (.slice A1 B.bs.length c1) (.slice A2 B.ss.length c2) (.slice none 0 0) k1 k2 []) (fun _ => True)
      (.seq ((.region (.v (.fieldAddr rfl) (.v (.load (v := .int .i64 c.k) rfl (.one rfl)) (.nil ?_)))))) ?_
    · refine .block (.seq ((.region (.v (.eqi rfl rfl) (.v (.assign rfl) (.nil ?_))))))
      refine .cond_dec rfl (fun g3 => ?_) (fun g3 => ?_)
      · refine .region (.v (.fieldAddr rfl) (.st (.storeL rfl rfl rfl) (.nil ?_)))
        refine ⟨(), trivial, .cons rfl (.cons rfl (.nil _)), fun _ s => ?_⟩
        rw [if_pos g3, if_neg (by omega)]
        exact s.take
      · refine .seq ((.region (.v (.eqi rfl rfl) (.v (.assign rfl) (.nil ?_)))))
        refine .cond_dec rfl (fun g4 => ?_) (fun g4 => .skip ?_)
        · refine .region (.v (.fieldAddr rfl) (.st (.storeL rfl rfl rfl) (.nil ?_)))
          refine ⟨(), trivial, .cons rfl (.cons rfl (.nil _)), fun _ s => ?_⟩
          rw [if_neg g3, if_pos g4]
          exact s.take
        · refine ⟨(), trivial, .cons rfl (.cons rfl (.nil _)), fun _ s => ?_⟩
          rw [if_neg g3, if_neg g4]
          exact s.take
    · rintro _ _
      refine .seq ((.region (.v (.move rfl) (.v (.loadA (vs := (evReject (if c.k = 2 then 0 else c.id) (if c.k = 1 then 0 else c.tg) (B.why c)).cells) rfl .whole rfl) ?_))))
      refine .ef (.callT (TBh t b B (.slice A1 B.bs.length c1) (.slice A2 B.ss.length c2) (.slice none 0 0) k1 k2 []) rfl rfl (fun w' s' => tellB_ok w' t b B [] (evReject (if c.k = 2 then 0 else c.id) (if c.k = 1 then 0 else c.tg) (B.why c)) _ _ _ k1 k2 [] h1 h2 (OwnS.nil _ _) (by simp))) ?_
      rintro _ _ ⟨_, ⟨v1x, v2x, vex, k1x, k2x, kex, rfl, h1x, h2x, hEx⟩, rfl⟩
      refine .nil ?_
      refine .seq ((.region (.v (.move rfl) (.v (.nilCheck rfl) (.v (.fieldAddr rfl) (.v (.load (v := vex) rfl (.one rfl)) (.v (.assign rfl) (.nil ?_))))))))
      refine .ret ⟨[_], ⟨rfl, trivial⟩, _, fun _ s => Sat.take (pre := (Tb b (Bc (B.num (nx B.seq)) v1x v2x) :: (k1x ++ k2x)) ++ kex) s, ?_⟩
      rw [eD]
      exact ⟨_, kex, rfl, ⟨v1x, v2x, k1x, k2x, rfl, h1x, h2x⟩, hEx⟩
  · have g2' : B.why c = 0 := Decidable.of_not_not g2
    obtain ⟨z1, z2, z3, z4, z5⟩ := rfs_zero g2'
    obtain ⟨h3f, h3b⟩ : (c.k ≠ 1 → B.tgt c ≠ none) ∧ c.chk = 0 := ⟨z1, z2⟩
    refine .mid (X := MS) (fun _ => [(0, .pointer (some ⟨b, 0, none⟩)), (3, .pointer (some ⟨b3, 0, none⟩)), (5, .pointer (some ⟨t, 0, none⟩)), (6, .pointer tp), (7, .int .i64 (B.at_ c).1)]) (fun m => ht ++ ((b3, Ch.cells c.cells 85) :: m.H t b (B.goes c))) (fun m => m.I (B.goes c) (B.gone c))
      (.seq ((.region (.v (.fieldAddr rfl) (.v (.load (v := .int .i64 c.k) rfl (.one rfl)) (.v (.nei rfl rfl) (.nil ?_))))))) ?_
    · refine .cond_dec rfl (fun g5 => ?_) (fun g5 => .skip ?_)
      · refine .seq ((.region (.v (.assign rfl) (.nil ?_))))
        refine .mid (X := Unit) (fun _ => [(0, .pointer (some ⟨b, 0, none⟩)), (3, .pointer (some ⟨b3, 0, none⟩)), (5, .pointer (some ⟨t, 0, none⟩)), (6, .pointer tp), (7, .int .i64 (B.at_ c).1), (8, .int .i64 (B.at_ c).2.1), (13, .int .i64 (if c.k = 3 then 2 else 1))]) (fun _ => ht ++ ((b3, Ch.cells c.cells 85) :: TBh t b B (.slice A1 B.bs.length c1) (.slice A2 B.ss.length c2) (.slice none 0 0) k1 k2 [])) (fun _ => True)
          (.seq ((.region (.v (.fieldAddr rfl) (.v (.load (v := .int .i64 c.k) rfl (.one rfl)) (.v (.eqi rfl rfl) (.nil ?_))))))) ?_
        · refine .cond_dec rfl (fun g6 => ?_) (fun g6 => .skip ?_)
          · refine .region (.v (.assign rfl) (.nil ?_))
            exact ⟨(), trivial, .cons rfl (.cons rfl (.cons rfl (.cons rfl (.cons rfl (.cons rfl (.cons (by rw [if_pos g6]; rfl) (.nil _))))))), fun _ s => s⟩
          · exact ⟨(), trivial, .cons rfl (.cons rfl (.cons rfl (.cons rfl (.cons rfl (.cons rfl (.cons (by rw [if_neg g6]; rfl) (.nil _))))))), fun _ s => s⟩
        · rintro _ _
          obtain ⟨rs, hrs⟩ : ∃ rs : Int, (if c.k = 3 then 2 else 1) = rs := ⟨_, rfl⟩
          rw [hrs]
          rcases hsp with ⟨_, h, _⟩ | ⟨s, hs, i, hi, e, htg, hid⟩
          · exact absurd h (h3f g5)
          have hgood : (B.side s)[i].G := hOk.good _ (B.side_sub s _ (List.getElem_mem hi))
          generalize ho : (B.side s)[i] = o at htg hgood
          have egone : B.gone c = [(evCancel c.tg (o.v + o.hd) rs).num (nx B.seq)] := by unfold Bk.gone; rw [if_pos g5, htg, ← hrs]
          have egoes : B.goes c = (B.put s ((B.side s).eraseIdx i)).num (nx B.seq) := by unfold Bk.goes; rw [if_pos g5, e]; simp
          rw [egone, egoes]
          rw [htg] at hT
          obtain ⟨bt, rfl, rfl⟩ := hT
          obtain ⟨q1, q2, q3, q4, q5, q6⟩ := hgood
          rw [e]
          rcases hs with rfl | rfl
          · have hi' : i < B.bs.length := hi
            refine .seq ((.region (.v (.move rfl) (.v (.move rfl) (.pc (v := .pointer (some ⟨b, 2, none⟩)) rfl rfl (fun w' _ => side_ok w' b 1) (.v (.assign rfl) (.nil ?_)))))))
            refine .seq ((.region (.v (.move rfl) (.v (.move rfl) (.v (.nilCheck rfl) (.v (.load (v := .slice A1 B.bs.length c1) rfl (.one rfl)) (.v (.move rfl) (.v (.move rfl) (.v (.addi (i := (i : Int)) rfl rfl (by omega)) ?_)))))))))
            refine .ef (.callT k1 rfl rfl (fun w' s' => delete_ok w' A1 B.bs.length c1 i (rows B.bs) k1 h1 hi' (by omega) (rows_ones _))) ?_
            rintro v' _ ⟨ks', hS0, rfl⟩
            have hS' : Side v' (B.bs.eraseIdx i) ks' := by
              unfold Side
              rw [List.length_eraseIdx_of_lt hi', ← rows_erase]; exact hS0
            obtain ⟨A', c', rfl⟩ := OwnS.sl hS'
            refine .v (.nilCheck rfl) (.st (.storeL rfl rfl rfl) (.nil ?_))
            refine .keep ([(bt, Ch.cells o.cells 134)] ++ ((b3, Ch.cells c.cells 85) :: TBh t b ⟨B.cap, B.meet, B.bs.eraseIdx i, B.ss, B.high, B.seq⟩ (.slice A' (B.bs.eraseIdx i).length c') (.slice A2 B.ss.length c2) (.slice none 0 0) ks' k2 [])) ?_
            refine (.drawK [(bt, Ch.cells o.cells 134), (b3, Ch.cells c.cells 85)] (by intro p hp; simp at hp ⊢; rcases hp with rfl | rfl <;> simp) (by kernel_rfl) (by kernel_rfl) ?_)
            refine .v (fun _ f => .move rfl) (.v (fun _ f => .fieldAddr rfl) (.v (fun _ f => .load (v := .int .u64 c.tg) rfl (.one (hb := .sub f) rfl)) (.v (fun _ f => .move rfl) (.v (fun _ f => .nilCheck rfl) (.v (fun _ f => .fieldAddr rfl) (.v (fun _ f => .load (v := .int .u64 o.v) rfl (.one (hb := .sub f) rfl)) (.v (fun _ f => .move rfl) (.v (fun _ f => .nilCheck rfl) (.v (fun _ f => .fieldAddr rfl) (.v (fun _ f => .load (v := .int .u64 o.hd) rfl (.one (hb := .sub f) rfl)) (.v (fun _ f => .addU (o.v + o.hd) rfl rfl rfl (by omega)) (.v (fun _ f => .move rfl) (.v (fun _ _ => .build (out := (evCancel c.tg (o.v + o.hd) rs).cells) rfl rfl) ?_)))))))))))))
            refine .ef (.callT (TBh t b ⟨B.cap, B.meet, B.bs.eraseIdx i, B.ss, B.high, B.seq⟩ (.slice A' (B.bs.eraseIdx i).length c') (.slice A2 B.ss.length c2) (.slice none 0 0) ks' k2 []) rfl rfl (fun w' s' => tellB_ok w' t b ⟨B.cap, B.meet, B.bs.eraseIdx i, B.ss, B.high, B.seq⟩ [] (evCancel c.tg (o.v + o.hd) rs) _ _ _ ks' k2 [] hS' h2 (OwnS.nil _ _) (by simp))) (fun _ _ ⟨_, _, e⟩ _ => by subst e; intro p hp; simp at hp ⊢; rcases hp with rfl | rfl <;> simp) ?_
            rintro _ _ ⟨_, ⟨v1x, v2x, vex, k1x, k2x, kex, rfl, h1x, h2x, hEx⟩, rfl⟩
            exact .nil ⟨⟨v1x, v2x, vex, k1x, k2x, kex⟩, ⟨h1x, h2x, hEx⟩, .cons rfl (.cons rfl (.cons rfl (.cons rfl (.cons rfl (.nil _))))), fun _ s => Sat.take (pre := [(bt, Ch.cells o.cells 134)] ++ ((b3, Ch.cells c.cells 85) :: TBh t b (((⟨B.cap, B.meet, B.bs.eraseIdx i, B.ss, B.high, B.seq⟩ : Bk)).num (nx B.seq)) v1x v2x vex k1x k2x kex)) s⟩
          · have hi' : i < B.ss.length := hi
            refine .seq ((.region (.v (.move rfl) (.v (.move rfl) (.pc (v := .pointer (some ⟨b, 3, none⟩)) rfl rfl (fun w' _ => side_ok w' b 2) (.v (.assign rfl) (.nil ?_)))))))
            refine .seq ((.region (.v (.move rfl) (.v (.move rfl) (.v (.nilCheck rfl) (.v (.load (v := .slice A2 B.ss.length c2) rfl (.one rfl)) (.v (.move rfl) (.v (.move rfl) (.v (.addi (i := (i : Int)) rfl rfl (by omega)) ?_)))))))))
            refine .ef (.callT k2 rfl rfl (fun w' s' => delete_ok w' A2 B.ss.length c2 i (rows B.ss) k2 h2 hi' (by omega) (rows_ones _))) ?_
            rintro v' _ ⟨ks', hS0, rfl⟩
            have hS' : Side v' (B.ss.eraseIdx i) ks' := by
              unfold Side
              rw [List.length_eraseIdx_of_lt hi', ← rows_erase]; exact hS0
            obtain ⟨A', c', rfl⟩ := OwnS.sl hS'
            refine .v (.nilCheck rfl) (.st (.storeL rfl rfl rfl) (.nil ?_))
            refine .keep ([(bt, Ch.cells o.cells 134)] ++ ((b3, Ch.cells c.cells 85) :: TBh t b ⟨B.cap, B.meet, B.bs, B.ss.eraseIdx i, B.high, B.seq⟩ (.slice A1 B.bs.length c1) (.slice A' (B.ss.eraseIdx i).length c') (.slice none 0 0) k1 ks' [])) ?_
            refine (.drawK [(bt, Ch.cells o.cells 134), (b3, Ch.cells c.cells 85)] (by intro p hp; simp at hp ⊢; rcases hp with rfl | rfl <;> simp) (by kernel_rfl) (by kernel_rfl) ?_)
            refine .v (fun _ f => .move rfl) (.v (fun _ f => .fieldAddr rfl) (.v (fun _ f => .load (v := .int .u64 c.tg) rfl (.one (hb := .sub f) rfl)) (.v (fun _ f => .move rfl) (.v (fun _ f => .nilCheck rfl) (.v (fun _ f => .fieldAddr rfl) (.v (fun _ f => .load (v := .int .u64 o.v) rfl (.one (hb := .sub f) rfl)) (.v (fun _ f => .move rfl) (.v (fun _ f => .nilCheck rfl) (.v (fun _ f => .fieldAddr rfl) (.v (fun _ f => .load (v := .int .u64 o.hd) rfl (.one (hb := .sub f) rfl)) (.v (fun _ f => .addU (o.v + o.hd) rfl rfl rfl (by omega)) (.v (fun _ f => .move rfl) (.v (fun _ _ => .build (out := (evCancel c.tg (o.v + o.hd) rs).cells) rfl rfl) ?_)))))))))))))
            refine .ef (.callT (TBh t b ⟨B.cap, B.meet, B.bs, B.ss.eraseIdx i, B.high, B.seq⟩ (.slice A1 B.bs.length c1) (.slice A' (B.ss.eraseIdx i).length c') (.slice none 0 0) k1 ks' []) rfl rfl (fun w' s' => tellB_ok w' t b ⟨B.cap, B.meet, B.bs, B.ss.eraseIdx i, B.high, B.seq⟩ [] (evCancel c.tg (o.v + o.hd) rs) _ _ _ k1 ks' [] h1 hS' (OwnS.nil _ _) (by simp))) (fun _ _ ⟨_, _, e⟩ _ => by subst e; intro p hp; simp at hp ⊢; rcases hp with rfl | rfl <;> simp) ?_
            rintro _ _ ⟨_, ⟨v1x, v2x, vex, k1x, k2x, kex, rfl, h1x, h2x, hEx⟩, rfl⟩
            exact .nil ⟨⟨v1x, v2x, vex, k1x, k2x, kex⟩, ⟨h1x, h2x, hEx⟩, .cons rfl (.cons rfl (.cons rfl (.cons rfl (.cons rfl (.nil _))))), fun _ s => Sat.take (pre := [(bt, Ch.cells o.cells 134)] ++ ((b3, Ch.cells c.cells 85) :: TBh t b (((⟨B.cap, B.meet, B.bs, B.ss.eraseIdx i, B.high, B.seq⟩ : Bk)).num (nx B.seq)) v1x v2x vex k1x k2x kex)) s⟩
      · have g5' : c.k = 1 := Decidable.of_not_not g5
        have egoes : B.goes c = B := by unfold Bk.goes; rw [if_neg g5]
        have egone : B.gone c = [] := by unfold Bk.gone; rw [if_neg g5]
        rw [egoes, egone]
        exact ⟨⟨_, _, _, _, _, _⟩, ⟨h1, h2, OwnS.nil _ _⟩, .cons rfl (.cons rfl (.cons rfl (.cons rfl (.cons rfl (.nil _))))), fun _ s => s⟩
    rintro ⟨v1', v2', ve', k1', k2', ke'⟩ ⟨m1, m2, mE⟩
    dsimp only at m1 m2 mE ⊢
    refine .mid (X := MS) (fun _ => [(5, .pointer (some ⟨t, 0, none⟩))]) (fun m => m.H t b (B.does c).1) (fun m => m.I (B.does c).1 (B.does c).2)
      (.seq ((.region (.v (.fieldAddr rfl) (.v (.load (v := .int .i64 c.k) rfl (.one rfl)) (.v (.nei rfl rfl) (.nil ?_))))))) ?_
    · refine .cond_dec rfl (fun g7 => ?_) (fun g7 => .skip ?_)
      · have eD : B.does c = Bk.comes (((B.goes c).num (nx (B.goes c).seq)).top (cmg c (B.tgt c) (B.at_ c).1).o.id) (B.gone c ++ [(evAck (cmg c (B.tgt c) (B.at_ c).1)).num (nx (B.goes c).seq)]) (cmg c (B.tgt c) (B.at_ c).1) := by
          unfold Bk.does; rw [if_neg g2, if_pos g7]
        have hcs := cmg_side (c := c) (tg := B.tgt c) (side := (B.at_ c).1) h3b g7 (fun e => h3f (by omega)) hside
        obtain ⟨f1, f2, f3, f4⟩ := cmg_facts (c := c) (tg := B.tgt c) (side := (B.at_ c).1)
        have hgm := fun o => Bk.goes_mem (B := B) (c := c) (o := o)
        have hgl := B.goes_len c
        have hgn := gone_len B c
        rw [eD]
        refine .seq ((.region (.v (.loadA (vs := c.cells) rfl .whole rfl) (.v (.move rfl) (.v (.move rfl) (.pc rfl rfl (fun w' s => coming_ok w' c tp (B.tgt c) (B.at_ c).1 (hT.rd s (fun p hp => by simp [hp])) (fun e => h3f (by omega))) ?_))))))
        generalize cmg c (B.tgt c) (B.at_ c).1 = tk at hcs f1 f2 f3 f4 ⊢
        generalize B.goes c = B1 at m1 m2 hgm hgl ⊢
        generalize B.gone c = ev1 at mE hgn ⊢
        refine .nw .alloc fun b15 => (.st (.sw rfl rfl) (.nil ?_))
        refine .seq ((.region (.v (.move rfl) (.v (.fieldAddr rfl) (.v (.fieldAddr rfl) (.v (.load (v := .int .u64 tk.o.id) rfl (.one rfl)) (.v (.fieldAddr rfl) (.v (.fieldAddr rfl) (.v (.load (v := .int .u32 tk.o.mb) rfl (.one rfl)) (.v (.fieldAddr rfl) (.v (.load (v := .int .i64 tk.side) rfl (.one rfl)) (.v (.fieldAddr rfl) (.v (.load (v := .int .i64 tk.kind) rfl (.one rfl)) (.v (.fieldAddr rfl) (.v (.fieldAddr rfl) (.v (.load (v := .int .i64 tk.o.pr) rfl (.one rfl)) (.v (.fieldAddr rfl) (.v (.load (v := .int .u64 tk.left) rfl (.one rfl)) (.v (.fieldAddr rfl) (.v (.fieldAddr rfl) (.v (.load (v := .int .u64 tk.o.pk) rfl (.one rfl)) (.v (.build (out := (evAck tk).cells) rfl rfl) ?_))))))))))))))))))))))
        refine .ef (.callT (TBh t b B1 v1' v2' ve' k1' k2' ke') rfl rfl (fun w' s' => tellB_ok w' t b B1 ev1 (evAck tk) _ _ _ k1' k2' ke' m1 m2 mE (by omega))) ?_
        rintro _ _ ⟨_, ⟨v1x, v2x, vex, k1x, k2x, kex, rfl, h1x, h2x, hEx⟩, rfl⟩
        refine .nil ?_
        refine .keep ((b15, Ch.cells tk.cells 141) :: TBh t b (B1.num (nx B1.seq)) v1x v2x vex k1x k2x kex) ?_
        refine .seq ((.region (.v (.move rfl) (.v (.fieldAddr rfl) (.v (.fieldAddr rfl) (.v (.load (v := .int .u64 tk.o.id) rfl (.one rfl)) (.v (.nilCheck rfl) (.v (.fieldAddr rfl) (.v (.fieldAddr rfl) (.st (.storeL rfl rfl rfl) (.nil ?_)))))))))))
        refine .heap (hs' := (b15, Ch.cells tk.cells 141) :: TBh t b ((B1.num (nx B1.seq)).top tk.o.id) v1x v2x vex k1x k2x kex) (fun _ s => s) ?_
        refine .region (.v (.move rfl) (.v (.loadA (vs := tk.cells) rfl .whole rfl) ?_))
        have hU := hq
        unfold U at hU
        refine .ef (.callT (TBh t b ((B1.num (nx B1.seq)).top tk.o.id) v1x v2x vex k1x k2x kex) rfl rfl (fun w' s' => comes_ok w' t b ((B1.num (nx B1.seq)).top tk.o.id) (ev1 ++ [(evAck tk).num (nx B1.seq)]) tk hcs _ _ _ k1x k2x kex h1x h2x hEx ⟨fun o ho => hOk.good o (hgm o (Bk.side_sub B1 _ o ho)), by show 0 ≤ tk.left; omega, by show tk.left ≤ _; omega⟩ (by rw [f2]; exact hpk)
          (by show B1.bs.length ≤ _; omega) (by show B1.ss.length ≤ _; omega) (by simp; omega))) ?_
        rintro _ _ ⟨_, ⟨v1y, v2y, vey, k1y, k2y, key, rfl, h1y, h2y, hEy⟩, rfl⟩
        exact .nil ⟨⟨v1y, v2y, vey, k1y, k2y, key⟩, ⟨h1y, h2y, hEy⟩, .cons rfl (.nil _), fun _ s => s.take⟩
      · have eD : B.does c = (B.goes c, B.gone c) := by unfold Bk.does; rw [if_neg g2, if_neg g7]
        rw [eD]
        exact ⟨⟨v1', v2', ve', k1', k2', ke'⟩, ⟨m1, m2, mE⟩, .cons rfl (.nil _), fun _ s => Sat.take (pre := TBh t b (B.goes c) v1' v2' ve' k1' k2' ke') s⟩
    · rintro ⟨v1y, v2y, vey, k1y, k2y, key⟩ ⟨n1, n2, nE⟩
      dsimp only at n1 n2 nE ⊢
      refine .seq ((.region (.v (.move rfl) (.v (.nilCheck rfl) (.v (.fieldAddr rfl) (.v (.load (v := vey) rfl (.one rfl)) (.v (.assign rfl) (.nil ?_))))))))
      exact .ret ⟨[_], ⟨rfl, trivial⟩, _, fun _ s => Sat.take (pre := (Tb b (Bc (B.does c).1 v1y v2y) :: (k1y ++ k2y)) ++ key) s, _, key, rfl, ⟨v1y, v2y, k1y, k2y, rfl, n1, n2⟩, nE⟩
end Go.Proofs.Ytinmhhonpflojaa

/- The law's own parts: fit, lives, begun. -/
namespace Go.Proofs.Ytinmhhonpflojaa
open Go.V
set_option linter.unusedVariables false
set_option linter.unusedSimpArgs false

theorem Does.call_Do (w : World) (b : Nat) (B : Bk) (hOk : B.Ok) (c : Cm) (hq : U c.q) (hpk : U c.pk) (v1 v2 : Value) (k1 k2 : Hp) (h1 : Side v1 B.bs k1) (h2 : Side v2 B.ss k2) :
    Does Try.prog 31 [.pointer (some ⟨b, 0, none⟩), .agg ⟨c.cells⟩] (Tb b (Bc B v1 v2) :: (k1 ++ k2)) w
      (fun v hs => ∃ A c' v1' v2' k1' k2' ke, v = .slice A (B.does c).2.length c' ∧ hs = (Tb b (Bc (B.does c).1 v1' v2') :: (k1' ++ k2')) ++ ke ∧ Side v1' (B.does c).1.bs k1' ∧ Side v2' (B.does c).1.ss k2' ∧ Evs (.slice A (B.does c).2.length c') (B.does c).2 ke) := by
  refine (do_ok w b B hOk c hq hpk v1 v2 k1 k2 h1 h2).mono ?_
  rintro v _ ⟨_, ke, rfl, ⟨v1', v2', k1', k2', rfl, h1', h2'⟩, hE⟩
  obtain ⟨A, c', rfl⟩ := OwnS.sl hE
  exact ⟨A, c', v1', v2', k1', k2', ke, rfl, rfl, h1', h2', hE⟩
/-- a field of an event, loaded -/
theorem Evs.ld {w0 : World} {own : List Nat} {b o n c i j : Nat} {l : List Ev} {h hs : Hp} {v : Value} (k : Evs (.slice (some ⟨b, o, none⟩) n c) l h) (hh : h ⊆ hs) (hi : i < l.length) (hj : j < 13) (hv : (l[i].cells)[j]? = some v) : At w0 own hs ⟨b, o + i * 13 + j, none⟩ [v] := by
  rw [Nat.add_assoc]
  exact OwnS.at1 k hh (by rw [erows_get l i j hi hj]; exact hv)
def lb0 : Bk := ⟨4, 0, [], [], 0, 0⟩
def lb1 : Bk := ⟨4, 0, [], [⟨1, 0, 1, 10, 5, 0, 0⟩], 1, 1⟩
def lb2 : Bk := ⟨4, 0, [], [], 2, 4⟩
def lc1 : Cm := ⟨1, 1, 0, 0, 2, 1, 10, 5, 0⟩
def lc2 : Cm := ⟨1, 2, 0, 0, 1, 3, 11, 7, 0⟩
def le1 : List Ev := [⟨1, 1, 1, 0, 0, 0, 2, 1, 10, 5, 0, 0, 0⟩]
def le2 : List Ev := [⟨2, 1, 2, 0, 0, 0, 1, 3, 11, 7, 0, 0, 0⟩, ⟨3, 3, 2, 1, 0, 0, 1, 0, 10, 5, 0, 0, 0⟩, ⟨4, 4, 2, 0, 0, 0, 0, 0, 0, 2, 0, 3, 0⟩]
theorem lives1 : lb0.does lc1 = (lb1, le1) := by kernel_rfl
theorem lives2 : lb1.does lc2 = (lb2, le2) := by kernel_rfl
/-- a new book -/
def newB (c m : Int) : Bk := ⟨c, m, [], [], 0, 0⟩
end Go.Proofs.Ytinmhhonpflojaa

/- Plain: what a book keeps, whatever it is told; the numbers of its events. -/
namespace Go.Proofs.Ytinmhhonpflojaa
open Go.V
set_option linter.unusedVariables false
set_option linter.unusedSimpArgs false

structure Bk.Inv (B : Bk) : Prop where
  lo : 1 ≤ B.cap
  hi : B.cap ≤ 4096
  len : (B.bs.length : Int) + B.ss.length ≤ B.cap
  good : ∀ o ∈ B.bs ++ B.ss, o.G
theorem Bk.Inv.ok {B : Bk} (h : B.Inv) : B.Ok := ⟨h.good, by have := h.len; have := h.hi; omega⟩
theorem newB_inv {c m : Int} (h : Cfg c m) : (newB c m).Inv := ⟨h.1, h.2.1, by simp [newB]; unfold Cfg at h; omega, by simp [newB]⟩
/-- a command's numbers are in their kinds -/
def Cm.wf (c : Cm) : Prop := U c.id ∧ U c.q ∧ U c.pk
theorem chk_sized {c : Cm} (h : c.chk = 0) (hk : c.k ≠ 2) (hw : c.wf) : 1 ≤ c.q ∧ c.q ≤ 4294967295 ∧ c.pk ≤ c.q ∧ (c.pk = 0 ∨ c.q ≤ 256 * c.pk) ∧ 0 ≤ c.pr ∧ c.pr < 262144 ∧ c.id ≠ 0 ∧ (c.k = 1 → 1 ≤ c.ty ∧ c.ty ≤ 5 ∧ (c.pk ≠ 0 → c.ty = 1 ∨ c.ty = 5) ∧ (c.ty = 2 → c.pr = 0)) := by
  obtain ⟨w1, w2, w3⟩ := hw
  unfold U at w1 w2 w3
  have key : ∀ ty : Int, szd c.id c.pr c.q c.pk ty = 0 → 1 ≤ c.q ∧ c.q ≤ 4294967295 ∧ c.pk ≤ c.q ∧ (c.pk = 0 ∨ c.q ≤ 256 * c.pk) ∧ 0 ≤ c.pr ∧ c.pr < 262144 ∧ c.id ≠ 0 ∧ (c.pk ≠ 0 → ty = 1 ∨ ty = 5) ∧ (ty = 2 → c.pr = 0) := by
    intro ty hs
    unfold szd at hs
    by_cases a1 : c.pr < 0 ∨ 262144 ≤ c.pr ∨ ty = 2 ∧ c.pr ≠ 0
    · rw [if_pos a1] at hs; omega
    rw [if_neg a1] at hs
    by_cases a2 : c.q < 1 ∨ 4294967295 < c.q
    · rw [if_pos a2] at hs; omega
    rw [if_neg a2] at hs
    by_cases a3 : c.q < c.pk ∨ c.pk ≠ 0 ∧ (¬ (ty = 1 ∨ ty = 5) ∨ IntKind.u64.wrap (256 * c.pk) < c.q)
    · rw [if_pos a3] at hs; omega
    rw [if_neg a3] at hs
    by_cases a4 : c.id = 0
    · rw [if_pos a4] at hs; omega
    have hw : IntKind.u64.wrap (256 * c.pk) = 256 * c.pk := wrap_u64_in (by omega)
    rw [hw] at a3
    refine ⟨by omega, by omega, by omega, by omega, by omega, by omega, a4, by omega, by omega⟩
  unfold Cm.chk chk at h
  by_cases h1 : c.k = 1
  · rw [if_pos h1] at h
    by_cases h2 : c.sd ≠ 1 ∧ c.sd ≠ 2
    · rw [if_pos h2] at h; omega
    rw [if_neg h2] at h
    by_cases h3 : c.ty < 1 ∨ 5 < c.ty
    · rw [if_pos h3] at h; omega
    rw [if_neg h3] at h
    obtain ⟨k1, k2, k3, k4, k5, k6, k7, k8, k9⟩ := key _ h
    exact ⟨k1, k2, k3, k4, k5, k6, k7, fun _ => ⟨by omega, by omega, k8, k9⟩⟩
  · rw [if_neg h1] at h
    by_cases h3 : c.k = 3
    · rw [if_pos h3] at h
      obtain ⟨k1, k2, k3, k4, k5, k6, k7, k8, k9⟩ := key _ h
      exact ⟨k1, k2, k3, k4, k5, k6, k7, fun e => absurd e h1⟩
    · rw [if_neg h3, if_neg hk] at h; omega
theorem restOf_G {o : Ord} {left q : Int} (h0 : left ≠ 0) (h1 : 0 ≤ left) (h2 : left ≤ q) (h3 : q ≤ 4294967295) (h4 : o.pk ≤ q) (h5 : 0 ≤ o.pk) (h6 : o.pk = 0 ∨ q ≤ 256 * o.pk) : (restOf o left).G := by
  unfold restOf Ord.G
  simp only
  split <;> omega
theorem Bk.put_len {B : Bk} {s : Int} {l : List Ord} (h : l.length ≤ (B.side s).length) : (B.put s l).bs.length ≤ B.bs.length ∧ (B.put s l).ss.length ≤ B.ss.length := by
  unfold Bk.put Bk.side at *
  split at h <;> rename_i e
  · rw [if_pos e]; exact ⟨h, Nat.le_refl _⟩
  · rw [if_neg e]; exact ⟨Nat.le_refl _, h⟩
theorem Bk.put_len1 {B : Bk} {s : Int} {l : List Ord} (h : l.length = (B.side s).length + 1) : (B.put s l).bs.length + (B.put s l).ss.length = B.bs.length + B.ss.length + 1 := by
  unfold Bk.put Bk.side at *
  split at h <;> rename_i e
  · rw [if_pos e]; simp only; omega
  · rw [if_neg e]; simp only; omega
theorem Bk.put_cap (B : Bk) (s : Int) (l : List Ord) : (B.put s l).cap = B.cap ∧ (B.put s l).meet = B.meet ∧ (B.put s l).high = B.high ∧ (B.put s l).seq = B.seq := by
  unfold Bk.put; split <;> exact ⟨rfl, rfl, rfl, rfl⟩
theorem traded_inv {B : Bk} {t : Tk} {z : TS} (h : B.Inv) (hz : z.Ok) (hl : z.L.length ≤ (B.side (3 - t.side)).length) : (B.traded t z).Inv ∧ (B.traded t z).bs.length + (B.traded t z).ss.length ≤ B.bs.length + B.ss.length := by
  have hp := Bk.put_len hl
  have hc := B.put_cap (3 - t.side) z.L
  have e1 : (B.traded t z).bs = (B.put (3 - t.side) z.L).bs := rfl
  have e2 : (B.traded t z).ss = (B.put (3 - t.side) z.L).ss := rfl
  have e3 : (B.traded t z).cap = (B.put (3 - t.side) z.L).cap := rfl
  refine ⟨⟨by rw [e3, hc.1]; exact h.lo, by rw [e3, hc.1]; exact h.hi, ?_, fun o ho => ?_⟩, by rw [e1, e2]; omega⟩
  · have := h.len
    rw [e1, e2, e3, hc.1]; omega
  · rcases Bk.put_mem (B := B) (s := 3 - t.side) (l := z.L) ho with h1 | h1
    · exact hz.good o h1
    · exact h.good o h1
theorem num_inv {B : Bk} (q : Int) (h : B.Inv) : (B.num q).Inv := ⟨h.lo, h.hi, h.len, h.good⟩
theorem top_inv {B : Bk} (q : Int) (h : B.Inv) : (B.top q).Inv := ⟨h.lo, h.hi, h.len, h.good⟩
theorem ts_ok {B : Bk} {evs : List Ev} {t : Tk} (h : ∀ o ∈ B.bs ++ B.ss, o.G) (h1 : 0 ≤ t.left) (h2 : t.left ≤ 18446744073709551615) : (B.ts evs t).Ok := ⟨fun o ho => h o (B.side_sub _ o ho), h1, h2⟩
theorem comes_inv {B : Bk} {evs : List Ev} {t : Tk} (h : B.Inv) (hq : 0 ≤ t.left ∧ t.left ≤ 4294967295) (hp : 0 ≤ t.o.pk ∧ t.o.pk ≤ t.left) (hp2 : t.o.pk = 0 ∨ t.left ≤ 256 * t.o.pk) (hroom : t.kind = 1 ∨ t.kind = 5 → (B.bs.length : Int) + B.ss.length < B.cap) : (B.comes evs t).1.Inv := by
  have hOk : (B.ts evs t).Ok := ts_ok h.good hq.1 (by omega)
  obtain ⟨zok, zlen, _, zl⟩ := (tr_run (meet := B.meet) (t := t) hOk).ok hOk
  unfold Bk.comes
  split
  · exact num_inv _ h
  · simp only
    generalize tr B.meet t (B.ts evs t) = z at *
    obtain ⟨hT, hTl⟩ := traded_inv (t := t) h zok zlen
    split
    · exact hT
    · rename_i hl0
      split
      · exact num_inv _ hT
      · rename_i hk
        have hcap : (B.traded t z).cap = B.cap := (B.put_cap _ _).1
        generalize B.traded t z = B1 at *
        have hlo := zok.lo
        have hzl : z.left ≤ t.left := zl
        have hG := restOf_G (o := t.o) (left := z.left) (q := t.left) hl0 hlo hzl hq.2 hp.2 hp.1 hp2
        have hlen := Bk.put_len1 (B := B1) (s := t.side) (l := rst t.side (restOf t.o z.left) (B1.side t.side)) (rst_length _ _ _)
        have hc := B1.put_cap t.side (rst t.side (restOf t.o z.left) (B1.side t.side))
        have hr := hroom (by omega)
        show (B1.put t.side (rst t.side (restOf t.o z.left) (B1.side t.side))).Inv
        refine ⟨by rw [hc.1]; exact hT.lo, by rw [hc.1]; exact hT.hi, by rw [hc.1, hcap]; omega, fun o ho => ?_⟩
        rcases Bk.put_mem ho with h1 | h1
        · rcases rst_mem h1 with rfl | h1
          · exact hG
          · exact hT.good o (B1.side_sub _ o h1)
        · exact hT.good o h1
theorem goes_len1 {B : Bk} {c : Cm} (hk : c.k ≠ 1) (ht : B.tgt c ≠ none) : (B.goes c).bs.length + (B.goes c).ss.length + 1 = B.bs.length + B.ss.length := by
  rcases at_spec B c with ⟨_, h, _⟩ | ⟨s, hs, i, hi, e, _, _⟩
  · exact absurd h ht
  unfold Bk.goes
  rw [if_pos hk, e]
  simp only [Bk.num, Int.toNat_natCast]
  rcases hs with rfl | rfl
  · have hi' : i < B.bs.length := hi
    show (B.bs.eraseIdx i).length + B.ss.length + 1 = _
    rw [List.length_eraseIdx_of_lt hi']; omega
  · have hi' : i < B.ss.length := hi
    show B.bs.length + (B.ss.eraseIdx i).length + 1 = _
    rw [List.length_eraseIdx_of_lt hi']; omega
theorem goes_cap (B : Bk) (c : Cm) : (B.goes c).cap = B.cap ∧ (B.goes c).meet = B.meet ∧ (B.goes c).high = B.high := by
  unfold Bk.goes
  split
  · have := B.put_cap (B.at_ c).1 ((B.side (B.at_ c).1).eraseIdx (B.at_ c).2.1.toNat)
    exact ⟨this.1, this.2.1, this.2.2.1⟩
  · exact ⟨rfl, rfl, rfl⟩
theorem goes_inv {B : Bk} {c : Cm} (h : B.Inv) : (B.goes c).Inv := by
  have hc := goes_cap B c
  have hl := B.goes_len c
  have := h.len
  exact ⟨by rw [hc.1]; exact h.lo, by rw [hc.1]; exact h.hi, by rw [hc.1]; omega, fun o ho => h.good o (Bk.goes_mem ho)⟩
theorem does_inv {B : Bk} {c : Cm} (h : B.Inv) (hw : c.wf) : (B.does c).1.Inv := by
  unfold Bk.does
  by_cases h0 : B.why c ≠ 0
  · rw [if_pos h0]; exact num_inv _ h
  rw [if_neg h0]
  have h0' : B.why c = 0 := Decidable.of_not_not h0
  obtain ⟨z1, z2, z3, z4, z5⟩ := rfs_zero h0'
  by_cases h2 : c.k ≠ 2
  · rw [if_pos h2]
    obtain ⟨s1, s2, s3, s4, s5, s6, s7, s8⟩ := chk_sized z2 h2 hw
    obtain ⟨f1, f2, f3, f4⟩ := cmg_facts (c := c) (tg := B.tgt c) (side := (B.at_ c).1)
    have hpk := hw.2.2
    unfold U at hpk
    have hgi := goes_inv (c := c) h
    have hgc := goes_cap B c
    refine comes_inv (top_inv _ (num_inv _ hgi)) (by rw [f1]; omega) (by rw [f1, f2]; omega) (by rw [f1, f2]; exact s4) (fun hk => ?_)
    show ((B.goes c).bs.length : Int) + (B.goes c).ss.length < (B.goes c).cap
    rw [hgc.1]
    by_cases h1 : c.k = 1
    · have := z4 h1 hk
      have hl := B.goes_len c
      omega
    · have := goes_len1 h1 (z1 h1)
      have := h.len
      omega
  · rw [if_neg h2]; exact goes_inv h
/-- the events are numbered on from s, to s' -/
def Num : Int → List Ev → Int → Prop
  | s, [], s' => s' = s
  | s, e :: l, s' => e.seq = nx s ∧ Num (nx s) l s'
theorem Num.app : ∀ {l1 l2 : List Ev} {s s1 s2 : Int}, Num s l1 s1 → Num s1 l2 s2 → Num s (l1 ++ l2) s2
  | [], l2, s, s1, s2, h, k => by have : s1 = s := h; subst this; exact k
  | e :: l1, l2, s, s1, s2, h, k => ⟨h.1, Num.app h.2 k⟩
theorem Num.one (s : Int) (e : Ev) : Num s [e.num (nx s)] (nx s) := ⟨rfl, rfl⟩
/-- of trading: what is told is put behind; it is numbered on; it is of trades, cancels, refreshes -/
theorem step_evs {meet : Int} {t : Tk} {s s' : TS} (h : s.step meet t = some s') : ∃ l, s'.evs = s.evs ++ l ∧ Num s.seq l s'.seq ∧ ∀ e ∈ l, e.kind = 3 ∨ e.kind = 4 ∨ e.kind = 5 := by
  obtain ⟨L, left, seq, evs⟩ := s
  unfold TS.step at h
  simp only at h
  cases L with
  | nil => cases h
  | cons f rest =>
    simp only at h
    split at h
    · simp only [Option.some.injEq] at h
      subst h
      split
      · simp only [TS.meets]
        by_cases m1 : meet = 1
        · rw [if_pos m1, if_neg (show ¬ meet = 2 by omega)]
          exact ⟨_, rfl, Num.one _ _, by simp [evCancel, Ev.num]⟩
        · rw [if_neg m1]
          by_cases m2 : meet = 2
          · rw [if_pos m2]
            exact ⟨_, rfl, Num.one _ _, by simp [evCancel, Ev.num]⟩
          · rw [if_neg m2]
            exact ⟨_, List.append_assoc _ _ _, (Num.one _ _).app (Num.one _ _), by simp [evCancel, Ev.num]⟩
      · simp only [TS.hit]
        split
        · exact ⟨_, rfl, Num.one _ _, by simp [evTrade, Ev.num]⟩
        · split
          · exact ⟨_, List.append_assoc _ _ _, (Num.one _ _).app (Num.one _ _), by simp [evTrade, evRefresh, Ev.num]⟩
          · exact ⟨_, rfl, Num.one _ _, by simp [evTrade, Ev.num]⟩
    · cases h
theorem TRun.evs {meet : Int} {t : Tk} {s z : TS} (h : TRun meet t s z) : ∃ l, z.evs = s.evs ++ l ∧ Num s.seq l z.seq ∧ ∀ e ∈ l, e.kind = 3 ∨ e.kind = 4 ∨ e.kind = 5 := by
  induction h with
  | stop _ => exact ⟨[], by simp, rfl, by simp⟩
  | step hs _ ih =>
    obtain ⟨l1, a1, a2, a3⟩ := step_evs hs
    obtain ⟨l2, b1, b2, b3⟩ := ih
    refine ⟨l1 ++ l2, by rw [b1, a1, List.append_assoc], a2.app b2, fun e he => ?_⟩
    rcases List.mem_append.1 he with he | he
    · exact a3 e he
    · exact b3 e he
theorem comes_evs {B : Bk} {evs : List Ev} {t : Tk} (hOk : (B.ts evs t).Ok) : ∃ l, (B.comes evs t).2 = evs ++ l ∧ Num B.seq l (B.comes evs t).1.seq ∧ (∀ e ∈ l, e.kind = 3 ∨ e.kind = 4 ∨ e.kind = 5) ∧ (B.comes evs t).1.high = B.high := by
  obtain ⟨l, a1, a2, a3⟩ := (tr_run (meet := B.meet) (t := t) hOk).evs
  unfold Bk.comes
  split
  · exact ⟨_, rfl, Num.one _ _, by simp [evCancel, Ev.num], rfl⟩
  · simp only
    generalize tr B.meet t (B.ts evs t) = z at *
    have hh : (B.traded t z).high = B.high := (B.put_cap _ _).2.2.1
    have hsq : (B.traded t z).seq = z.seq := rfl
    split
    · exact ⟨l, a1, a2, a3, hh⟩
    · split
      · refine ⟨l ++ [(evCancel t.o.id z.left 3).num (nx (B.traded t z).seq)], by rw [a1, List.append_assoc]; rfl, a2.app (Num.one _ _), fun e he => ?_, hh⟩
        rcases List.mem_append.1 he with he | he
        · exact a3 e he
        · simp at he; subst he; simp [evCancel, Ev.num]
      · have hc := (B.traded t z).put_cap t.side (rst t.side (restOf t.o z.left) ((B.traded t z).side t.side))
        exact ⟨l, a1, by rw [hc.2.2.2]; exact a2, a3, by rw [hc.2.2.1]; exact hh⟩
/-- the acknowledgements' numbers rise, from h to h' -/
def Hi : Int → List Ev → Int → Prop
  | h, [], h' => h' = h
  | h, e :: l, h' => if e.kind = 1 then h < e.id ∧ Hi e.id l h' else Hi h l h'
theorem Hi.none : ∀ {l : List Ev} {h : Int}, (∀ e ∈ l, e.kind ≠ 1) → Hi h l h
  | [], h, _ => rfl
  | e :: l, h, k => by
    unfold Hi
    rw [if_neg (k e (by simp))]
    exact Hi.none fun e he => k e (by simp [he])
theorem Hi.app : ∀ {l1 l2 : List Ev} {s s1 s2 : Int}, Hi s l1 s1 → Hi s1 l2 s2 → Hi s (l1 ++ l2) s2
  | [], l2, s, s1, s2, h, k => by have : s1 = s := h; subst this; exact k
  | e :: l1, l2, s, s1, s2, h, k => by
    rw [List.cons_append]
    unfold Hi at h ⊢
    split at h
    · rename_i e1; rw [if_pos e1]; exact ⟨h.1, Hi.app h.2 k⟩
    · rename_i e1; rw [if_neg e1]; exact Hi.app h k
theorem does_num {B : Bk} {c : Cm} (h : B.Inv) (hw : c.wf) : Num B.seq (B.does c).2 (B.does c).1.seq ∧ Hi B.high (B.does c).2 (B.does c).1.high := by
  unfold Bk.does
  by_cases h0 : B.why c ≠ 0
  · rw [if_pos h0]; exact ⟨Num.one _ _, Hi.none (by simp [evReject, Ev.num])⟩
  rw [if_neg h0]
  obtain ⟨z1, z2, z3, z4, z5⟩ := rfs_zero (Decidable.of_not_not h0)
  have hgone : Num B.seq (B.gone c) (B.goes c).seq ∧ ∀ e ∈ B.gone c, e.kind ≠ 1 := by
    unfold Bk.gone Bk.goes
    by_cases h1 : c.k ≠ 1
    · rw [if_pos h1, if_pos h1]
      cases ht : B.tgt c with
      | none => exact absurd ht (z1 h1)
      | some o => exact ⟨Num.one _ _, by simp [evCancel, Ev.num]⟩
    · rw [if_neg h1, if_neg h1]; exact ⟨rfl, by simp⟩
  have hgh := (goes_cap B c).2.2
  by_cases h2 : c.k ≠ 2
  · rw [if_pos h2]
    obtain ⟨s1, s2, _⟩ := chk_sized z2 h2 hw
    obtain ⟨f1, f2, f3, f4⟩ := cmg_facts (c := c) (tg := B.tgt c) (side := (B.at_ c).1)
    generalize cmg c (B.tgt c) (B.at_ c).1 = tk at *
    obtain ⟨l, a1, a2, a3, a4⟩ := comes_evs (B := ((B.goes c).num (nx (B.goes c).seq)).top tk.o.id) (evs := B.gone c ++ [(evAck tk).num (nx (B.goes c).seq)]) (t := tk) (ts_ok (fun o ho => h.good o (Bk.goes_mem ho)) (by rw [f1]; omega) (by rw [f1]; omega))
    rw [a1, a4]
    refine ⟨(hgone.1.app (Num.one _ _)).app a2, ?_⟩
    have hh : Hi B.high (B.gone c ++ [(evAck tk).num (nx (B.goes c).seq)]) tk.o.id := (Hi.none hgone.2).app (by
      unfold Hi
      rw [if_pos (by rfl)]
      exact ⟨by show B.high < tk.o.id; rw [f3]; exact z3 h2, rfl⟩)
    exact hh.app (Hi.none fun e he => by rcases a3 e he with h | h | h <;> omega)
  · rw [if_neg h2]
    exact ⟨hgone.1, by rw [hgh]; exact Hi.none hgone.2⟩
theorem comes_len {B : Bk} {evs : List Ev} {t : Tk} (hOk : (B.ts evs t).Ok) (hl : (B.ts evs t).L.length ≤ 4096) : (B.comes evs t).2.length ≤ evs.length + 3000000 := by
  obtain ⟨_, _, h3, _⟩ := (tr_run (meet := B.meet) (t := t) hOk).ok hOk
  have hm := mu_le hOk
  have he : (B.ts evs t).evs.length = evs.length := rfl
  unfold Bk.comes
  split
  · simp
  · simp only
    generalize tr B.meet t (B.ts evs t) = z at *
    split
    · show z.evs.length ≤ _; omega
    · split
      · simp only [List.length_append, List.length_singleton]; omega
      · show z.evs.length ≤ _; omega
theorem does_len {B : Bk} {c : Cm} (h : B.Inv) (hw : c.wf) : (B.does c).2.length ≤ 4000000 := by
  have hlen := h.len
  have hhi := h.hi
  unfold Bk.does
  by_cases h0 : B.why c ≠ 0
  · rw [if_pos h0]; simp
  rw [if_neg h0]
  obtain ⟨z1, z2, z3, z4, z5⟩ := rfs_zero (Decidable.of_not_not h0)
  have hg := gone_len B c
  by_cases h2 : c.k ≠ 2
  · rw [if_pos h2]
    obtain ⟨s1, s2, _⟩ := chk_sized z2 h2 hw
    obtain ⟨f1, f2, f3, f4⟩ := cmg_facts (c := c) (tg := B.tgt c) (side := (B.at_ c).1)
    have hgl := B.goes_len c
    generalize cmg c (B.tgt c) (B.at_ c).1 = tk at *
    have hside : ((((B.goes c).num (nx (B.goes c).seq)).top tk.o.id).side (3 - tk.side)).length ≤ 4096 := by
      unfold Bk.side
      split
      · show (B.goes c).bs.length ≤ _; omega
      · show (B.goes c).ss.length ≤ _; omega
    have := comes_len (B := ((B.goes c).num (nx (B.goes c).seq)).top tk.o.id) (evs := B.gone c ++ [(evAck tk).num (nx (B.goes c).seq)]) (t := tk) (ts_ok (fun o ho => h.good o (Bk.goes_mem ho)) (by rw [f1]; omega) (by rw [f1]; omega)) hside
    simp only [List.length_append, List.length_singleton] at this
    omega
  · rw [if_neg h2]; show (B.gone c).length ≤ _; omega
end Go.Proofs.Ytinmhhonpflojaa

/- Plain: a book stays one that can be. -/
namespace Go.Proofs.Ytinmhhonpflojaa
open Go.V
set_option linter.unusedVariables false
set_option linter.unusedSimpArgs false

def ids (l : List Ord) : List Int := l.map Ord.id
def Sd (s : Int) (l : List Ord) : Prop := l.Pairwise (fun a b => bet s b.pr a.pr = false)
theorem Sd.srt {s : Int} {l : List Ord} (h : Sd s l) : Srt s l := fun i hi h0 => List.pairwise_iff_getElem.1 h (i - 1) i (by omega) hi (by omega)
theorem Srt.sd {s : Int} : ∀ {l : List Ord}, Srt s l → Sd s l
  | [], _ => .nil
  | x :: l, h => by
    have hl : Srt s l := fun i hi h0 => by
      have := h (i + 1) (by simpa using hi) (by omega)
      simp only [List.getElem_cons_succ, Nat.add_sub_cancel] at this
      obtain ⟨k, rfl⟩ : ∃ k, i = k + 1 := ⟨i - 1, by omega⟩
      exact this
    have ih := Srt.sd hl
    refine .cons (fun y hy => ?_) ih
    cases l with
    | nil => cases hy
    | cons z l =>
      have h1 : bet s z.pr x.pr = false := h 1 (by simp) (by omega)
      rcases List.mem_cons.1 hy with rfl | hy
      · exact h1
      · have h2 := List.rel_of_pairwise_cons ih hy
        unfold bet at h1 h2 ⊢
        split at h1 <;> simp_all <;> omega
theorem Dist.of {l : List Ord} (h : (ids l).Nodup) : Dist l := fun i hi j hj => by
  have h' : l.Pairwise (fun a b => a.id ≠ b.id) := List.pairwise_map.1 h
  exact fun e => List.pairwise_iff_getElem.1 h' j i (by omega) hi hj e.symm
theorem Dist.nd {l : List Ord} (h : Dist l) : (ids l).Nodup := by
  refine List.pairwise_map.2 (List.pairwise_iff_getElem.2 fun i j hi hj hij => fun e => h j hj i hij e.symm)
/-- an order put behind all that are not worse -/
def ins (s : Int) (o : Ord) : List Ord → List Ord
  | [] => [o]
  | x :: l => if bet s o.pr x.pr = true then o :: x :: l else x :: ins s o l
theorem bet_tr {s p x y : Int} (h : bet s p x = true) (h2 : bet s y x = false) : bet s p y = true := by
  unfold bet at *
  split at h <;> simp_all <;> omega
theorem rst_ins {s : Int} {o : Ord} : ∀ {l : List Ord}, Sd s l → rst s o l = ins s o l
  | [], _ => rfl
  | x :: l, h => by
    have ih := rst_ins (o := o) (List.Pairwise.of_cons h)
    by_cases c : bet s o.pr x.pr = true
    · have hl : l.all (fun x => bet s o.pr x.pr) = true := List.all_eq_true.2 fun y hy => bet_tr c (List.rel_of_pairwise_cons h hy)
      have : rpos s o.pr (x :: l) = 0 := by unfold rpos; rw [c, hl]; rfl
      unfold rst ins; rw [this, if_pos c]; rfl
    · have : rpos s o.pr (x :: l) = rpos s o.pr l + 1 := by
        rw [rpos]; simp only [Bool.not_eq_true] at c; rw [c]; rfl
      unfold ins; rw [if_neg c, ← ih]; unfold rst; rw [this]; rfl
theorem rst_perm (s : Int) (o : Ord) (l : List Ord) : (rst s o l).Perm (o :: l) := by
  unfold rst
  rw [List.append_assoc, List.singleton_append]
  refine List.perm_middle.trans ?_
  rw [List.take_append_drop]
theorem ins_perm (s : Int) (o : Ord) : ∀ (l : List Ord), (ins s o l).Perm (o :: l)
  | [] => .refl _
  | x :: l => by
    unfold ins; split
    · exact .refl _
    · exact ((ins_perm s o l).cons x).trans (.swap o x l)
theorem ins_sd {s : Int} {o : Ord} : ∀ {l : List Ord}, Sd s l → Sd s (ins s o l)
  | [], _ => List.pairwise_singleton _ _
  | x :: l, h => by
    have ih := ins_sd (o := o) (List.Pairwise.of_cons h)
    unfold ins; split
    · rename_i c
      refine .cons (fun y hy => ?_) h
      have hy' : bet s o.pr y.pr = true := by
        rcases List.mem_cons.1 hy with rfl | hy
        · exact c
        · exact bet_tr c (List.rel_of_pairwise_cons h hy)
      unfold bet at hy' ⊢; split at hy' <;> simp_all <;> omega
    · rename_i c
      refine .cons (fun y hy => ?_) ih
      rcases List.mem_cons.1 ((ins_perm s o l).mem_iff.1 hy) with rfl | hy
      · simpa using c
      · exact List.rel_of_pairwise_cons h hy
/-- an order that can rest -/
def Ord.V (o : Ord) (high : Int) : Prop := o.rests high ∧ o.wf
theorem Ord.V.G {o : Ord} {h : Int} (k : o.V h) : o.G := by
  obtain ⟨k1, k2⟩ := k
  unfold Ord.rests Rests at k1; unfold Ord.wf U at k2; unfold Ord.G; omega
theorem Ord.V.up {o : Ord} {h h' : Int} (k : o.V h) (e : h ≤ h') : o.V h' := by
  obtain ⟨k1, k2⟩ := k
  refine ⟨?_, k2⟩
  unfold Ord.rests Rests at k1 ⊢; omega
theorem less_V {f : Ord} {q h : Int} (k : f.V h) (h0 : 0 < q) (h1 : 0 < f.v - q) : (f.less q).V h := by
  obtain ⟨k1, k2⟩ := k
  unfold Ord.less
  refine ⟨?_, ?_⟩
  · unfold Ord.rests Rests at k1 ⊢; simp only; omega
  · unfold Ord.wf U at k2 ⊢; simp only; omega
theorem next_V {f : Ord} {h : Int} (k : f.V h) (h1 : 0 < f.hd) : f.next.V h := by
  obtain ⟨k1, k2⟩ := k
  unfold Ord.next
  refine ⟨?_, ?_⟩
  · unfold Ord.rests Rests at k1 ⊢; unfold Ord.wf U at k2; simp only; omega
  · unfold Ord.rests Rests at k1; unfold Ord.wf U at k2 ⊢; simp only; omega
/-- what trading leaves of a side -/
structure Keeps (sd : Int) (L L' : List Ord) : Prop where
  rests : ∀ hg, (∀ o ∈ L, o.V hg) → ∀ o ∈ L', o.V hg
  sd : Sd sd L'
  ids : ∃ x, (x ++ ids L').Perm (ids L)
  pr : ∀ o ∈ L', ∃ p ∈ L, p.pr = o.pr
theorem Keeps.refl {s : Int} {L : List Ord} (h : Sd s L) : Keeps s L L := ⟨fun _ h => h, h, ⟨[], .refl _⟩, fun o h => ⟨o, h, rfl⟩⟩
theorem Keeps.trans {s : Int} {L L' L'' : List Ord} (h : Keeps s L L') (k : Keeps s L' L'') : Keeps s L L'' := by
  obtain ⟨x, hx⟩ := h.ids
  obtain ⟨y, hy⟩ := k.ids
  refine ⟨fun hg q => k.rests hg (h.rests hg q), k.sd, ⟨x ++ y, ?_⟩, fun o ho => ?_⟩
  · rw [List.append_assoc]; exact (hy.append_left x).trans hx
  · obtain ⟨p, hp, e⟩ := k.pr o ho
    obtain ⟨q, hq, e'⟩ := h.pr p hp
    exact ⟨q, hq, e'.trans e⟩
theorem Keeps.tail {s : Int} {f : Ord} {L : List Ord} (h : Sd s (f :: L)) : Keeps s (f :: L) L :=
  ⟨fun hg k o ho => k o (by simp [ho]), List.Pairwise.of_cons h, ⟨[f.id], .refl _⟩, fun o ho => ⟨o, by simp [ho], rfl⟩⟩
theorem step_keeps {meet : Int} {t : Tk} {s s' : TS} (hs : s.step meet t = some s') (hsd : Sd (3 - t.side) s.L) : Keeps (3 - t.side) s.L s'.L := by
  obtain ⟨L, left, seq, evs⟩ := s
  unfold TS.step at hs
  simp only at hs hsd ⊢
  cases L with
  | nil => cases hs
  | cons f rest =>
    simp only at hs
    split at hs
    · rename_i hc
      simp only [Option.some.injEq] at hs
      subst hs
      split
      · simp only [TS.meets]
        by_cases m1 : meet = 1
        · rw [if_pos m1, if_neg (show ¬ meet = 2 by omega)]
          exact .refl hsd
        · rw [if_neg m1]
          by_cases m2 : meet = 2
          · rw [if_pos m2]; exact .tail hsd
          · rw [if_neg m2]; exact .tail hsd
      · simp only [TS.hit]
        by_cases c1 : 0 < f.v - min left f.v
        · rw [if_pos c1]
          refine ⟨fun hg k o ho => ?_, ?_, ⟨[], .refl _⟩, fun o ho => ?_⟩
          · rcases List.mem_cons.1 ho with rfl | ho
            · refine less_V (k f (by simp)) ?_ c1
              have := hc.1; omega
            · exact k o (by simp [ho])
          · exact .cons (fun y hy => List.rel_of_pairwise_cons hsd hy) (List.Pairwise.of_cons hsd)
          · rcases List.mem_cons.1 ho with rfl | ho
            · exact ⟨f, by simp, rfl⟩
            · exact ⟨o, by simp [ho], rfl⟩
        · rw [if_neg c1]
          by_cases c2 : 0 < f.hd
          · rw [if_pos c2]
            show Keeps _ _ (rst (3 - t.side) f.next rest)
            refine ⟨fun hg k o ho => ?_, ?_, ⟨[], ?_⟩, fun o ho => ?_⟩
            · rcases rst_mem ho with rfl | ho
              · exact next_V (k f (by simp)) c2
              · exact k o (by simp [ho])
            · rw [rst_ins (List.Pairwise.of_cons hsd)]; exact ins_sd (List.Pairwise.of_cons hsd)
            · exact (rst_perm (3 - t.side) f.next rest).map Ord.id
            · rcases rst_mem ho with rfl | ho
              · exact ⟨f, by simp, rfl⟩
              · exact ⟨o, by simp [ho], rfl⟩
          · rw [if_neg c2]; exact .tail hsd
    · cases hs
theorem TRun.keeps {meet : Int} {t : Tk} {s z : TS} (h : TRun meet t s z) (hsd : Sd (3 - t.side) s.L) : Keeps (3 - t.side) s.L z.L ∧ z.step meet t = none := by
  induction h with
  | stop hs => exact ⟨.refl hsd, hs⟩
  | step hs _ ih =>
    have h1 := step_keeps hs hsd
    obtain ⟨i1, i2⟩ := ih h1.sd
    exact ⟨h1.trans i1, i2⟩
/-- a book that can be -/
structure Bk.Vl (B : Bk) : Prop where
  cfg : Cfg B.cap B.meet
  len : (B.bs.length : Int) + B.ss.length ≤ B.cap
  rests : ∀ o ∈ B.bs ++ B.ss, o.V B.high
  nd : (ids (B.bs ++ B.ss)).Nodup
  s1 : Sd 1 B.bs
  s2 : Sd 2 B.ss
  cross : ∀ b ∈ B.bs, ∀ s ∈ B.ss, b.pr < s.pr
theorem Bk.Vl.inv {B : Bk} (h : B.Vl) : B.Inv := ⟨h.cfg.1, h.cfg.2.1, h.len, fun o ho => (h.rests o ho).G⟩
theorem crossB_false {bs ss : List Ord} (h : ∀ b ∈ bs, ∀ s ∈ ss, b.pr < s.pr) : crossB bs ss = false := by
  cases bs with
  | nil => rfl
  | cons b bs =>
    cases ss with
    | nil => rfl
    | cons s ss =>
      have := h b (by simp) s (by simp)
      unfold crossB; simp; omega
theorem Bk.Vl.vld {B : Bk} (h : B.Vl) : vld B.cap B.meet B.high B.bs B.ss = 0 := by
  have := h.cfg; have := h.len
  unfold Cfg at *
  rw [Proofs.Ytinmhhonpflojaa.vld, if_pos ⟨h.cfg, by omega, by omega, by omega, fun o ho => (h.rests o ho).1, .of h.nd, h.s1.srt, h.s2.srt, crossB_false h.cross⟩]
theorem newB_vl {c m : Int} (h : Cfg c m) : (newB c m).Vl := ⟨h, by unfold Cfg at h; simp [newB]; omega, by simp [newB], by simp [newB, Proofs.Ytinmhhonpflojaa.ids], .nil, .nil, by simp [newB]⟩
theorem num_vl {B : Bk} (q : Int) (h : B.Vl) : (B.num q).Vl := ⟨h.cfg, h.len, h.rests, h.nd, h.s1, h.s2, h.cross⟩
theorem top_vl {B : Bk} {q : Int} (h : B.Vl) (e : B.high ≤ q) : (B.top q).Vl := ⟨h.cfg, h.len, fun o ho => (h.rests o ho).up e, h.nd, h.s1, h.s2, h.cross⟩
theorem nd_of {l l' : List Ord} (h : ∃ x, (x ++ ids l').Perm (ids l)) (hn : (ids l).Nodup) : (ids l').Nodup := by
  obtain ⟨x, hx⟩ := h
  exact (List.nodup_append.1 (hx.nodup_iff.2 hn)).2.1
theorem ids_app (a b : List Ord) : ids (a ++ b) = ids a ++ ids b := List.map_append
theorem ids_mem {l l' : List Ord} (h : ∃ x, (x ++ ids l').Perm (ids l)) : ∀ i ∈ ids l', i ∈ ids l := fun i hi => by
  obtain ⟨x, hx⟩ := h
  exact hx.mem_iff.1 (List.mem_append_right _ hi)
/-- one side of a book that can be, less -/
theorem put1_vl {B : Bk} {l : List Ord} (h : B.Vl) (k : Keeps 1 B.bs l) (hl : l.length ≤ B.bs.length) : (B.put 1 l).Vl := by
  have hlen := h.len
  refine ⟨h.cfg, by show (l.length : Int) + B.ss.length ≤ B.cap; omega, fun o ho => ?_, ?_, k.sd, h.s2, fun b hb s hs => ?_⟩
  · rcases List.mem_append.1 (show o ∈ l ++ B.ss from ho) with ho | ho
    · exact k.rests _ (fun o ho => h.rests o (by simp [ho])) o ho
    · exact h.rests o (by simp [ho])
  · show (ids (l ++ B.ss)).Nodup
    obtain ⟨x, hx⟩ := k.ids
    refine nd_of ⟨x, ?_⟩ h.nd
    rw [ids_app, ids_app, ← List.append_assoc]
    exact hx.append_right _
  · obtain ⟨p, hp, e⟩ := k.pr b hb
    have := h.cross p hp s hs; omega
theorem put2_vl {B : Bk} {l : List Ord} (h : B.Vl) (k : Keeps 2 B.ss l) (hl : l.length ≤ B.ss.length) : (B.put 2 l).Vl := by
  have hlen := h.len
  refine ⟨h.cfg, by show (B.bs.length : Int) + l.length ≤ B.cap; omega, fun o ho => ?_, ?_, h.s1, k.sd, fun b hb s hs => ?_⟩
  · rcases List.mem_append.1 (show o ∈ B.bs ++ l from ho) with ho | ho
    · exact h.rests o (by simp [ho])
    · exact k.rests _ (fun o ho => h.rests o (by simp [ho])) o ho
  · show (ids (B.bs ++ l)).Nodup
    obtain ⟨x, hx⟩ := k.ids
    refine nd_of ⟨x, ?_⟩ h.nd
    rw [ids_app, ids_app]
    have h1 : (x ++ (ids B.bs ++ ids l)).Perm (ids B.bs ++ (x ++ ids l)) := by
      rw [← List.append_assoc, ← List.append_assoc]
      exact List.perm_append_comm.append_right _
    exact h1.trans (hx.append_left _)
  · obtain ⟨p, hp, e⟩ := k.pr s hs
    have := h.cross b hb p hp; omega
theorem Keeps.erase {s : Int} {L : List Ord} (h : Sd s L) (i : Nat) : Keeps s L (L.eraseIdx i) := by
  refine ⟨fun hg k o ho => k o (List.mem_of_mem_eraseIdx ho), h.sublist (List.eraseIdx_sublist ..), ?_, fun o ho => ⟨o, List.mem_of_mem_eraseIdx ho, rfl⟩⟩
  by_cases hi : i < L.length
  · refine ⟨[L[i].id], ?_⟩
    have e : L = L.take i ++ L[i] :: L.drop (i + 1) := by rw [← List.drop_eq_getElem_cons hi, List.take_append_drop]
    have e2 : Proofs.Ytinmhhonpflojaa.ids L = Proofs.Ytinmhhonpflojaa.ids (L.take i ++ L[i] :: L.drop (i + 1)) := congrArg Proofs.Ytinmhhonpflojaa.ids e
    rw [e2, List.eraseIdx_eq_take_drop_succ]
    simp only [Proofs.Ytinmhhonpflojaa.ids, List.map_append, List.map_cons]
    exact (List.perm_middle (l₁ := List.map Ord.id (L.take i)) (a := L[i].id) (l₂ := List.map Ord.id (L.drop (i + 1)))).symm
  · rw [List.eraseIdx_of_length_le (by omega)]; exact ⟨[], .refl _⟩
theorem goes_vl {B : Bk} {c : Cm} (h : B.Vl) (ht : c.k ≠ 1 → B.tgt c ≠ none) : (B.goes c).Vl := by
  unfold Bk.goes
  by_cases hk : c.k ≠ 1
  · rw [if_pos hk]
    rcases at_spec B c with ⟨_, h', _⟩ | ⟨s, hs, i, hi, e, _, _⟩
    · exact absurd h' (ht hk)
    rw [e]
    simp only [Int.toNat_natCast]
    refine num_vl _ ?_
    rcases hs with rfl | rfl
    · exact put1_vl h (.erase h.s1 i) (List.length_eraseIdx_le ..)
    · exact put2_vl h (.erase h.s2 i) (List.length_eraseIdx_le ..)
  · rw [if_neg hk]; exact h
theorem goes_fresh {B : Bk} {c : Cm} {x : Int} (h : ∀ o ∈ B.bs ++ B.ss, o.id < x) : ∀ o ∈ (B.goes c).bs ++ (B.goes c).ss, o.id < x := fun o ho => h o (Bk.goes_mem ho)
/-- trading keeps a book one that can be; at its end the other side's best is not reached -/
theorem traded_vl {B : Bk} {t : Tk} {evs : List Ev} {z : TS} (h : B.Vl) (hs : t.side = 1 ∨ t.side = 2) (hr : TRun B.meet t (B.ts evs t) z) (hz : z.L.length ≤ (B.side (3 - t.side)).length) :
    (B.traded t z).Vl ∧ ids ((B.traded t z).bs ++ (B.traded t z).ss) ⊆ ids (B.bs ++ B.ss) ∧ (B.traded t z).side t.side = B.side t.side ∧ (B.traded t z).side (3 - t.side) = z.L ∧
      (0 < z.left → t.kind ≠ 2 → ∀ x ∈ z.L, bet t.side x.pr t.o.pr = true) := by
  obtain ⟨_, _, bs, ss, _, _⟩ := B
  rcases hs with hs | hs
  · have hk := hr.keeps (by show Sd _ _; simp only [Bk.ts, Bk.side, hs]; exact h.s2)
    simp only [Bk.ts, Bk.side, hs] at hk hz
    obtain ⟨hk, hn⟩ := hk
    refine ⟨?_, ?_, ?_, ?_, fun hl h2 x hx => ?_⟩
    · unfold Bk.traded; rw [hs]; exact num_vl _ (put2_vl h hk hz)
    · unfold Bk.traded Bk.put Bk.num; rw [hs]
      show ids (bs ++ z.L) ⊆ ids (bs ++ ss)
      intro i hi
      rw [ids_app, List.mem_append] at hi ⊢
      exact hi.imp id (ids_mem hk.ids i)
    · unfold Bk.traded Bk.put Bk.num Bk.side; simp [hs]
    · unfold Bk.traded Bk.put Bk.num Bk.side; simp [hs]
    · rw [hs]
      obtain ⟨L, left, _, _⟩ := z
      cases L with
      | nil => cases hx
      | cons f L =>
        unfold TS.step at hn
        simp only at hn hl
        split at hn
        · cases hn
        · rename_i hc
          have hf : bet 1 f.pr t.o.pr = true := by
            have hr' : ¬ reach t.side t.kind t.o.pr f.pr = true := fun e => hc ⟨hl, e⟩
            unfold reach at hr'
            rw [hs] at hr'
            simpa [h2] using hr'
          rcases List.mem_cons.1 hx with rfl | hx
          · exact hf
          · have := List.rel_of_pairwise_cons hk.sd hx
            unfold bet at hf this ⊢; simp at hf this ⊢; omega
  · have hk := hr.keeps (by show Sd _ _; simp only [Bk.ts, Bk.side, hs]; exact h.s1)
    simp only [Bk.ts, Bk.side, hs] at hk hz
    obtain ⟨hk, hn⟩ := hk
    refine ⟨?_, ?_, ?_, ?_, fun hl h2 x hx => ?_⟩
    · unfold Bk.traded; rw [hs]; exact num_vl _ (put1_vl h hk hz)
    · unfold Bk.traded Bk.put Bk.num; rw [hs]
      show ids (z.L ++ ss) ⊆ ids (bs ++ ss)
      intro i hi
      rw [ids_app, List.mem_append] at hi ⊢
      exact hi.imp (ids_mem hk.ids i) id
    · unfold Bk.traded Bk.put Bk.num Bk.side; simp [hs]
    · unfold Bk.traded Bk.put Bk.num Bk.side; simp [hs]
    · rw [hs]
      obtain ⟨L, left, _, _⟩ := z
      cases L with
      | nil => cases hx
      | cons f L =>
        unfold TS.step at hn
        simp only at hn hl
        split at hn
        · cases hn
        · rename_i hc
          have hf : bet 2 f.pr t.o.pr = true := by
            have hr' : ¬ reach t.side t.kind t.o.pr f.pr = true := fun e => hc ⟨hl, e⟩
            unfold reach at hr'
            rw [hs] at hr'
            simpa [h2] using hr'
          rcases List.mem_cons.1 hx with rfl | hx
          · exact hf
          · have := List.rel_of_pairwise_cons hk.sd hx
            unfold bet at hf this ⊢; simp at hf this ⊢; omega
theorem put_vl1 {B : Bk} {o : Ord} (h : B.Vl) (hs : o.V B.high) (hf : ∀ i ∈ ids (B.bs ++ B.ss), i ≠ o.id) (hc : (B.bs.length : Int) + B.ss.length < B.cap) (hx : ∀ s ∈ B.ss, o.pr < s.pr) : (B.put 1 (rst 1 o B.bs)).Vl := by
  have hp := rst_perm 1 o B.bs
  refine ⟨h.cfg, ?_, fun x hxm => ?_, ?_, ?_, h.s2, fun b hb s hs' => ?_⟩
  · show ((rst 1 o B.bs).length : Int) + B.ss.length ≤ B.cap
    rw [rst_length]; omega
  · rcases List.mem_append.1 (show x ∈ rst 1 o B.bs ++ B.ss from hxm) with hm | hm
    · rcases rst_mem hm with rfl | hm
      · exact hs
      · exact h.rests x (by simp [hm])
    · exact h.rests x (by simp [hm])
  · show (ids (rst 1 o B.bs ++ B.ss)).Nodup
    have : (ids (rst 1 o B.bs ++ B.ss)).Perm (o.id :: ids (B.bs ++ B.ss)) := by
      have := (hp.append_right B.ss).map Ord.id
      exact this
    refine this.nodup_iff.2 (List.nodup_cons.2 ⟨fun hm => hf _ hm rfl, h.nd⟩)
  · show Sd 1 (rst 1 o B.bs)
    rw [rst_ins h.s1]; exact ins_sd h.s1
  · rcases rst_mem (show b ∈ rst 1 o B.bs from hb) with rfl | hm
    · exact hx s hs'
    · exact h.cross b hm s hs'
theorem put_vl2 {B : Bk} {o : Ord} (h : B.Vl) (hs : o.V B.high) (hf : ∀ i ∈ ids (B.bs ++ B.ss), i ≠ o.id) (hc : (B.bs.length : Int) + B.ss.length < B.cap) (hx : ∀ s ∈ B.bs, s.pr < o.pr) : (B.put 2 (rst 2 o B.ss)).Vl := by
  have hp := rst_perm 2 o B.ss
  refine ⟨h.cfg, ?_, fun x hxm => ?_, ?_, h.s1, ?_, fun b hb s hs' => ?_⟩
  · show (B.bs.length : Int) + (rst 2 o B.ss).length ≤ B.cap
    rw [rst_length]; omega
  · rcases List.mem_append.1 (show x ∈ B.bs ++ rst 2 o B.ss from hxm) with hm | hm
    · exact h.rests x (by simp [hm])
    · rcases rst_mem hm with rfl | hm
      · exact hs
      · exact h.rests x (by simp [hm])
  · show (ids (B.bs ++ rst 2 o B.ss)).Nodup
    have : (ids (B.bs ++ rst 2 o B.ss)).Perm (o.id :: ids (B.bs ++ B.ss)) := by
      have := ((hp.append_left B.bs).trans List.perm_middle).map Ord.id
      exact this
    refine this.nodup_iff.2 (List.nodup_cons.2 ⟨fun hm => hf _ hm rfl, h.nd⟩)
  · show Sd 2 (rst 2 o B.ss)
    rw [rst_ins h.s2]; exact ins_sd h.s2
  · rcases rst_mem (show s ∈ rst 2 o B.ss from hs') with rfl | hm
    · exact hx b hb
    · exact h.cross b hb s hm
theorem restOf_V {o : Ord} {left q hg : Int} (h0 : left ≠ 0) (h1 : 0 ≤ left) (h2 : left ≤ q) (h3 : q ≤ 4294967295) (h4 : o.pk ≤ q) (h5 : 0 ≤ o.pk) (h6 : o.pk = 0 ∨ q ≤ 256 * o.pk) (hid : 1 ≤ o.id ∧ o.id ≤ hg) (hu : U o.id) (ht : o.ty = 1 ∨ o.ty = 5) (hp : 0 ≤ o.pr ∧ o.pr < 262144) : (restOf o left).V hg := by
  unfold restOf Ord.V Ord.rests Rests Ord.wf U at *
  simp only
  split <;> omega
/-- an order that can come -/
structure Tk.V (t : Tk) (B : Bk) : Prop where
  sd : t.side = 1 ∨ t.side = 2
  q : 1 ≤ t.left ∧ t.left ≤ 4294967295
  pk : 0 ≤ t.o.pk ∧ t.o.pk ≤ t.left
  pk2 : t.o.pk = 0 ∨ t.left ≤ 256 * t.o.pk
  room : t.kind = 1 ∨ t.kind = 5 → (B.bs.length : Int) + B.ss.length < B.cap
  id : 1 ≤ t.o.id ∧ U t.o.id
  ty : t.o.ty = t.kind
  pr : 0 ≤ t.o.pr ∧ t.o.pr < 262144
  kd : 1 ≤ t.kind ∧ t.kind ≤ 5
  fresh : ∀ i ∈ ids (B.bs ++ B.ss), i < t.o.id
  post : t.kind = 5 → headReach t.side t.kind t.o.pr (B.side (3 - t.side)) = false
theorem ts_ok' {B : Bk} {evs : List Ev} {t : Tk} (h : B.Vl) (k : t.V B) : (B.ts evs t).Ok := ts_ok h.inv.good (by have := k.q; omega) (by have := k.q; omega)
theorem comes_vl {B : Bk} {evs : List Ev} {t : Tk} (h : B.Vl) (k : t.V B) (hh : t.o.id ≤ B.high) : (B.comes evs t).1.Vl := by
  have hOk : (B.ts evs t).Ok := ts_ok' h k
  have hrun := tr_run (meet := B.meet) (t := t) hOk
  obtain ⟨zok, zlen, _, zl⟩ := hrun.ok hOk
  unfold Bk.comes
  split
  · exact num_vl _ h
  · simp only
    generalize tr B.meet t (B.ts evs t) = z at *
    obtain ⟨v1, v2, v3, v4, v5⟩ := traded_vl h k.sd hrun zlen
    split
    · exact v1
    · rename_i hl0
      split
      · exact num_vl _ v1
      · rename_i hk
        have hc := B.put_cap (3 - t.side) z.L
        have hlo := zok.lo
        have hG : (restOf t.o z.left).V (B.traded t z).high := restOf_V (q := t.left) hl0 hlo zl k.q.2 k.pk.2 k.pk.1 k.pk2 ⟨k.id.1, by show _ ≤ (B.put (3 - t.side) z.L).high; rw [hc.2.2.1]; exact hh⟩ k.id.2 (by rw [k.ty]; omega) k.pr
        have hf : ∀ i ∈ ids ((B.traded t z).bs ++ (B.traded t z).ss), i ≠ (restOf t.o z.left).id := fun i hi e => by
          have := k.fresh i (v2 hi)
          have e2 : (restOf t.o z.left).id = t.o.id := rfl
          omega
        have hcap : ((B.traded t z).bs.length : Int) + (B.traded t z).ss.length < (B.traded t z).cap := by
          have h1 := k.room (by omega)
          have h2 := (traded_inv (t := t) h.inv zok zlen).2
          have h3 : (B.traded t z).cap = B.cap := hc.1
          omega
        have hx := v5 (by omega) (by omega)
        have e2 : (restOf t.o z.left).pr = t.o.pr := rfl
        generalize B.traded t z = B1 at *
        rcases k.sd with hs | hs
        · rw [hs] at v3 v4 hx ⊢
          exact put_vl1 v1 hG hf hcap fun s hs' => by
            have := hx s (by rw [← v4]; exact hs')
            unfold bet at this; simp at this; omega
        · rw [hs] at v3 v4 hx ⊢
          exact put_vl2 v1 hG hf hcap fun s hs' => by
            have := hx s (by rw [← v4]; exact hs')
            unfold bet at this; simp at this; omega
theorem cmg_ty {c : Cm} {tg : Option Ord} {side : Int} : (cmg c tg side).o.ty = (cmg c tg side).kind := by
  unfold cmg
  cases tg with
  | none => rfl
  | some o => simp only; split <;> rfl
theorem cmg_kd {c : Cm} {tg : Option Ord} {side : Int} (h1 : c.k = 1 → 1 ≤ c.ty ∧ c.ty ≤ 5) (hk : c.k = 1 ∨ c.k = 3) (h3 : c.k = 3 → tg ≠ none) (ht : ∀ o, tg = some o → o.ty = 1 ∨ o.ty = 5) : 1 ≤ (cmg c tg side).kind ∧ (cmg c tg side).kind ≤ 5 := by
  unfold cmg
  cases tg with
  | none =>
    rcases hk with hk | hk
    · exact h1 hk
    · exact absurd rfl (h3 hk)
  | some o =>
    simp only; split
    · have := ht o rfl; show 1 ≤ o.ty ∧ o.ty ≤ 5; omega
    · rename_i hk'
      exact h1 (by omega)
theorem tgt_mem {B : Bk} {c : Cm} {o : Ord} (h : B.tgt c = some o) : o ∈ B.bs ++ B.ss ∧ ((B.at_ c).1 = 1 ∨ (B.at_ c).1 = 2) ∧ o.id = c.tg := by
  rcases at_spec B c with ⟨_, h', _⟩ | ⟨s, hs, i, hi, e, h', hid⟩
  · rw [h'] at h; cases h
  · rw [h'] at h; cases h
    exact ⟨B.side_sub _ _ (List.getElem_mem hi), by rw [e]; exact hs, hid⟩
theorem head_sub {s k p : Int} {l l' : List Ord} (h : headReach s k p l = false) (hl : ∀ y ∈ l', ∃ x ∈ l, x.pr = y.pr) (hs : Sd (3 - s) l) (hsd : s = 1 ∨ s = 2) : headReach s k p l' = false := by
  cases l' with
  | nil => rfl
  | cons y l' =>
    obtain ⟨x, hx, e⟩ := hl y (by simp)
    cases l with
    | nil => cases hx
    | cons z l =>
      have hz : reach s k p z.pr = false := h
      show reach s k p y.pr = false
      rw [← e]
      rcases List.mem_cons.1 hx with rfl | hx
      · exact hz
      · have := List.rel_of_pairwise_cons hs hx
        unfold reach bet at *
        rcases hsd with rfl | rfl <;> simp_all <;> omega
/-- the order that a command lets come can come -/
theorem cmg_V {B : Bk} {c : Cm} (h : B.Vl) (hw : c.wf) (h0 : B.why c = 0) (h2 : c.k ≠ 2) : (cmg c (B.tgt c) (B.at_ c).1).V (((B.goes c).num (nx (B.goes c).seq)).top (cmg c (B.tgt c) (B.at_ c).1).o.id) ∧ B.high < (cmg c (B.tgt c) (B.at_ c).1).o.id := by
  obtain ⟨z1, z2, z3, z4, z5⟩ := rfs_zero h0
  obtain ⟨s1, s2, s3, s4, s5, s6, s7, s8⟩ := chk_sized z2 h2 hw
  obtain ⟨f1, f2, f3, f4⟩ := cmg_facts (c := c) (tg := B.tgt c) (side := (B.at_ c).1)
  have hid := hw.1
  have hpk := hw.2.2
  have hk := chk_kinds (c := c) (by rw [z2]; decide)
  have hty := cmg_ty (c := c) (tg := B.tgt c) (side := (B.at_ c).1)
  have hkd := cmg_kd (c := c) (tg := B.tgt c) (side := (B.at_ c).1) (fun e => ⟨(s8 e).1, (s8 e).2.1⟩) (by omega) (fun e => z1 (by omega)) (fun o ho => by
    have := (h.rests o (tgt_mem ho).1).1; unfold Ord.rests Rests at this; exact this.2.1)
  have hside := cmg_side (c := c) (tg := B.tgt c) (side := (B.at_ c).1) z2 h2 (fun e => z1 (by omega)) (fun hn => by
    cases ht : B.tgt c with
    | none => exact absurd ht hn
    | some o => exact (tgt_mem ht).2.1)
  have hgv := goes_vl (c := c) h z1
  have hgc := goes_cap B c
  have z3' := z3 h2
  have hfr : ∀ i ∈ ids ((B.goes c).bs ++ (B.goes c).ss), i < c.id := fun i hi => by
    obtain ⟨o, ho, rfl⟩ := List.mem_map.1 hi
    have := (h.rests o (Bk.goes_mem ho)).1
    unfold Ord.rests Rests at this; omega
  generalize cmg c (B.tgt c) (B.at_ c).1 = t at *
  unfold U at hid hpk
  refine ⟨⟨hside, by omega, by omega, by rw [f1, f2]; exact s4, fun hk' => ?_, ⟨by omega, by rw [f3]; exact hid⟩, hty, by omega, hkd, fun i hi => by rw [f3]; exact hfr i hi, fun h5 => ?_⟩, by omega⟩
  · show ((B.goes c).bs.length : Int) + (B.goes c).ss.length < (B.goes c).cap
    rw [hgc.1]
    by_cases h1 : c.k = 1
    · have := z4 h1 hk'
      have hl := B.goes_len c
      omega
    · have := goes_len1 h1 (z1 h1)
      have := h.len
      omega
  · have hr := z5 h2 h5
    have hm : ∀ s : Int, ∀ y ∈ (B.goes c).side s, ∃ x ∈ B.side s, x.pr = y.pr := fun s y hy => by
      unfold Bk.goes at hy
      split at hy
      · refine ⟨y, ?_, rfl⟩
        unfold Bk.put Bk.num Bk.side at *
        by_cases e1 : (B.at_ c).1 = 1 <;> by_cases e2 : s = 1 <;> simp [e1, e2] at hy ⊢
        · exact List.mem_of_mem_eraseIdx hy
        · exact hy
        · exact hy
        · exact List.mem_of_mem_eraseIdx hy
      · exact ⟨y, hy, rfl⟩
    show headReach t.side t.kind t.o.pr ((B.goes c).side (3 - t.side)) = false
    rcases hside with e | e
    · rw [e] at hr ⊢
      exact head_sub hr (hm 2) h.s2 (.inl rfl)
    · rw [e] at hr ⊢
      exact head_sub hr (hm 1) h.s1 (.inr rfl)
theorem does_vl {B : Bk} {c : Cm} (h : B.Vl) (hw : c.wf) : (B.does c).1.Vl := by
  unfold Bk.does
  by_cases h0 : B.why c ≠ 0
  · rw [if_pos h0]; exact num_vl _ h
  rw [if_neg h0]
  have h0' : B.why c = 0 := Decidable.of_not_not h0
  obtain ⟨z1, _⟩ := rfs_zero h0'
  have hgv := goes_vl (c := c) h z1
  by_cases h2 : c.k ≠ 2
  · rw [if_pos h2]
    obtain ⟨hV, hlt⟩ := cmg_V h hw h0' h2
    have hgc := goes_cap B c
    exact comes_vl (top_vl (num_vl _ hgv) (by show (B.goes c).high ≤ _; rw [hgc.2.2]; omega)) hV (Int.le_refl _)
  · rw [if_neg h2]; exact hgv
end Go.Proofs.Ytinmhhonpflojaa

/- A book's sides make levels that fit. -/
namespace Go.Proofs.Ytinmhhonpflojaa
open Go.V
set_option linter.unusedVariables false
set_option linter.unusedSimpArgs false

theorem bet_wse {s p q : Int} (h : bet s p q = false) : p = q ∨ wse s p q = true := by
  unfold bet at h
  unfold wse
  by_cases hs : s = 1 <;> simp [hs] at h ⊢ <;> omega
theorem srtl_of {s : Int} : ∀ (l : List Ord) (p : Option Int), (∀ x, p = some x → ∀ o ∈ l, bet s o.pr x = false) → Sd s l → (∀ o ∈ l, 1 ≤ o.v ∧ o.v ≤ 4294967296 ∧ 0 ≤ o.pr ∧ o.pr < 262144) → SrtL s p l
  | [], p, _, _, _ => trivial
  | o :: l, p, hp, hs, hv => by
    obtain ⟨h1, h2⟩ := List.pairwise_cons.1 hs
    exact ⟨fun x hx => bet_wse (hp x hx o (by simp)), hv o (by simp), srtl_of l (some o.pr) (fun x hx y hy => by cases hx; exact h1 y hy) h2 fun y hy => hv y (List.mem_cons_of_mem _ hy)⟩
theorem V_rng {o : Ord} {h : Int} (k : o.V h) : 1 ≤ o.v ∧ o.v ≤ 4294967296 ∧ 0 ≤ o.pr ∧ o.pr < 262144 := by
  obtain ⟨k1, k2⟩ := k
  unfold Ord.rests Rests at k1
  unfold Ord.wf U at k2
  omega
theorem fit_of {s high : Int} {l : List Ord} (most : Int) (hs : Sd s l) (hv : ∀ o ∈ l, o.V high) (hl : l.length ≤ 1000000) : Fit s (dps most [] l) :=
  dps_fit s most l [] 0 (by omega) (Fit.nil s) (by simp) (srtl_of l _ (fun x hx => by simp at hx) hs fun o ho => V_rng (hv o ho))
end Go.Proofs.Ytinmhhonpflojaa

/- The trades that a book tells can be told by a publisher. -/
namespace Go.Proofs.Ytinmhhonpflojaa
open Go.V
set_option linter.unusedVariables false
set_option linter.unusedSimpArgs false

theorem trOk_app {a b : List Ev} (h1 : trOk a) (h2 : trOk b) : trOk (a ++ b) := fun e he hk => by
  rcases List.mem_append.1 he with he | he
  · exact h1 e he hk
  · exact h2 e he hk
theorem trOk_not3 {e : Ev} (h : e.kind ≠ 3) : trOk [e] := fun y hy hk => by
  have := List.mem_singleton.1 hy; subst this; exact absurd hk h
theorem trOk_trade {id other sd pr q s : Int} (h1 : sd = 1 ∨ sd = 2) (h2 : 0 ≤ pr ∧ pr < 262144) (h3 : 1 ≤ q) : trOk [(evTrade id other sd pr q).num s] := fun y hy hk => by
  have := List.mem_singleton.1 hy; subst this
  exact ⟨Int.le_refl 1, h1, h2, .inr ⟨rfl, h3, rfl⟩⟩
def prs (l : List Ord) : Prop := ∀ f ∈ l, 0 ≤ f.pr ∧ f.pr < 262144
theorem trd_step {meet : Int} {t : Tk} {s s' : TS} (h : s.Ok) (hp : prs s.L) (ht : t.side = 1 ∨ t.side = 2) (hs : s.step meet t = some s') (h0 : trOk s.evs) : trOk s'.evs ∧ prs s'.L := by
  obtain ⟨L, left, seq, evs⟩ := s
  obtain ⟨hg, hlo, hhi⟩ := h
  unfold TS.step at hs
  simp only at hs hg hlo hhi h0 hp
  cases L with
  | nil => cases hs
  | cons f rest =>
    simp only at hs
    split at hs
    · rename_i hc
      have hfG := hg f (by simp)
      have hv : 1 ≤ f.v := hfG.1
      have hpf := hp f (by simp)
      have hpr : prs rest := fun y hy => hp y (List.mem_cons_of_mem _ hy)
      have hT : ∀ n, trOk (evs ++ [(evTrade t.o.id f.id t.side f.pr (min left f.v)).num n]) := fun n => trOk_app h0 (trOk_trade ht hpf (by omega))
      have hC : ∀ {l : List Ev} (a b c n : Int), trOk l → trOk (l ++ [(evCancel a b c).num n]) := fun a b c n hl => trOk_app hl (trOk_not3 (by simp [evCancel, Ev.num]))
      simp only [Option.some.injEq] at hs
      subst hs
      split
      · simp only [TS.meets]
        by_cases m1 : meet = 1
        · rw [if_pos m1, if_neg (show ¬ meet = 2 by omega)]
          exact ⟨hC _ _ _ _ h0, hp⟩
        · rw [if_neg m1]
          by_cases m2 : meet = 2
          · rw [if_pos m2]; exact ⟨hC _ _ _ _ h0, hpr⟩
          · rw [if_neg m2]
            exact ⟨hC _ _ _ _ (hC _ _ _ _ h0), hpr⟩
      · simp only [TS.hit]
        split
        · exact ⟨hT _, fun y hy => by
            rcases List.mem_cons.1 hy with rfl | hy
            · exact hpf
            · exact hpr y hy⟩
        · split
          · refine ⟨trOk_app (hT _) (trOk_not3 (by simp [evRefresh, Ev.num])), fun y hy => ?_⟩
            rcases rst_mem hy with rfl | hy
            · exact hpf
            · exact hpr y hy
          · exact ⟨hT _, hpr⟩
    · cases hs
theorem trd_run {meet : Int} {t : Tk} {s z : TS} (hr : TRun meet t s z) (h : s.Ok) (hp : prs s.L) (ht : t.side = 1 ∨ t.side = 2) (h0 : trOk s.evs) : trOk z.evs := by
  induction hr with
  | stop _ => exact h0
  | step hs _ ih =>
    obtain ⟨a1, a2⟩ := trd_step h hp ht hs h0
    exact ih (h.step hs).1 a2 a1
theorem trd_comes {B : Bk} {evs : List Ev} {t : Tk} (h : (B.ts evs t).Ok) (hp : prs (B.side (3 - t.side))) (ht : t.side = 1 ∨ t.side = 2) (h0 : trOk evs) : trOk (B.comes evs t).2 := by
  have hz : trOk (tr B.meet t (B.ts evs t)).evs := trd_run (tr_run h) h hp ht h0
  have hC : ∀ {l : List Ev} (a b c n : Int), trOk l → trOk (l ++ [(evCancel a b c).num n]) := fun a b c n hl => trOk_app hl (trOk_not3 (by simp [evCancel, Ev.num]))
  unfold Bk.comes
  split
  · exact hC _ _ _ _ h0
  · dsimp only
    split
    · exact hz
    · split
      · exact hC _ _ _ _ hz
      · exact hz
theorem trd_gone (B : Bk) (c : Cm) : trOk (B.gone c) := by
  unfold Bk.gone
  split
  · split
    · exact trOk_not3 (by simp [evCancel, Ev.num])
    · intro e he; cases he
  · intro e he; cases he
theorem trd_does {B : Bk} {c : Cm} (h : B.Vl) (hw : c.wf) : trOk (B.does c).2 := by
  unfold Bk.does
  by_cases h0 : B.why c ≠ 0
  · rw [if_pos h0]; exact trOk_not3 (by simp [evReject, Ev.num])
  rw [if_neg h0]
  have h0' : B.why c = 0 := Decidable.of_not_not h0
  obtain ⟨z1, _⟩ := rfs_zero h0'
  have hgv := goes_vl (c := c) h z1
  by_cases h2 : c.k ≠ 2
  · rw [if_pos h2]
    obtain ⟨hV, hlt⟩ := cmg_V h hw h0' h2
    have hgc := goes_cap B c
    have hB : Bk.Vl (((B.goes c).num (nx (B.goes c).seq)).top (cmg c (B.tgt c) (B.at_ c).1).o.id) := top_vl (num_vl _ hgv) (by show (B.goes c).high ≤ _; rw [hgc.2.2]; omega)
    exact trd_comes (ts_ok' hB hV) (fun f hf => by have := V_rng (hB.rests f (Bk.side_sub _ _ f hf)); exact ⟨this.2.2.1, this.2.2.2⟩) hV.sd (trOk_app (trd_gone B c) (trOk_not3 (by simp [evAck, Ev.num])))
  · rw [if_neg h2]; exact trd_gone B c
end Go.Proofs.Ytinmhhonpflojaa

/- The document's Publish. -/
namespace Go.Proofs.Ytinmhhonpflojaa
open Go.V
set_option linter.unusedVariables false
set_option linter.unusedSimpArgs false

set_option maxRecDepth 20000 in
set_option maxHeartbeats 1000000 in
theorem refpublish_ok (w : World) (depth : Nat) (hd : depth ≤ 64) (p : Pc) (hq : 0 ≤ p.seq ∧ p.seq < 18446744073709551616) (f1 : Fit 1 p.bs) (f2 : Fit 2 p.ss) (A1 A2 B1 B2 Be : Option Addr) (a1 a2 c1 c2 ce : Nat) (bs ss : List Lv) (evs : List Ev)
    (h1 : Rd w [] A1 (lrows p.bs)) (h2 : Rd w [] A2 (lrows p.ss)) (r1 : Rd w [] B1 (lrows bs)) (r2 : Rd w [] B2 (lrows ss)) (re : Rd w [] Be (erows evs)) (hc1 : bs.length ≤ c1) (hc2 : ss.length ≤ c2)
    (hb : bs.length + ss.length + evs.length ≤ 4000000) (hp : p.bs.length + p.ss.length ≤ 1000) :
    Does Try.prog 19 [.agg ⟨ubcells depth p.seq (.slice A1 p.bs.length a1) (.slice A2 p.ss.length a2)⟩, .slice B1 bs.length c1, .slice B2 ss.length c2, .slice Be evs.length ce] [] w
      (fun v hs => match p.pub depth bs ss evs with
        | none => v = .tuple ⟨[.agg ⟨ubcells depth p.seq (.slice A1 p.bs.length a1) (.slice A2 p.ss.length a2)⟩, .slice none 0 0, .int .i64 1]⟩ ∧ hs = []
        | some (p', ms) => ∃ v1 v2 vm k1 k2 hm, v = .tuple ⟨[.agg ⟨ubcells depth p'.seq v1 v2⟩, vm, .int .i64 0]⟩ ∧ LOwn v1 p'.bs k1 ∧ LOwn v2 p'.ss k2 ∧ DOwn vm ms hm ∧ hs = k1 ++ (k2 ++ hm)) := by
  refine Does.less (Does.of (n := 107) Try.func19 rfl rfl rfl rfl ?_)
  refine .seq ((.region (.nw (.box (l := ubcells depth p.seq (.slice A1 p.bs.length a1) (.slice A2 p.ss.length a2)) rfl rfl) fun b4 => (.nw .alloc fun b8 => (.v (.assign rfl) (.v (.assign rfl) (.nil ?_)))))))
  refine .seq (.seq ((.region (.v (.move rfl) (.pc (v := .bool (decide (Fit 1 bs))) rfl rfl (fun w s => levels_ok w 1 B1 bs.length c1 bs (r1.keep0 s) rfl (by omega)) (.v (.not rfl) (.v (.move rfl) (.or (b2 := !decide (Fit 2 ss)) 21 24 3 3 rfl rfl (fun g1 => .v (.move rfl) (.pc (v := .bool (decide (Fit 2 ss))) rfl rfl (fun w s => levels_ok w 2 B2 ss.length c2 ss (r2.keep0 s) rfl (by omega)) (.v (.not rfl) (.nil ⟨rfl, rfl, rfl, rfl⟩)))) (.nil ?_)))))))))
  refine .cond rfl (fun h1 => ?_) (fun h1 => .skip ?_)
  · simp only [Bool.and_eq_true, Bool.or_eq_true, Bool.not_eq_true', Bool.and_eq_false_iff, Bool.or_eq_false_iff, Bool.not_eq_false', decide_eq_true_eq, decide_eq_false_iff_not, Bool.false_eq_true, false_iff] at h1
    have e : p.pub depth bs ss evs = none := Pc.pub_none fun h => by rcases h1 with h1 | h1; exact h1 h.1; exact h1 h.2.1
    rw [e]
    refine .seq ((.region (.v (.loadA (vs := ubcells depth p.seq (.slice A1 p.bs.length a1) (.slice A2 p.ss.length a2)) rfl .whole rfl) (.st (.sw rfl rfl) (.v (.assign rfl) (.v (.assign rfl) (.nil ?_)))))))
    exact .ret ⟨[_, _, _], ⟨⟨_, rfl, .inr ⟨4, _, inferInstance, rfl, rfl, .whole⟩⟩, rfl, rfl, trivial⟩, [], fun _ s => s.take, rfl, rfl⟩
  · simp only [Bool.and_eq_true, Bool.or_eq_true, Bool.not_eq_true', Bool.and_eq_false_iff, Bool.or_eq_false_iff, Bool.not_eq_false', decide_eq_true_eq, decide_eq_false_iff_not, Bool.false_eq_true, false_iff] at h1
    refine .seq ((.region (.v (.assign rfl) (.nil ?_))))
    refine .seq (.seq ((.region (.v (.assign rfl) (.nil ?_)))))
    refine .block (.loop (X := TrS) (fun x => [(1, .slice B1 bs.length c1), (2, .slice B2 ss.length c2), (3, .slice Be evs.length ce), (4, .pointer (some ⟨b4, 0, none⟩)), (8, .pointer (some ⟨b8, 0, none⟩)), (11, x.v), (12, .int .i64 x.i)]) (fun x => x.h ++ [(b4, .cells (ubcells depth p.seq (.slice A1 p.bs.length a1) (.slice A2 p.ss.length a2)) 42), (b8, .cells (ubcells 0 0 (.slice none 0 0) (.slice none 0 0)) 42)]) (TrS.I evs) (fun x => evs.length - x.i) ⟨0, .slice none 0 0, []⟩ ⟨by simp, OwnS.nil _ _, fun e he => by simp at he⟩ (.cons rfl (.cons rfl (.cons rfl (.cons rfl (.cons rfl (.cons rfl (.cons rfl (.nil _)))))))) (fun _ s => s.take) ?_)
    intro x hI
    have hle := hI.le
    have htl := trs_length (evs.take x.i)
    rw [List.length_take] at htl
    refine .seq (.seq ((.region (.v (.move rfl) (.v (.move rfl) (.v (.len rfl) (.v (.lss rfl rfl) (.nil ?_))))))))
    refine .cond_dec rfl (fun h2 => .skip ?_) (fun h2 => .exit ?_)
    · have hil : x.i < evs.length := by omega
      obtain ⟨be, oe, rfl, hc⟩ := Rd.recs Ev.cells 13 (fun _ => rfl) re (by omega) (by omega)
      have q := fun hs => recAt Ev.cells 13 (fun _ => rfl) (z := (x.i : Int)) (hc hs) hil
      have hst := trs_take hil
      obtain ⟨e, he⟩ : ∃ e, evs[x.i] = e := ⟨_, rfl⟩
      rw [he] at q hst
      refine .seq (.block (.seq ((.region (.v (.move rfl) (.v (.move rfl) (.v (.indexAddr rfl rfl (by omega) (by omega)) (.v (.loadA (vs := e.cells) rfl (q _) rfl) (.nw .alloc fun b13 => (.st (.sw rfl rfl) (.nil ?_)))))))))))
      refine .seq (.seq ((.region (.v (.fieldAddr rfl) (.v (.load (v := .int .i64 e.kind) rfl (.one rfl)) (.v (.nei rfl rfl) (.nil ?_)))))))
      refine .cond_dec rfl (fun h3 => .exit ?_) (fun h3 => .skip ?_)
      · refine .region (.v (.move rfl) (.v (.addi rfl rfl (by omega)) (.v (.assign rfl) (.nil ?_))))
        rw [if_neg (by omega), List.append_nil] at hst
        refine ⟨⟨x.i + 1, x.v, x.h⟩, ⟨by show x.i + 1 ≤ _; omega, ?_, hI.step hil he (fun hk => absurd hk (by omega))⟩, by show evs.length - (x.i + 1) < _; omega, .cons rfl (.cons rfl (.cons rfl (.cons rfl (.cons rfl (.cons rfl (.cons rfl (.nil _))))))), fun _ s => s.take⟩
        rw [hst]; exact hI.o
      · have hk : e.kind = 3 := by omega
        refine .seq ((.region (.v (.fieldAddr rfl) (.v (.load (v := .int .i64 e.sd) rfl (.one rfl)) (.v (.fieldAddr rfl) (.v (.load (v := .int .i64 e.pr) rfl (.one rfl)) (.v (.fieldAddr rfl) (.v (.load (v := .int .u64 e.q) rfl (.one rfl)) (.v (.build (out := (trd e).cells) rfl rfl) (.nw .alloc fun b14 => (.st (.sw rfl rfl) (.nil ?_))))))))))))
        refine .seq (.seq ((.region (.v (.loadA (vs := (trd e).cells) rfl .whole rfl) (.pc (v := .bool (decide (trd e).can)) rfl rfl (fun w s => Message_ok w 1 2 e.sd e.pr e.q 0) (.v (.not rfl) (.nil ?_)))))))
        refine .cond rfl (fun h4 => ?_) (fun h4 => .skip ?_)
        · simp only [Bool.and_eq_true, Bool.or_eq_true, Bool.not_eq_true', Bool.and_eq_false_iff, Bool.or_eq_false_iff, Bool.not_eq_false', decide_eq_true_eq, decide_eq_false_iff_not, Bool.false_eq_true, false_iff] at h4
          have e1 : p.pub depth bs ss evs = none := Pc.pub_none fun h => trOk_not hil he hk h4 h.2.2
          rw [e1]
          refine .seq ((.region (.v (.loadA (vs := ubcells depth p.seq (.slice A1 p.bs.length a1) (.slice A2 p.ss.length a2)) rfl .whole rfl) (.st (.sw rfl rfl) (.v (.assign rfl) (.v (.assign rfl) (.nil ?_)))))))
          exact .ret ⟨[_, _, _], ⟨⟨_, rfl, .inr ⟨4, _, inferInstance, rfl, rfl, .whole⟩⟩, rfl, rfl, trivial⟩, [], fun _ s => s.take, rfl, rfl⟩
        · simp only [Bool.and_eq_true, Bool.or_eq_true, Bool.not_eq_true', Bool.and_eq_false_iff, Bool.or_eq_false_iff, Bool.not_eq_false', decide_eq_true_eq, decide_eq_false_iff_not, Bool.false_eq_true, false_iff] at h4
          refine .region (.v (.move rfl) (.v (.loadA (vs := (trd e).cells) rfl .whole rfl) (.push (vs := drows (trs (evs.take x.i))) (c := (trs (evs.take x.i)).length) (oc := (trd e).cells) rfl rfl hI.o rfl rfl rfl (by omega) (by omega) ?_)))
          intro b9 v' h' k'
          refine .v (.assign rfl) (.nil ?_)
          refine .region (.v (.move rfl) (.v (.addi rfl rfl (by omega)) (.v (.assign rfl) (.nil ?_))))
          rw [if_pos hk] at hst
          refine ⟨⟨x.i + 1, v', h'⟩, ⟨by show x.i + 1 ≤ _; omega, ?_, hI.step hil he (fun _ => h4)⟩, by show evs.length - (x.i + 1) < _; omega, .cons rfl (.cons rfl (.cons rfl (.cons rfl (.cons rfl (.cons rfl (.cons rfl (.nil _))))))), fun _ s => s.take⟩
          unfold DOwn
          rw [hst, List.length_append, drows_app]; simpa [drows] using k'
    · have hok : okPub bs ss evs := ⟨h1.1, h1.2, trOk_full (by omega) hI.ok⟩
      have hfull : evs.take x.i = evs := List.take_of_length_le (by omega)
      have ho := hI.o
      rw [hfull] at ho
      rw [Pc.pub_some hok]
      obtain ⟨i0, v0, h0⟩ := x
      dsimp only at ho ⊢
      clear hI hfull hle htl
      have htl := trs_length evs
      refine .seq ((.drawP [0, 1, 2, 4, 5, 6, 3, 7, 8, 9] [(b4, .cells (ubcells depth p.seq (.slice A1 p.bs.length a1) (.slice A2 p.ss.length a2)) 42)] (by intro y hy; simp at hy; subst hy; simp) (by kernel_rfl) (by kernel_rfl) ?_))
      refine .v (fun _ f => .move rfl) (.v (fun _ f => .fieldAddr rfl) (.v (fun _ f => .load (v := .int .i64 depth) rfl (.one (hb := .sub f) rfl)) (.v (fun _ f => .move rfl) (.v (fun _ f => .fieldAddr rfl) (.v (fun _ f => .load (v := .int .i64 depth) rfl (.one (hb := .sub f) rfl)) ?_)))))
      refine .cl rfl rfl (fun w s => first_ok w B1 bs.length c1 depth bs (r1.keep0 s) rfl hc1 (by omega) (by omega)) ?_
      intro n1 q1 o1
      refine .cl rfl rfl (fun w s => first_ok w B2 ss.length c2 depth ss (r2.keep0 s) rfl hc2 (by omega) (by omega)) ?_
      intro n2 q2 o2
      obtain ⟨N1, d1, rfl⟩ := lown_sl o1
      obtain ⟨N2, d2, rfl⟩ := lown_sl o2
      refine .v (fun _ f => .assign rfl) (.v (fun _ f => .assign rfl) (.nil ?_))
      have t1 : (bs.take depth).length ≤ 64 := by rw [List.length_take]; omega
      have t2 : (ss.take depth).length ≤ 64 := by rw [List.length_take]; omega
      have g1 := hok.1.take depth
      have g2 := hok.2.1.take depth
      generalize bs.take depth = nb at o1 t1 g1 ⊢
      generalize ss.take depth = ns at o2 t2 g2 ⊢
      have cl1 := chg_length 1 p.bs nb
      have cl2 := chg_length 2 p.ss ns
      refine .seq ((.region (.v (.move rfl) (.v (.fieldAddr rfl) (.v (.fieldAddr rfl) (.v (.load (v := .slice A1 p.bs.length a1) rfl (.one rfl)) (.v (.move rfl) ?_)))))))
      refine .ef (.call0 rfl rfl fun w s => refchanges_ok w 1 A1 N1 a1 d1 p.bs nb (Rd.keep0 (by assumption) s) (OwnS.rd o1 s (no := []) (fun y hy => by simp [hy]) (by simp)) f1 g1 (by omega)) ?_
      rintro vc _ ⟨hc1', oc1, rfl⟩
      refine .appT (vs := drows (trs evs)) (c := (trs evs).length) (k := (chg 1 p.bs nb).length) (news := drows (chg 1 p.bs nb)) rfl rfl ho (fun w s => oc1.src s (fun y hy => by simp [hy]) (by omega)) (drows_length _) (drows_ones _) (by omega) (by omega) ?_
      intro va ha oa
      refine .v (.assign rfl) (.nil ?_)
      refine .seq ((.region (.v (.move rfl) (.v (.fieldAddr rfl) (.v (.fieldAddr rfl) (.v (.load (v := .slice A2 p.ss.length a2) rfl (.one rfl)) (.v (.move rfl) ?_)))))))
      refine .ef (.call0 rfl rfl fun w s => refchanges_ok w 2 A2 N2 a2 d2 p.ss ns (Rd.keep0 (by assumption) s) (OwnS.rd o2 s (no := []) (fun y hy => by simp [hy]) (by simp)) f2 g2 (by omega)) ?_
      rintro vc2 _ ⟨hc2', oc2, rfl⟩
      refine .appT (vs := drows (trs evs) ++ drows (chg 1 p.bs nb)) (c := (trs evs).length + (chg 1 p.bs nb).length) (k := (chg 2 p.ss ns).length) (news := drows (chg 2 p.ss ns)) rfl rfl oa (fun w s => oc2.src s (fun y hy => by simp [hy]) (by omega)) (drows_length _) (drows_ones _) (by omega) (by omega) ?_
      intro vb' hb' ob
      refine .v (.assign rfl) (.nil ?_)
      have obr : DOwn vb' (raw p nb ns evs) hb' := by
        unfold DOwn raw
        rw [List.length_append, List.length_append, drows_app, drows_app]; exact ob
      have hrl : (raw p nb ns evs).length ≤ 4010000 := by unfold raw; rw [List.length_append, List.length_append]; omega
      obtain ⟨M, m, rfl⟩ := OwnS.slice obr
      generalize hraw : raw p nb ns evs = rw_ at obr hrl ⊢
      clear ob oa ho oc1 oc2
      refine .keep (hb' ++ ((b4, .cells (ubcells depth p.seq (.slice A1 p.bs.length a1) (.slice A2 p.ss.length a2)) 42) :: (b8, .cells (ubcells 0 0 (.slice none 0 0) (.slice none 0 0)) 42) :: (q1 ++ q2))) ?_
      refine .seq (.seq ((.region (.v (.assign rfl) (.nil ?_)))))
      refine .block (.loop (X := Nat × Hp) (fun x => [(4, .pointer (some ⟨b4, 0, none⟩)), (8, .pointer (some ⟨b8, 0, none⟩)), (11, .slice M rw_.length m), (15, .slice N1 nb.length d1), (16, .slice N2 ns.length d2), (17, .int .i64 x.1)]) (fun x => x.2 ++ ((b4, .cells (ubcells depth p.seq (.slice A1 p.bs.length a1) (.slice A2 p.ss.length a2)) 42) :: (b8, .cells (ubcells 0 0 (.slice none 0 0) (.slice none 0 0)) 42) :: (q1 ++ q2)))
        (fun x => x.1 ≤ rw_.length ∧ OwnS 24 6 (.slice M rw_.length m) rw_.length (drows (numd p.seq rw_ x.1)) x.2) (fun x => rw_.length - x.1) ⟨0, hb'⟩ ⟨by simp, by rw [numd_zero]; exact obr⟩ (.cons rfl (.cons rfl (.cons rfl (.cons rfl (.cons rfl (.cons rfl (.nil _))))))) (fun _ s => s) ?_)
      rintro ⟨i, h⟩ ⟨hi, k'⟩
      dsimp only at hi k' ⊢
      refine .seq (.seq ((.region (.v (.move rfl) (.v (.move rfl) (.v (.len rfl) (.v (.lss rfl rfl) (.nil ?_))))))))
      refine .cond_dec rfl (fun h5 => .skip ?_) (fun h5 => .exit ?_)
      · have hil : i < rw_.length := by omega
        obtain ⟨bm, om, lm, rfl, -, rfl, hcm, hlm, hvm⟩ := k'.some_ (by omega)
        have hw : IntKind.u64.wrap (IntKind.u64.wrap (p.seq + IntKind.u64.wrap (i : Int)) + 1) = (p.seq + ((i + 1 : Nat) : Int)) % 18446744073709551616 := by simp only [u64w]; omega
        refine .seq (.block ((.region (.v (.move rfl) (.v (.move rfl) (.v (.fieldAddr rfl) (.v (.fieldAddr rfl) (.v (.load (v := .int .u64 p.seq) rfl (.one rfl)) (.v (.move rfl) (.v (.conv rfl) (.v (.add rfl rfl) (.v (.add rfl rfl) (.v (.indexAddr rfl rfl (by omega) (by omega)) (.v (.fieldAddr rfl) (.st (.store (b := bm) (l := lm) rfl rfl rfl (by omega)) (.nil ?_))))))))))))))))
        rw [hw]
        refine .region (.v (.move rfl) (.v (.addi rfl rfl (by omega)) (.v (.assign rfl) (.nil ?_))))
        have hn : numd p.seq rw_ (i + 1) = (numd p.seq rw_ i).set i { (numd p.seq rw_ i)[i]'(by rw [numd_length]; exact hil) with s := (p.seq + ((i + 1 : Nat) : Int)) % 18446744073709551616 } := by
          rw [numd_succ _ _ _ hil, numd_get _ _ _ hil]
          have e : (p.seq + (i : Int) + 1) % 18446744073709551616 = (p.seq + ((i + 1 : Nat) : Int)) % 18446744073709551616 := by omega
          rw [e]
        have k2 : DOwn (.slice (some ⟨bm, om, none⟩) (numd p.seq rw_ i).length m) (numd p.seq rw_ i) [(bm, .cells lm 24)] := by
          unfold DOwn; rw [numd_length]; exact k'
        have k3 := down_set (i := i) (q := (p.seq + ((i + 1 : Nat) : Int)) % 18446744073709551616) k2 (by rw [numd_length]; exact hil)
        rw [← hn] at k3
        unfold DOwn at k3
        rw [numd_length, numd_length] at k3
        refine ⟨⟨i + 1, _⟩, ⟨by show i + 1 ≤ _; omega, k3⟩, by show rw_.length - (i + 1) < _; omega, .cons rfl (.cons rfl (.cons rfl (.cons rfl (.cons rfl (.cons rfl (.nil _)))))), fun _ s => ?_⟩
        rw [Int.toNat_natCast] at s
        exact s
      · have ei : i = rw_.length := by omega
        subst ei
        rw [numd_full] at k'
        have hw : IntKind.u64.wrap (p.seq + IntKind.u64.wrap (rw_.length : Int)) = (p.seq + (rw_.length : Int)) % 18446744073709551616 := by simp only [u64w]; omega
        refine .seq ((.region (.v (.fieldAddr rfl) (.v (.fieldAddr rfl) (.v (.load (v := .int .u64 p.seq) rfl (.one rfl)) (.v (.move rfl) (.v (.len rfl) (.v (.conv rfl) (.v (.add rfl rfl) (.v (.move rfl) (.v (.move rfl) (.v (.build (out := pcells (IntKind.u64.wrap (p.seq + IntKind.u64.wrap (rw_.length : Int))) (.slice N1 nb.length d1) (.slice N2 ns.length d2)) rfl rfl) (.v (.fieldAddr rfl) (.st (.storeA rfl rfl rfl rfl (by simp)) (.nil ?_)))))))))))))))
        rw [hw]
        refine .seq ((.region (.v (.loadA (vs := ubcells depth (p.next nb ns evs).seq (.slice N1 nb.length d1) (.slice N2 ns.length d2)) rfl (by unfold Pc.next; rw [hraw]; exact .whole) rfl) (.v (.move rfl) (.st (.sw rfl rfl) (.v (.assign rfl) (.v (.assign rfl) (.nil ?_))))))))
        refine .ret ⟨[_, _, _], ⟨⟨_, rfl, .inr ⟨4, _, inferInstance, rfl, rfl, .whole⟩⟩, rfl, rfl, trivial⟩, q1 ++ (q2 ++ h), fun _ s => Sat.take (pre := q1 ++ (q2 ++ h)) s, ?_⟩
        refine ⟨_, _, _, q1, q2, h, rfl, o1, o2, ?_, rfl⟩
        unfold DOwn; rw [num_length]; exact k'
end Go.Proofs.Ytinmhhonpflojaa

/- The law FeedPublishes: copies, what is written over, the makers. -/
namespace Go.Proofs.Ytinmhhonpflojaa
open Go.V
set_option linter.unusedVariables false
set_option linter.unusedSimpArgs false

set_option maxRecDepth 10000 in
theorem lcopied_ok (w : World) (A1 A2 : Option Addr) (c1 c2 : Nat) (p : Pc) (h1 : Rd w [] A1 (lrows p.bs)) (h2 : Rd w [] A2 (lrows p.ss)) (hb : p.bs.length + p.ss.length ≤ 10000000) :
    Does Try.prog 17 [.agg ⟨pcells p.seq (.slice A1 p.bs.length c1) (.slice A2 p.ss.length c2)⟩] [] w (NewPic p) := by
  refine Does.less (Does.of (n := 14) Try.func17 rfl rfl rfl rfl ?_)
  refine .seq ((.region (.nw (.box (l := pcells p.seq (.slice A1 p.bs.length c1) (.slice A2 p.ss.length c2)) rfl rfl) fun b1 => (.nw .alloc fun b2 => (.nil ?_)))))
  refine .seq ((.region (.ef (.buildSlice (out := []) rfl (by decide) rfl rfl) ?_)))
  rintro _ _ ⟨b3, rfl, rfl⟩
  refine .v (.fieldAddr rfl) (.v (.load (v := .slice A1 p.bs.length c1) rfl (.one rfl)) ?_)
  refine .appT (h := [(b3, .cells [] 109)]) (vs := []) (c := 0) (k := p.bs.length) (news := lrows p.bs) rfl rfl ⟨rfl, .inr ⟨b3, 0, 0, [], rfl, rfl, by omega, by simp, by simp⟩⟩ (fun w s => (h1.keep0 s).src (lrows_length _) (by omega)) (lrows_length _) (lrows_ones _) (by omega) (by omega) ?_
  intro v1 k1 o1
  rw [Nat.zero_add] at o1
  obtain ⟨B1, d1, rfl⟩ := lown_sl o1
  refine .v (.fieldAddr rfl) (.st (.storeL rfl rfl rfl) (.nil ?_))
  refine .seq ((.region (.ef (.buildSlice (out := []) rfl (by decide) rfl rfl) ?_)))
  rintro _ _ ⟨b8, rfl, rfl⟩
  refine .v (.fieldAddr rfl) (.v (.load (v := .slice A2 p.ss.length c2) rfl (.one rfl)) ?_)
  refine .appT (h := [(b8, .cells [] 109)]) (vs := []) (c := 0) (k := p.ss.length) (news := lrows p.ss) rfl rfl ⟨rfl, .inr ⟨b8, 0, 0, [], rfl, rfl, by omega, by simp, by simp⟩⟩ (fun w s => (h2.keep0 s).src (lrows_length _) (by omega)) (lrows_length _) (lrows_ones _) (by omega) (by omega) ?_
  intro v2 k2 o2
  rw [Nat.zero_add] at o2
  obtain ⟨B2, d2, rfl⟩ := lown_sl o2
  refine .v (.fieldAddr rfl) (.st (.storeL rfl rfl rfl) (.nil ?_))
  refine .seq ((.region (.v (.loadA (vs := pcells p.seq (.slice B1 p.bs.length d1) (.slice B2 p.ss.length d2)) rfl .whole rfl) (.st (.sw rfl rfl) (.nil ?_)))))
  exact .ret ⟨[_], ⟨⟨_, rfl, .inr ⟨3, _, inferInstance, rfl, rfl, .whole⟩⟩, trivial⟩, k2 ++ k1, fun _ s => Sat.take (pre := k2 ++ k1) s, B1, B2, d1, d2, k1, k2, rfl, rfl, o1, o2⟩
set_option maxRecDepth 10000 in
theorem Picture_ok (w : World) (b : Nat) (depth : Int) (p : Pc) (A1 A2 : Option Addr) (c1 c2 : Nat) (hb : Rd w [] (some ⟨b, 0, none⟩) (ubcells depth p.seq (.slice A1 p.bs.length c1) (.slice A2 p.ss.length c2))) (h1 : Rd w [] A1 (lrows p.bs)) (h2 : Rd w [] A2 (lrows p.ss)) (hl : p.bs.length + p.ss.length ≤ 10000000) :
    Does Try.prog 23 [.pointer (some ⟨b, 0, none⟩)] [] w (NewPic p) := by
  refine Does.less (Does.of (n := 8) Try.func23 rfl rfl rfl rfl ?_)
  refine .seq ((.region (.nw .alloc fun b2 => (.nil ?_))))
  refine .seq ((.region (.v (.move rfl) (.v (.nilCheck rfl) (.v (.fieldAddr rfl) (.v (.loadA (vs := pcells p.seq (.slice A1 p.bs.length c1) (.slice A2 p.ss.length c2)) rfl (Rd.part (i := 1) hb (fun j v hv => by rw [Nat.add_comm]; exact hv)) rfl) ?_))))))
  refine .ef (.call0 rfl rfl fun w s => pcopied_ok w A1 A2 c1 c2 p (h1.keep0 s) (h2.keep0 s) hl) ?_
  rintro _ _ ⟨_, ⟨B1, B2, d1, d2, k1, k2, rfl, rfl, o1, o2⟩, rfl⟩
  refine .st (.sw rfl rfl) (.nil ?_)
  exact .ret ⟨[_], ⟨⟨_, rfl, .inr ⟨3, _, inferInstance, rfl, rfl, .whole⟩⟩, trivial⟩, k2 ++ k1, fun _ s => Sat.take (pre := k2 ++ k1) s, B1, B2, d1, d2, k1, k2, rfl, rfl, o1, o2⟩
abbrev AnyL (v : Value) (n : Nat) (h : Hp) : Prop := AnyS 109 3 v n h
theorem LOwn.any {v : Value} {l : List Lv} {h : Hp} (k : LOwn v l h) : AnyL v l.length h := ⟨_, k⟩
set_option maxRecDepth 10000 in
theorem wipe_ok (w : World) (seq : Int) (v1 v2 : Value) (n1 n2 : Nat) (k1 k2 : Hp) (h1 : AnyL v1 n1 k1) (h2 : AnyL v2 n2 k2) (hb : n1 + n2 ≤ 10000000) :
    Does Try.prog 22 [.agg ⟨pcells seq v1 v2⟩] (k1 ++ k2) w (fun _ hs => hs = []) := by
  obtain ⟨A1, c1, rfl⟩ := h1.sl
  obtain ⟨A2, c2, rfl⟩ := h2.sl
  refine Does.less (Does.of (n := 38) Try.func22 rfl rfl rfl rfl ?_)
  refine .seq ((.region (.nw (.box (l := pcells seq (.slice A1 n1 c1) (.slice A2 n2 c2)) rfl rfl) fun b1 => (.nil ?_))))
  refine .seq (.seq ((.region (.v (.assign rfl) (.nil ?_)))))
  refine .block (.loop (X := Nat × Hp) (fun x => [(1, .pointer (some ⟨b1, 0, none⟩)), (2, .int .i64 x.1)]) (fun x => (b1, .cells (pcells seq (.slice A1 n1 c1) (.slice A2 n2 c2)) 40) :: (x.2 ++ k2)) (fun x => x.1 ≤ n1 ∧ AnyL (.slice A1 n1 c1) n1 x.2) (fun x => n1 - x.1) ⟨0, k1⟩ ⟨by simp, h1⟩ (.cons rfl (.cons rfl (.nil _))) (fun _ s => s) ?_)
  rintro ⟨i, h⟩ ⟨hi, hh⟩
  dsimp only at hi hh ⊢
  refine .seq (.seq ((.region (.v (.move rfl) (.v (.fieldAddr rfl) (.v (.load (v := .slice A1 n1 c1) rfl (.one rfl)) (.v (.len rfl) (.v (.lss rfl rfl) (.nil ?_)))))))))
  refine .cond_dec rfl (fun g1 => .skip ?_) (fun g1 => .exit ?_)
  · obtain ⟨b, o, l, rfl, rfl, hl, hput⟩ := hh.put (i := i) (by omega)
    refine .seq (.block ((.region (.v (.fieldAddr rfl) (.v (.load (v := .slice (some ⟨b, o, none⟩) n1 c1) rfl (.one rfl)) (.v (.move rfl) (.v (.build (out := [.int .i64 4711, .int .u64 0, .int .i64 0]) rfl rfl) (.v (.indexAddr rfl rfl (by omega) (by omega)) (.st (.storeA (l := l) rfl rfl rfl rfl (by simp; omega)) (.nil ?_))))))))))
    refine .region (.v (.move rfl) (.v (.addi rfl rfl (by omega)) (.v (.assign rfl) (.nil ?_))))
    refine ⟨⟨i + 1, _⟩, ⟨by show i + 1 ≤ n1; omega, hput [.int .i64 4711, .int .u64 0, .int .i64 0] rfl⟩, by show n1 - (i + 1) < _; omega, .cons rfl (.cons rfl (.nil _)), fun _ s => ?_⟩
    rw [Int.toNat_natCast] at s
    exact s
  · refine .seq (.seq ((.region (.v (.assign rfl) (.nil ?_)))))
    refine .block (.loop (X := Nat × Hp) (fun x => [(1, .pointer (some ⟨b1, 0, none⟩)), (3, .int .i64 x.1)]) (fun x => (b1, .cells (pcells seq (.slice A1 n1 c1) (.slice A2 n2 c2)) 40) :: (h ++ x.2)) (fun x => x.1 ≤ n2 ∧ AnyL (.slice A2 n2 c2) n2 x.2) (fun x => n2 - x.1) ⟨0, k2⟩ ⟨by simp, h2⟩ (.cons rfl (.cons rfl (.nil _))) (fun _ s => s) ?_)
    rintro ⟨i', h'⟩ ⟨hi', hh'⟩
    dsimp only at hi' hh' ⊢
    refine .seq (.seq ((.region (.v (.move rfl) (.v (.fieldAddr rfl) (.v (.load (v := .slice A2 n2 c2) rfl (.one rfl)) (.v (.len rfl) (.v (.lss rfl rfl) (.nil ?_)))))))))
    refine .cond_dec rfl (fun g2 => .skip ?_) (fun g2 => .exit ?_)
    · obtain ⟨b, o, l, rfl, rfl, hl, hput⟩ := hh'.put (i := i') (by omega)
      refine .seq (.block ((.region (.v (.fieldAddr rfl) (.v (.load (v := .slice (some ⟨b, o, none⟩) n2 c2) rfl (.one rfl)) (.v (.move rfl) (.v (.build (out := [.int .i64 4712, .int .u64 0, .int .i64 0]) rfl rfl) (.v (.indexAddr rfl rfl (by omega) (by omega)) (.st (.storeA (l := l) rfl rfl rfl rfl (by simp; omega)) (.nil ?_))))))))))
      refine .region (.v (.move rfl) (.v (.addi rfl rfl (by omega)) (.v (.assign rfl) (.nil ?_))))
      refine ⟨⟨i' + 1, _⟩, ⟨by show i' + 1 ≤ n2; omega, hput [.int .i64 4712, .int .u64 0, .int .i64 0] rfl⟩, by show n2 - (i' + 1) < _; omega, .cons rfl (.cons rfl (.nil _)), fun _ s => ?_⟩
      rw [Int.toNat_natCast] at s
      exact s
    · obtain ⟨us1, hh⟩ := hh
      obtain ⟨us2, hh'⟩ := hh'
      refine .seq ((.region (.v (.fieldAddr rfl) (.v (.load (v := .slice A1 n1 c1) rfl (.one rfl)) (.v (.build (out := [.int .i64 4713, .int .u64 0, .int .i64 0]) rfl rfl) (.push (vs := us1) (c := n1) (oc := [.int .i64 4713, .int .u64 0, .int .i64 0]) rfl rfl hh rfl rfl rfl (by omega) (by omega) ?_))))))
      intro b9 v' q1 k'
      refine .nil ?_
      refine .region (.v (.fieldAddr rfl) (.v (.load (v := .slice A2 n2 c2) rfl (.one rfl)) (.v (.build (out := [.int .i64 4714, .int .u64 0, .int .i64 0]) rfl rfl) (.push (vs := us2) (c := n2) (oc := [.int .i64 4714, .int .u64 0, .int .i64 0]) rfl rfl hh' rfl rfl rfl (by omega) (by omega) ?_))))
      intro b10 v'' q2 k''
      refine .nil ?_
      exact ⟨[], trivial, [], fun _ s => s.take, rfl⟩
/-- a picture of nothing -/
abbrev pc0 : Pc := ⟨0, [], []⟩
theorem NewPublisher_ok (w : World) (d : Int) : Does Try.prog 15 [.int .i64 d] [] w (fun v hs => (1 ≤ d ∧ d ≤ 64 ∧ ∃ b, v = .tuple ⟨[.pointer (some ⟨b, 0, none⟩), .int .i64 0]⟩ ∧ hs = [Ub b d pc0 (.slice none 0 0) (.slice none 0 0)]) ∨ (¬ (1 ≤ d ∧ d ≤ 64) ∧ v = .tuple ⟨[.pointer none, .int .i64 1]⟩ ∧ hs = [])) := by
  refine Does.of (n := 13) Try.func15 rfl rfl rfl rfl ?_
  refine .seq ((.region (.v (.assign rfl) (.v (.assign rfl) (.nil ?_)))))
  refine .seq (.seq ((.region (.v (.move rfl) (.v (.lss rfl rfl) (.v (.move rfl) (.or 6 8 2 2 rfl rfl (fun g1 => .v (.move rfl) (.v (.gtr rfl rfl) (.nil ⟨rfl, rfl, rfl, rfl⟩))) (.nil ?_))))))))
  refine .cond rfl (fun h1 => ?_) (fun h1 => .skip ?_)
  · simp only [Bool.and_eq_true, Bool.or_eq_true, Bool.not_eq_true', Bool.and_eq_false_iff, Bool.or_eq_false_iff, Bool.not_eq_false', decide_eq_true_eq, decide_eq_false_iff_not, Bool.false_eq_true, false_iff] at h1
    refine .seq ((.region (.v (.assign rfl) (.v (.assign rfl) (.nil ?_)))))
    exact .ret ⟨[_, _], ⟨rfl, rfl, trivial⟩, .inr ⟨by omega, rfl, rfl⟩⟩
  · simp only [Bool.and_eq_true, Bool.or_eq_true, Bool.not_eq_true', Bool.and_eq_false_iff, Bool.or_eq_false_iff, Bool.not_eq_false', decide_eq_true_eq, decide_eq_false_iff_not, Bool.false_eq_true, false_iff] at h1
    refine .seq ((.region (.v (.move rfl) (.v (.build (out := ubcells d 0 (.slice none 0 0) (.slice none 0 0)) rfl rfl) (.nw (.box rfl rfl) fun b12 => (.v (.assign rfl) (.v (.assign rfl) (.nil ?_))))))))
    exact .ret ⟨[_, _], ⟨rfl, rfl, trivial⟩, .inl ⟨by omega, by omega, b12, rfl, rfl⟩⟩
theorem refNewPublisher_ok (w : World) (d : Int) : Is Try.prog 16 [.int .i64 d] w (.tuple ⟨[.agg ⟨ubcells (if 1 ≤ d ∧ d ≤ 64 then d else 0) 0 (.slice none 0 0) (.slice none 0 0)⟩, .int .i64 (if 1 ≤ d ∧ d ≤ 64 then 0 else 1)]⟩) := by
  refine Does.pure (Does.of (n := 13) Try.func16 rfl rfl rfl rfl ?_)
  refine .seq ((.region (.nw .alloc fun b2 => (.v (.assign rfl) (.nil ?_)))))
  refine .seq (.seq ((.region (.v (.move rfl) (.v (.lss rfl rfl) (.v (.move rfl) (.or 6 8 2 2 rfl rfl (fun g1 => .v (.move rfl) (.v (.gtr rfl rfl) (.nil ⟨rfl, rfl, rfl, rfl⟩))) (.nil ?_))))))))
  refine .cond rfl (fun h1 => ?_) (fun h1 => .skip ?_)
  · simp only [Bool.and_eq_true, Bool.or_eq_true, Bool.not_eq_true', Bool.and_eq_false_iff, Bool.or_eq_false_iff, Bool.not_eq_false', decide_eq_true_eq, decide_eq_false_iff_not, Bool.false_eq_true, false_iff] at h1
    refine .seq ((.region (.v (.build (out := ubcells 0 0 (.slice none 0 0) (.slice none 0 0)) rfl rfl) (.st (.sw rfl rfl) (.v (.assign rfl) (.nil ?_))))))
    have hn : ¬ (1 ≤ d ∧ d ≤ 64) := by omega
    exact .ret ⟨[_, _], ⟨⟨_, rfl, .inr ⟨4, _, inferInstance, rfl, rfl, .whole⟩⟩, rfl, trivial⟩, by rw [if_neg hn, if_neg hn]; rfl⟩
  · simp only [Bool.and_eq_true, Bool.or_eq_true, Bool.not_eq_true', Bool.and_eq_false_iff, Bool.or_eq_false_iff, Bool.not_eq_false', decide_eq_true_eq, decide_eq_false_iff_not, Bool.false_eq_true, false_iff] at h1
    refine .seq ((.region (.v (.move rfl) (.v (.build (out := ubcells d 0 (.slice none 0 0) (.slice none 0 0)) rfl rfl) (.st (.sw rfl rfl) (.v (.assign rfl) (.nil ?_)))))))
    have hn : 1 ≤ d ∧ d ≤ 64 := by omega
    exact .ret ⟨[_, _], ⟨⟨_, rfl, .inr ⟨4, _, inferInstance, rfl, rfl, .whole⟩⟩, rfl, trivial⟩, by rw [if_pos hn, if_pos hn]; rfl⟩
end Go.Proofs.Ytinmhhonpflojaa

/- The law FeedPublishes: its walk. -/
namespace Go.Proofs.Ytinmhhonpflojaa
open Go.V
set_option linter.unusedVariables false
set_option linter.unusedSimpArgs false

/-- what a Publish leaves, tells, answers -/
noncomputable def Pc.res (p : Pc) (depth : Nat) (bs ss : List Lv) (evs : List Ev) : Pc × List Dt × Int := match p.pub depth bs ss evs with
  | none => (p, [], 1)
  | some (p', ms) => (p', ms, 0)
abbrev PubB (b : Nat) (depth : Int) (p : Pc) (v1 v2 : Value) (k1 k2 : Hp) : Hp := Ub b depth p v1 v2 :: (k1 ++ k2)
theorem publishU_ok (w : World) (b depth : Nat) (hd : depth ≤ 64) (p : Pc) (hq : 0 ≤ p.seq ∧ p.seq < 18446744073709551616) (v1 v2 : Value) (k1 k2 : Hp) (h1 : LOwn v1 p.bs k1) (h2 : LOwn v2 p.ss k2) (B1 B2 Be : Option Addr) (c1 c2 ce : Nat) (bs ss : List Lv) (evs : List Ev)
    (r1 : Rd w (bl (PubB b depth p v1 v2 k1 k2)) B1 (lrows bs)) (r2 : Rd w (bl (PubB b depth p v1 v2 k1 k2)) B2 (lrows ss)) (re : Rd w (bl (PubB b depth p v1 v2 k1 k2)) Be (erows evs)) (hc1 : bs.length ≤ c1) (hc2 : ss.length ≤ c2)
    (hb : bs.length + ss.length + evs.length ≤ 4100000) (hp : p.bs.length + p.ss.length ≤ 1000) :
    Does Try.prog 18 [.pointer (some ⟨b, 0, none⟩), .slice B1 bs.length c1, .slice B2 ss.length c2, .slice Be evs.length ce] (PubB b depth p v1 v2 k1 k2) w
      (fun v hs => ∃ vm hm v1' v2' k1' k2', v = .tuple ⟨[vm, .int .i64 (p.res depth bs ss evs).2.2]⟩ ∧ DOwn vm (p.res depth bs ss evs).2.1 hm ∧ hs = PubB b depth (p.res depth bs ss evs).1 v1' v2' k1' k2' ++ hm ∧ LOwn v1' (p.res depth bs ss evs).1.bs k1' ∧ LOwn v2' (p.res depth bs ss evs).1.ss k2') := by
  refine (publish_ok w b depth hd p hq v1 v2 k1 k2 h1 h2 B1 B2 Be c1 c2 ce bs ss evs r1 r2 re hc1 hc2 hb hp).mono fun v hs h => ?_
  unfold Pc.res
  cases hr : p.pub depth bs ss evs with
  | none =>
    rw [hr] at h
    obtain ⟨rfl, rfl⟩ := h
    exact ⟨_, [], v1, v2, k1, k2, rfl, OwnS.nil _ _, by simp, h1, h2⟩
  | some r =>
    rw [hr] at h
    obtain ⟨vm, hm, hp, rfl, o, rfl, v1', v2', k1', k2', rfl, o1, o2⟩ := h
    exact ⟨vm, hm, v1', v2', k1', k2', rfl, o, rfl, o1, o2⟩
theorem refpublishU_ok (w : World) (depth : Nat) (hd : depth ≤ 64) (p : Pc) (hq : 0 ≤ p.seq ∧ p.seq < 18446744073709551616) (f1 : Fit 1 p.bs) (f2 : Fit 2 p.ss) (u1 u2 : Value) (j1 j2 : Hp) (h1 : LOwn u1 p.bs j1) (h2 : LOwn u2 p.ss j2) (R1 : ∀ A c, u1 = .slice A p.bs.length c → Rd w [] A (lrows p.bs)) (R2 : ∀ A c, u2 = .slice A p.ss.length c → Rd w [] A (lrows p.ss)) (B1 B2 Be : Option Addr) (c1 c2 ce : Nat) (bs ss : List Lv) (evs : List Ev)
    (r1 : Rd w [] B1 (lrows bs)) (r2 : Rd w [] B2 (lrows ss)) (re : Rd w [] Be (erows evs)) (hc1 : bs.length ≤ c1) (hc2 : ss.length ≤ c2)
    (hb : bs.length + ss.length + evs.length ≤ 4000000) (hp : p.bs.length + p.ss.length ≤ 1000) :
    Does Try.prog 19 [.agg ⟨ubcells depth p.seq u1 u2⟩, .slice B1 bs.length c1, .slice B2 ss.length c2, .slice Be evs.length ce] (j1 ++ j2) w
      (fun v hs => ∃ vm hm u1' u2' j1' j2', v = .tuple ⟨[.agg ⟨ubcells depth (p.res depth bs ss evs).1.seq u1' u2'⟩, vm, .int .i64 (p.res depth bs ss evs).2.2]⟩ ∧ DOwn vm (p.res depth bs ss evs).2.1 hm ∧ hs = j1' ++ (j2' ++ hm) ∧ LOwn u1' (p.res depth bs ss evs).1.bs j1' ∧ LOwn u2' (p.res depth bs ss evs).1.ss j2') := by
  obtain ⟨A1, a1, rfl⟩ := lown_sl h1
  obtain ⟨A2, a2, rfl⟩ := lown_sl h2
  refine Does.keepT (Does.lendT [] (refpublish_ok w depth hd p hq f1 f2 A1 A2 B1 B2 Be a1 a2 c1 c2 ce bs ss evs (R1 _ _ rfl) (R2 _ _ rfl) r1 r2 re hc1 hc2 hb hp)) fun v hs h => ?_
  unfold Pc.res
  obtain ⟨h, hr', rfl⟩ := h
  cases hr : p.pub depth bs ss evs with
  | none =>
    rw [hr] at hr'
    obtain ⟨rfl, rfl⟩ := hr'
    exact ⟨j1 ++ (j2 ++ []), [], by simp, _, [], _, _, j1, j2, rfl, OwnS.nil _ _, rfl, h1, h2⟩
  | some r =>
    rw [hr] at hr'
    obtain ⟨v1, v2, vm, k1, k2, hm, rfl, o1, o2, o, rfl⟩ := hr'
    exact ⟨_, j1 ++ j2, .refl _, vm, hm, v1, v2, k1, k2, rfl, o, rfl, o1, o2⟩
theorem res_keeps {p : Pc} {depth : Nat} {bs ss : List Lv} {evs : List Ev} (hd : depth ≤ 64) (hq : 0 ≤ p.seq ∧ p.seq < 18446744073709551616) (f1 : Fit 1 p.bs) (f2 : Fit 2 p.ss) (hl : p.bs.length ≤ 64 ∧ p.ss.length ≤ 64) (he : evs.length ≤ 4000000) :
    (0 ≤ (p.res depth bs ss evs).1.seq ∧ (p.res depth bs ss evs).1.seq < 18446744073709551616) ∧ Fit 1 (p.res depth bs ss evs).1.bs ∧ Fit 2 (p.res depth bs ss evs).1.ss ∧ ((p.res depth bs ss evs).1.bs.length ≤ 64 ∧ (p.res depth bs ss evs).1.ss.length ≤ 64) ∧ (p.res depth bs ss evs).2.1.length ≤ 4010000 := by
  unfold Pc.res
  by_cases h : okPub bs ss evs
  · rw [Pc.pub_some h]
    dsimp only [Pc.next]
    have t1 : (bs.take depth).length ≤ 64 := by rw [List.length_take]; omega
    have t2 : (ss.take depth).length ≤ 64 := by rw [List.length_take]; omega
    refine ⟨by omega, h.1.take _, h.2.1.take _, ⟨t1, t2⟩, ?_⟩
    have := trs_length evs
    have := chg_length 1 p.bs (bs.take depth)
    have := chg_length 2 p.ss (ss.take depth)
    rw [num_length]; unfold raw
    rw [List.length_append, List.length_append]; omega
  · rw [Pc.pub_none h]
    exact ⟨hq, f1, f2, hl, by simp⟩
/-- a turn as it comes in -/
structure TD where
  B1 : Option Addr
  c1 : Nat
  B2 : Option Addr
  c2 : Nat
  Be : Option Addr
  ce : Nat
  bs : List Lv
  ss : List Lv
  evs : List Ev
def TD.cells (t : TD) : List Value := [.slice t.B1 t.bs.length t.c1, .slice t.B2 t.ss.length t.c2, .slice t.Be t.evs.length t.ce]
structure TD.R (w : World) (t : TD) : Prop where
  r1 : Rd w [] t.B1 (lrows t.bs)
  r2 : Rd w [] t.B2 (lrows t.ss)
  re : Rd w [] t.Be (erows t.evs)
  k1 : t.bs.length ≤ t.c1
  k2 : t.ss.length ≤ t.c2
  b : t.bs.length + t.ss.length + t.evs.length ≤ 3500000
structure LS where
  i : Nat
  p : Pc
  v1 : Value
  v2 : Value
  k1 : Hp
  k2 : Hp
  u1 : Value
  u2 : Value
  j1 : Hp
  j2 : Hp
structure LS.I (N : Nat) (x : LS) : Prop where
  le : x.i ≤ N
  q : 0 ≤ x.p.seq ∧ x.p.seq < 18446744073709551616
  f1 : Fit 1 x.p.bs
  f2 : Fit 2 x.p.ss
  l : x.p.bs.length ≤ 64 ∧ x.p.ss.length ≤ 64
  o1 : LOwn x.v1 x.p.bs x.k1
  o2 : LOwn x.v2 x.p.ss x.k2
  w1 : LOwn x.u1 x.p.bs x.j1
  w2 : LOwn x.u2 x.p.ss x.j2
abbrev Rb (b : Nat) (depth : Int) (p : Pc) (u1 u2 : Value) : Nat × Ch := (b, .cells (ubcells depth p.seq u1 u2) 42)
abbrev LS.H (b r : Nat) (depth : Int) (x : LS) : Hp := Rb r depth x.p x.u1 x.u2 :: (x.j1 ++ (x.j2 ++ PubB b depth x.p x.v1 x.v2 x.k1 x.k2))
structure IN where
  b : Nat
  A1 : Option Addr
  A2 : Option Addr
  d1 : Nat
  d2 : Nat
  q1 : Hp
  q2 : Hp
structure RN where
  b : Nat
  um : Value
  hm : Hp
  u1 : Value
  u2 : Value
  j1 : Hp
  j2 : Hp
abbrev Pb (b : Nat) (seq : Int) (v1 v2 : Value) : Nat × Ch := (b, .cells (pcells seq v1 v2) 40)
set_option maxRecDepth 20000 in
set_option maxHeartbeats 2000000 in
theorem FeedPublishes_ok (w : World) (d : Int) (A : Option Addr) (len cap : Nat) (l : List TD) (hA : Rd w [] A (l.flatMap TD.cells)) (hl : len = l.length) (hr : ∀ t ∈ l, TD.R w t) (hb : len ≤ 1048576) :
    Is Try.prog 4 [.int .i64 d, .slice A len cap] w (.bool true) := by
  refine Does.pure (Does.of (n := 158) Try.func4 rfl rfl rfl rfl ?_)
  refine .seq ((.region (.v (.assign rfl) (.nil ?_))))
  refine .seq ((.region (.v (.move rfl) ?_)))
  refine .ef (.call0 rfl rfl fun w s => NewPublisher_ok w d) ?_
  rintro _ _ ⟨h, hN, rfl⟩
  rcases hN with ⟨hd1, hd2, b, rfl, rfl⟩ | ⟨hd, rfl, rfl⟩
  · have hif : (1 ≤ d ∧ d ≤ 64) := ⟨hd1, hd2⟩
    refine .v (.move rfl) (.v (.extract rfl rfl) (.v (.extract rfl rfl) (.v (.assign rfl) (.v (.assign rfl) (.nil ?_)))))
    refine .seq ((.region (.v (.move rfl) (.pc rfl rfl (fun w s => refNewPublisher_ok w d) ?_))))
    rw [if_pos hif, if_pos hif]
    refine .v (.move rfl) (.v (.extract rfl rfl) (.v (.extract rfl rfl) (.nw .alloc fun r => (.st (.sw rfl rfl) (.v (.assign rfl) (.nil ?_))))))
    refine .seq (.seq ((.region (.v (.move rfl) (.v (.move rfl) (.v (.nei rfl rfl) (.v (.move rfl) (.or (b2 := false) 32 37 5 5 rfl rfl (fun g1 => .v (.move rfl) (.v (.eql_ptr_nil rfl rfl) (.v (.move rfl) (.v (.nei rfl rfl) (.v (.neb rfl rfl) (.nil ⟨rfl, rfl, rfl, rfl⟩)))))) (.nil ?_)))))))))
    refine .cond_false rfl (.skip ?_)
    obtain ⟨dp, rfl⟩ : ∃ dp : Nat, d = dp := ⟨d.toNat, by omega⟩
    refine .seq (.seq ((.region (.v (.assign rfl) (.nil ?_)))))
    refine .block (.loop (X := LS) (fun x => [(1, .slice A len cap), (5, .pointer (some ⟨b, 0, none⟩)), (7, .pointer (some ⟨r, 0, none⟩)), (9, .int .i64 x.i)]) (fun x => x.H b r dp) (LS.I len) (fun x => len - x.i) ⟨0, pc0, .slice none 0 0, .slice none 0 0, [], [], .slice none 0 0, .slice none 0 0, [], []⟩
      ⟨by simp, by simp [pc0], Fit.nil _, Fit.nil _, by simp [pc0], OwnS.nil _ _, OwnS.nil _ _, OwnS.nil _ _, OwnS.nil _ _⟩ (.cons rfl (.cons rfl (.cons rfl (.cons rfl (.nil _))))) (fun _ s => s.take) ?_)
    rintro ⟨i, p, v1, v2, k1, k2, u1, u2, j1, j2⟩ ⟨hle, hq, f1, f2, hpl, o1, o2, w1, w2⟩
    dsimp only at hle hq f1 f2 hpl o1 o2 w1 w2 ⊢
    refine .seq (.seq ((.region (.v (.move rfl) (.v (.move rfl) (.v (.len rfl) (.v (.lss rfl rfl) (.v (.move rfl) (.and 43 45 2 2 rfl rfl (fun g2 => .v (.move rfl) (.v (.neq_ptr_nil rfl rfl) (.nil ⟨rfl, rfl, rfl, rfl⟩))) (.nil ?_))))))))))
    refine .cond rfl (fun h2 => .skip ?_) (fun h2 => .exit ?_)
    · have hil : i < l.length := by
        have : decide ((i : Int) < len) = true := by simpa using h2
        have := of_decide_eq_true this
        omega
      obtain ⟨bt, ot, rfl, hc⟩ := Rd.recs TD.cells 3 (fun _ => rfl) hA (by omega) (by omega)
      have hR := hr _ (List.getElem_mem hil)
      have q1 := fun hs => fldAt TD.cells 3 (fun _ => rfl) (z := (i : Int)) (hc hs) hil 0 rfl
      have q2 := fun hs => fldAt TD.cells 3 (fun _ => rfl) (z := (i : Int)) (hc hs) hil 1 rfl
      have q3 := fun hs => fldAt TD.cells 3 (fun _ => rfl) (z := (i : Int)) (hc hs) hil 2 rfl
      generalize l[i] = t at hR q1 q2 q3
      obtain ⟨r1, r2, re, kc1, kc2, hbt⟩ := hR
      refine .seq (.block ?_)
      -- in
      refine .mid (X := IN) (fun z => [(1, .slice (some ⟨bt, ot, none⟩) len cap), (5, .pointer (some ⟨b, 0, none⟩)), (7, .pointer (some ⟨r, 0, none⟩)), (9, .int .i64 i), (10, .pointer (some ⟨z.b, 0, none⟩))]) (fun z => Pb z.b 0 (.slice z.A1 t.bs.length z.d1) (.slice z.A2 t.ss.length z.d2) :: (z.q1 ++ (z.q2 ++ LS.H b r dp ⟨i, p, v1, v2, k1, k2, u1, u2, j1, j2⟩)))
        (fun z => LOwn (.slice z.A1 t.bs.length z.d1) t.bs z.q1 ∧ LOwn (.slice z.A2 t.ss.length z.d2) t.ss z.q2) (.drawX [0, 1, 2, 3, 4, 5, 6, 7, 8, 9, 10] [] (List.nil_subset _) (by kernel_rfl) (by kernel_rfl) ?_) ?_
      · refine .v (fun _ f => .move rfl) (.v (fun _ f => .move rfl) (.v (fun _ f => .indexAddr rfl rfl (by omega) (by omega)) (.v (fun _ f => .fieldAddr rfl) (.v (fun _ f => .load (v := .slice t.B1 t.bs.length t.c1) rfl (q1 _)) (.v (fun _ f => .move rfl) (.v (fun _ f => .move rfl) (.v (fun _ f => .indexAddr rfl rfl (by omega) (by omega)) (.v (fun _ f => .fieldAddr rfl) (.v (fun _ f => .load (v := .slice t.B2 t.ss.length t.c2) rfl (q2 _)) (.v (fun _ f => .build (out := pcells 0 (.slice t.B1 t.bs.length t.c1) (.slice t.B2 t.ss.length t.c2)) rfl rfl) (.nil ?_)))))))))))
        refine .two 11 12 (by kernel_rfl) (.cl rfl rfl rfl (fun w s => lcopied_ok w t.B1 t.B2 t.c1 t.c2 ⟨0, t.bs, t.ss⟩ (r1.keep0 s) (r2.keep0 s) (by show t.bs.length + t.ss.length ≤ _; omega)) ?_) (.nw rfl .alloc fun b10 => ?_)
        · rintro _ _ ⟨A1, A2, d1, d2, y1, y2, rfl, rfl, z1, z2⟩
          refine .run [12, 13] (List.nil_subset _) (by kernel_rfl) (.nw .alloc fun b10 => .st (.sw rfl rfl) (fun _ => List.nil_subset _) (.nil ?_))
          exact ⟨⟨b10, A1, A2, d1, d2, y1, y2⟩, ⟨z1, z2⟩, .cons rfl (.cons rfl (.cons rfl (.cons rfl (.cons rfl (.nil _))))), fun _ s => s.take⟩
        · refine .run [11, 13] (List.nil_subset _) (by kernel_rfl) (.cl rfl rfl (fun w s => lcopied_ok w t.B1 t.B2 t.c1 t.c2 ⟨0, t.bs, t.ss⟩ (r1.keep0 s) (r2.keep0 s) (by show t.bs.length + t.ss.length ≤ _; omega)) ?_)
          rintro _ _ ⟨A1, A2, d1, d2, y1, y2, rfl, rfl, z1, z2⟩
          refine .st (.sw rfl rfl) (fun _ => List.nil_subset _) (.nil ?_)
          exact ⟨⟨b10, A1, A2, d1, d2, y1, y2⟩, ⟨z1, z2⟩, .cons rfl (.cons rfl (.cons rfl (.cons rfl (.cons rfl (.nil _))))), fun _ s => s.take⟩
      rintro ⟨b10, A1, A2, d1, d2, y1, y2⟩ ⟨z1, z2⟩
      dsimp only at z1 z2 ⊢
      refine .seq ((.region (.ef (.buildSlice (out := []) rfl (by decide) rfl rfl) ?_)))
      rintro _ _ ⟨b61, rfl, rfl⟩
      refine .v (.move rfl) (.v (.move rfl) (.v (.indexAddr rfl rfl (by omega) (by omega)) (.v (.fieldAddr rfl) (.v (.load (v := .slice t.Be t.evs.length t.ce) rfl (q3 _)) ?_))))
      refine .appT (h := [(b61, .cells [] 88)]) (vs := []) (c := 0) (k := t.evs.length) (news := erows t.evs) rfl rfl ⟨rfl, .inr ⟨b61, 0, 0, [], rfl, rfl, by omega, by simp, by simp⟩⟩ (fun w s => (re.keep0 s).src (erows_length _) (by omega)) (erows_length _) (erows_ones _) (by omega) (by omega) ?_
      intro ve ke oe
      rw [Nat.zero_add] at oe
      obtain ⟨Ae, ce, rfl⟩ := OwnS.slice oe
      refine .v (.assign rfl) (.nil ?_)
      have hk := res_keeps (depth := dp) (bs := t.bs) (ss := t.ss) (evs := t.evs) (by omega) hq f1 f2 hpl (by omega)
      refine .seq ((.region (.v (.move rfl) (.v (.fieldAddr rfl) (.v (.load (v := .slice A1 t.bs.length d1) rfl (.one rfl)) (.v (.fieldAddr rfl) (.v (.load (v := .slice A2 t.ss.length d2) rfl (.one rfl)) (.v (.move rfl) ?_))))))))
      refine .ef (.callT (PubB b dp p v1 v2 k1 k2) rfl rfl (fun w s => publishU_ok w b dp (by omega) p hq v1 v2 k1 k2 o1 o2 A1 A2 Ae d1 d2 ce t.bs t.ss t.evs (OwnS.rd z1 s (fun y hy => by simp [hy]) (Sat.apart (a := y1) (b := PubB b dp p v1 v2 k1 k2) s)) (OwnS.rd z2 s (fun y hy => by simp [hy]) (Sat.apart (a := y2) (b := PubB b dp p v1 v2 k1 k2) s)) (OwnS.rd oe s (fun y hy => by simp [hy]) (Sat.apart (a := ke) (b := PubB b dp p v1 v2 k1 k2) s)) (OwnS.cap_ z1).2 (OwnS.cap_ z2).2 (by omega) (by omega))) ?_
      rintro _ _ ⟨_, ⟨vm, hm, v1', v2', k1', k2', rfl, om, rfl, o1', o2'⟩, rfl⟩
      refine .v (.move rfl) (.v (.extract rfl rfl) (.v (.extract rfl rfl) (.v (.assign rfl) (.v (.assign rfl) (.nil ?_)))))
      refine .mid (X := RN) (fun z => [(1, .slice (some ⟨bt, ot, none⟩) len cap), (5, .pointer (some ⟨b, 0, none⟩)), (7, .pointer (some ⟨r, 0, none⟩)), (9, .int .i64 i), (10, .pointer (some ⟨b10, 0, none⟩)), (12, vm), (13, .int .i64 (p.res dp t.bs t.ss t.evs).2.2), (14, .pointer (some ⟨z.b, 0, none⟩)), (15, z.um), (16, .int .i64 (p.res dp t.bs t.ss t.evs).2.2)])
        (fun z => Rb z.b dp (p.res dp t.bs t.ss t.evs).1 z.u1 z.u2 :: Rb r dp p u1 u2 :: (z.j1 ++ (z.j2 ++ (z.hm ++ (hm ++ (Pb b10 0 (.slice A1 t.bs.length d1) (.slice A2 t.ss.length d2) :: (y1 ++ (y2 ++ PubB b dp (p.res dp t.bs t.ss t.evs).1 v1' v2' k1' k2'))))))))
        (fun z => LOwn z.u1 (p.res dp t.bs t.ss t.evs).1.bs z.j1 ∧ LOwn z.u2 (p.res dp t.bs t.ss t.evs).1.ss z.j2 ∧ DOwn z.um (p.res dp t.bs t.ss t.evs).2.1 z.hm) (.drawX [0, 1, 2, 3, 4, 5, 6, 7, 8, 9, 10, 11, 12, 13, 14, 15] [Rb r dp p u1 u2] (by intro y hy; simp at hy; subst hy; simp) (by kernel_rfl) (by kernel_rfl) ?_) ?_
      · refine .v (fun _ f => .loadA (vs := ubcells dp p.seq u1 u2) rfl (.whole (hb := .sub f)) rfl) (.v (fun _ f => .move rfl) (.v (fun _ f => .move rfl) (.v (fun _ f => .indexAddr rfl rfl (by omega) (by omega)) (.v (fun _ f => .fieldAddr rfl) (.v (fun _ f => .load (v := .slice t.B1 t.bs.length t.c1) rfl (q1 _)) (.v (fun _ f => .move rfl) (.v (fun _ f => .move rfl) (.v (fun _ f => .indexAddr rfl rfl (by omega) (by omega)) (.v (fun _ f => .fieldAddr rfl) (.v (fun _ f => .load (v := .slice t.B2 t.ss.length t.c2) rfl (q2 _)) (.v (fun _ f => .move rfl) (.v (fun _ f => .move rfl) (.v (fun _ f => .indexAddr rfl rfl (by omega) (by omega)) (.v (fun _ f => .fieldAddr rfl) (.v (fun _ f => .load (v := .slice t.Be t.evs.length t.ce) rfl (q3 _)) (.nil ?_))))))))))))))))
        refine .two 16 21 (by kernel_rfl) (.clT (j1 ++ j2) rfl rfl rfl (fun w s => refpublishU_ok w dp (by omega) p hq f1 f2 u1 u2 j1 j2 w1 w2 (fun A c e => by subst e; exact OwnS.rd w1 s (no := []) (fun y hy => by simp [hy]) (by simp)) (fun A c e => by subst e; exact OwnS.rd w2 s (no := []) (fun y hy => by simp [hy]) (by simp)) t.B1 t.B2 t.Be t.c1 t.c2 t.ce t.bs t.ss t.evs (r1.keep0 s) (r2.keep0 s) (re.keep0 s) kc1 kc2 (by omega) (by omega)) (fun h => by intro y hy; simp at hy; subst hy; simp) ?_) (.nw rfl .alloc fun b14 => ?_)
        · rintro _ _ ⟨um, hm2, u1', u2', j1', j2', rfl, omr, rfl, w1', w2'⟩
          obtain ⟨_, _, rfl⟩ := lown_sl w1'
          obtain ⟨_, _, rfl⟩ := lown_sl w2'
          refine .run [17, 18, 19, 20, 21, 22, 23, 24] (by intro y hy; simp at hy; subst hy; simp) (by kernel_rfl) ?_
          refine .v (fun _ f => .move rfl) (.v (fun _ f => .extract rfl rfl) (.v (fun _ f => .extract rfl rfl) (.v (fun _ f => .extract rfl rfl) (.nw .alloc fun b14 => (.st (.sw rfl rfl) (fun _ => by intro y hy; simp at hy; subst hy; simp) (.v (fun _ f => .assign rfl) (.v (fun _ f => .assign rfl) (.nil ?_))))))))
          exact ⟨⟨b14, um, hm2, _, _, j1', j2'⟩, ⟨w1', w2', omr⟩, .cons rfl (.cons rfl (.cons rfl (.cons rfl (.cons rfl (.cons rfl (.cons rfl (.cons rfl (.cons rfl (.cons rfl (.nil _)))))))))), fun _ s => s.take⟩
        · refine .run [16, 17, 18, 19, 20, 22, 23, 24] (by intro y hy; simp at hy; subst hy; simp) (by kernel_rfl) ?_
          refine .clT (j1 ++ j2) rfl rfl (fun w s => refpublishU_ok w dp (by omega) p hq f1 f2 u1 u2 j1 j2 w1 w2 (fun A c e => by subst e; exact OwnS.rd w1 s (no := []) (fun y hy => by simp [hy]) (by simp)) (fun A c e => by subst e; exact OwnS.rd w2 s (no := []) (fun y hy => by simp [hy]) (by simp)) t.B1 t.B2 t.Be t.c1 t.c2 t.ce t.bs t.ss t.evs (r1.keep0 s) (r2.keep0 s) (re.keep0 s) kc1 kc2 (by omega) (by omega)) (fun h => by intro y hy; simp at hy; subst hy; simp) ?_
          rintro _ _ ⟨um, hm2, u1', u2', j1', j2', rfl, omr, rfl, w1', w2'⟩
          obtain ⟨_, _, rfl⟩ := lown_sl w1'
          obtain ⟨_, _, rfl⟩ := lown_sl w2'
          refine .v (fun _ f => .move rfl) (.v (fun _ f => .extract rfl rfl) (.v (fun _ f => .extract rfl rfl) (.v (fun _ f => .extract rfl rfl) (.st (.sw rfl rfl) (fun _ => by intro y hy; simp at hy; subst hy; simp) (.v (fun _ f => .assign rfl) (.v (fun _ f => .assign rfl) (.nil ?_)))))))
          exact ⟨⟨b14, um, hm2, _, _, j1', j2'⟩, ⟨w1', w2', omr⟩, .cons rfl (.cons rfl (.cons rfl (.cons rfl (.cons rfl (.cons rfl (.cons rfl (.cons rfl (.cons rfl (.cons rfl (.nil _)))))))))), fun _ s => s.take⟩
      generalize p.res dp t.bs t.ss t.evs = res at hk om o1' o2' ⊢
      obtain ⟨p', ms, er⟩ := res
      dsimp only at hk om o1' o2' ⊢
      obtain ⟨hq', f1', f2', hpl', hml⟩ := hk
      rintro ⟨b14, um, hm2, u1', u2', j1', j2'⟩ ⟨w1', w2', omr⟩
      dsimp only at w1' w2' omr ⊢
      obtain ⟨M, m, rfl⟩ := OwnS.slice om
      obtain ⟨M2, m2, rfl⟩ := OwnS.slice omr
      obtain ⟨D1, e1, rfl⟩ := lown_sl w1'
      obtain ⟨D2, e2, rfl⟩ := lown_sl w2'
      obtain ⟨E1, e3, rfl⟩ := lown_sl o1'
      obtain ⟨E2, e4, rfl⟩ := lown_sl o2'
      refine .seq ((.region (.v (.loadA (vs := ubcells dp p'.seq (.slice D1 p'.bs.length e1) (.slice D2 p'.ss.length e2)) rfl .whole rfl) (.st (.sw rfl rfl) (.nil ?_)))))
      refine .keep (Pb b10 0 (.slice A1 t.bs.length d1) (.slice A2 t.ss.length d2) :: Rb r dp p' (.slice D1 p'.bs.length e1) (.slice D2 p'.ss.length e2) :: (j1' ++ (j2' ++ (hm2 ++ (hm ++ (y1 ++ (y2 ++ PubB b dp p' (.slice E1 p'.bs.length e3) (.slice E2 p'.ss.length e4) k1' k2'))))))) ?_
      refine .seq (.seq ((.drawK [Pb b10 0 (.slice A1 t.bs.length d1) (.slice A2 t.ss.length d2)] (by intro y hy; simp at hy; subst hy; simp) (by kernel_rfl) (by kernel_rfl) ?_)))
      refine .v (fun _ f => .move rfl) (.v (fun _ f => .move rfl) (.v (fun _ f => .nei rfl rfl) (.v (fun _ f => .move rfl) (.or (b2 := false) 103 107 4 4 rfl rfl (fun g3 => .v (fun _ f => .move rfl) (.v (fun _ f => .move rfl) (.pc (v := .bool true) rfl rfl (fun w s => sameData_ok w M M2 ms.length m m2 ms (OwnS.rd om s (no := []) (fun y hy => by simp [hy]) (by simp)) (OwnS.rd omr s (no := []) (fun y hy => by simp [hy]) (by simp)) rfl (by omega)) (.v (fun _ f => .not rfl) (.nil ⟨rfl, rfl, rfl, rfl⟩))))) (.v (fun _ f => .move rfl) (.or (b2 := false) 109 118 9 9 rfl rfl (fun g4 => .v (fun _ f => .fieldAddr rfl) (.v (fun _ f => .load (v := .slice A1 t.bs.length d1) rfl (.one (hb := .sub f) rfl)) (.v (fun _ f => .move rfl) (.v (fun _ f => .move rfl) (.v (fun _ f => .indexAddr rfl rfl (by omega) (by omega)) (.v (fun _ f => .fieldAddr rfl) (.v (fun _ f => .load (v := .slice t.B1 t.bs.length t.c1) rfl (q1 _)) (.pc (v := .bool true) rfl rfl (fun w s => sameLevels_ok w A1 t.B1 t.bs.length d1 t.c1 t.bs (OwnS.rd z1 s (no := []) (fun y hy => by simp [hy]) (by simp)) (r1.keep0 s) rfl (by omega)) (.v (fun _ f => .not rfl) (.nil ⟨rfl, rfl, rfl, rfl⟩)))))))))) (.v (fun _ f => .move rfl) (.or (b2 := false) 120 129 9 9 rfl rfl (fun g5 => .v (fun _ f => .fieldAddr rfl) (.v (fun _ f => .load (v := .slice A2 t.ss.length d2) rfl (.one (hb := .sub f) rfl)) (.v (fun _ f => .move rfl) (.v (fun _ f => .move rfl) (.v (fun _ f => .indexAddr rfl rfl (by omega) (by omega)) (.v (fun _ f => .fieldAddr rfl) (.v (fun _ f => .load (v := .slice t.B2 t.ss.length t.c2) rfl (q2 _)) (.pc (v := .bool true) rfl rfl (fun w s => sameLevels_ok w A2 t.B2 t.ss.length d2 t.c2 t.ss (OwnS.rd z2 s (no := []) (fun y hy => by simp [hy]) (by simp)) (r2.keep0 s) rfl (by omega)) (.v (fun _ f => .not rfl) (.nil ⟨rfl, rfl, rfl, rfl⟩)))))))))) (.nil ?_)))))))))
      refine .cond rfl (fun h3 => absurd h3 (by simp)) (fun h3 => .skip ?_)
      refine .seq ((.region (.v (.loadA (vs := pcells 0 (.slice A1 t.bs.length d1) (.slice A2 t.ss.length d2)) rfl .whole rfl) ?_)))
      refine .ef (.callT (y1 ++ y2) rfl rfl (fun w s => wipe_ok w 0 (.slice A1 t.bs.length d1) (.slice A2 t.ss.length d2) t.bs.length t.ss.length y1 y2 z1.any z2.any (by omega))) ?_
      rintro _ _ ⟨_, rfl, rfl⟩
      refine .nil ?_
      refine .keep (Rb r dp p' (.slice D1 p'.bs.length e1) (.slice D2 p'.ss.length e2) :: (j1' ++ (j2' ++ (hm ++ PubB b dp p' (.slice E1 p'.bs.length e3) (.slice E2 p'.ss.length e4) k1' k2')))) ?_
      refine .seq (.seq ((.region (.v (.assign rfl) (.nil ?_)))))
      refine .block (.loop (X := Nat × Hp) (fun x => [(1, .slice (some ⟨bt, ot, none⟩) len cap), (5, .pointer (some ⟨b, 0, none⟩)), (7, .pointer (some ⟨r, 0, none⟩)), (9, .int .i64 i), (12, .slice M ms.length m), (17, .int .i64 x.1)]) (fun x => Rb r dp p' (.slice D1 p'.bs.length e1) (.slice D2 p'.ss.length e2) :: (j1' ++ (j2' ++ (x.2 ++ PubB b dp p' (.slice E1 p'.bs.length e3) (.slice E2 p'.ss.length e4) k1' k2')))) (fun x => x.1 ≤ ms.length ∧ AnyS 24 6 (.slice M ms.length m) ms.length x.2) (fun x => ms.length - x.1) ⟨0, hm⟩ ⟨by simp, ⟨_, om⟩⟩ (.cons rfl (.cons rfl (.cons rfl (.cons rfl (.cons rfl (.cons rfl (.nil _))))))) (fun _ s => s) ?_)
      rintro ⟨k, h⟩ ⟨hk, hh⟩
      dsimp only at hk hh ⊢
      refine .seq (.seq ((.region (.v (.move rfl) (.v (.move rfl) (.v (.len rfl) (.v (.lss rfl rfl) (.nil ?_))))))))
      refine .cond_dec rfl (fun h4 => .skip ?_) (fun h4 => .exit ?_)
      · obtain ⟨bm, ox, lx, rfl, rfl, hlx, hput⟩ := hh.put (i := k) (by omega)
        refine .seq (.block ((.region (.v (.move rfl) (.v (.move rfl) (.v (.build (out := dcells 4715 0 0 0 0 0) rfl rfl) (.v (.indexAddr rfl rfl (by omega) (by omega)) (.st (.storeA (l := lx) rfl rfl rfl rfl (by show ox + (k : Int).toNat * 6 + 6 ≤ lx.length; omega)) (.nil ?_)))))))))
        refine .region (.v (.move rfl) (.v (.addi rfl rfl (by omega)) (.v (.assign rfl) (.nil ?_))))
        refine ⟨⟨k + 1, _⟩, ⟨by show k + 1 ≤ _; omega, hput (dcells 4715 0 0 0 0 0) rfl⟩, by show ms.length - (k + 1) < _; omega, .cons rfl (.cons rfl (.cons rfl (.cons rfl (.cons rfl (.cons rfl (.nil _)))))), fun _ s => ?_⟩
        rw [Int.toNat_natCast] at s
        exact s
      · refine .seq ((.region (.v (.move rfl) ?_)))
        refine .ef (.call0 rfl rfl fun w s => Picture_ok w b dp p' E1 E2 e3 e4 (Rd.blk (T := 105) s) (OwnS.rd o1' s (no := []) (fun y hy => by simp [hy]) (by simp)) (OwnS.rd o2' s (no := []) (fun y hy => by simp [hy]) (by simp)) (by omega)) ?_
        rintro _ _ ⟨_, ⟨G1, G2, g1, g2, x1, x2, rfl, rfl, s1, s2⟩, rfl⟩
        refine .nw .alloc fun b18 => (.st (.sw rfl rfl) (.nil ?_))
        refine .seq (.seq ((.region (.v (.loadA (vs := pcells p'.seq (.slice G1 p'.bs.length g1) (.slice G2 p'.ss.length g2)) rfl .whole rfl) (.v (.fieldAddr rfl) (.v (.loadA (vs := pcells p'.seq (.slice D1 p'.bs.length e1) (.slice D2 p'.ss.length e2)) rfl (.chunk fun j v hv => by rw [show 0 + 1 + j = j + 1 from by omega]; exact hv) rfl) (.pc (v := .bool true) rfl rfl (fun w s => samePicture_ok w G1 G2 D1 D2 g1 g2 e1 e2 p' (OwnS.rd s1 s (no := []) (fun y hy => by simp [hy]) (by simp)) (OwnS.rd s2 s (no := []) (fun y hy => by simp [hy]) (by simp)) (OwnS.rd w1' s (no := []) (fun y hy => by simp [hy]) (by simp)) (OwnS.rd w2' s (no := []) (fun y hy => by simp [hy]) (by simp)) (by omega)) (.v (.not rfl) (.nil ?_)))))))))
        refine .cond_false rfl (.skip ?_)
        refine .seq ((.region (.v (.loadA (vs := pcells p'.seq (.slice G1 p'.bs.length g1) (.slice G2 p'.ss.length g2)) rfl .whole rfl) ?_)))
        refine .ef (.callT (x1 ++ x2) rfl rfl (fun w s => wipe_ok w p'.seq (.slice G1 p'.bs.length g1) (.slice G2 p'.ss.length g2) p'.bs.length p'.ss.length x1 x2 s1.any s2.any (by omega))) ?_
        rintro _ _ ⟨_, rfl, rfl⟩
        refine .nil ?_
        refine .keep (LS.H b r dp ⟨i, p', .slice E1 p'.bs.length e3, .slice E2 p'.ss.length e4, k1', k2', .slice D1 p'.bs.length e1, .slice D2 p'.ss.length e2, j1', j2'⟩) ?_
        refine .seq ((.drawP [0, 2, 3, 1, 4, 5] [Rb r dp p' (.slice D1 p'.bs.length e1) (.slice D2 p'.ss.length e2)] (by intro y hy; simp at hy; subst hy; exact List.mem_cons_self) (by kernel_rfl) (by kernel_rfl) ?_))
        refine .v (fun _ f => .move rfl) (.v (fun _ f => .fieldAddr rfl) (.v (fun _ f => .loadA (vs := pcells p'.seq (.slice D1 p'.bs.length e1) (.slice D2 p'.ss.length e2)) rfl (.chunk (hb := .sub f) fun j v hv => by rw [show 0 + 1 + j = j + 1 from by omega]; exact hv) rfl) ?_))
        refine .cl rfl rfl (fun w s => Picture_ok w b dp p' E1 E2 e3 e4 (Rd.blk (T := 105) s) (OwnS.rd o1' s (no := []) (fun y hy => by simp [hy]) (by simp)) (OwnS.rd o2' s (no := []) (fun y hy => by simp [hy]) (by simp)) (by omega)) ?_
        rintro _ _ ⟨G1, G2, g1, g2, x1, x2, rfl, rfl, s1, s2⟩
        refine .pc (v := .bool true) rfl rfl (fun w s => samePicture_ok w G1 G2 D1 D2 g1 g2 e1 e2 p' (OwnS.rd s1 s (no := []) (fun y hy => by simp [hy]) (by simp)) (OwnS.rd s2 s (no := []) (fun y hy => by simp [hy]) (by simp)) (OwnS.rd w1' s (no := []) (fun y hy => by simp [hy]) (by simp)) (OwnS.rd w2' s (no := []) (fun y hy => by simp [hy]) (by simp)) (by omega)) (.v (fun _ f => .not rfl) (.nil ?_))
        refine .cond_false rfl (.skip ?_)
        refine .region (.v (.move rfl) (.v (.addi rfl rfl (by omega)) (.v (.assign rfl) (.nil ?_))))
        exact ⟨⟨i + 1, p', .slice E1 p'.bs.length e3, .slice E2 p'.ss.length e4, k1', k2', .slice D1 p'.bs.length e1, .slice D2 p'.ss.length e2, j1', j2'⟩, ⟨by show i + 1 ≤ len; omega, hq', f1', f2', hpl', o1', o2', w1', w2'⟩, by show len - (i + 1) < _; omega, .cons rfl (.cons rfl (.cons rfl (.cons rfl (.nil _)))), fun _ s => s.take⟩
    · refine .seq ((.region (.v (.assign rfl) (.nil ?_))))
      exact .ret ⟨[_], ⟨rfl, trivial⟩, rfl⟩
  · have hif : ¬ (1 ≤ d ∧ d ≤ 64) := hd
    refine .v (.move rfl) (.v (.extract rfl rfl) (.v (.extract rfl rfl) (.v (.assign rfl) (.v (.assign rfl) (.nil ?_)))))
    refine .seq ((.region (.v (.move rfl) (.pc rfl rfl (fun w s => refNewPublisher_ok w d) ?_))))
    rw [if_neg hif, if_neg hif]
    refine .v (.move rfl) (.v (.extract rfl rfl) (.v (.extract rfl rfl) (.nw .alloc fun r => (.st (.sw rfl rfl) (.v (.assign rfl) (.nil ?_))))))
    refine .seq (.seq ((.region (.v (.move rfl) (.v (.move rfl) (.v (.nei rfl rfl) (.v (.move rfl) (.or (b2 := false) 32 37 5 5 rfl rfl (fun g1 => .v (.move rfl) (.v (.eql_ptr_nil rfl rfl) (.v (.move rfl) (.v (.nei rfl rfl) (.v (.neb rfl rfl) (.nil ⟨rfl, rfl, rfl, rfl⟩)))))) (.nil ?_)))))))))
    refine .cond_false rfl (.skip ?_)
    refine .seq (.seq ((.region (.v (.assign rfl) (.nil ?_)))))
    refine .block (.loop (X := Unit) (fun x => [(1, .slice A len cap), (5, .pointer none), (9, .int .i64 0)]) (fun x => []) (fun _ => True) (fun x => 0) () trivial (.cons rfl (.cons rfl (.cons rfl (.nil _)))) (fun _ s => s.take) ?_)
    intro _ _
    refine .seq (.seq ((.region (.v (.move rfl) (.v (.move rfl) (.v (.len rfl) (.v (.lss rfl rfl) (.v (.move rfl) (.and (b2 := false) 43 45 2 2 rfl rfl (fun g2 => .v (.move rfl) (.v (.neq_ptr_nil rfl rfl) (.nil ⟨rfl, rfl, rfl, rfl⟩))) (.nil ?_))))))))))
    refine .cond rfl (fun h2 => absurd h2 (by simp)) (fun h2 => .exit ?_)
    refine .seq ((.region (.v (.assign rfl) (.nil ?_))))
    exact .ret ⟨[_], ⟨rfl, trivial⟩, rfl⟩
end Go.Proofs.Ytinmhhonpflojaa

/- What a publisher tells over a book, command by command, plain. -/
namespace Go.Proofs.Ytinmhhonpflojaa
open Go.V
set_option linter.unusedVariables false
set_option linter.unusedSimpArgs false

/-- the best levels of a side -/
abbrev lvs (d : Nat) (l : List Ord) : List Lv := dps d [] l
theorem vl_len {B : Bk} (h : B.Vl) : B.bs.length + B.ss.length ≤ 4096 := by
  have h1 := h.len
  have h2 := h.cfg.2.1
  omega
theorem lvs_take {B : Bk} (h : B.Vl) (d : Nat) : (lvs 4096 B.bs).take d = lvs d B.bs ∧ (lvs 4096 B.ss).take d = lvs d B.ss := by
  have := vl_len h
  exact ⟨(dps_take d 4096 B.bs [] (by simp) (by simp; omega)).symm, (dps_take d 4096 B.ss [] (by simp) (by simp; omega)).symm⟩
theorem lvs_fit {B : Bk} (h : B.Vl) (d : Nat) : Fit 1 (lvs d B.bs) ∧ Fit 2 (lvs d B.ss) := by
  have := vl_len h
  exact ⟨fit_of d h.s1 (fun o ho => h.rests o (List.mem_append_left _ ho)) (by omega), fit_of d h.s2 (fun o ho => h.rests o (List.mem_append_right _ ho)) (by omega)⟩
theorem lvs_len (d : Nat) (l : List Ord) : (lvs d l).length ≤ l.length := by
  have := dps_len d l []
  simpa using this
theorem lvs_le {B : Bk} (h : B.Vl) (d : Nat) : (lvs d B.bs).length ≤ d ∧ (lvs d B.ss).length ≤ d := by
  rw [← (lvs_take h d).1, ← (lvs_take h d).2, List.length_take, List.length_take]; omega
/-- what a publisher of depth d that has told so many messages shows of a book -/
def pcB (q : Int) (d : Nat) (B : Bk) : Pc := ⟨q, lvs d B.bs, lvs d B.ss⟩
/-- what it tells -/
def tellB (d : Nat) (B B' : Bk) (evs : List Ev) : List Dt := trs evs ++ chg 1 (lvs d B.bs) (lvs d B'.bs) ++ chg 2 (lvs d B.ss) (lvs d B'.ss)
theorem pub_does {B : Bk} {c : Cm} (h : B.Vl) (hw : c.wf) (q : Int) (d : Nat) :
    (pcB q d B).res d (lvs 4096 (B.does c).1.bs) (lvs 4096 (B.does c).1.ss) (B.does c).2 =
      (pcB ((q + (tellB d B (B.does c).1 (B.does c).2).length) % 18446744073709551616) d (B.does c).1, num q (tellB d B (B.does c).1 (B.does c).2), 0) := by
  have h' := does_vl h hw
  have hok : okPub (lvs 4096 (B.does c).1.bs) (lvs 4096 (B.does c).1.ss) (B.does c).2 := ⟨(lvs_fit h' 4096).1, (lvs_fit h' 4096).2, trd_does h hw⟩
  unfold Pc.res
  rw [Pc.pub_some hok, (lvs_take h' d).1, (lvs_take h' d).2]
  rfl
theorem tell_len {B : Bk} {c : Cm} (h : B.Vl) (hw : c.wf) (d : Nat) : (tellB d B (B.does c).1 (B.does c).2).length ≤ 4100000 := by
  have h' := does_vl h hw
  have a := vl_len h
  have a' := vl_len h'
  have e := does_len h.inv hw
  have t := trs_length (B.does c).2
  have c1 := chg_length 1 (lvs d B.bs) (lvs d (B.does c).1.bs)
  have c2 := chg_length 2 (lvs d B.ss) (lvs d (B.does c).1.ss)
  have l1 := lvs_len d B.bs
  have l2 := lvs_len d B.ss
  have l3 := lvs_len d (B.does c).1.bs
  have l4 := lvs_len d (B.does c).1.ss
  unfold tellB
  simp only [List.length_append]
  omega
theorem chg_kind (side : Int) : ∀ (was now : List Lv), ∀ x ∈ chg side was now, x.k = 1
  | [], [] => by simp [chg]
  | a :: was, [] => by
    intro x hx
    rw [chg] at hx
    rcases List.mem_cons.1 hx with rfl | hx
    · rfl
    · exact chg_kind side was [] x hx
  | [], b :: now => by
    intro x hx
    rw [chg] at hx
    rcases List.mem_cons.1 hx with rfl | hx
    · rfl
    · exact chg_kind side [] now x hx
  | a :: was, b :: now => by
    intro x hx
    rw [chg] at hx
    split at hx
    · rcases List.mem_cons.1 hx with rfl | hx
      · rfl
      · exact chg_kind side was (b :: now) x hx
    · split at hx
      · rcases List.mem_cons.1 hx with rfl | hx
        · rfl
        · exact chg_kind side (a :: was) now x hx
      · rcases List.mem_append.1 hx with hx | hx
        · split at hx
          · rw [List.mem_singleton] at hx; subst hx; rfl
          · cases hx
        · exact chg_kind side was now x hx
termination_by was now => was.length + now.length
theorem tell_trs {d : Nat} {B B' : Bk} {evs : List Ev} {i : Nat} (h : i < (trs evs).length) : ∃ h', (tellB d B B' evs)[i]'h' = (trs evs)[i] := by
  unfold tellB
  refine ⟨by simp only [List.length_append]; omega, ?_⟩
  rw [List.getElem_append_left (by rw [List.length_append]; omega), List.getElem_append_left h]
theorem tell_lev {d : Nat} {B B' : Bk} {evs : List Ev} {i : Nat} (h : (trs evs).length ≤ i) (hi : i < (tellB d B B' evs).length) : (tellB d B B' evs)[i].k = 1 := by
  have key : ∀ x ∈ chg 1 (lvs d B.bs) (lvs d B'.bs) ++ chg 2 (lvs d B.ss) (lvs d B'.ss), x.k = 1 := fun x hx => by
    rcases List.mem_append.1 hx with hx | hx
    · exact chg_kind _ _ _ x hx
    · exact chg_kind _ _ _ x hx
  have e : tellB d B B' evs = trs evs ++ (chg 1 (lvs d B.bs) (lvs d B'.bs) ++ chg 2 (lvs d B.ss) (lvs d B'.ss)) := by unfold tellB; rw [List.append_assoc]
  generalize tellB d B B' evs = T at e hi ⊢
  subst e
  rw [List.getElem_append_right h]
  exact key _ (List.getElem_mem _)
end Go.Proofs.Ytinmhhonpflojaa

/- VC: maps whose keys are numbers, further: look-up with 'ok', delete, len, a range over them; max. -/
namespace Go
namespace V
open Go.RowKit
set_option linter.unusedVariables false
set_option linter.unusedSimpArgs false

abbrev ME.born (x : ME) : Nat := x.2.2
/-- the map behind a deletion -/
def mdel (k : Int) (es : List ME) : List ME := match mfind k es 0 with
  | some (i, _) => es.eraseIdx i
  | none => es
abbrev iter_ (m since : Nat) (seen : List Nat) (last : Nat) : Ch := .obj (.mapIter (some m) since ⟨seen⟩ last)
section
variable {P : Program} {n : Nat} {w0 : World} {own : List Nat} {e : Env} {hs : Hp}
theorem Val.lookup2 {T kT eT b c : Nat} {q : IntKind} {k : Int} {x y : Operand} {es : List ME} {z : Value} (hx : ev e x = some (.map (some b))) (hy : ev e y = some (.int q k)) [hT : MapT P T kT eT] [hk : IntT P kT q] [hz : ZrV P eT z]
    [hb : Mem b (.obj (mapOf q es c)) hs] : Val P n w0 own e hs (.lookup T x y true) (.tuple ⟨[(mget k es).getD z, .bool (mget k es).isSome]⟩) := fun a w ty pos aft g d hr s => by
  obtain ⟨i, hi, hzz⟩ := hz.out
  have h1 := s.mrow hb.out
  have h1' : w.heap[b]? = some (.map ⟨es.map (mentry q)⟩ c) := h1
  have key : (Instr.lookup T (.map (some b)) (.int q k) true).run P w = .ok (.tuple ⟨[(mget k es).getD z, .bool (mget k es).isSome]⟩) w := by
    unfold Instr.lookup
    simp [run_underlying hT.out, MapKept.run_getObj_map h1', run_checkKey_int hk.out, run_findKey_int hk.out]
    unfold mget
    cases mfind k es 0 with
    | none => simp [zeroValue, typeInfo, hi, hzz]
    | some p => simp
  simp [execOp, hr.eval hx, hr.eval hy, key]
theorem Val.lookup2E {T kT eT b c : Nat} {q : IntKind} {k : Int} {x y : Operand} {es : List ME} {z v : Value} {ok : Bool} (hx : ev e x = some (.map (some b))) (hy : ev e y = some (.int q k)) [hT : MapT P T kT eT] [hk : IntT P kT q] [hz : ZrV P eT z]
    [hb : Mem b (.obj (mapOf q es c)) hs] (hv : (mget k es).getD z = v) (ho : (mget k es).isSome = ok) : Val P n w0 own e hs (.lookup T x y true) (.tuple ⟨[v, .bool ok]⟩) := hv ▸ ho ▸ Val.lookup2 hx hy
theorem Eff.del {T kT eT uT b c : Nat} {q : IntKind} {k : Int} {x y : Operand} {es : List ME} {hs' : Hp} (hx : ev e x = some (.map (some b))) (hy : ev e y = some (.int q k)) [hT : MapT P T kT eT] [hk : IntT P kT q]
    [hb : Mem b (.obj (mapOf q es c)) hs] [u : UpdI b (.obj (mapOf q (mdel k es) c)) hs hs'] : Eff P n w0 own e hs (.call { callee := .builtin .delete, args := #[x, y], argTypes := #[T, uT] }) (fun v h => v = .tuple ⟨[]⟩ ∧ h = hs') :=
  Eff.of_run fun a w ty pos aft g d hr s => by
    have h1 := s.mrow hb.out
    have h1' : w.heap[b]? = some (.map ⟨es.map (mentry q)⟩ c) := h1
    have hlt : b < w.heap.size := (Array.getElem?_eq_some_iff.1 h1').1
    have key : (Builtin.delete_ #[T, uT] ty #[.map (some b), .int q k]).run P w = .ok (.tuple #[]) { w with heap := w.heap.setIfInBounds b (mapOf q (mdel k es) c) } := by
      unfold Builtin.delete_
      cases hf : mfind k es 0 with
      | none =>
        simp [run_underlying hT.out, MapKept.run_getObj_map h1', run_checkKey_int hk.out, run_findKey_int hk.out, hf, MapKept.run_setObj_map _ h1', mdel, mapOf]
      | some p =>
        obtain ⟨i, v0⟩ := p
        obtain ⟨_, y0, g1, g2, _⟩ := mfind_key k es 0 i v0 hf
        have hi : i < es.length := by have := (List.getElem?_eq_some_iff.1 g1).1; omega
        simp [run_underlying hT.out, MapKept.run_getObj_map h1', run_checkKey_int hk.out, run_findKey_int hk.out, hf, MapKept.run_setObj_map _ h1', mdel, mapOf, Array.eraseIdxIfInBounds, hi]
        congr 2
        apply Array.ext'
        apply List.ext_getElem?
        intro m
        simp only [List.getElem?_eraseIdx, List.getElem?_map]
        split <;> rfl
    refine ⟨.tuple ⟨[]⟩, hs', { w with heap := w.heap.setIfInBounds b (mapOf q (mdel k es) c) }, ?_, ⟨rfl, rfl⟩, ?_⟩
    · simp [execOp, hr.eval hx, hr.eval hy, resolve, invoke, builtin, key]
    · refine s.upd u.out ?_ ?_ ?_ rfl rfl rfl
      · simp
      · intro i hi
        simp [Array.getElem?_setIfInBounds, Ne.symm hi]
      · simp [Array.getElem?_setIfInBounds, hlt, Ch.toObj]
theorem Val.lenM {T kT eT b c : Nat} {q : IntKind} {x : Operand} {es : List ME} (hx : ev e x = some (.map (some b))) [hT : MapT P T kT eT] [hb : Mem b (.obj (mapOf q es c)) hs] :
    Val P n w0 own e hs (.call { callee := .builtin .len, args := #[x], argTypes := #[T] }) (.int .i64 es.length) := fun a w ty pos aft g d hr s => by
  have h1 := s.mrow hb.out
  have h1' : w.heap[b]? = some (.map ⟨es.map (mentry q)⟩ c) := h1
  have hu := hT.out
  simp [execOp, hr.eval hx, resolve, invoke, builtin, Builtin.len_, run_underlying hu, goInt, MapKept.run_getObj_map h1']
theorem Val.max2 {x y : Operand} {q : IntKind} {i j : Int} {ts : Array TypeId} (hx : ev e x = some (.int q i)) (hy : ev e y = some (.int q j)) :
    Val P n w0 own e hs (.call { callee := .builtin .max, args := #[x, y], argTypes := ts }) (.int q (max i j)) := fun a w ty pos aft g d hr s => by
  simp [execOp, hr.eval hx, hr.eval hy, resolve, invoke, builtin, Builtin.max_, Builtin.max2]
  by_cases h : i < j
  · simp [h]; omega
  · simp [h]; omega
theorem Eff.range {T kT eT b c : Nat} {q : IntKind} {x : Operand} {es : List ME} (hx : ev e x = some (.map (some b))) [hT : MapT P T kT eT] [hb : Mem b (.obj (mapOf q es c)) hs] :
    Eff P n w0 own e hs (.range T x) (NewP hs (iter_ b c [] c)) :=
  Eff.of_run fun a w ty pos aft g d hr s => by
    have h1 := s.mrow hb.out
    have h1' : w.heap[b]? = some (.map ⟨es.map (mentry q)⟩ c) := h1
    refine ⟨.pointer (some ⟨w.heap.size, 0, none⟩), _, w.alloc (.mapIter (some b) c #[] c), ?_, ⟨w.heap.size, rfl, rfl⟩, s.new (iter_ b c [] c)⟩
    have key : (Instr.range T (.map (some b))).run P w = .ok (.pointer (some ⟨w.heap.size, 0, none⟩)) (w.alloc (.mapIter (some b) c #[] c)) := by
      unfold Instr.range
      simp [run_underlying hT.out, MapKept.run_getObj_map h1', run_newObj_alloc]
    simp [execOp, hr.eval hx, key]
theorem left_nil {q : IntKind} {es : List ME} {seen : List Nat} : (leftOf ⟨es.map (mentry q)⟩ ⟨seen⟩).size = 0 ↔ ∀ x ∈ es, x.born ∈ seen := by
  unfold leftOf
  rw [Array.size_eq_zero_iff, Array.filter_eq_empty_iff]
  constructor
  · intro h x hx
    have := h (mentry q x) (by simp; exact ⟨_, _, _, hx, rfl⟩)
    simpa [mentry] using this
  · intro h y hy
    simp at hy
    obtain ⟨a, b, c, hx, rfl⟩ := hy
    simpa [mentry] using h _ hx
theorem Eff.next {r b since last c : Nat} {q : IntKind} {x : Operand} {es : List ME} {seen : List Nat} {fr : Hp} (hx : ev e x = some (.pointer (some ⟨r, 0, none⟩))) [hr_ : Rem (r, iter_ b since seen last) hs fr] [hb : Mem b (.obj (mapOf q es c)) hs]
    (hold : ∀ y ∈ es, y.born < since) (hl : since ≤ last) :
    Eff P n w0 own e hs (.next x false) (fun v h => (v = .tuple ⟨[.bool false]⟩ ∧ (∀ y ∈ es, y.born ∈ seen) ∧ h = hs) ∨
      ∃ y ∈ es, y.born ∉ seen ∧ v = .tuple ⟨[.bool true, .int q y.1, y.2.1]⟩ ∧ h = (r, iter_ b since (seen ++ [y.born]) c) :: fr) :=
  Eff.of_run fun a w ty pos aft g d hr s => by
    have h1 := s.mrow hb.out
    have h1' : w.heap[b]? = some (.map ⟨es.map (mentry q)⟩ c) := h1
    have hrr : w.heap[r]? = some (.mapIter (some b) since ⟨seen⟩ last) := s.has r _ (hr_.out.mem_iff.2 List.mem_cons_self)
    have hlt : r < w.heap.size := (Array.getElem?_eq_some_iff.1 hrr).1
    rcases run_next_at (P := P) w ty r b since last ⟨seen⟩ ⟨es.map (mentry q)⟩ c hrr h1' (by
      intro y hy
      simp at hy
      obtain ⟨a, b, c, hm, rfl⟩ := hy
      exact hold _ hm) hl with ⟨h0, hrun⟩ | ⟨y, hy, w1, hw1, hrun⟩
    · exact ⟨_, hs, w, by simp [execOp, hr.eval hx, hrun], .inl ⟨rfl, left_nil.1 h0, rfl⟩, s⟩
    · unfold leftOf at hy
      simp at hy
      obtain ⟨⟨a1, a2, a3, hm, rfl⟩, hns⟩ := hy
      have hpu : (⟨seen⟩ : Array Nat).push (mentry q (a1, a2, a3)).born = ⟨seen ++ [a3]⟩ := by apply Array.ext'; simp [mentry]
      rw [hpu] at hrun
      have s1 : Sat w0 own hs w1 := by rcases hw1 with rfl | rfl; exact s; exact s.drew
      have s2 := (s1.perm hr_.out).upd (w' := ChangeMaps.setBlock w1 r (.mapIter (some b) since ⟨seen ++ [a3]⟩ c)) (c := iter_ b since (seen ++ [a3]) c) (.head) (by simp [ChangeMaps.setBlock]) (fun i hi => by simp [ChangeMaps.setBlock, Array.getElem?_setIfInBounds, Ne.symm hi]) (by
        have hlt1 : r < w1.heap.size := by rcases hw1 with rfl | rfl <;> exact hlt
        simp [ChangeMaps.setBlock, Array.getElem?_setIfInBounds, hlt1, Ch.toObj]) rfl rfl rfl
      exact ⟨_, _, _, by simp [execOp, hr.eval hx, hrun, mentry], .inr ⟨(a1, a2, a3), hm, by simpa [mentry] using hns, rfl, rfl⟩, s2⟩
theorem Val.entry {r b since c : Nat} {q : IntKind} {x : Operand} {es : List ME} {seen : List Nat} {y : ME} (hx : ev e x = some (.pointer (some ⟨r, 0, none⟩))) [hr_ : Mem r (iter_ b since (seen ++ [y.born]) c) hs] [hb : Mem b (.obj (mapOf q es c)) hs]
    (hy : y ∈ es) (hn : (es.map ME.born).Nodup) : Val P n w0 own e hs (.entry x) (.tuple ⟨[.int q y.1, y.2.1]⟩) := fun a w ty pos aft g d hr s => by
  have h1 := s.mrow hb.out
  have h1' : w.heap[b]? = some (.map ⟨es.map (mentry q)⟩ c) := h1
  have hrr : w.heap[r]? = some (.mapIter (some b) since ⟨seen ++ [y.born]⟩ c) := s.has r _ hr_.out
  have hpu : (⟨seen ++ [y.born]⟩ : Array Nat) = (⟨seen⟩ : Array Nat).push (mentry q y).born := by apply Array.ext'; simp [mentry]
  rw [hpu] at hrr
  have := run_entry_at (P := P) w r b since ⟨seen⟩ ⟨es.map (mentry q)⟩ c (mentry q y) hrr h1' (by simp; exact ⟨_, _, _, hy, rfl⟩) (by
    simpa [List.map_map, Function.comp_def, mentry] using hn)
  simp [execOp, hr.eval hx, this, mentry]
end
section
variable {P : Program} {n : Nat} {w0 : World} {own : List Nat} {e : Env} {hs F : Hp} {ops : Array Oper} {rest : List Oper} {K : Env → Hp → Prop}
variable {d : Nat} {ty : TypeId} {pos : String} {aft : Array Edge} {g : Option (Nat × Bool)}
/-- what works on memory and leaves nothing, when it is alone -/
theorem JK.ef0 {op : Op} {R : Value → Hp → Prop} (h : Eff P n w0 own e hs op R) (hF : ∀ v hs', R v hs' → F ⊆ hs → F ⊆ hs') (kk : ∀ v hs', R v hs' → JK P n w0 own ops F rest e hs' K)
    (hE : isEff ⟨none, op, ty, pos, aft, g⟩ = true := by rfl) (hg : wantB ops e g = some true := by rfl) : JK P n w0 own ops F (⟨none, op, ty, pos, aft, g⟩ :: rest) e hs K := by
  intro m is listed Z h1 h2 h3 hz
  cases is with
  | nil => exact h1.elim
  | cons k is =>
  obtain ⟨h0, h1⟩ := h1
  unfold ordB at h2
  rw [Bool.and_eq_true, Bool.or_eq_true, Bool.and_eq_true] at h2
  rw [show (⟨none, op, ty, pos, aft, g⟩ :: rest : List Oper).length + m = (rest.length + m) + 1 from by simp; omega]
  rcases h2.1 with ho | ⟨hn, _⟩
  · exact JD.ef0 k h0 ho h (fun v hs' r => kk v hs' r m is _ Z h1 h2.2 (hF v hs' r h3) hz) hF hg
  · rw [hE] at hn; cases hn
theorem JY.nw {z : Nat} {late : Bool} {K' : Bool → Env → Hp → Prop} {op : Op} {c : Ch} (h : Eff P n w0 own e hs op (NewP hs c)) (kk : ∀ b, JY P n w0 own ops F z late rest ((d, .pointer (some ⟨b, 0, none⟩)) :: e) ((b, c) :: hs) K')
    (hE : isEff ⟨some d, op, ty, pos, aft, g⟩ = true := by rfl) (hdn : Nat.blt d n = true := by rfl) (hg : wantB ops e g = some true := by rfl) (hzo : ((ops[z]?).map (·.dst.isNone)) = some true := by rfl) : JY P n w0 own ops F z late (⟨some d, op, ty, pos, aft, g⟩ :: rest) e hs K' :=
  .ef h (fun v h' ⟨b, _, e2⟩ f => by subst e2; exact fun p hp => List.mem_cons_of_mem _ (f hp)) (fun v h' ⟨b, e1, e2⟩ => by subst e1; subst e2; exact kk b) hE hdn hg hzo
/-- a record stored into a record -/
theorem Eff.storeR {T m b o U : Nat} {x y : Operand} {vs l : List Value} {hs' : Hp} (l' : List Value) (hx : ev e x = some (.pointer (some ⟨b, o, none⟩))) (hy : ev e y = some (.agg ⟨vs⟩)) [hT : Sz P T m] [hb : Mem b (.cells l U) hs]
    [u : UpdI b (.cells l' U) hs hs'] (hm : vs.length = m := by rfl) (h1 : ones vs = true := by rfl) (ho : Nat.ble (o + vs.length) l.length = true := by rfl) (hl : splice l o vs = l' := by rfl) : Eff P n w0 own e hs (.store T x y) (fun v h => v = undef ∧ h = hs') := by
  subst hl
  exact Eff.storeA hx hy hm h1 (Nat.le_of_ble_eq_true ho)
end
end V
end Go

/- slices.Delete of one, slices.Insert of one, over levels. -/
namespace Go.Proofs.Ytinmhhonpflojaa
open Go.V
set_option linter.unusedVariables false
set_option linter.unusedSimpArgs false

set_option maxRecDepth 10000 in
theorem ldelete_ok (w : World) (A : Option Addr) (n c i : Nat) (vs : List Value) (h : Hp) (k : OwnS 109 3 (.slice A n c) n vs h) (hi : i < n) (hb : n ≤ 5864062014805) (h1 : ones vs = true) :
    Does Try.prog 93 [.slice A n c, .int .i64 i, .int .i64 (i + 1)] h w (fun v hs => OwnS 109 3 v (n - 1) (vs.take (i * 3) ++ vs.drop ((i + 1) * 3)) hs) := by
  obtain ⟨b, o, l, rfl, -, rfl, hc, hl, hv⟩ := k.some_ (by omega)
  have hvl := k.1
  refine Does.of (n := 33) Try.func93 rfl rfl rfl rfl ?_
  refine .seq ((.region (.v (.assign rfl) (.nil ?_))))
  refine .seq ((.region (.v (.move rfl) (.v (.move rfl) (.v (.move rfl) (.v (.move rfl) (.v (.len rfl) (.v (.sl3 rfl rfl rfl rfl (by omega) (by omega) (by omega) (by omega)) (.nil ?_)))))))))
  refine .seq (.seq ((.region (.v (.move rfl) (.v (.move rfl) (.v (.eqi rfl rfl) (.nil ?_)))))))
  refine .cond_dec rfl (fun h1 => by omega) (fun _ => .skip ?_)
  refine .seq ((.region (.v (.move rfl) (.v (.len rfl) (.v (.assign rfl) (.nil ?_))))))
  refine .seq (.drawK [] (List.nil_subset _) (by kernel_rfl) (by kernel_rfl) ?_)
  refine .v (fun _ f => .move rfl) (.v (fun _ f => .move rfl) (.v (fun _ f => .slHi rfl rfl (by omega) (by omega)) (.v (fun _ f => .move rfl) (.v (fun _ f => .move rfl) (.v (fun _ f => .slLo rfl rfl (by omega) (by omega)) ?_)))))
  have e1 : ((i : Int)).toNat = i := by omega
  have e2 : ((i : Int) + 1).toNat = i + 1 := by omega
  have hnews : (vs.drop ((i + 1) * 3)).length = (n - (i + 1)) * 3 := by rw [List.length_drop, hvl, Nat.sub_mul]
  have hones : ones (vs.drop ((i + 1) * 3)) = true := by
    simp only [ones, List.all_eq_true] at h1 ⊢
    exact fun x hx => h1 x (List.mem_of_mem_drop hx)
  have kc := k.cut (i := i + 1) (by omega) (by omega)
  refine .ef (.appendIn (c := i) (k := n - (i + 1)) (news := vs.drop ((i + 1) * 3)) (b := b) (o := o) (cap := c) (l := l) rfl rfl
    (fun w s => by simp only [e1, e2]; exact (OwnS.rd kc s (fun p hp => hp) (by simp) (no := [])).src hnews (by omega)) hnews hones (by omega) (by omega)) (fun _ _ ⟨_, h2⟩ _ => List.nil_subset _) ?_
  rintro _ _ ⟨rfl, rfl⟩
  refine .v (fun _ f => .assign rfl) (.nil ?_)
  have e3 : i + (n - (i + 1)) = n - 1 := by omega
  rw [e3]
  refine .seq ((.region (.v (.move rfl) (.v (.move rfl) (.v (.len rfl) (.v (.move rfl) (.v (.slLoHi rfl rfl rfl (by omega) (by omega) (by omega)) ?_)))))))
  have e4 : (((n - 1 : Nat) : Int)).toNat = n - 1 := by omega
  have e5 : ((n : Int)).toNat = n := by omega
  simp only [e4, e5]
  rw [cutA_some (by omega)]
  have hlen2 : (V.splice l (o + i * 3) (vs.drop ((i + 1) * 3))).length = l.length := splice_length _ _ _ (by rw [hnews]; omega)
  refine .ef0 (.clearIn (z := [.int .i64 0, .int .u64 0, .int .i64 0]) rfl rfl (by rw [hlen2]; omega)) ?_
  rintro _ _ ⟨rfl, rfl⟩
  refine .nil ?_
  refine .seq ((.region (.v (.move rfl) (.v (.assign rfl) (.nil ?_)))))
  refine .ret ⟨[_], ⟨rfl, trivial⟩, ?_, .inr ⟨b, o, c, _, rfl, rfl, by omega, ?_, ?_⟩⟩
  · rw [List.length_append, List.length_take, hnews, hvl]
    rw [Nat.min_eq_left (Nat.mul_le_mul_right _ (by omega)), ← Nat.add_mul]
    congr 1
  · rw [splice_length _ _ _ (by rw [zeros_length, hlen2]; simp; omega), hlen2]; exact hl
  · rw [splice_keep _ _ o _ _ (Nat.le_refl _) (by rw [hlen2]; omega)]
    have := splice_app l (vs.take (i * 3)) (vs.drop ((i + 1) * 3)) o i 3 (n - (i + 1)) c (by rw [List.length_take, hvl]; omega) hnews (by omega) hl (by rw [← hv, List.take_take]; congr 1; omega)
    rw [e3] at this
    exact this

instance : OvT Try.prog 98 38 4 := ⟨_, Try.func98, by kernel_rfl, by kernel_rfl, by kernel_rfl, by kernel_rfl⟩
set_option maxRecDepth 10000 in
theorem linsert_ok (w : World) (A : Option Addr) (n c i vb : Nat) (vs oc : List Value) (h : Hp) (k : OwnS 109 3 (.slice A n c) n vs h) (hi : i ≤ n) (hb : n + 1 ≤ 5864062014805) (h1 : ones vs = true) (h2 : ones oc = true) (ho : oc.length = 3) :
    Does Try.prog 94 [.slice A n c, .int .i64 i, .slice (some ⟨vb, 0, none⟩) 1 1] (h ++ [(vb, .cells oc 109)]) w
      (fun v hs => OwnS 109 3 v (n + 1) (vs.take (i * 3) ++ oc ++ vs.drop (i * 3)) hs) := by
  have hvl := k.1
  refine Does.less (Does.of (n := 95) Try.func94 rfl rfl rfl rfl ?_)
  refine .seq ((.region (.v (.assign rfl) (.nil ?_))))
  refine .seq ((.region (.v (.move rfl) (.v (.move rfl) (.v (.slLo rfl rfl (by omega) (by omega)) (.nil ?_))))))
  refine .seq ((.region (.v (.move rfl) (.v (.len rfl) (.v (.assign rfl) (.nil ?_))))))
  refine .seq (.seq ((.region (.v (.move rfl) (.v (.eqi rfl rfl) (.nil ?_))))))
  refine .cond_dec rfl (fun h1 => by omega) (fun _ => .skip ?_)
  refine .seq ((.region (.v (.move rfl) (.v (.len rfl) (.v (.assign rfl) (.nil ?_))))))
  refine .seq (.seq ((.region (.v (.move rfl) (.v (.move rfl) (.v (.eqi rfl rfl) (.nil ?_)))))))
  refine .cond_dec rfl (fun g1 => ?_) (fun g1 => .skip ?_)
  · have hin : i = n := by omega
    subst hin
    refine .seq ((.region (.v (.move rfl) (.v (.move rfl) ?_))))
    refine .ef (.append (c := i) (k := 1) (vs := vs) (news := oc) (h := h) (fr := [(vb, .cells oc 109)]) rfl rfl k (by exact List.Perm.refl _) (fun w s => Src.cells (by omega) (fun j v hv => by rw [add_none, s.cell (b := vb) (T := 109) (l := oc) (by simp)]; simpa using hv)) (by omega) h2 (by omega) (by omega)) ?_
    rintro v _ ⟨h', k', rfl⟩
    refine .v (.assign rfl) (.nil ?_)
    refine .ret ⟨[_], ⟨rfl, trivial⟩, h', fun _ s => s.sub (List.sublist_append_left _ _), ?_⟩
    rw [List.take_of_length_le (by omega), List.drop_of_length_le (by omega), List.append_nil]
    exact k'
  · obtain ⟨b, o, l, rfl, -, rfl, hc, hl, hv⟩ := k.some_ (by omega)
    have e1 : ((i : Int)).toNat = i := by omega
    have e2 : ((i : Int) + 1).toNat = i + 1 := by omega
    have hD : (vs.drop (i * 3)).length = (n - i) * 3 := by rw [List.length_drop, hvl, Nat.sub_mul]
    have hT : (vs.take (i * 3)).length = i * 3 := by rw [List.length_take, hvl]; omega
    have hTl : (l.drop o).take (i * 3) = vs.take (i * 3) := by rw [← hv, List.take_take]; congr 1; omega
    have hDg : ∀ (j : Nat) (v : Value), (vs.drop (i * 3))[j]? = some v → l[o + i * 3 + j]? = some v := fun j v hj => by
      rw [← hv, List.getElem?_drop, List.getElem?_take] at hj
      split at hj
      · rw [List.getElem?_drop] at hj; rw [← hj]; congr 1; omega
      · cases hj
    refine .seq (.seq ((.region (.v (.move rfl) (.v (.move rfl) (.v (.addi rfl rfl (by omega)) (.v (.move rfl) (.v (.cap_ rfl) (.v (.gtr rfl rfl) (.nil ?_))))))))))
    refine .cond_dec rfl (fun g2 => ?_) (fun g2 => .skip ?_)
    · refine .seq ((.region (.v (.move rfl) (.v (.move rfl) (.v (.slHi rfl rfl (by omega) (by omega)) (.v (.move rfl) (.v (.move rfl) (.v (.addi rfl rfl (by omega)) (.v (.move rfl) (.v (.subi rfl rfl (by omega)) ?_))))))))))
      have e3 : ((n : Int) + (1 : Nat) - (i : Int)) = ((n + 1 - i : Nat) : Int) := by omega
      rw [e3, e1]
      refine .ef (.appendZ (b := b) (o := o) (c := i) (cap := c) (k := n + 1 - i) (l := l) (vs := vs.take (i * 3)) rfl rfl hTl hl (by omega) (by omega) (by omega) (by omega) (by omega)) ?_
      rintro _ _ ⟨nb, cap', r, rfl, rfl, hc', hr'⟩
      refine .v (.assign rfl) (.nil ?_)
      have e4 : i + (n + 1 - i) = n + 1 := by omega
      rw [e4] at hc' ⊢
      simp only [List.length_append, hT, zeros_length] at hr'
      refine .seq ((.region (.v (.move rfl) (.v (.move rfl) (.v (.slLo rfl rfl (by omega) (by omega)) (.v (.move rfl) ?_))))))
      rw [cutA_some (by omega)]
      have e6 : ((i : Int) + ((1 : Nat) : Int)).toNat = i + 1 := by omega
      have e7 : (i + 1) * 3 = i * 3 + 3 := by omega
      have hlen : (List.take (i * 3) vs ++ zeros [.int .i64 0, .int .u64 0, .int .i64 0] (n + 1 - i) ++ r).length = cap' * 3 := by
        simp only [List.length_append, hT, zeros_length]; exact hr'
      refine .ef (.copyIn (b := nb) (o := 0 + i * 3) (dl := n + 1 - i) (dc := cap' - i) (sl := 1) (k := 1) (news := oc) rfl rfl (by omega) (fun w s => run_lenOf_sl) (fun w s => s.first (T := 109) (l := oc) (by omega) (fun j v hv => by simpa using hv)) h2 (by rw [hlen]; omega)) ?_
      rintro _ _ ⟨rfl, rfl⟩
      refine .nil ?_
      refine .seq (.drawK [] (List.nil_subset _) (by kernel_rfl) (by kernel_rfl) ?_)
      refine .v (fun _ f => .move rfl) (.v (fun _ f => .move rfl) (.v (fun _ f => .move rfl) (.v (fun _ f => .addi rfl rfl (by omega)) (.v (fun _ f => .slLo rfl rfl (by omega) (by omega)) (.v (fun _ f => .move rfl) (.v (fun _ f => .move rfl) (.v (fun _ f => .slLo rfl rfl (by omega) (by omega)) ?_)))))))
      rw [e6, e1, cutA_some (by omega), cutA_some (by omega)]
      refine .ef (.copyIn (b := nb) (o := 0 + (i + 1) * 3) (dl := n + 1 - (i + 1)) (dc := cap' - (i + 1)) (sl := n - i) (k := n - i) (news := vs.drop (i * 3)) rfl rfl (by omega) (fun w s => run_lenOf_sl) (fun w s => s.first (T := 109) (l := l) hD hDg) (ones_drop h1 _)
        (by rw [splice_length _ _ _ (by rw [hlen]; omega), hlen, hD]; omega)) (fun _ _ _ _ => List.nil_subset _) ?_
      rintro _ _ ⟨rfl, rfl⟩
      refine .nil ?_
      refine .seq ((.region (.v (.move rfl) (.v (.assign rfl) (.nil ?_)))))
      refine .ret ⟨[_], ⟨rfl, trivial⟩, [(nb, _)], fun _ s => s.sub (.cons_cons _ (List.nil_sublist _)), ?_, .inr ⟨nb, 0, cap', _, rfl, rfl, hc', ?_, ?_⟩⟩
      · simp only [List.length_append, hT, ho, hD]; omega
      · rw [splice_length _ _ _ (by rw [splice_length _ _ _ (by rw [hlen]; omega), hlen, hD]; omega), splice_length _ _ _ (by rw [hlen]; omega), hlen]; omega
      · have := ins_two' (List.take (i * 3) vs ++ zeros [.int .i64 0, .int .u64 0, .int .i64 0] (n + 1 - i) ++ r) oc (vs.drop (i * 3)) 0 (i * 3) 3 ho (by rw [hlen, hD]; omega)
        rw [hD] at this
        rw [e7, show (n + 1) * 3 = i * 3 + 3 + (n - i) * 3 from by omega, this]
        congr 2
        rw [List.drop_zero, List.append_assoc, List.take_append_of_le_length (by omega), List.take_of_length_le (by omega)]
    · refine .nd fun hnd => ?_
      have hne : vb ≠ b := by
        simp [bl] at hnd
        exact fun e => hnd e.symm
      refine .seq ((.region (.v (.move rfl) (.v (.move rfl) (.v (.move rfl) (.v (.addi rfl rfl (by omega)) (.v (.slHi rfl rfl (by omega) (by omega)) (.v (.assign rfl) (.nil ?_)))))))))
      have e5 : ((n : Int) + ((1 : Nat) : Int)).toNat = n + 1 := by omega
      have e6 : ((i : Int) + ((1 : Nat) : Int)).toNat = i + 1 := by omega
      have e7 : (i + 1) * 3 = i * 3 + 3 := by omega
      rw [e5]
      refine .seq (.seq ((.region (.v (.move rfl) (.v (.move rfl) (.v (.move rfl) (.v (.move rfl) (.v (.addi rfl rfl (by omega)) (.v (.slLo rfl rfl (by omega) (by omega)) ?_)))))))))
      rw [e6, cutA_some (by omega)]
      refine .v (.overlapsNo rfl rfl (b1 := vb) (b2 := b) (l1 := oc) (l2 := l) (T1 := 109) (T2 := 109) hne (by intro e; subst e; simp at hl; omega)) (.v (.not rfl) (.nil ?_))
      refine .cond_true rfl ?_
      refine .seq (.drawK [] (List.nil_subset _) (by kernel_rfl) (by kernel_rfl) ?_)
      refine .v (fun _ f => .move rfl) (.v (fun _ f => .move rfl) (.v (fun _ f => .move rfl) (.v (fun _ f => .addi rfl rfl (by omega)) (.v (fun _ f => .slLo rfl rfl (by omega) (by omega)) (.v (fun _ f => .move rfl) (.v (fun _ f => .move rfl) (.v (fun _ f => .slLo rfl rfl (by omega) (by omega)) ?_)))))))
      rw [e6, e1, cutA_some (by omega), cutA_some (by omega)]
      refine .ef (.copyIn (b := b) (o := o + (i + 1) * 3) (dl := n + 1 - (i + 1)) (dc := c - (i + 1)) (sl := n + 1 - i) (k := n - i) (news := vs.drop (i * 3)) (l := l) rfl rfl (by omega) (fun w s => run_lenOf_sl) (fun w s => s.first (T := 109) (l := l) hD hDg) (ones_drop h1 _)
        (by rw [hD]; omega)) (fun _ _ _ _ => List.nil_subset _) ?_
      rintro _ _ ⟨rfl, rfl⟩
      refine .nil ?_
      have hlen : (V.splice l (o + (i + 1) * 3) (vs.drop (i * 3))).length = l.length := splice_length _ _ _ (by rw [hD]; omega)
      refine .seq ((.region (.v (.move rfl) (.v (.move rfl) (.v (.slLo rfl rfl (by omega) (by omega)) (.v (.move rfl) ?_))))))
      rw [e1, cutA_some (by omega)]
      refine .ef (.copyIn (b := b) (o := o + i * 3) (dl := n + 1 - i) (dc := c - i) (sl := 1) (k := 1) (news := oc) rfl rfl (by omega) (fun w s => run_lenOf_sl) (fun w s => s.first (T := 109) (l := oc) (by omega) (fun j v hv => by simpa using hv)) h2 (by rw [hlen]; omega)) ?_
      rintro _ _ ⟨rfl, rfl⟩
      refine .nil ?_
      refine .seq ((.region (.v (.move rfl) (.v (.assign rfl) (.nil ?_)))))
      refine .ret ⟨[_], ⟨rfl, trivial⟩, [(b, _)], fun _ s => s.sub (.cons_cons _ (List.nil_sublist _)), ?_, .inr ⟨b, o, c, _, rfl, rfl, by omega, ?_, ?_⟩⟩
      · simp only [List.length_append, hT, ho, hD]; omega
      · rw [splice_length _ _ _ (by rw [hlen]; omega), hlen]; exact hl
      · have := ins_two l oc (vs.drop (i * 3)) o (i * 3) 3 ho (by rw [hD]; omega)
        rw [hD] at this
        rw [e7, show (n + 1) * 3 = i * 3 + 3 + (n - i) * 3 from by omega, this, hTl]
end Go.Proofs.Ytinmhhonpflojaa

/- Subscribers: the plain words. -/
namespace Go.Proofs.Ytinmhhonpflojaa
open Go.V
set_option linter.unusedVariables false
set_option linter.unusedSimpArgs false

def nxs (s : Int) : Int := (s + 1) % 18446744073709551616
structure Sb where
  hold : Int
  seq : Int
  bs : List Lv
  ss : List Lv
  held : List Dt
  gr : Int
  last : Dt
/-- a message is done -/
def Sb.app (S : Sb) (x : Dt) : Sb := if x.k = 2 then { S with last := x, seq := x.s } else if x.d = 1 then { S with bs := dn x S.bs, seq := x.s } else { S with ss := dn x S.ss, seq := x.s }
/-- where a message of a number is held -/
def hat (n : Int) (l : List Dt) : Option Nat := l.findIdx? fun x => decide (x.s = n)
theorem hat_some {n : Int} {l : List Dt} {i : Nat} (h : hat n l = some i) : ∃ hi : i < l.length, l[i].s = n ∧ ∀ j, (hj : j < i) → l[j].s ≠ n := by
  unfold hat at h
  rw [List.findIdx?_eq_some_iff_getElem] at h
  obtain ⟨hi, h1, h2⟩ := h
  exact ⟨hi, by simpa using h1, fun j hj => by simpa using h2 j hj⟩
theorem hat_none {n : Int} {l : List Dt} (h : hat n l = none) : ∀ x ∈ l, x.s ≠ n := by
  unfold hat at h
  rw [List.findIdx?_eq_none_iff] at h
  exact fun x hx => by simpa using h x hx
theorem hat_is {n : Int} {l : List Dt} {i : Nat} (hi : i < l.length) (h : l[i].s = n) (hb : ∀ j, (hj : j < l.length) → j < i → l[j].s ≠ n) : hat n l = some i := by
  unfold hat
  rw [List.findIdx?_eq_some_iff_getElem]
  exact ⟨hi, by simpa using h, fun j hj => by simpa using hb j (by omega) hj⟩
theorem hat_no {n : Int} {l : List Dt} (h : ∀ x ∈ l, x.s ≠ n) : hat n l = none := by
  unfold hat
  rw [List.findIdx?_eq_none_iff]
  exact fun x hx => by simpa using h x hx
/-- one message that is held is done -/
def Sb.one (S : Sb) (i : Nat) (x : Dt) : Sb := ({ S with held := S.held.eraseIdx i } : Sb).app x
def Sb.goes : Nat → Sb → Sb
  | 0, S => S
  | k + 1, S => match hat (nxs S.seq) S.held with
    | none => S
    | some i => match S.held[i]? with
      | none => S
      | some x => goes k (S.one i x)
def Sb.go (S : Sb) : Sb := S.goes S.held.length
theorem Sb.app_held (S : Sb) (x : Dt) : (S.app x).held = S.held := by unfold Sb.app; split <;> (try split) <;> rfl
theorem Sb.app_hold (S : Sb) (x : Dt) : (S.app x).hold = S.hold := by unfold Sb.app; split <;> (try split) <;> rfl
theorem Sb.app_gr (S : Sb) (x : Dt) : (S.app x).gr = S.gr := by unfold Sb.app; split <;> (try split) <;> rfl
theorem Sb.app_seq (S : Sb) (x : Dt) : (S.app x).seq = x.s := by unfold Sb.app; split <;> (try split) <;> rfl
theorem Sb.one_held (S : Sb) (i : Nat) (x : Dt) : (S.one i x).held = S.held.eraseIdx i := by unfold Sb.one; rw [Sb.app_held]
theorem Sb.go_none {S : Sb} (h : hat (nxs S.seq) S.held = none) : S.go = S := by
  unfold Sb.go
  cases hn : S.held.length with
  | zero => rfl
  | succ k => simp [Sb.goes, h]
theorem Sb.go_some {S : Sb} {i : Nat} (h : hat (nxs S.seq) S.held = some i) : ∃ hi : i < S.held.length, S.go = (S.one i S.held[i]).go := by
  obtain ⟨hi, -, -⟩ := hat_some h
  refine ⟨hi, ?_⟩
  unfold Sb.go
  obtain ⟨k, hk⟩ : ∃ k, S.held.length = k + 1 := ⟨S.held.length - 1, by omega⟩
  rw [hk, Sb.one_held, List.length_eraseIdx_of_lt hi, hk]
  simp [Sb.goes, h, List.getElem?_eq_getElem hi]
def Sb.has (S : Sb) (n : Int) : Bool := (hat n S.held).isSome
/-- Take -/
def Sb.take (S : Sb) (x : Dt) : Sb × Int :=
  if ¬ x.can then (S, 1)
  else if S.has x.s = true ∨ x.s ≤ S.seq then (S, 180)
  else if x.s ≠ nxs S.seq then ((if (S.held.length : Int) < S.hold then { S with gr := max S.gr x.s, held := S.held ++ [x] } else { S with gr := max S.gr x.s }), 181)
  else ((({ S with gr := max S.gr x.s } : Sb).app x).go, 0)
/-- Recover -/
noncomputable def Sb.rec_ (S : Sb) (seq : Int) (bs ss : List Lv) : Sb × Int :=
  if ¬ (Fit 1 bs ∧ Fit 2 ss) then (S, 1)
  else if seq < S.seq then (S, 180)
  else (({ S with seq := seq, bs := bs, ss := ss, held := S.held.filter fun x => decide (seq < x.s) } : Sb).go, 0)
def Sb.good (S : Sb) : Bool := decide (S.gr ≤ S.seq)
/-- the number ahead of the least one that is held -/
def mnh (e : Int) (l : List Dt) : Int := l.foldl (fun m x => min m (x.s - 1)) e
def Sb.miss (S : Sb) : Int × Int × Bool := if S.good then (0, 0, false) else (nxs S.seq, mnh S.gr S.held, true)
/-- what a subscriber that came about so keeps to -/
structure Sb.Ok (S : Sb) : Prop where
  sq : 0 ≤ S.seq ∧ S.seq < 18446744073709551616
  b : Wrs 1 S.bs
  s : Wrs 2 S.ss
  can : ∀ x ∈ S.held, x.can ∧ x.s < 18446744073709551616
  nd : (S.held.map Dt.s).Nodup
  gr : ∀ x ∈ S.held, x.s ≤ S.gr
  len : S.held.length ≤ 1024 ∧ (S.held.length : Int) ≤ max S.hold 0
theorem Can.side {x : Dt} (h : x.can) : x.d = 1 ∨ x.d = 2 := h.2.1
theorem Sb.Ok.app {S : Sb} (h : S.Ok) {x : Dt} (hx : x.can) (hs : x.s < 18446744073709551616) : (S.app x).Ok := by
  have h0 : 0 ≤ x.s := by have := hx.1; omega
  unfold Sb.app
  split
  · exact ⟨⟨h0, hs⟩, h.b, h.s, h.can, h.nd, h.gr, h.len⟩
  · split
    · rename_i e
      refine ⟨⟨h0, hs⟩, ?_, h.s, h.can, h.nd, h.gr, h.len⟩
      have := (dn_wrs x S.bs (by rw [e]; exact h.b)).1
      rwa [e] at this
    · rename_i e
      have e2 : x.d = 2 := by rcases Can.side hx with e' | e' <;> omega
      refine ⟨⟨h0, hs⟩, h.b, ?_, h.can, h.nd, h.gr, h.len⟩
      have := (dn_wrs x S.ss (by rw [e2]; exact h.s)).1
      rwa [e2] at this
theorem Sb.Ok.one {S : Sb} (h : S.Ok) {i : Nat} (hi : i < S.held.length) : (S.one i S.held[i]).Ok := by
  unfold Sb.one
  have hm := List.getElem_mem hi
  refine Sb.Ok.app (S := { S with held := S.held.eraseIdx i }) ⟨h.sq, h.b, h.s, fun x hx => h.can x (List.mem_of_mem_eraseIdx hx), ?_, fun x hx => h.gr x (List.mem_of_mem_eraseIdx hx), ?_⟩ (h.can _ hm).1 (h.can _ hm).2
  · exact h.nd.sublist ((List.eraseIdx_sublist S.held i).map _)
  · have := h.len
    have e : (S.held.eraseIdx i).length = S.held.length - 1 := List.length_eraseIdx_of_lt hi
    show (S.held.eraseIdx i).length ≤ 1024 ∧ ((S.held.eraseIdx i).length : Int) ≤ max S.hold 0
    omega
theorem Sb.Ok.go {S : Sb} (h : S.Ok) : S.go.Ok := by
  generalize hn : S.held.length = n
  induction n using Nat.strongRecOn generalizing S with
  | _ n ih =>
    cases hh : hat (nxs S.seq) S.held with
    | none => rw [Sb.go_none hh]; exact h
    | some i =>
      obtain ⟨hi, e⟩ := Sb.go_some hh
      rw [e]
      exact ih (n - 1) (by omega) (h.one hi) (by rw [Sb.one_held, List.length_eraseIdx_of_lt hi]; omega)
theorem has_false {S : Sb} {n : Int} (h : ¬ S.has n = true) : ∀ x ∈ S.held, x.s ≠ n := by
  unfold Sb.has at h
  cases hh : hat n S.held with
  | none => exact hat_none hh
  | some i => rw [hh] at h; exact absurd rfl h
theorem Sb.Ok.take {S : Sb} (h : S.Ok) {x : Dt} (hs : x.s < 18446744073709551616) (hh : S.hold ≤ 1024) : (S.take x).1.Ok := by
  unfold Sb.take
  split
  · exact h
  · rename_i hc
    have hc := Decidable.of_not_not hc
    split
    · exact h
    · rename_i h1
      have hn := has_false (fun e => h1 (.inl e))
      have hg : ∀ y ∈ S.held, y.s ≤ max S.gr x.s := fun y hy => by have := h.gr y hy; omega
      split
      · split
        · rename_i h2 h3
          refine ⟨h.sq, h.b, h.s, fun y hy => ?_, ?_, fun y hy => ?_, ?_⟩
          · rcases List.mem_append.1 hy with hy | hy
            · exact h.can y hy
            · have : y = x := by simpa using hy
              subst this; exact ⟨hc, hs⟩
          · show ((S.held ++ [x]).map Dt.s).Nodup
            rw [List.map_append, List.nodup_append]
            refine ⟨h.nd, by simp, fun a ha b hb e => ?_⟩
            obtain ⟨y, hy, rfl⟩ := List.mem_map.1 ha
            have hb : b = x.s := by simpa using hb
            exact hn y hy (by rw [e, hb])
          · rcases List.mem_append.1 hy with hy | hy
            · exact hg y hy
            · have : y = x := by simpa using hy
              subst this; show y.s ≤ max S.gr y.s; omega
          · show (S.held ++ [x]).length ≤ 1024 ∧ ((S.held ++ [x]).length : Int) ≤ max S.hold 0
            rw [List.length_append, List.length_singleton]
            omega
        · exact ⟨h.sq, h.b, h.s, h.can, h.nd, hg, h.len⟩
      · exact (Sb.Ok.app (S := { S with gr := max S.gr x.s }) ⟨h.sq, h.b, h.s, h.can, h.nd, hg, h.len⟩ hc hs).go
theorem Sb.Ok.rec_ {S : Sb} (h : S.Ok) {seq : Int} {bs ss : List Lv} (hs : 0 ≤ seq ∧ seq < 18446744073709551616) : (S.rec_ seq bs ss).1.Ok := by
  unfold Sb.rec_
  split
  · exact h
  · rename_i hf
    have hf := Classical.not_not.1 hf
    split
    · exact h
    · refine Sb.Ok.go ⟨hs, hf.1.wrs, hf.2.wrs, fun x hx => h.can x ((List.mem_filter.1 hx).1), h.nd.sublist ((List.filter_sublist).map _), fun x hx => h.gr x ((List.mem_filter.1 hx).1), ?_⟩
      have := List.length_filter_le (fun x : Dt => decide (seq < x.s)) S.held
      have := h.len
      show (S.held.filter _).length ≤ 1024 ∧ ((S.held.filter _).length : Int) ≤ max S.hold 0
      omega
end Go.Proofs.Ytinmhhonpflojaa

/- A message done on levels: the program's and the document's. -/
namespace Go.Proofs.Ytinmhhonpflojaa
open Go.V
set_option linter.unusedVariables false
set_option linter.unusedSimpArgs false

theorem notWorse_ok (w : World) (b : Nat) (x : Dt) (v : Lv) (hb : Rd w [] (some ⟨b, 0, none⟩) x.cells) : Is Try.prog 92 [.agg ⟨v.cells⟩, .pointer (some ⟨b, 0, none⟩)] w (.bool (!wse x.d x.p v.p)) := by
  refine Does.pure (Does.of (n := 12) Try.func92 rfl rfl rfl rfl ?_)
  refine .seq ((.region (.nw (.box (l := v.cells) rfl rfl) fun b2 => (.v (.assign rfl) (.nil ?_)))))
  refine .seq ((.region (.v (.fieldAddr rfl) (.v (.load (v := .int .i64 x.d) rfl (hb.cell (i := 2) rfl)) (.v (.fieldAddr rfl) (.v (.load (v := .int .i64 x.p) rfl (hb.cell (i := 3) rfl)) (.v (.fieldAddr rfl) (.v (.load (v := .int .i64 v.p) rfl (.one rfl)) (.pc (v := .bool (wse x.d x.p v.p)) rfl rfl (fun w s => worse_ok w x.d x.p v.p) (.v (.not rfl) (.v (.assign rfl) (.nil ?_))))))))))))
  exact .ret ⟨[_], ⟨rfl, trivial⟩, rfl⟩
def pidx (x : Dt) (l : List Lv) : Int := if plv x l < l.length then plv x l else -1
theorem plv_is {x : Dt} {l : List Lv} {i : Nat} (hi : i < l.length) (h : wse x.d x.p l[i].p = false) (hb : ∀ j, (hj : j < l.length) → j < i → wse x.d x.p l[j].p = true) : plv x l = i := by
  unfold plv
  rw [List.findIdx_eq hi]
  exact ⟨by simpa using h, fun j hj => by simpa using hb j (by omega) hj⟩
theorem plv_no {x : Dt} {l : List Lv} (hb : ∀ j, (hj : j < l.length) → wse x.d x.p l[j].p = true) : plv x l = l.length := by
  unfold plv
  rw [List.findIdx_eq_length]
  intro v hv
  obtain ⟨j, hj, rfl⟩ := List.mem_iff_getElem.1 hv
  simpa using hb j hj
set_option maxRecDepth 10000 in
theorem lindex_ok (w : World) (A : Option Addr) (len cap b : Nat) (x : Dt) (l : List Lv) (hx : Rd w [] A (lrows l)) (hl : len = l.length) (hlb : len ≤ 5864062014805) (hb : Rd w [] (some ⟨b, 0, none⟩) x.cells) :
    Is Try.prog 91 [.slice A len cap, .func (.func 92) #[] ⟨[.pointer (some ⟨b, 0, none⟩)]⟩] w (.int .i64 (pidx x l)) := by
  refine Does.pure (Does.of (n := 19) Try.func91 rfl rfl rfl rfl ?_)
  refine .seq ((.region (.v (.assign rfl) (.nil ?_))))
  refine .seq (.seq ((.region (.v (.move rfl) (.v (.len rfl) (.v (.move rfl) (.nil ?_)))))))
  refine .block (.loop (X := Nat) (fun i => [(0, .slice A len cap), (1, .func (.func 92) #[] ⟨[.pointer (some ⟨b, 0, none⟩)]⟩), (7, .int .i64 len), (8, .int .i64 i)]) (fun _ => []) (fun i => i ≤ len ∧ ∀ j, (hj : j < l.length) → j < i → wse x.d x.p l[j].p = true) (fun i => len - i) 0 ⟨by omega, fun m _ hm => by omega⟩
    (.cons rfl (.cons rfl (.cons rfl (.cons rfl (.nil _))))) (fun _ s => s) ?_)
  rintro i ⟨hi, hI⟩
  refine .seq ((.region (.v (.lss rfl rfl) (.nil ?_))))
  refine .seq (.cond_dec rfl (fun h1 => .skip ?_) (fun h1 => .exit ?_))
  · have hil : i < l.length := by omega
    obtain ⟨b', o', rfl, hA⟩ := Rd.lev hx (by omega)
    have hlv := fun hs => lvAt (z := (i : Int)) (hA hs) hil
    obtain ⟨v, hv⟩ : ∃ v, l[i] = v := ⟨_, rfl⟩
    rw [hv] at hlv
    refine .seq (.block (.seq ((.region (.v (.move rfl) (.v (.assign rfl) (.nil ?_)))))))
    refine .seq ((.region (.v (.move rfl) (.v (.move rfl) (.v (.move rfl) (.v (.indexAddr rfl rfl (by omega) (by omega)) (.v (.loadA (vs := v.cells) rfl (hlv _) rfl) (.pc (v := .bool (!wse x.d x.p v.p)) rfl rfl (fun w s => notWorse_ok w b x v (hb.keep0 s)) (.nil ?_)))))))))
    refine .cond rfl (fun h2 => ?_) (fun h2 => .skip ?_)
    · refine .seq ((.region (.v (.move rfl) (.v (.assign rfl) (.nil ?_)))))
      have e : plv x l = i := plv_is hil (by rw [hv]; simpa using h2) hI
      exact .ret ⟨[_], ⟨rfl, trivial⟩, by unfold pidx; rw [e, if_pos hil]; rfl⟩
    · refine .region (.v (.addi rfl rfl (by omega)) (.v (.move rfl) (.nil ?_)))
      refine ⟨i + 1, ⟨by omega, fun m hm hmi => ?_⟩, by omega, .cons rfl (.cons rfl (.cons rfl (.cons rfl (.nil _)))), fun _ s => s⟩
      by_cases e : m = i
      · subst e; rw [hv]; simpa using h2
      · exact hI m hm (by omega)
  · refine .seq ((.region (.v (.assign rfl) (.nil ?_))))
    have e : plv x l = l.length := plv_no fun m hm => hI m hm (by omega)
    exact .ret ⟨[_], ⟨rfl, trivial⟩, by unfold pidx; rw [e, if_neg (by omega)]; rfl⟩
theorem lrows_put (l : List Lv) (i : Nat) (v : Lv) (h : i < l.length) : splice (lrows l) (i * 3) v.cells = lrows (l.take i ++ v :: l.drop (i + 1)) := by
  unfold V.splice
  rw [lrows_app, lrows_take, show lrows (v :: l.drop (i + 1)) = v.cells ++ lrows (l.drop (i + 1)) from rfl, lrows_drop, List.append_assoc]
  congr 3
  show i * 3 + 3 = _
  omega
abbrev Db (b : Nat) (x : Dt) : Nat × Ch := (b, .cells x.cells 24)
theorem ldn_len (x : Dt) (l : List Lv) : (dn x l).length ≤ l.length + 1 := by
  induction l with
  | nil => unfold dn; split <;> simp
  | cons v l ih =>
    unfold dn
    split
    · simpa using ih
    · split <;> split <;> simp <;> omega
set_option maxRecDepth 20000 in
set_option maxHeartbeats 1000000 in
theorem done_ok (w : World) (x : Dt) (v0 : Value) (l : List Lv) (h : Hp) (k : LOwn v0 l h) (hb : l.length ≤ 3000000) :
    Does Try.prog 84 [v0, .agg ⟨x.cells⟩] h w (fun v hs => LOwn v (dn x l) hs) := by
  obtain ⟨A, c, rfl⟩ := lown_sl k
  have hcap := (OwnS.cap_ k).2
  have hform := dn_form x l
  have hple := plv_le x l
  refine Does.less (Does.of (n := 69) Try.func84 rfl rfl rfl rfl ?_)
  refine .seq ((.region (.nw (.box (l := x.cells) rfl rfl) fun b3 => (.v (.assign rfl) (.nil ?_)))))
  refine .seq ((.region (.v (.move rfl) (.v (.makeFunc rfl rfl) (.pc (v := .int .i64 (pidx x l)) rfl rfl (fun w s => lindex_ok w A l.length c b3 x l (OwnS.rd k s (no := []) (fun y hy => by simp [hy]) (by simp)) rfl (by omega) (Rd.blk (T := 24) s)) (.v (.assign rfl) (.nil ?_)))))))
  refine .mid (X := Unit) (fun _ => [(0, .slice A l.length c), (3, .pointer (some ⟨b3, 0, none⟩)), (5, .int .i64 (plv x l))]) (fun _ => Db b3 x :: h) (fun _ => True) (.seq ((.region (.v (.move rfl) (.v (.lss rfl rfl) (.nil ?_)))))) ?_
  · refine .cond_dec rfl (fun h1 => ?_) (fun h1 => .skip ?_)
    · refine .region (.v (.move rfl) (.v (.len rfl) (.v (.assign rfl) (.nil ?_))))
      have e : plv x l = l.length := by unfold pidx at h1; split at h1 <;> omega
      exact ⟨(), trivial, .cons rfl (.cons rfl (.cons (by rw [e]; rfl) (.nil _))), fun _ s => s.take⟩
    · have e : pidx x l = plv x l := by
        unfold pidx at h1 ⊢
        by_cases hh : plv x l < l.length
        · rw [if_pos hh]
        · rw [if_neg hh] at h1; omega
      exact ⟨(), trivial, .cons rfl (.cons rfl (.cons (by rw [← e]; rfl) (.nil _))), fun _ s => s.take⟩
  rintro _ _
  generalize hp : plv x l = p at hform hple ⊢
  obtain ⟨u, hu⟩ := get_of l p
  have lu : ∀ own hs', h ⊆ hs' → p < l.length → ∃ b o, A = some ⟨b, o, none⟩ ∧ At w own hs' ⟨b, o + ((p : Int)).toNat * 3 + 0, none⟩ [.int .i64 u.p] := fun own hs' hh hpl => by
    obtain ⟨b, o, lx, rfl, -, -, -, -, -⟩ := k.some_ (by omega)
    exact ⟨b, o, rfl, by rw [← hu hpl]; exact lpAt (k.at0 hh) hpl⟩
  obtain ⟨bA, oA, hA⟩ : ∃ b o, p < l.length → A = some ⟨b, o, none⟩ ∧ ∀ own hs', h ⊆ hs' → At w own hs' ⟨b, o + ((p : Int)).toNat * 3 + 0, none⟩ [.int .i64 u.p] := by
    by_cases hpl : p < l.length
    · obtain ⟨b, o, lx, rfl, -, -, -, -, -⟩ := k.some_ (by omega)
      exact ⟨b, o, fun _ => ⟨rfl, fun own hs' hh => by rw [← hu hpl]; exact lpAt (k.at0 hh) hpl⟩⟩
    · exact ⟨0, 0, fun hh => absurd hh hpl⟩
  refine .seq ((.drawK (Db b3 x :: h) (fun _ h => h) (by kernel_rfl) (by kernel_rfl) ?_))
  refine .v (fun _ f => .move rfl) (.v (fun _ f => .move rfl) (.v (fun _ f => .len rfl) (.v (fun _ f => .lss rfl rfl) (.v (fun _ f => .move rfl) (.and (b2 := decide (u.p = x.p)) 19 27 8 8 rfl rfl (fun g1 => have g2 : (p : Int) < l.length := of_decide_eq_true g1; .v (fun _ f => .move rfl) (.v (fun _ f => .move rfl) (.v (fun _ f => .indexAddr (b := bA) (o := oA) (len := l.length) (cap := c) (by rw [← (hA (by omega)).1]; rfl) rfl (by omega) (by omega)) (.v (fun _ f => .fieldAddr rfl) (.v (fun _ f => .load (v := .int .i64 u.p) rfl ((hA (by omega)).2 _ _ (fun y hy => f (List.mem_cons_of_mem _ hy)))) (.v (fun _ f => .fieldAddr rfl) (.v (fun _ f => .load (v := .int .i64 x.p) rfl (.one (b := b3) (l := x.cells) (T := 24) (hb := ⟨f List.mem_cons_self⟩) rfl)) (.v (fun _ f => .eqi rfl rfl) (.nil ⟨rfl, rfl, rfl, rfl⟩))))))))) (.v (fun _ f => .assign rfl) (.nil ?_)))))))
  refine .seq ((.region (.v (.fieldAddr rfl) (.v (.load (v := .int .i64 x.p) rfl (.one rfl)) (.v (.fieldAddr rfl) (.v (.load (v := .int .u64 x.q) rfl (.one rfl)) (.v (.fieldAddr rfl) (.v (.load (v := .int .i64 x.c) rfl (.one rfl)) (.v (.build (out := x.lv.cells) rfl rfl) (.nw .alloc fun b7 => (.st (.sw rfl rfl) (.nil ?_))))))))))))
  refine .seq (.block (.seq ((.region (.v (.move rfl) (.v (.move rfl) (.and (b2 := decide (x.c = 0)) 38 41 3 3 rfl rfl (fun g2 => .v (.fieldAddr rfl) (.v (.load (v := .int .i64 x.c) rfl (.one rfl)) (.v (.eqi rfl rfl) (.nil ⟨rfl, rfl, rfl, rfl⟩)))) (.v (.assign rfl) (.nil ?_)))))))))
  refine .cond rfl (fun h2 => ?_) (fun h2 => ?_)
  · simp only [Bool.and_eq_true, Bool.or_eq_true, Bool.not_eq_true', Bool.and_eq_false_iff, Bool.or_eq_false_iff, Bool.not_eq_false', decide_eq_true_eq, decide_eq_false_iff_not, Bool.false_eq_true, false_iff] at h2
    obtain ⟨⟨g1, g2⟩, g3⟩ := h2
    have hpl : p < l.length := by omega
    have e := hform.1 hpl (by rw [hu hpl]; exact g2)
    rw [if_pos g3] at e
    refine .seq ((.region (.v (.move rfl) ?_)))
    refine .ef (.call0 rfl rfl fun w s => lclone_ok w A l.length c l (OwnS.rd k s (no := []) (fun y hy => by simp [hy]) (by simp)) rfl (by omega)) ?_
    rintro v1 _ ⟨k1, o1, rfl⟩
    obtain ⟨B, d, rfl⟩ := lown_sl o1
    refine .v (.move rfl) (.v (.move rfl) (.v (.addi rfl rfl (by omega)) ?_))
    refine .ef (.callT k1 rfl rfl fun w s => ldelete_ok w B l.length d p (lrows l) k1 o1 hpl (by omega) (lrows_ones _)) ?_
    rintro v2 _ ⟨k2, o2, rfl⟩
    refine .v (.assign rfl) (.nil ?_)
    refine .ret ⟨[_], ⟨rfl, trivial⟩, k2, fun _ s => Sat.take (pre := k2) s, ?_⟩
    rw [e]
    unfold LOwn
    rw [List.length_append, List.length_take, List.length_drop, lrows_app, lrows_take, lrows_drop, Nat.min_eq_left (by omega), show p + (l.length - (p + 1)) = l.length - 1 by omega]
    exact o2
  · refine .seq ((.region (.v (.move rfl) (.v (.assign rfl) (.nil ?_)))))
    refine .cond rfl (fun h3 => ?_) (fun h3 => ?_)
    · simp only [Bool.and_eq_true, Bool.or_eq_true, Bool.not_eq_true', Bool.and_eq_false_iff, Bool.or_eq_false_iff, Bool.not_eq_false', decide_eq_true_eq, decide_eq_false_iff_not, Bool.false_eq_true, false_iff] at h2 h3
      obtain ⟨g1, g2⟩ := h3
      have hpl : p < l.length := by omega
      have g3 : ¬ x.c = 0 := by rcases h2 with (h2 | h2) | h2 <;> omega
      have e := hform.1 hpl (by rw [hu hpl]; exact g2)
      rw [if_neg g3] at e
      refine .seq ((.region (.v (.move rfl) ?_)))
      refine .ef (.call0 rfl rfl fun w s => lclone_ok w A l.length c l (OwnS.rd k s (no := []) (fun y hy => by simp [hy]) (by simp)) rfl (by omega)) ?_
      rintro v1 _ ⟨k1, o1, rfl⟩
      obtain ⟨B, d, rfl⟩ := lown_sl o1
      obtain ⟨bm, om, lm, rfl, -, rfl, hcm, hlm, hvm⟩ := o1.some_ (by omega)
      refine .v (.assign rfl) (.nil ?_)
      refine .seq ((.region (.v (.move rfl) (.v (.move rfl) (.v (.loadA (vs := x.lv.cells) rfl .whole rfl) (.v (.indexAddr rfl rfl (by omega) (by omega)) (.st (.storeA (l := lm) rfl rfl rfl rfl (by show om + (p : Int).toNat * 3 + 3 ≤ lm.length; omega)) (.nil ?_))))))))
      have o2 := OwnS.spliceAt (i := p * 3) (us := x.lv.cells) o1 (by show p * 3 + 3 ≤ _; omega)
      refine .seq ((.region (.v (.move rfl) (.v (.assign rfl) (.nil ?_)))))
      refine .ret ⟨[_], ⟨rfl, trivial⟩, [(bm, .cells (V.splice lm (om + p * 3) x.lv.cells) 109)], fun _ s => ?_, ?_⟩
      · rw [Int.toNat_natCast] at s
        exact Sat.take s
      · rw [e]
        unfold LOwn
        rw [← lrows_put _ _ _ hpl, List.length_append, List.length_cons, List.length_take, List.length_drop, Nat.min_eq_left (by omega), show p + (l.length - (p + 1) + 1) = l.length by omega]
        exact o2
    · simp only [Bool.and_eq_true, Bool.or_eq_true, Bool.not_eq_true', Bool.and_eq_false_iff, Bool.or_eq_false_iff, Bool.not_eq_false', decide_eq_true_eq, decide_eq_false_iff_not, Bool.false_eq_true, false_iff] at h3
      have e := hform.2 (fun hpl => by rw [hu hpl]; rcases h3 with h3 | h3; omega; exact h3)
      refine .seq ((.region (.v (.fieldAddr rfl) (.v (.load (v := .int .i64 x.c) rfl (.one rfl)) (.v (.eqi rfl rfl) (.v (.assign rfl) (.nil ?_)))))))
      refine .cond_dec rfl (fun h4 => ?_) (fun h4 => .skip ?_)
      · rw [if_pos h4] at e
        refine .seq ((.region (.v (.move rfl) (.v (.assign rfl) (.nil ?_)))))
        exact .ret ⟨[_], ⟨rfl, trivial⟩, h, fun _ s => Sat.take (pre := h) s, by rw [e]; exact k⟩
      · rw [if_neg h4] at e
        have fin : ∀ (v2 : Value) (k2 : Hp), OwnS 109 3 v2 (l.length + 1) ((lrows l).take (p * 3) ++ x.lv.cells ++ (lrows l).drop (p * 3)) k2 → LOwn v2 (dn x l) k2 := by
          intro v2 k2 o2
          rw [e]
          unfold LOwn
          rw [List.length_append, List.length_cons, List.length_take, List.length_drop, lrows_app, lrows_take, show lrows (x.lv :: l.drop p) = x.lv.cells ++ lrows (l.drop p) from rfl, lrows_drop, Nat.min_eq_left (by omega), show p + (l.length - p + 1) = l.length + 1 by omega, ← List.append_assoc]
          exact o2
        refine .seq (.drawX [0, 2, 3] [(b7, .cells x.lv.cells 109)] (by intro y hy; simp at hy; subst hy; simp) (by kernel_rfl) (by kernel_rfl) ?_)
        refine .v (fun _ f => .move rfl) (.v (fun _ f => .move rfl) (.v (fun _ f => .loadA (vs := x.lv.cells) rfl (.whole (hb := .sub f)) rfl) (.nil ?_)))
        refine .two 1 4 (by kernel_rfl) (.cl rfl rfl rfl (fun w s => lclone_ok w A l.length c l (OwnS.rd k s (no := []) (fun y hy => by simp [hy]) (by simp)) rfl (by omega)) ?_) (.ef rfl (.buildSlice (out := x.lv.cells) rfl (by decide) rfl rfl) (fun v hs' ⟨b, _, e⟩ f => by subst e; exact fun y hy => List.mem_cons_of_mem _ (f hy)) ?_)
        · intro v1 k1 o1
          obtain ⟨B, d, rfl⟩ := lown_sl o1
          refine .run [4, 5, 6] (by intro y hy; simp at hy; subst hy; simp) (by kernel_rfl) ?_
          refine .ef (.buildSlice (out := x.lv.cells) rfl (by decide) rfl rfl) (fun v hs' ⟨b, _, e⟩ f => by subst e; exact fun y hy => List.mem_cons_of_mem _ (f hy)) ?_
          rintro _ _ ⟨b67, rfl, rfl⟩
          refine .clT (k1 ++ [(b67, Ch.cells x.lv.cells 109)]) rfl rfl (fun w s => linsert_ok w B l.length d p b67 (lrows l) x.lv.cells k1 o1 hple (by omega) (lrows_ones _) rfl rfl) (fun h => by intro y hy; simp at hy; subst hy; simp) ?_
          intro v2 k2 o2
          refine .v (fun _ f => .assign rfl) (.nil ?_)
          exact .ret ⟨[_], ⟨rfl, trivial⟩, k2, fun _ s => Sat.take (pre := k2) s, fin _ _ o2⟩
        · rintro _ _ ⟨b67, rfl, rfl⟩
          refine .run [1, 5, 6] (by intro y hy; simp at hy; subst hy; simp) (by kernel_rfl) ?_
          refine .cl rfl rfl (fun w s => lclone_ok w A l.length c l (OwnS.rd k s (no := []) (fun y hy => by simp [hy]) (by simp)) rfl (by omega)) ?_
          intro v1 k1 o1
          obtain ⟨B, d, rfl⟩ := lown_sl o1
          refine .clT (k1 ++ [(b67, Ch.cells x.lv.cells 109)]) rfl rfl (fun w s => linsert_ok w B l.length d p b67 (lrows l) x.lv.cells k1 o1 hple (by omega) (lrows_ones _) rfl rfl) (fun h => by intro y hy; simp at hy; subst hy; simp) ?_
          intro v2 k2 o2
          refine .v (fun _ f => .assign rfl) (.nil ?_)
          exact .ret ⟨[_], ⟨rfl, trivial⟩, k2, fun _ s => Sat.take (pre := k2) s, fin _ _ o2⟩
end Go.Proofs.Ytinmhhonpflojaa

/- A subscriber in memory: does, follows. -/
namespace Go.Proofs.Ytinmhhonpflojaa
open Go.V
set_option linter.unusedVariables false
set_option linter.unusedSimpArgs false

set_option maxRecDepth 20000 in
set_option maxHeartbeats 1000000 in
theorem refdone_ok (w : World) (x : Dt) (A : Option Addr) (len c : Nat) (l : List Lv) (hx : Rd w [] A (lrows l)) (hl : len = l.length) (hw : Wrs x.d l) (hb : l.length ≤ 3000000) :
    Does Try.prog 85 [.slice A len c, .agg ⟨x.cells⟩] [] w (fun v hs => LOwn v (dn x l) hs) := by
  rw [← dnr_eq x l hw]
  refine Does.less (Does.of (n := 70) Try.func85 rfl rfl rfl rfl ?_)
  refine .seq ((.region (.nw (.box (l := x.cells) rfl rfl) fun b3 => (.v (.assign rfl) (.nil ?_)))))
  refine .seq ((.region (.v (.assign rfl) (.nil ?_))))
  refine .seq ((.region (.v (.fieldAddr rfl) (.v (.load (v := .int .i64 x.c) rfl (.one rfl)) (.v (.eqi rfl rfl) (.v (.assign rfl) (.nil ?_)))))))
  refine .seq (.seq ((.region (.v (.assign rfl) (.nil ?_)))))
  refine .block (.loop (X := Nat × Bool × List Lv × Value × Hp) (fun z => [(0, .slice A len c), (3, .pointer (some ⟨b3, 0, none⟩)), (5, z.2.2.2.1), (6, .bool z.2.1), (7, .int .i64 z.1)]) (fun z => Db b3 x :: z.2.2.2.2) (fun z => z.1 ≤ len ∧ z.2.2.1 ++ dnr x z.2.1 (l.drop z.1) = dnr x (decide (x.c = 0)) l ∧ LOwn z.2.2.2.1 z.2.2.1 z.2.2.2.2 ∧ z.2.2.1.length ≤ 2 * z.1) (fun z => len - z.1) ⟨0, decide (x.c = 0), [], .slice none 0 0, []⟩ ⟨by simp, by simp, OwnS.nil _ _, by simp⟩ (.cons rfl (.cons rfl (.cons rfl (.cons rfl (.cons rfl (.nil _)))))) (fun _ s => s) ?_)
  rintro ⟨i, put, out, v, h⟩ ⟨hi, hI, ho, hlo⟩
  dsimp only at hi hI ho hlo ⊢
  refine .seq (.seq ((.region (.v (.move rfl) (.v (.move rfl) (.v (.len rfl) (.v (.lss rfl rfl) (.nil ?_))))))))
  refine .cond_dec rfl (fun h1 => .skip ?_) (fun h1 => .exit ?_)
  · have hil : i < l.length := by omega
    obtain ⟨b, o, rfl, hA⟩ := Rd.lev hx (by omega)
    have hlv := fun hs => lvAt (z := (i : Int)) (hA hs) hil
    have hlp := fun hs => lpAt (z := (i : Int)) (hA hs) hil
    rw [List.drop_eq_getElem_cons hil] at hI
    obtain ⟨u, hu⟩ : ∃ u, l[i] = u := ⟨_, rfl⟩
    rw [hu] at hlv hlp hI
    rw [dnr] at hI
    refine .mid (X := Bool × List Lv × Value × Hp) (fun z => [(0, .slice (some ⟨b, o, none⟩) len c), (3, .pointer (some ⟨b3, 0, none⟩)), (5, z.2.2.1), (6, .bool z.1), (7, .int .i64 i)]) (fun z => Db b3 x :: z.2.2.2)
      (fun z => z.2.1 ++ dnr x z.1 (l.drop (i + 1)) = dnr x (decide (x.c = 0)) l ∧ LOwn z.2.2.1 z.2.1 z.2.2.2 ∧ z.2.1.length ≤ 2 * (i + 1)) (.block ?_) ?_
    · refine .mid (X := List Lv × Value × Hp) (fun z => [(0, .slice (some ⟨b, o, none⟩) len c), (3, .pointer (some ⟨b3, 0, none⟩)), (5, z.2.1), (6, .bool (put || !wse x.d x.p u.p)), (7, .int .i64 i)]) (fun z => Db b3 x :: z.2.2)
        (fun z => z.1 ++ ((if u.p ≠ x.p then [u] else []) ++ dnr x (put || !wse x.d x.p u.p) (l.drop (i + 1))) = dnr x (decide (x.c = 0)) l ∧ LOwn z.2.1 z.1 z.2.2 ∧ z.1.length ≤ 2 * i + 1) (.seq ((.drawK [Db b3 x] (by intro y hy; simp at hy; subst hy; simp) (by kernel_rfl) (by kernel_rfl) ?_))) ?_
      · refine .v (fun _ f => .move rfl) (.v (fun _ f => .not rfl) (.v (fun _ f => .move rfl) (.and (b2 := !wse x.d x.p u.p) 19 30 11 11 rfl rfl (fun g1 => .v (fun _ f => .fieldAddr rfl) (.v (fun _ f => .load (v := .int .i64 x.d) rfl (.one (hb := .sub f) rfl)) (.v (fun _ f => .fieldAddr rfl) (.v (fun _ f => .load (v := .int .i64 x.p) rfl (.one (hb := .sub f) rfl)) (.v (fun _ f => .move rfl) (.v (fun _ f => .move rfl) (.v (fun _ f => .indexAddr rfl rfl (by omega) (by omega)) (.v (fun _ f => .fieldAddr rfl) (.v (fun _ f => .load (v := .int .i64 u.p) rfl (hlp _)) (.pc (v := .bool (wse x.d x.p u.p)) rfl rfl (fun w s => refworse_ok w x.d x.p u.p) (.v (fun _ f => .not rfl) (.nil ⟨rfl, rfl, rfl, rfl⟩)))))))))))) (.nil ?_))))
        refine .cond rfl (fun h2 => ?_) (fun h2 => .skip ?_)
        · rw [if_pos h2] at hI
          simp only [Bool.and_eq_true, Bool.or_eq_true, Bool.not_eq_true', Bool.and_eq_false_iff, Bool.or_eq_false_iff, Bool.not_eq_false', decide_eq_true_eq, decide_eq_false_iff_not, Bool.false_eq_true, false_iff] at h2
          have hput : (put || !wse x.d x.p u.p) = true := by rw [h2.1, h2.2]; rfl
          rw [hput] at hI ⊢
          refine .seq ((.region (.v (.move rfl) (.v (.fieldAddr rfl) (.v (.load (v := .int .i64 x.p) rfl (.one rfl)) (.v (.fieldAddr rfl) (.v (.load (v := .int .u64 x.q) rfl (.one rfl)) (.v (.fieldAddr rfl) (.v (.load (v := .int .i64 x.c) rfl (.one rfl)) (.v (.build (out := x.lv.cells) rfl rfl) (.push (vs := lrows out) (c := out.length) (oc := x.lv.cells) rfl rfl ho rfl rfl rfl (by omega) (by omega) ?_)))))))))))
          intro b9 v' h' k'
          refine .v (.assign rfl) (.nil ?_)
          refine .region (.v (.assign rfl) (.nil ?_))
          refine ⟨(out ++ [x.lv], v', h'), ⟨by rw [List.append_assoc]; exact hI, ?_, by simp; omega⟩, .cons rfl (.cons rfl (.cons rfl (.cons rfl (.cons rfl (.nil _))))), fun _ s => s.take⟩
          unfold LOwn; rw [List.length_append, lrows_app]; simpa [lrows] using k'
        · rw [if_neg (by rw [h2]; simp), List.nil_append] at hI
          have hput : (put || !wse x.d x.p u.p) = put := by
            simp only [Bool.and_eq_true, Bool.or_eq_true, Bool.not_eq_true', Bool.and_eq_false_iff, Bool.or_eq_false_iff, Bool.not_eq_false', decide_eq_true_eq, decide_eq_false_iff_not, Bool.false_eq_true, false_iff] at h2
            rcases h2 with h2 | h2
            · rw [h2]; rfl
            · rw [h2]; simp
          rw [hput] at hI ⊢
          exact ⟨(out, v, h), ⟨hI, ho, by show out.length ≤ _; omega⟩, .cons rfl (.cons rfl (.cons rfl (.cons rfl (.cons rfl (.nil _))))), fun _ s => s.take⟩
      · rintro ⟨out1, v1, h1'⟩ ⟨hI1, ho1, hl1⟩
        dsimp only at hI1 ho1 hl1 ⊢
        refine .seq ((.drawK [Db b3 x] (by intro y hy; simp at hy; subst hy; simp) (by kernel_rfl) (by kernel_rfl) ?_))
        refine .v (fun _ f => .move rfl) (.v (fun _ f => .move rfl) (.v (fun _ f => .indexAddr rfl rfl (by omega) (by omega)) (.v (fun _ f => .fieldAddr rfl) (.v (fun _ f => .load (v := .int .i64 u.p) rfl (hlp _)) (.v (fun _ f => .fieldAddr rfl) (.v (fun _ f => .load (v := .int .i64 x.p) rfl (.one (hb := .sub f) rfl)) (.v (fun _ f => .nei rfl rfl) (.nil ?_))))))))
        refine .cond_dec rfl (fun h3 => ?_) (fun h3 => .skip ?_)
        · rw [if_pos h3] at hI1
          refine .region (.v (.move rfl) (.v (.move rfl) (.v (.move rfl) (.v (.indexAddr rfl rfl (by omega) (by omega)) (.v (.loadA (vs := u.cells) rfl (hlv _) rfl) (.push (vs := lrows out1) (c := out1.length) (oc := u.cells) rfl rfl ho1 rfl rfl rfl (by omega) (by omega) ?_))))))
          intro b9 v' h' k'
          refine .v (.assign rfl) (.nil ?_)
          refine ⟨(put || !wse x.d x.p u.p, out1 ++ [u], v', h'), ⟨by rw [List.append_assoc]; exact hI1, ?_, by simp; omega⟩, .cons rfl (.cons rfl (.cons rfl (.cons rfl (.cons rfl (.nil _))))), fun _ s => s.take⟩
          unfold LOwn; rw [List.length_append, lrows_app]; simpa [lrows] using k'
        · rw [if_neg h3, List.nil_append] at hI1
          exact ⟨(put || !wse x.d x.p u.p, out1, v1, h1'), ⟨hI1, ho1, by show out1.length ≤ _; omega⟩, .cons rfl (.cons rfl (.cons rfl (.cons rfl (.cons rfl (.nil _))))), fun _ s => s.take⟩
    · rintro ⟨put1, out1, v1, h1'⟩ ⟨hI1, ho1, hl1⟩
      dsimp only at hI1 ho1 hl1 ⊢
      refine .region (.v (.move rfl) (.v (.addi rfl rfl (by omega)) (.v (.assign rfl) (.nil ?_))))
      exact ⟨⟨i + 1, put1, out1, v1, h1'⟩, ⟨by show i + 1 ≤ _; omega, hI1, ho1, hl1⟩, by show len - (i + 1) < _; omega, .cons rfl (.cons rfl (.cons rfl (.cons rfl (.cons rfl (.nil _))))), fun _ s => s⟩
  · have hd : l.drop i = [] := List.drop_eq_nil_of_le (by omega)
    rw [hd, dnr] at hI
    refine .mid (X := Value × Hp) (fun z => [(5, z.1)]) (fun z => z.2) (fun z => LOwn z.1 (dnr x (decide (x.c = 0)) l) z.2) (.seq ((.region (.v (.move rfl) (.v (.not rfl) (.nil ?_)))))) ?_
    · refine .cond rfl (fun h5 => ?_) (fun h5 => .skip ?_)
      · have hp : put = false := by simpa using h5
        rw [hp] at hI
        refine .region (.v (.move rfl) (.v (.fieldAddr rfl) (.v (.load (v := .int .i64 x.p) rfl (.one rfl)) (.v (.fieldAddr rfl) (.v (.load (v := .int .u64 x.q) rfl (.one rfl)) (.v (.fieldAddr rfl) (.v (.load (v := .int .i64 x.c) rfl (.one rfl)) (.v (.build (out := x.lv.cells) rfl rfl) (.push (vs := lrows out) (c := out.length) (oc := x.lv.cells) rfl rfl ho rfl rfl rfl (by omega) (by omega) ?_)))))))))
        intro b9 v' h' k'
        refine .v (.assign rfl) (.nil ?_)
        refine ⟨(v', h'), ?_, .cons rfl (.nil _), fun _ s => s.take⟩
        rw [← hI]
        show LOwn v' (out ++ [x.lv]) h'
        unfold LOwn; rw [List.length_append, lrows_app]; simpa [lrows] using k'
      · have hp : put = true := by simpa using h5
        rw [hp] at hI
        refine ⟨(v, h), ?_, .cons rfl (.nil _), fun _ s => s.take⟩
        rw [← hI]
        show LOwn v (out ++ []) h
        rw [List.append_nil]; exact ho
    · rintro ⟨v', h'⟩ k'
      refine .seq ((.region (.v (.move rfl) (.v (.assign rfl) (.nil ?_)))))
      exact .ret ⟨[_], ⟨rfl, trivial⟩, h', fun _ s => s, k'⟩

/-! ### what is held, as a map -/
structure MapH (es : List ME) (c : Nat) (held : List Dt) : Prop where
  kv : es.map (fun e => (e.1, e.2.1)) = held.map fun x => (x.s, Value.agg ⟨x.cells⟩)
  lt : ∀ e ∈ es, e.born < c
  nd : (es.map ME.born).Nodup
theorem MapH.nil : MapH [] 0 [] := ⟨rfl, by simp, by simp⟩
theorem MapH.len {es : List ME} {c : Nat} {held : List Dt} (h : MapH es c held) : es.length = held.length := by
  have := congrArg List.length h.kv; simpa using this
theorem mfind_kv (n : Int) : ∀ (es : List ME) (held : List Dt) (i : Nat), es.map (fun e => (e.1, e.2.1)) = held.map (fun x => (x.s, Value.agg ⟨x.cells⟩)) →
    mfind n es i = (held.findIdx? fun x => decide (x.s = n)).bind fun j => (held[j]?).map fun x => (i + j, Value.agg ⟨x.cells⟩)
  | [], [], i, _ => rfl
  | e :: es, x :: held, i, h => by
    simp only [List.map_cons, List.cons.injEq, Prod.mk.injEq] at h
    obtain ⟨⟨h1, h2⟩, h3⟩ := h
    unfold mfind
    rw [h1, List.findIdx?_cons]
    by_cases hn : x.s = n
    · simp [hn, h2]
    · have hne : (n == x.s) = false := by simp; exact fun e => hn e.symm
      rw [hne]
      simp only [hn, decide_false, Bool.false_eq_true, if_false]
      rw [mfind_kv n es held (i + 1) h3]
      cases held.findIdx? (fun x => decide (x.s = n)) with
      | none => rfl
      | some j => simp; cases held[j]? <;> simp; omega
  | [], _ :: _, i, h => by simp at h
  | _ :: _, [], i, h => by simp at h
theorem MapH.gno {es : List ME} {c : Nat} {held : List Dt} (h : MapH es c held) {n : Int} (hn : hat n held = none) : mget n es = none := by
  unfold mget; rw [mfind_kv n es held 0 h.kv]; unfold hat at hn; rw [hn]; rfl
theorem MapH.gso {es : List ME} {c : Nat} {held : List Dt} (h : MapH es c held) {n : Int} {i : Nat} (hn : hat n held = some i) (hi : i < held.length) : mget n es = some (.agg ⟨held[i].cells⟩) := by
  unfold mget; rw [mfind_kv n es held 0 h.kv]; unfold hat at hn; rw [hn]
  simp [List.getElem?_eq_getElem hi]
theorem MapH.del {es : List ME} {c : Nat} {held : List Dt} (h : MapH es c held) {n : Int} {i : Nat} (hn : hat n held = some i) (hi : i < held.length) : MapH (mdel n es) c (held.eraseIdx i) := by
  have e : mdel n es = es.eraseIdx i := by
    unfold mdel; rw [mfind_kv n es held 0 h.kv]; unfold hat at hn; rw [hn]
    simp [List.getElem?_eq_getElem hi]
  rw [e]
  refine ⟨?_, fun e he => h.lt e (List.mem_of_mem_eraseIdx he), h.nd.sublist ((List.eraseIdx_sublist es i).map _)⟩
  have hk := h.kv
  apply List.ext_getElem?
  intro j
  have h1 := fun (j : Nat) => congrArg (fun (l : List (Int × Value)) => l[j]?) hk
  simp only [List.getElem?_map, List.getElem?_eraseIdx] at h1 ⊢
  split
  · exact h1 j
  · exact h1 (j + 1)
theorem MapH.put {es : List ME} {c : Nat} {held : List Dt} (h : MapH es c held) {x : Dt} (hn : hat x.s held = none) : MapH (mset x.s (.agg ⟨x.cells⟩) es c).1 (mset x.s (.agg ⟨x.cells⟩) es c).2 (held ++ [x]) := by
  have e : mset x.s (.agg ⟨x.cells⟩) es c = (es ++ [(x.s, .agg ⟨x.cells⟩, c)], c + 1) := by
    unfold mset; rw [mfind_kv _ es held 0 h.kv]; unfold hat at hn; rw [hn]; rfl
  rw [e]
  refine ⟨by simp [h.kv], fun e he => ?_, ?_⟩
  · rcases List.mem_append.1 he with he | he
    · have := h.lt e he; show e.born < c + 1; omega
    · have he := List.mem_singleton.1 he
      subst he; show c < c + 1; omega
  · rw [List.map_append, List.nodup_append]
    refine ⟨h.nd, by simp, fun a ha b hb e => ?_⟩
    obtain ⟨y, hy, rfl⟩ := List.mem_map.1 ha
    have hb : b = c := by simpa using hb
    have := h.lt y hy
    omega

abbrev sbcells (S : Sb) (v1 v2 : Value) (m : Nat) : List Value := [.int .i64 S.hold, .int .u64 S.seq, v1, v2, .map (some m), .int .u64 S.gr, .int .u64 S.last.s, .int .i64 S.last.k, .int .i64 S.last.d, .int .i64 S.last.p, .int .u64 S.last.q, .int .i64 S.last.c, .bool (decide (S.last.k = 2))]
abbrev Sbk (b : Nat) (S : Sb) (v1 v2 : Value) (m : Nat) : Nat × Ch := (b, .cells (sbcells S v1 v2 m) 114)
abbrev SBH (b m : Nat) (S : Sb) (v1 v2 : Value) (k1 k2 : Hp) (es : List ME) (c : Nat) : Hp := Sbk b S v1 v2 m :: (m, Ch.obj (mapOf .u64 es c)) :: (k1 ++ k2)
structure SubI (S : Sb) (v1 v2 : Value) (k1 k2 : Hp) (es : List ME) (c : Nat) : Prop where
  o1 : LOwn v1 S.bs k1
  o2 : LOwn v2 S.ss k2
  m : MapH es c S.held
/-- a subscriber in memory -/
def SubH (b m : Nat) (S : Sb) (hs : Hp) : Prop := ∃ v1 v2 k1 k2 es c, hs = SBH b m S v1 v2 k1 k2 es c ∧ SubI S v1 v2 k1 k2 es c
end Go.Proofs.Ytinmhhonpflojaa

/- (*feed.Subscriber).does and follows. -/
namespace Go.Proofs.Ytinmhhonpflojaa
open Go.V
set_option linter.unusedVariables false
set_option linter.unusedSimpArgs false

theorem dn_len (x : Dt) : ∀ l : List Lv, (dn x l).length ≤ l.length + 1 := by
  intro l
  have h1 := (dn_form x l)
  have h2 := plv_le x l
  by_cases h : ∃ h : plv x l < l.length, l[plv x l].p = x.p
  · obtain ⟨ha, hb⟩ := h
    rw [h1.1 ha hb]; split <;> simp <;> omega
  · rw [h1.2 (fun ha hb => h ⟨ha, hb⟩)]; split <;> simp <;> omega
def Sb.size (S : Sb) : Nat := S.bs.length + S.ss.length + S.held.length
theorem Sb.app_size (S : Sb) (x : Dt) : (S.app x).size ≤ S.size + 1 := by
  unfold Sb.app Sb.size
  have h1 := dn_len x S.bs
  have h2 := dn_len x S.ss
  split
  · show S.bs.length + S.ss.length + S.held.length ≤ _; omega
  · split
    · show (dn x S.bs).length + S.ss.length + S.held.length ≤ _; omega
    · show S.bs.length + (dn x S.ss).length + S.held.length ≤ _; omega
theorem Sb.one_size {S : Sb} {i : Nat} (hi : i < S.held.length) (x : Dt) : (S.one i x).size ≤ S.size := by
  have h := Sb.app_size { S with held := S.held.eraseIdx i } x
  have e : (S.held.eraseIdx i).length = S.held.length - 1 := List.length_eraseIdx_of_lt hi
  unfold Sb.one
  unfold Sb.size at h ⊢
  dsimp only at h
  omega
theorem Sb.go_size (S : Sb) : S.go.size ≤ S.size := by
  generalize hn : S.held.length = n
  induction n using Nat.strongRecOn generalizing S with
  | _ n ih =>
    cases hh : hat (nxs S.seq) S.held with
    | none => rw [Sb.go_none hh]; omega
    | some i =>
      obtain ⟨hi, e⟩ := Sb.go_some hh
      rw [e]
      have := Sb.one_size hi S.held[i]
      have := ih (n - 1) (by omega) (S.one i S.held[i]) (by rw [Sb.one_held, List.length_eraseIdx_of_lt hi]; omega)
      omega
theorem Sb.app_last {S : Sb} {x : Dt} (h : x.k = 2) : S.app x = { S with last := x, seq := x.s } := by unfold Sb.app; rw [if_pos h]
theorem Sb.app_b {S : Sb} {x : Dt} (h : x.k ≠ 2) (h1 : x.d = 1) : S.app x = { S with bs := dn x S.bs, seq := x.s } := by unfold Sb.app; rw [if_neg h, if_pos h1]
theorem Sb.app_s {S : Sb} {x : Dt} (h : x.k ≠ 2) (h1 : x.d ≠ 1) : S.app x = { S with ss := dn x S.ss, seq := x.s } := by unfold Sb.app; rw [if_neg h, if_neg h1]

/-- a subscriber whose number is not written yet -/
structure DoX where
  v1 : Value
  v2 : Value
  k1 : Hp
  k2 : Hp
abbrev Sb.num_ (S : Sb) (q : Int) : Sb := { S with seq := q }
set_option maxRecDepth 20000 in
set_option maxHeartbeats 1000000 in
theorem does_ok (w : World) (b m : Nat) (S : Sb) (x : Dt) (v1 v2 : Value) (k1 k2 : Hp) (es : List ME) (c : Nat) (h : SubI S v1 v2 k1 k2 es c) (hb : S.size ≤ 2900000) :
    Does Try.prog 63 [.pointer (some ⟨b, 0, none⟩), .agg ⟨x.cells⟩] (SBH b m S v1 v2 k1 k2 es c) w (fun v hs => v = .tuple ⟨[]⟩ ∧ SubH b m (S.app x) hs) := by
  have hb1 : S.bs.length ≤ 3000000 := by unfold Sb.size at hb; omega
  have hb2 : S.ss.length ≤ 3000000 := by unfold Sb.size at hb; omega
  have o1 := h.o1
  have o2 := h.o2
  refine Does.less (Does.of (n := 47) Try.func63 rfl rfl rfl rfl ?_)
  refine .seq ((.region (.nw (.box (l := x.cells) rfl rfl) fun b3 => (.nil ?_))))
  refine .mid (X := DoX) (fun z => [(0, .pointer (some ⟨b, 0, none⟩)), (3, .pointer (some ⟨b3, 0, none⟩))]) (fun z => Db b3 x :: SBH b m ((S.app x).num_ S.seq) z.v1 z.v2 z.k1 z.k2 es c) (fun z => LOwn z.v1 (S.app x).bs z.k1 ∧ LOwn z.v2 (S.app x).ss z.k2) (.block (.seq ((.region (.v (.fieldAddr rfl) (.v (.load (v := .int .i64 x.k) rfl (.one rfl)) (.v (.eqi rfl rfl) (.v (.assign rfl) (.nil ?_))))))))) ?_
  · refine .cond_dec rfl (fun h1 => ?_) (fun h1 => ?_)
    · refine .region (.v (.move rfl) (.v (.move rfl) (.v (.loadA (vs := x.cells) rfl .whole rfl) (.v (.nilCheck rfl) (.v (.fieldAddr rfl) (.st (.storeR [.int .i64 S.hold, .int .u64 S.seq, v1, v2, .map (some m), .int .u64 S.gr, .int .u64 x.s, .int .i64 x.k, .int .i64 x.d, .int .i64 x.p, .int .u64 x.q, .int .i64 x.c, .bool (decide (S.last.k = 2))] rfl rfl) (.v (.nilCheck rfl) (.v (.fieldAddr rfl) (.st (.storeL rfl rfl rfl) (.nil ?_))))))))))
      rw [Sb.app_last h1]
      refine ⟨⟨v1, v2, k1, k2⟩, ⟨o1, o2⟩, .cons rfl (.cons rfl (.nil _)), fun _ s => ?_⟩
      have e : (true : Bool) = decide (x.k = 2) := by simp [h1]
      rw [e] at s
      exact s.take
    · refine .seq ((.region (.v (.fieldAddr rfl) (.v (.load (v := .int .i64 x.d) rfl (.one rfl)) (.v (.eqi rfl rfl) (.v (.assign rfl) (.nil ?_)))))))
      refine .cond_dec rfl (fun h2 => ?_) (fun h2 => ?_)
      · obtain ⟨A1, a1, rfl⟩ := lown_sl o1
        refine (.drawQ 11 [0, 1, 2, 3, 4, 5, 6, 7, 8, 9, 10, 11] [Db b3 x, Sbk b S (.slice A1 S.bs.length a1) v2 m] (by intro p hp; simp at hp ⊢; rcases hp with rfl | rfl <;> simp) (by kernel_rfl) (by kernel_rfl) ?_)
        refine .v (fun _ f => .move rfl) (.v (fun _ f => .move rfl) (.v (fun _ f => .nilCheck rfl) (.v (fun _ f => .fieldAddr rfl) (.v (fun _ f => .fieldAddr rfl) (.v (fun _ f => .load (v := .slice A1 S.bs.length a1) rfl (.one (hb := .sub f) rfl)) (.v (fun _ f => .loadA (vs := x.cells) rfl (.whole (hb := .sub f)) rfl) ?_))))))
        refine .ef (.callT k1 rfl rfl (fun w s => done_ok w x _ S.bs k1 o1 hb1)) (fun _ _ ⟨_, _, e⟩ _ => by subst e; intro p hp; simp at hp ⊢; rcases hp with rfl | rfl <;> simp) ?_
        rintro v1' _ ⟨k1', k', rfl⟩
        obtain ⟨A1', a1', rfl⟩ := lown_sl k'
        refine .v (fun _ f => .nilCheck rfl) (.v (fun _ f => .fieldAddr rfl) (.v (fun _ f => .fieldAddr rfl) (.st (.storeL rfl rfl rfl) (.nil ?_))))
        rw [Sb.app_b h1 h2]
        exact ⟨⟨_, v2, k1', k2⟩, ⟨k', o2⟩, .cons rfl (.cons rfl (.nil _)), fun _ s => s.take⟩
      · obtain ⟨A2, a2, rfl⟩ := lown_sl o2
        refine (.drawQ 11 [0, 1, 2, 3, 4, 5, 6, 7, 8, 9, 10, 11] [Db b3 x, Sbk b S v1 (.slice A2 S.ss.length a2) m] (by intro p hp; simp at hp ⊢; rcases hp with rfl | rfl <;> simp) (by kernel_rfl) (by kernel_rfl) ?_)
        refine .v (fun _ f => .move rfl) (.v (fun _ f => .move rfl) (.v (fun _ f => .nilCheck rfl) (.v (fun _ f => .fieldAddr rfl) (.v (fun _ f => .fieldAddr rfl) (.v (fun _ f => .load (v := .slice A2 S.ss.length a2) rfl (.one (hb := .sub f) rfl)) (.v (fun _ f => .loadA (vs := x.cells) rfl (.whole (hb := .sub f)) rfl) ?_))))))
        refine .ef (.callT k2 rfl rfl (fun w s => done_ok w x _ S.ss k2 o2 hb2)) (fun _ _ ⟨_, _, e⟩ _ => by subst e; intro p hp; simp at hp ⊢; rcases hp with rfl | rfl <;> simp) ?_
        rintro v2' _ ⟨k2', k', rfl⟩
        obtain ⟨A2', a2', rfl⟩ := lown_sl k'
        refine .v (fun _ f => .nilCheck rfl) (.v (fun _ f => .fieldAddr rfl) (.v (fun _ f => .fieldAddr rfl) (.st (.storeL rfl rfl rfl) (.nil ?_))))
        rw [Sb.app_s h1 h2]
        exact ⟨⟨v1, _, k1, k2'⟩, ⟨o1, k'⟩, .cons rfl (.cons rfl (.nil _)), fun _ s => s.take⟩
  · rintro ⟨v1, v2, k1, k2⟩ ⟨o1, o2⟩
    dsimp only at o1 o2 ⊢
    have eq := Sb.app_seq S x
    have eh := Sb.app_held S x
    generalize S.app x = S' at *
    refine .region (.v (.move rfl) (.v (.fieldAddr rfl) (.v (.load (v := .int .u64 x.s) rfl (.one rfl)) (.v (.nilCheck rfl) (.v (.fieldAddr rfl) (.v (.fieldAddr rfl) (.st (.storeL rfl rfl rfl) (.nil ?_))))))))
    refine ⟨[], trivial, SBH b m S' v1 v2 k1 k2 es c, fun _ s => ?_, rfl, v1, v2, k1, k2, es, c, rfl, o1, o2, ⟨by rw [eh]; exact h.m.kv, h.m.lt, h.m.nd⟩⟩
    rw [← eq] at s
    exact s.take
set_option maxRecDepth 20000 in
set_option maxHeartbeats 1000000 in
theorem follows_ok (w : World) (b m : Nat) (S : Sb) (v1 v2 : Value) (k1 k2 : Hp) (es : List ME) (c : Nat) (h : SubI S v1 v2 k1 k2 es c) (hb : S.size ≤ 2900000) :
    Does Try.prog 64 [.pointer (some ⟨b, 0, none⟩)] (SBH b m S v1 v2 k1 k2 es c) w (fun v hs => v = .tuple ⟨[]⟩ ∧ SubH b m S.go hs) := by
  refine Does.less (Does.of (n := 29) Try.func64 rfl rfl rfl rfl ?_)
  refine .block (.loop (X := Sb × DoX × List ME × Nat) (fun z => [(0, .pointer (some ⟨b, 0, none⟩))]) (fun z => SBH b m z.1 z.2.1.v1 z.2.1.v2 z.2.1.k1 z.2.1.k2 z.2.2.1 z.2.2.2) (fun z => SubI z.1 z.2.1.v1 z.2.1.v2 z.2.1.k1 z.2.1.k2 z.2.2.1 z.2.2.2 ∧ z.1.go = S.go ∧ z.1.size ≤ S.size) (fun z => z.1.held.length) (S, ⟨v1, v2, k1, k2⟩, es, c) ⟨h, rfl, by simp⟩ (.cons rfl (.nil _)) (fun _ s => s) ?_)
  rintro ⟨S1, ⟨v1, v2, k1, k2⟩, es, c⟩ ⟨h, hg, hz⟩
  dsimp only at h hg hz ⊢
  have hw : (IntKind.u64.wrap (S1.seq + 1)) = nxs S1.seq := u64w _
  cases hh : hat (nxs S1.seq) S1.held with
  | none =>
    have hno := h.m.gno hh
    refine .block (.seq ((.drawY 15 [0, 1, 2, 3, 4, 5, 6, 7, 8, 9, 10, 11, 12, 13, 14, 15, 16] (SBH b m S1 v1 v2 k1 k2 es c) (fun _ h => h) (by kernel_rfl) (by kernel_rfl) ?_)))
    refine .x (fun _ _ _ => .move rfl) (.v (fun _ f => .nilCheck rfl) (.x (fun _ _ _ => .fieldAddr rfl) (.v (fun _ f => .load (v := .map (some m)) rfl (.one (hb := .sub f) rfl)) (.x (fun _ _ _ => .move rfl) (.v (fun _ f => .nilCheck rfl) (.x (fun _ _ _ => .fieldAddr rfl) (.x (fun _ _ _ => .fieldAddr rfl) (.v (fun _ f => .load (v := .int .u64 S1.seq) rfl (.one (hb := .sub f) rfl)) (.x (fun _ _ _ => .add rfl rfl) ?_)))))))))
    rw [hw]
    refine .v (fun _ f => .lookup2E (es := es) (c := c) (v := .agg ⟨(⟨0, 0, 0, 0, 0, 0⟩ : Dt).cells⟩) (ok := false) rfl rfl (hb := .sub f) (by rw [hno]; rfl) (by rw [hno]; rfl)) ?_
    refine .x (fun _ _ _ => .move rfl) (.x (fun _ _ _ => .extract rfl rfl) (.x (fun _ _ _ => .extract rfl rfl) (.nw .alloc fun b2 => (.st (.sw rfl rfl) (.w (.assign rfl) (.nil ?_))))))
    refine .seq (.seq ((.region (.v (.move rfl) (.v (.not rfl) (.nil ?_))))))
    refine .cond rfl (fun h1 => ?_) (fun h1 => by simp at h1)
    refine .ret ⟨[], trivial, SBH b m S1 v1 v2 k1 k2 es c, fun _ s => s.take, rfl, v1, v2, k1, k2, es, c, by rw [← hg, Sb.go_none hh], ?_⟩
    rw [← hg, Sb.go_none hh]; exact h
  | some i =>
    obtain ⟨hi, hgo⟩ := Sb.go_some hh
    have hyes := h.m.gso hh hi
    have hd := h.m.del hh hi
    have hs1 := Sb.one_size hi S1.held[i]
    have hlen : (S1.one i S1.held[i]).held.length = S1.held.length - 1 := by rw [Sb.one_held, List.length_eraseIdx_of_lt hi]
    have hks : S1.held[i].s = nxs S1.seq := by obtain ⟨_, h2, _⟩ := hat_some hh; exact h2
    have hone : S1.one i S1.held[i] = ({ S1 with held := S1.held.eraseIdx i } : Sb).app S1.held[i] := rfl
    have hez : Sb.size { S1 with held := S1.held.eraseIdx i } ≤ S1.size := by
      have e : (S1.held.eraseIdx i).length = S1.held.length - 1 := List.length_eraseIdx_of_lt hi
      unfold Sb.size; dsimp only; omega
    generalize S1.held[i] = x at *
    refine .block (.seq ((.drawY 15 [0, 1, 2, 3, 4, 5, 6, 7, 8, 9, 10, 11, 12, 13, 14, 15, 16] (SBH b m S1 v1 v2 k1 k2 es c) (fun _ h => h) (by kernel_rfl) (by kernel_rfl) ?_)))
    refine .x (fun _ _ _ => .move rfl) (.v (fun _ f => .nilCheck rfl) (.x (fun _ _ _ => .fieldAddr rfl) (.v (fun _ f => .load (v := .map (some m)) rfl (.one (hb := .sub f) rfl)) (.x (fun _ _ _ => .move rfl) (.v (fun _ f => .nilCheck rfl) (.x (fun _ _ _ => .fieldAddr rfl) (.x (fun _ _ _ => .fieldAddr rfl) (.v (fun _ f => .load (v := .int .u64 S1.seq) rfl (.one (hb := .sub f) rfl)) (.x (fun _ _ _ => .add rfl rfl) ?_)))))))))
    rw [hw]
    refine .v (fun _ f => .lookup2E (es := es) (c := c) (v := .agg ⟨x.cells⟩) (ok := true) rfl rfl (hb := .sub f) (by rw [hyes]; rfl) (by rw [hyes]; rfl)) ?_
    refine .x (fun _ _ _ => .move rfl) (.x (fun _ _ _ => .extract rfl rfl) (.x (fun _ _ _ => .extract rfl rfl) (.nw .alloc fun b2 => (.st (.sw rfl rfl) (.w (.assign rfl) (.nil ?_))))))
    refine .seq (.seq ((.region (.v (.move rfl) (.v (.not rfl) (.nil ?_))))))
    refine .cond rfl (fun h1 => by simp at h1) (fun h1 => .skip ?_)
    refine .seq ((.drawP [0, 4, 5, 1, 2, 3, 6] [Db b2 x, Sbk b S1 v1 v2 m] (by intro p hp; simp at hp ⊢; rcases hp with rfl | rfl <;> simp) (by kernel_rfl) (by kernel_rfl) ?_))
    refine .v (fun _ f => .move rfl) (.v (fun _ f => .fieldAddr rfl) (.v (fun _ f => .load (v := .int .u64 x.s) rfl (.one (hb := .sub f) rfl)) (.v (fun _ f => .nilCheck rfl) (.v (fun _ f => .fieldAddr rfl) (.v (fun _ f => .load (v := .map (some m)) rfl (.one (hb := .sub f) rfl)) ?_)))))
    rw [hks]
    refine .ef0 (.del (es := es) (c := c) rfl rfl) (fun _ _ ⟨_, e⟩ _ => by subst e; intro p hp; simp at hp ⊢; rcases hp with rfl | rfl <;> simp) ?_
    rintro _ _ ⟨rfl, rfl⟩
    refine .nil ?_
    refine .region (.v (.move rfl) (.v (.loadA (vs := x.cells) rfl .whole rfl) ?_))
    refine .ef (.callT (SBH b m { S1 with held := S1.held.eraseIdx i } v1 v2 k1 k2 (mdel (nxs S1.seq) es) c) rfl rfl fun w s => does_ok w b m { S1 with held := S1.held.eraseIdx i } x v1 v2 k1 k2 (mdel (nxs S1.seq) es) c ⟨h.o1, h.o2, hd⟩ (by omega)) ?_
    rintro _ _ ⟨_, ⟨rfl, v1', v2', k1', k2', es', c', rfl, h'⟩, rfl⟩
    refine .nil ?_
    exact ⟨(S1.one i x, ⟨v1', v2', k1', k2'⟩, es', c'), ⟨h', by rw [← hg, hgo], by show (S1.one i x).size ≤ _; omega⟩, by show (S1.one i x).held.length < S1.held.length; omega, .cons rfl (.nil _), fun _ s => by rw [← hone] at s; exact Sat.take (pre := SBH b m (S1.one i x) v1' v2' k1' k2' es' c') s⟩
end Go.Proofs.Ytinmhhonpflojaa
