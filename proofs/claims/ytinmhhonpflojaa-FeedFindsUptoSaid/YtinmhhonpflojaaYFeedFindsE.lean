/- Texts that the row RFeedFinds stands on: FTake, FRec, FRSub, FRSub2, VD, FRSub3, FRSub4, FRSub5, FLTake, FLTake2, FLTake3, FPacks, FLives, QNumbers, VE, FBooks, FShown, FDepthsP. -/
import Derived.Test.YtinmhhonpflojaaYFeedFindsD
import Derived.Test.YtinmhhonpflojaaYFeedFindsB
import Derived.Test.YtinmhhonpflojaaYFeedFindsC
/- (*feed.Subscriber).Take, Good, Missing, Last, Picture, NewSubscriber. -/
namespace Go.Proofs.Ytinmhhonpflojaa
open Go.V
set_option linter.unusedVariables false
set_option linter.unusedSimpArgs false

theorem Sb.take_arg {S : Sb} {x : Dt} (h : ¬ x.can) : S.take x = (S, 1) := by unfold Sb.take; rw [if_pos h]
theorem Sb.take_stale {S : Sb} {x : Dt} (h : x.can) (h2 : S.has x.s = true ∨ x.s ≤ S.seq) : S.take x = (S, 180) := by unfold Sb.take; rw [if_neg (by simpa using h), if_pos h2]
theorem Sb.take_gap {S : Sb} {x : Dt} (h : x.can) (h2 : ¬ (S.has x.s = true ∨ x.s ≤ S.seq)) (h3 : x.s ≠ nxs S.seq) : S.take x = ((if (S.held.length : Int) < S.hold then { S with gr := max S.gr x.s, held := S.held ++ [x] } else { S with gr := max S.gr x.s }), 181) := by
  unfold Sb.take; rw [if_neg (by simpa using h), if_neg h2, if_pos h3]
theorem Sb.take_ok {S : Sb} {x : Dt} (h : x.can) (h2 : ¬ (S.has x.s = true ∨ x.s ≤ S.seq)) (h3 : x.s = nxs S.seq) : S.take x = ((({ S with gr := max S.gr x.s } : Sb).app x).go, 0) := by
  unfold Sb.take; rw [if_neg (by simpa using h), if_neg h2, if_neg (by simpa using h3)]
theorem Sb.has_get {S : Sb} {es : List ME} {c : Nat} (h : MapH es c S.held) (n : Int) : (mget n es).isSome = S.has n := by
  unfold Sb.has
  cases hh : hat n S.held with
  | none => rw [h.gno hh]; rfl
  | some i => obtain ⟨hi, _⟩ := hat_some hh; rw [h.gso hh hi]; rfl
theorem getD_agg {S : Sb} {es : List ME} {c : Nat} (h : MapH es c S.held) (n : Int) : ∃ y : Dt, (mget n es).getD (.agg ⟨[.int .u64 0, .int .i64 0, .int .i64 0, .int .i64 0, .int .u64 0, .int .i64 0]⟩) = .agg ⟨y.cells⟩ := by
  cases hh : hat n S.held with
  | none => rw [h.gno hh]; exact ⟨⟨0, 0, 0, 0, 0, 0⟩, rfl⟩
  | some i => obtain ⟨hi, _⟩ := hat_some hh; rw [h.gso hh hi]; exact ⟨_, rfl⟩
set_option maxRecDepth 20000 in
set_option maxHeartbeats 1000000 in
theorem take_ok (w : World) (b m : Nat) (S : Sb) (x : Dt) (hs0 : Hp) (hS : SubH b m S hs0) (hb : S.size ≤ 2899990) :
    Does Try.prog 34 [.pointer (some ⟨b, 0, none⟩), .agg ⟨x.cells⟩] hs0 w (fun v hs => v = .int .i64 (S.take x).2 ∧ SubH b m (S.take x).1 hs) := by
  obtain ⟨v1, v2, k1, k2, es, c, rfl, h⟩ := hS
  refine Does.less (Does.of (n := 72) Try.func34 rfl rfl rfl rfl ?_)
  refine .seq ((.region (.nw (.box (l := x.cells) rfl rfl) fun b3 => (.v (.assign rfl) (.nil ?_)))))
  refine .seq (.seq ((.region (.v (.loadA (vs := x.cells) rfl .whole rfl) (.pc (v := .bool (decide x.can)) rfl rfl (fun w s => canBe_ok w x.s x.k x.d x.p x.q x.c) (.v (.not rfl) (.nil ?_)))))))
  refine .cond rfl (fun h1 => ?_) (fun h1 => .skip ?_)
  · have h1 : ¬ x.can := by simpa using h1
    refine .seq ((.region (.v (.assign rfl) (.nil ?_))))
    rw [Sb.take_arg h1]
    exact .ret ⟨[_], ⟨rfl, trivial⟩, _, fun _ s => s.take, rfl, v1, v2, k1, k2, es, c, rfl, h⟩
  · have h1 : x.can := by simpa using h1
    obtain ⟨y, hy⟩ := getD_agg h.m x.s
    refine .seq (.seq ((.drawY 11 [0, 1, 2, 3, 4, 5, 6, 7, 8, 9, 10, 11, 12] (Db b3 x :: SBH b m S v1 v2 k1 k2 es c) (fun _ h => h) (by kernel_rfl) (by kernel_rfl) ?_)))
    refine .x (fun _ _ _ => .move rfl) (.v (fun _ f => .nilCheck rfl) (.x (fun _ _ _ => .fieldAddr rfl) (.v (fun _ f => .load (v := .map (some m)) rfl (.one (hb := .sub f) rfl)) (.x (fun _ _ _ => .fieldAddr rfl) (.v (fun _ f => .load (v := .int .u64 x.s) rfl (.one (hb := .sub f) rfl)) ?_)))))
    refine .v (fun _ f => .lookup2E (es := es) (c := c) (v := .agg ⟨y.cells⟩) (ok := S.has x.s) rfl rfl (hb := .sub f) hy (Sb.has_get h.m x.s)) ?_
    refine .x (fun _ _ _ => .move rfl) (.x (fun _ _ _ => .extract rfl rfl) (.x (fun _ _ _ => .extract rfl rfl) (.nw .alloc fun b5 => (.st (.sw rfl rfl) (.w (.assign rfl) (.nil ?_))))))
    refine .keep (Db b3 x :: SBH b m S v1 v2 k1 k2 es c) ?_
    refine .seq ((.drawK [Db b3 x, Sbk b S v1 v2 m] (by intro p hp; simp at hp ⊢; rcases hp with rfl | rfl <;> simp) (by kernel_rfl) (by kernel_rfl) ?_))
    refine .v (fun _ f => .move rfl) (.v (fun _ f => .move rfl) (.or (b2 := decide (x.s ≤ S.seq)) 21 29 8 8 rfl rfl (fun g1 => .v (fun _ f => .fieldAddr rfl) (.v (fun _ f => .load (v := .int .u64 x.s) rfl (.one (hb := .sub f) rfl)) (.v (fun _ f => .move rfl) (.v (fun _ f => .nilCheck rfl) (.v (fun _ f => .fieldAddr rfl) (.v (fun _ f => .fieldAddr rfl) (.v (fun _ f => .load (v := .int .u64 S.seq) rfl (.one (hb := .sub f) rfl)) (.v (fun _ f => .leq rfl rfl) (.nil ⟨rfl, rfl, rfl, rfl⟩))))))))) (.nil ?_)))
    refine .cond rfl (fun h2 => ?_) (fun h2 => .skip ?_)
    · have h2 : S.has x.s = true ∨ x.s ≤ S.seq := by simpa using h2
      refine .seq ((.region (.v (.assign rfl) (.nil ?_))))
      rw [Sb.take_stale h1 h2]
      exact .ret ⟨[_], ⟨rfl, trivial⟩, SBH b m S v1 v2 k1 k2 es c, fun _ s => s.take, rfl, v1, v2, k1, k2, es, c, rfl, h⟩
    · have h2 : ¬ (S.has x.s = true ∨ x.s ≤ S.seq) := by simpa using h2
      refine .seq ((.drawQ 10 [0, 1, 2, 3, 4, 5, 6, 7, 8, 9, 10] [Db b3 x, Sbk b S v1 v2 m] (by intro p hp; simp at hp ⊢; rcases hp with rfl | rfl <;> simp) (by kernel_rfl) (by kernel_rfl) ?_))
      refine .v (fun _ f => .move rfl) (.v (fun _ f => .move rfl) (.v (fun _ f => .nilCheck rfl) (.v (fun _ f => .fieldAddr rfl) (.v (fun _ f => .load (v := .int .u64 S.gr) rfl (.one (hb := .sub f) rfl)) (.v (fun _ f => .fieldAddr rfl) (.v (fun _ f => .load (v := .int .u64 x.s) rfl (.one (hb := .sub f) rfl)) (.v (fun _ f => .max2 rfl rfl) (.v (fun _ f => .nilCheck rfl) (.v (fun _ f => .fieldAddr rfl) (.st (.storeL rfl rfl rfl) (.nil ?_)))))))))))
      have hw : (IntKind.u64.wrap (S.seq + 1)) = nxs S.seq := u64w _
      have hmg : max S.gr x.s = max S.gr x.s := rfl
      refine .keep (Db b3 x :: SBH b m { S with gr := max S.gr x.s } v1 v2 k1 k2 es c) ?_
      refine .seq (.seq ((.drawK [Db b3 x, Sbk b { S with gr := max S.gr x.s } v1 v2 m] (by intro p hp; simp at hp ⊢; rcases hp with rfl | rfl <;> simp) (by kernel_rfl) (by kernel_rfl) ?_)))
      refine .v (fun _ f => .fieldAddr rfl) (.v (fun _ f => .load (v := .int .u64 x.s) rfl (.one (hb := .sub f) rfl)) (.v (fun _ f => .move rfl) (.v (fun _ f => .nilCheck rfl) (.v (fun _ f => .fieldAddr rfl) (.v (fun _ f => .fieldAddr rfl) (.v (fun _ f => .load (v := .int .u64 S.seq) rfl (.one (hb := .sub f) rfl)) (.v (fun _ f => .add rfl rfl) (.v (fun _ f => .nei rfl rfl) (.nil ?_)))))))))
      rw [hw]
      have hS1 : SubI { S with gr := max S.gr x.s } v1 v2 k1 k2 es c := ⟨h.o1, h.o2, h.m⟩
      refine .cond_dec rfl (fun h3 => ?_) (fun h3 => .skip ?_)
      · rw [Sb.take_gap h1 h2 h3]
        dsimp only
        have hno : hat x.s S.held = none := by
          cases hh : hat x.s S.held with
          | none => rfl
          | some i => exact absurd (.inl (by unfold Sb.has; rw [hh]; rfl)) h2
        have hml := h.m.len
        refine .mid (X := List ME × Nat) (fun z => []) (fun z => SBH b m { S with gr := max S.gr x.s } v1 v2 k1 k2 z.1 z.2) (fun z => MapH z.1 z.2 (if (S.held.length : Int) < S.hold then S.held ++ [x] else S.held)) (.seq ((.drawK (Db b3 x :: SBH b m { S with gr := max S.gr x.s } v1 v2 k1 k2 es c) (fun _ h => h) (by kernel_rfl) (by kernel_rfl) ?_))) ?_
        · refine .v (fun _ f => .move rfl) (.v (fun _ f => .nilCheck rfl) (.v (fun _ f => .fieldAddr rfl) (.v (fun _ f => .load (v := .map (some m)) rfl (.one (hb := .sub f) rfl)) (.v (fun _ f => .lenM (es := es) (c := c) (q := .u64) rfl (hb := .sub f)) (.v (fun _ f => .move rfl) (.v (fun _ f => .nilCheck rfl) (.v (fun _ f => .fieldAddr rfl) (.v (fun _ f => .load (v := .int .i64 S.hold) rfl (.one (hb := .sub f) rfl)) (.v (fun _ f => .lss rfl rfl) (.nil ?_))))))))))
          refine .cond_dec rfl (fun h4 => ?_) (fun h4 => .skip ?_)
          · refine (.drawQ 7 [0, 1, 2, 3, 4, 5, 6, 7] [Db b3 x, Sbk b { S with gr := max S.gr x.s } v1 v2 m] (by intro p hp; simp at hp ⊢; rcases hp with rfl | rfl <;> simp) (by kernel_rfl) (by kernel_rfl) ?_)
            refine .v (fun _ f => .move rfl) (.v (fun _ f => .nilCheck rfl) (.v (fun _ f => .fieldAddr rfl) (.v (fun _ f => .load (v := .map (some m)) rfl (.one (hb := .sub f) rfl)) (.v (fun _ f => .fieldAddr rfl) (.v (fun _ f => .load (v := .int .u64 x.s) rfl (.one (hb := .sub f) rfl)) (.v (fun _ f => .loadA (vs := x.cells) rfl (.whole (hb := .sub f)) rfl) ?_))))))
            refine .st (.mapUpdate (es := es) (c := c) rfl rfl rfl) (.nil ?_)
            refine ⟨mset x.s (.agg ⟨x.cells⟩) es c, ?_, .nil _, fun _ s => s.take⟩
            rw [if_pos (by omega)]
            exact h.m.put hno
          · refine ⟨(es, c), ?_, .nil _, fun _ s => s.take⟩
            rw [if_neg (by omega)]
            exact h.m
        · rintro ⟨es1, c1⟩ hm1
          refine .seq ((.region (.v (.assign rfl) (.nil ?_))))
          refine .ret ⟨[_], ⟨rfl, trivial⟩, SBH b m { S with gr := max S.gr x.s } v1 v2 k1 k2 es1 c1, fun _ s => s.take, rfl, v1, v2, k1, k2, es1, c1, ?_, ?_⟩
          · split <;> rfl
          · split
            · rename_i h4; rw [if_pos h4] at hm1; exact ⟨h.o1, h.o2, hm1⟩
            · rename_i h4; rw [if_neg h4] at hm1; exact ⟨h.o1, h.o2, hm1⟩
      · rw [Sb.take_ok h1 h2 (by simpa using h3)]
        dsimp only
        have hz1 := Sb.app_size { S with gr := max S.gr x.s } x
        have hz0 : Sb.size { S with gr := max S.gr x.s } = S.size := rfl
        refine .seq ((.region (.v (.move rfl) (.v (.loadA (vs := x.cells) rfl .whole rfl) ?_))))
        refine .ef (.callT (SBH b m { S with gr := max S.gr x.s } v1 v2 k1 k2 es c) rfl rfl fun w s => does_ok w b m _ x v1 v2 k1 k2 es c hS1 (by omega)) ?_
        rintro _ _ ⟨_, ⟨rfl, v1', v2', k1', k2', es', c', rfl, h'⟩, rfl⟩
        refine .nil ?_
        refine .seq ((.region (.v (.move rfl) ?_)))
        refine .ef (.callT (SBH b m (({ S with gr := max S.gr x.s } : Sb).app x) v1' v2' k1' k2' es' c') rfl rfl fun w s => follows_ok w b m _ v1' v2' k1' k2' es' c' h' (by omega)) ?_
        rintro _ _ ⟨hq, ⟨rfl, h''⟩, rfl⟩
        refine .nil ?_
        refine .seq ((.region (.v (.assign rfl) (.nil ?_))))
        exact .ret ⟨[_], ⟨rfl, trivial⟩, hq, fun _ s => s.take, rfl, h''⟩
theorem getPart {vs us : List Value} (i : Nat) (h : (vs.drop i).take us.length = us) : ∀ (j : Nat) (v : Value), us[j]? = some v → vs[i + j]? = some v := by
  intro j v hj
  have e : us[j]? = ((vs.drop i).take us.length)[j]? := by rw [h]
  rw [e, List.getElem?_take] at hj
  split at hj
  · rw [List.getElem?_drop] at hj; exact hj
  · cases hj
theorem rdPart {w0 : World} {own : List Nat} {hs : Hp} {b o : Nat} {vs us : List Value} (i : Nat) (h : Rd w0 own (some ⟨b, o, none⟩) vs) (hu : (vs.drop i).take us.length = us) : At w0 own hs ⟨b, o + i, none⟩ us := Rd.part h (getPart i hu)
set_option maxRecDepth 20000 in
theorem Good_ok (w : World) (b m : Nat) (S : Sb) (v1 v2 : Value) (hb : Rd w [] (some ⟨b, 0, none⟩) (sbcells S v1 v2 m)) : Is Try.prog 36 [.pointer (some ⟨b, 0, none⟩)] w (.bool S.good) := by
  refine Does.pure (Does.of (n := 13) Try.func36 rfl rfl rfl rfl ?_)
  refine .seq ((.region (.v (.assign rfl) (.nil ?_))))
  refine .seq ((.drawK [] (fun _ h => h) (by kernel_rfl) (by kernel_rfl) ?_))
  refine .v (fun _ f => .move rfl) (.v (fun _ f => .nilCheck rfl) (.v (fun _ f => .fieldAddr rfl) (.v (fun _ f => .fieldAddr rfl) (.v (fun _ f => .load (v := .int .u64 S.seq) rfl (rdPart 1 hb rfl)) (.v (fun _ f => .move rfl) (.v (fun _ f => .nilCheck rfl) (.v (fun _ f => .fieldAddr rfl) (.v (fun _ f => .load (v := .int .u64 S.gr) rfl (rdPart 5 hb rfl)) (.v (fun _ f => .geq rfl rfl) (.v (fun _ f => .assign rfl) (.nil ?_)))))))))))
  exact .ret ⟨[_], ⟨rfl, trivial⟩, rfl⟩
set_option maxRecDepth 20000 in
theorem Last_ok (w : World) (b m : Nat) (S : Sb) (v1 v2 : Value) (hb : Rd w [] (some ⟨b, 0, none⟩) (sbcells S v1 v2 m)) : Is Try.prog 52 [.pointer (some ⟨b, 0, none⟩)] w (.tuple ⟨[.agg ⟨S.last.cells⟩, .bool (decide (S.last.k = 2))]⟩) := by
  refine Does.pure (Does.of (n := 12) Try.func52 rfl rfl rfl rfl ?_)
  refine .seq ((.region (.nw .alloc fun b2 => (.v (.assign rfl) (.nil ?_)))))
  refine .seq ((.drawX [0, 1, 2, 3] [] (List.nil_subset _) (by kernel_rfl) (by kernel_rfl) ?_))
  refine .v (fun _ f => .move rfl) (.v (fun _ f => .nilCheck rfl) (.v (fun _ f => .fieldAddr rfl) (.v (fun _ f => .loadA (vs := S.last.cells) rfl (rdPart 6 hb rfl) rfl) (.nil ?_))))
  refine .two 4 8 (by kernel_rfl) (.v rfl (.move rfl) (.two 5 8 (by kernel_rfl) (.v rfl (.nilCheck rfl) (.two 6 8 (by kernel_rfl) (.v rfl (.fieldAddr rfl) (.two 7 8 (by kernel_rfl) (.v rfl (.load (v := .bool (decide (S.last.k = 2))) rfl (rdPart 12 hb rfl)) (.run [8, 9] (List.nil_subset _) (by kernel_rfl) (.st (.sw rfl rfl) (fun _ => List.nil_subset _) (.v (fun _ f => .assign rfl) (.nil ?_))))) (.st rfl (.sw rfl rfl) (List.nil_subset _) (.run [7, 9] (List.nil_subset _) (by kernel_rfl) (.v (fun _ f => .load (v := .bool (decide (S.last.k = 2))) rfl (rdPart 12 hb rfl)) (.v (fun _ f => .assign rfl) (.nil ?_))))))) (.st rfl (.sw rfl rfl) (List.nil_subset _) (.run [6, 7, 9] (List.nil_subset _) (by kernel_rfl) (.v (fun _ f => .fieldAddr rfl) (.v (fun _ f => .load (v := .bool (decide (S.last.k = 2))) rfl (rdPart 12 hb rfl)) (.v (fun _ f => .assign rfl) (.nil ?_)))))))) (.st rfl (.sw rfl rfl) (List.nil_subset _) (.run [5, 6, 7, 9] (List.nil_subset _) (by kernel_rfl) (.v (fun _ f => .nilCheck rfl) (.v (fun _ f => .fieldAddr rfl) (.v (fun _ f => .load (v := .bool (decide (S.last.k = 2))) rfl (rdPart 12 hb rfl)) (.v (fun _ f => .assign rfl) (.nil ?_))))))))) (.st rfl (.sw rfl rfl) (List.nil_subset _) (.run [4, 5, 6, 7, 9] (List.nil_subset _) (by kernel_rfl) (.v (fun _ f => .move rfl) (.v (fun _ f => .nilCheck rfl) (.v (fun _ f => .fieldAddr rfl) (.v (fun _ f => .load (v := .bool (decide (S.last.k = 2))) rfl (rdPart 12 hb rfl)) (.v (fun _ f => .assign rfl) (.nil ?_))))))))
  all_goals
    exact .ret ⟨[_, _], ⟨⟨_, rfl, .inr ⟨6, _, inferInstance, rfl, rfl, .whole⟩⟩, rfl, trivial⟩, rfl⟩
set_option maxRecDepth 20000 in
theorem SPicture_ok (w : World) (b m : Nat) (S : Sb) (A1 A2 : Option Addr) (c1 c2 : Nat) (hb : Rd w [] (some ⟨b, 0, none⟩) (sbcells S (.slice A1 S.bs.length c1) (.slice A2 S.ss.length c2) m)) (h1 : Rd w [] A1 (lrows S.bs)) (h2 : Rd w [] A2 (lrows S.ss)) (hl : S.size ≤ 10000000) :
    Does Try.prog 37 [.pointer (some ⟨b, 0, none⟩)] [] w (NewPic ⟨S.seq, S.bs, S.ss⟩) := by
  refine Does.less (Does.of (n := 8) Try.func37 rfl rfl rfl rfl ?_)
  refine .seq ((.region (.nw .alloc fun b2 => (.nil ?_))))
  refine .seq ((.region (.v (.move rfl) (.v (.nilCheck rfl) (.v (.fieldAddr rfl) (.v (.loadA (vs := pcells S.seq (.slice A1 S.bs.length c1) (.slice A2 S.ss.length c2)) rfl (rdPart 1 hb rfl) rfl) ?_))))))
  refine .ef (.call0 rfl rfl fun w s => pcopied_ok w A1 A2 c1 c2 ⟨S.seq, S.bs, S.ss⟩ (h1.keep0 s) (h2.keep0 s) (by unfold Sb.size at hl; show S.bs.length + S.ss.length ≤ _; omega)) ?_
  rintro _ _ ⟨_, ⟨B1, B2, d1, d2, k1, k2, rfl, rfl, o1, o2⟩, rfl⟩
  refine .st (.sw rfl rfl) (.nil ?_)
  exact .ret ⟨[_], ⟨⟨_, rfl, .inr ⟨3, _, inferInstance, rfl, rfl, .whole⟩⟩, trivial⟩, k2 ++ k1, fun _ s => Sat.take (pre := k2 ++ k1) s, B1, B2, d1, d2, k1, k2, rfl, rfl, o1, o2⟩
/-- a new one -/
def Sb.new (hold : Int) : Sb := ⟨hold, 0, [], [], [], 0, ⟨0, 0, 0, 0, 0, 0⟩⟩
set_option maxRecDepth 20000 in
theorem NewSub_ok (w : World) (hold : Int) : Does Try.prog 25 [.int .i64 hold] [] w (fun v hs => if 0 ≤ hold ∧ hold ≤ 1024 then ∃ b m, v = .tuple ⟨[.pointer (some ⟨b, 0, none⟩), .int .i64 0]⟩ ∧ SubH b m (Sb.new hold) hs else v = .tuple ⟨[.pointer none, .int .i64 1]⟩ ∧ hs = []) := by
  refine Does.less (Does.of (n := 14) Try.func25 rfl rfl rfl rfl ?_)
  refine .seq ((.region (.v (.assign rfl) (.v (.assign rfl) (.nil ?_)))))
  refine .seq (.seq ((.region (.v (.move rfl) (.v (.lss rfl rfl) (.v (.move rfl) (.or (b2 := decide (hold > 1024)) 6 8 2 2 rfl rfl (fun g1 => .v (.move rfl) (.v (.gtr rfl rfl) (.nil ⟨rfl, rfl, rfl, rfl⟩))) (.nil ?_))))))))
  refine .cond rfl (fun h1 => ?_) (fun h1 => .skip ?_)
  · simp only [Bool.and_eq_true, Bool.or_eq_true, Bool.not_eq_true', Bool.and_eq_false_iff, Bool.or_eq_false_iff, Bool.not_eq_false', decide_eq_true_eq, decide_eq_false_iff_not, Bool.false_eq_true, false_iff] at h1
    refine .seq ((.region (.v (.assign rfl) (.v (.assign rfl) (.nil ?_)))))
    exact .ret ⟨[_, _], ⟨rfl, rfl, trivial⟩, [], fun _ s => s, by rw [if_neg (by omega)]; exact ⟨rfl, rfl⟩⟩
  · simp only [Bool.and_eq_true, Bool.or_eq_true, Bool.not_eq_true', Bool.and_eq_false_iff, Bool.or_eq_false_iff, Bool.not_eq_false', decide_eq_true_eq, decide_eq_false_iff_not, Bool.false_eq_true, false_iff] at h1
    refine .seq ((.region (.v (.move rfl) (.ef (.makeMap .u64) ?_))))
    rintro _ _ ⟨m, rfl, rfl⟩
    refine .v (.build (out := sbcells (Sb.new hold) (.slice none 0 0) (.slice none 0 0) m) rfl rfl) (.nw (.box (l := sbcells (Sb.new hold) (.slice none 0 0) (.slice none 0 0) m) rfl rfl) fun b13 => (.v (.assign rfl) (.v (.assign rfl) (.nil ?_))))
    exact .ret ⟨[_, _], ⟨rfl, rfl, trivial⟩, SBH b13 m (Sb.new hold) (.slice none 0 0) (.slice none 0 0) [] [] [] 0, fun _ s => s, by rw [if_pos (by omega)]; exact ⟨b13, m, rfl, _, _, _, _, _, _, rfl, OwnS.nil _ _, OwnS.nil _ _, MapH.nil⟩⟩
end Go.Proofs.Ytinmhhonpflojaa

/- (*feed.Subscriber).Missing and Recover. -/
namespace Go.Proofs.Ytinmhhonpflojaa
open Go.V
set_option linter.unusedVariables false
set_option linter.unusedSimpArgs false

theorem filter_lt {α : Type} {p q : α → Bool} : ∀ {l : List α} {y : α}, (∀ z, p z = true → q z = true) → y ∈ l → q y = true → p y = false → (l.filter p).length < (l.filter q).length
  | z :: l, y, h, hy, h1, h2 => by
    have hle : ∀ l : List α, (l.filter p).length ≤ (l.filter q).length := by
      intro l
      induction l with
      | nil => simp
      | cons a l ih =>
        rw [List.filter_cons, List.filter_cons]
        cases hp : p a with
        | true => rw [h a hp]; simp; exact ih
        | false => cases q a <;> simp <;> omega
    rw [List.filter_cons, List.filter_cons]
    rcases List.mem_cons.1 hy with rfl | hy
    · rw [h1, h2]; simp; have := hle l; omega
    · have := filter_lt h hy h1 h2
      cases hp : p z with
      | true => rw [h z hp]; simp; exact this
      | false => cases q z <;> simp <;> omega
/-- the entries that a range has not come to -/
def unseen (es : List ME) (seen : List Nat) : Nat := (es.filter fun z => decide (z.born ∉ seen)).length
theorem unseen_lt {es : List ME} {seen : List Nat} {y : ME} (hy : y ∈ es) (h : y.born ∉ seen) : unseen es (seen ++ [y.born]) < unseen es seen := by
  refine filter_lt (fun z hz => ?_) hy (by simpa using h) (by simp)
  simp at hz ⊢; exact hz.1
theorem MapH.key {es : List ME} {c : Nat} {held : List Dt} (h : MapH es c held) {y : ME} (hy : y ∈ es) : ∃ x ∈ held, x.s = y.1 ∧ y.2.1 = .agg ⟨x.cells⟩ := by
  have : (y.1, y.2.1) ∈ es.map (fun e => (e.1, e.2.1)) := List.mem_map.2 ⟨y, hy, rfl⟩
  rw [h.kv] at this
  obtain ⟨x, hx, e⟩ := List.mem_map.1 this
  have e1 := congrArg Prod.fst e
  have e2 := congrArg Prod.snd e
  exact ⟨x, hx, e1, e2.symm⟩
theorem MapH.yek {es : List ME} {c : Nat} {held : List Dt} (h : MapH es c held) {x : Dt} (hx : x ∈ held) : ∃ y ∈ es, y.1 = x.s := by
  have : (x.s, Value.agg ⟨x.cells⟩) ∈ held.map (fun x => (x.s, Value.agg ⟨x.cells⟩)) := List.mem_map.2 ⟨x, hx, rfl⟩
  rw [← h.kv] at this
  obtain ⟨y, hy, e⟩ := List.mem_map.1 this
  exact ⟨y, hy, by simpa using congrArg Prod.fst e⟩
theorem nodup_inj : ∀ {es : List ME} {y z : ME}, (es.map ME.born).Nodup → y ∈ es → z ∈ es → y.born = z.born → y = z
  | a :: es, y, z, hn, hy, hz, e => by
    rw [List.map_cons, List.nodup_cons] at hn
    obtain ⟨h1, h2⟩ := hn
    rcases List.mem_cons.1 hy with hy | hy
    · rcases List.mem_cons.1 hz with hz | hz
      · rw [hy, hz]
      · rw [hy] at e; exact absurd (List.mem_map.2 ⟨z, hz, e.symm⟩) h1
    · rcases List.mem_cons.1 hz with hz | hz
      · rw [hz] at e; exact absurd (List.mem_map.2 ⟨y, hy, e⟩) h1
      · exact nodup_inj h2 hy hz e
theorem MapH.inj {es : List ME} {c : Nat} {held : List Dt} (h : MapH es c held) {y z : ME} (hy : y ∈ es) (hz : z ∈ es) (e : y.born = z.born) : y = z := by
  exact nodup_inj h.nd hy hz e
theorem mnh_spec : ∀ (l : List Dt) (e : Int), mnh e l ≤ e ∧ (∀ x ∈ l, mnh e l ≤ x.s - 1) ∧ (mnh e l = e ∨ ∃ x ∈ l, mnh e l = x.s - 1)
  | [], e => by simp [mnh]
  | x :: l, e => by
    obtain ⟨h1, h2, h3⟩ := mnh_spec l (min e (x.s - 1))
    have hu : mnh e (x :: l) = mnh (min e (x.s - 1)) l := rfl
    rw [hu]
    refine ⟨by omega, fun y hy => ?_, ?_⟩
    · rcases List.mem_cons.1 hy with rfl | hy
      · omega
      · exact h2 y hy
    · rcases h3 with h3 | ⟨y, hy, h3⟩
      · by_cases hh : e ≤ x.s - 1
        · left; omega
        · right; exact ⟨x, List.mem_cons_self, by omega⟩
      · right; exact ⟨y, List.mem_cons_of_mem _ hy, h3⟩
structure MsI (S : Sb) (es : List ME) (seen : List Nat) (e : Int) : Prop where
  a : e ≤ S.gr
  b : ∀ y ∈ es, y.born ∈ seen → e ≤ y.1 - 1
  c : e = S.gr ∨ ∃ y ∈ es, e = y.1 - 1
theorem MsI.fin {S : Sb} {es : List ME} {c : Nat} {seen : List Nat} {e : Int} (hm : MapH es c S.held) (h : MsI S es seen e) (hall : ∀ y ∈ es, y.born ∈ seen) : e = mnh S.gr S.held := by
  obtain ⟨h1, h2, h3⟩ := mnh_spec S.held S.gr
  have hle : e ≤ mnh S.gr S.held := by
    rcases h3 with h3 | ⟨x, hx, h3⟩
    · rw [h3]; exact h.a
    · obtain ⟨y, hy, e1⟩ := hm.yek hx
      have := h.b y hy (hall y hy); omega
  have hge : mnh S.gr S.held ≤ e := by
    rcases h.c with h3 | ⟨y, hy, h3⟩
    · rw [h3]; exact h1
    · obtain ⟨x, hx, e1, _⟩ := hm.key hy
      have := h2 x hx; omega
  omega
theorem Sb.miss_good {S : Sb} (h : S.good = true) : S.miss = (0, 0, false) := by unfold Sb.miss; rw [if_pos h]
theorem Sb.miss_not {S : Sb} (h : S.good = false) : S.miss = (nxs S.seq, mnh S.gr S.held, true) := by unfold Sb.miss; rw [if_neg (by rw [h]; simp)]
set_option maxRecDepth 20000 in
set_option maxHeartbeats 1100000 in
theorem Missing_ok (w : World) (b m : Nat) (S : Sb) (v1 v2 : Value) (k1 k2 : Hp) (es : List ME) (c : Nat) (h : SubI S v1 v2 k1 k2 es c) (hk : S.Ok) :
    Does Try.prog 50 [.pointer (some ⟨b, 0, none⟩)] (SBH b m S v1 v2 k1 k2 es c) w (fun v hs => v = .tuple ⟨[.int .u64 S.miss.1, .int .u64 S.miss.2.1, .bool S.miss.2.2]⟩ ∧ hs = SBH b m S v1 v2 k1 k2 es c) := by
  refine Does.less (Does.of (n := 33) Try.func50 rfl rfl rfl rfl ?_)
  refine .seq ((.region (.v (.assign rfl) (.v (.assign rfl) (.v (.assign rfl) (.nil ?_))))))
  refine .seq (.seq ((.region (.v (.move rfl) (.pc (v := .bool S.good) rfl rfl (fun w s => Good_ok w b m S v1 v2 (Rd.blk s)) (.nil ?_))))))
  refine .cond rfl (fun h1 => ?_) (fun h1 => .skip ?_)
  · rw [Sb.miss_good h1]
    refine .seq ((.region (.v (.assign rfl) (.v (.assign rfl) (.v (.assign rfl) (.nil ?_))))))
    exact .ret ⟨[_, _, _], ⟨rfl, rfl, rfl, trivial⟩, _, fun _ s => s, rfl, rfl⟩
  · rw [Sb.miss_not h1]
    refine .seq ((.region (.v (.move rfl) (.v (.nilCheck rfl) (.v (.fieldAddr rfl) (.v (.load (v := .int .u64 S.gr) rfl (.one rfl)) (.v (.assign rfl) (.nil ?_))))))))
    refine .seq (.seq ((.region (.v (.move rfl) (.v (.nilCheck rfl) (.v (.fieldAddr rfl) (.v (.load (v := .map (some m)) rfl (.one rfl)) (.ef (.range (es := es) (c := c) (q := .u64) rfl) ?_))))))))
    rintro _ _ ⟨r, rfl, rfl⟩
    refine .nil ?_
    refine .block (.loop (X := List Nat × Int) (fun z => [(0, .pointer (some ⟨b, 0, none⟩)), (5, .int .u64 z.2), (17, .pointer (some ⟨r, 0, none⟩))]) (fun z => (r, iter_ m c z.1 c) :: SBH b m S v1 v2 k1 k2 es c) (fun z => MsI S es z.1 z.2) (fun z => unseen es z.1) ([], S.gr) ⟨by simp, by simp, .inl rfl⟩ (.cons rfl (.cons rfl (.cons rfl (.nil _)))) (fun _ s => s) ?_)
    rintro ⟨seen, e⟩ hI
    dsimp only at hI ⊢
    refine .seq ((.region (.ef (.next (b := m) (seen := seen) (es := es) (c := c) (q := .u64) rfl h.m.lt (Nat.le_refl _)) ?_)))
    rintro _ _ (⟨rfl, hall, rfl⟩ | ⟨y, hy, hns, rfl, rfl⟩)
    · refine .v (.extract rfl rfl) (.nil ?_)
      refine .seq (.cond rfl (fun h3 => by cases h3) (fun h3 => .exit ?_))
      have he := hI.fin h.m hall
      refine .seq ((.region (.v (.move rfl) (.v (.nilCheck rfl) (.v (.fieldAddr rfl) (.v (.fieldAddr rfl) (.v (.load (v := .int .u64 S.seq) rfl (.one rfl)) (.v (.add rfl rfl) (.v (.move rfl) (.v (.assign rfl) (.v (.assign rfl) (.v (.assign rfl) (.nil ?_)))))))))))))
      rw [show (IntKind.u64.wrap (S.seq + 1)) = nxs S.seq from u64w _, he]
      exact .ret ⟨[_, _, _], ⟨rfl, rfl, rfl, trivial⟩, SBH b m S v1 v2 k1 k2 es c, fun _ s => s.take, rfl, rfl⟩
    · refine .v (.extract rfl rfl) (.nil ?_)
      refine .seq (.cond rfl (fun h3 => .skip ?_) (fun h3 => by cases h3))
      obtain ⟨x, hx, e1, -⟩ := h.m.key hy
      have hc := hk.can x hx
      have hc1 := hc.1.1
      obtain ⟨ky, vy, by_⟩ := y
      dsimp only at e1 hns hy ⊢
      refine .block (.seq ((.region (.v (.entry (b := m) (es := es) (c := c) (y := (ky, vy, by_)) rfl hy h.m.nd) (.v (.extract rfl rfl) (.v (.assign rfl) (.nil ?_)))))))
      refine .region (.v (.move rfl) (.v (.move rfl) (.v (.subU (ky - 1) rfl rfl rfl (by omega)) (.v (.min2 rfl rfl) (.v (.assign rfl) (.nil ?_))))))
      refine ⟨(seen ++ [by_], min e (ky - 1)), ⟨?_, fun z hz hs => ?_, ?_⟩, unseen_lt hy hns, .cons rfl (.cons rfl (.cons rfl (.nil _))), fun _ s => s.take⟩
      · have := hI.a; show min e (ky - 1) ≤ _; omega
      · show min e (ky - 1) ≤ _
        rcases List.mem_append.1 hs with hs | hs
        · have := hI.b z hz hs; omega
        · have : z.born = by_ := by simpa using hs
          have hzy : z = (ky, vy, by_) := h.m.inj hz hy this
          subst hzy; show _ ≤ ky - 1; omega
      · show min e (ky - 1) = _ ∨ _
        by_cases hh : e ≤ ky - 1
        · rcases hI.c with h3 | ⟨y, hy, h3⟩
          · left; omega
          · right; exact ⟨y, hy, by omega⟩
        · right; exact ⟨_, hy, by show _ = ky - 1; omega⟩


theorem mget_mem {k : Int} {es : List ME} : True := trivial
theorem mfind_er (k : Int) : ∀ (es : List ME) (i : Nat), (es.map fun e => e.1).Nodup → (match mfind k es i with | some (j, _) => i ≤ j ∧ es.eraseIdx (j - i) = es.filter fun e => decide (e.1 ≠ k) | none => es = es.filter fun e => decide (e.1 ≠ k))
  | [], i, _ => rfl
  | e :: es, i, hn => by
    rw [List.map_cons, List.nodup_cons] at hn
    unfold mfind
    by_cases hk : k = e.1
    · have : (k == e.1) = true := by simp [hk]
      rw [this]
      simp only [if_true]
      refine ⟨Nat.le_refl _, ?_⟩
      rw [Nat.sub_self, List.eraseIdx_cons_zero, List.filter_cons]
      have h0 : decide (e.1 ≠ k) = false := by simp [hk]
      rw [h0]
      simp only [Bool.false_eq_true, if_false]
      refine (List.filter_eq_self.2 fun z hz => ?_).symm
      have : z.1 ≠ k := fun h => hn.1 (List.mem_map.2 ⟨z, hz, by rw [h, hk]⟩)
      simpa using this
    · have : (k == e.1) = false := by simp [hk]
      rw [this]
      simp only [Bool.false_eq_true, if_false]
      have ih := mfind_er k es (i + 1) hn.2
      have h0 : decide (e.1 ≠ k) = true := by simp; exact fun h => hk h.symm
      cases hf : mfind k es (i + 1) with
      | none => rw [hf] at ih; dsimp only at ih ⊢; rw [List.filter_cons, h0]; simp only [if_true]; rw [← ih]
      | some p =>
        obtain ⟨j, v⟩ := p
        rw [hf] at ih
        dsimp only at ih ⊢
        refine ⟨by omega, ?_⟩
        rw [List.filter_cons, h0]
        simp only [if_true]
        rw [← ih.2, show j - i = (j - (i + 1)) + 1 from by omega, List.eraseIdx_cons_succ]
theorem mdel_filter {k : Int} {es : List ME} (hn : (es.map fun e => e.1).Nodup) : mdel k es = es.filter fun e => decide (e.1 ≠ k) := by
  have h := mfind_er k es 0 hn
  unfold mdel
  cases hf : mfind k es 0 with
  | none => rw [hf] at h; exact h
  | some p => obtain ⟨j, v⟩ := p; rw [hf] at h; exact h.2
theorem MapH.keys {es : List ME} {c : Nat} {held : List Dt} (h : MapH es c held) : es.map (fun e => e.1) = held.map Dt.s := by
  have := congrArg (fun l : List (Int × Value) => l.map Prod.fst) h.kv
  simpa [List.map_map, Function.comp_def] using this
/-- what is left while a range takes out those up to a number -/
abbrev left_ (seq : Int) (seen : List Nat) (e : ME) : Bool := !(decide (e.born ∈ seen) && decide (e.1 ≤ seq))
theorem key_inj {es : List ME} {y z : ME} (hn : (es.map fun e => e.1).Nodup) (hy : y ∈ es) (hz : z ∈ es) (e : y.1 = z.1) : y = z := by
  induction es with
  | nil => cases hy
  | cons a es ih =>
    rw [List.map_cons, List.nodup_cons] at hn
    obtain ⟨h1, h2⟩ := hn
    rcases List.mem_cons.1 hy with hy | hy
    · rcases List.mem_cons.1 hz with hz | hz
      · rw [hy, hz]
      · rw [hy] at e; exact absurd (List.mem_map.2 ⟨z, hz, e.symm⟩) h1
    · rcases List.mem_cons.1 hz with hz | hz
      · rw [hz] at e; exact absurd (List.mem_map.2 ⟨y, hy, e⟩) h1
      · exact ih h2 hy hz
theorem MapH.sieve {es : List ME} {c : Nat} {held : List Dt} (h : MapH es c held) (seq : Int) {es' : List ME} {seen : List Nat} (he : es' = es.filter (left_ seq seen)) (hall : ∀ y ∈ es', y.born ∈ seen) : MapH es' c (held.filter fun x => decide (seq < x.s)) := by
  have e1 : es' = es.filter fun e => decide (seq < e.1) := by
    rw [he]
    refine List.filter_congr fun z hz => ?_
    by_cases hq : seq < z.1
    · simp [hq]
    · have : left_ seq seen z = false := by
        cases hl : left_ seq seen z with
        | false => rfl
        | true =>
          have := hall z (by rw [he]; exact List.mem_filter.2 ⟨hz, hl⟩)
          simp [this] at hl; omega
      rw [this]; simp [hq]
  refine ⟨?_, fun e h1 => h.lt e (by rw [e1] at h1; exact (List.mem_filter.1 h1).1), ?_⟩
  · have := congrArg (fun l : List (Int × Value) => l.filter fun p => decide (seq < p.1)) h.kv
    simp only [List.filter_map] at this
    rw [e1]; exact this
  · rw [e1]; exact h.nd.sublist (List.filter_sublist.map _)
theorem Sb.rec_arg {S : Sb} {seq : Int} {bs ss : List Lv} (h : ¬ (Fit 1 bs ∧ Fit 2 ss)) : S.rec_ seq bs ss = (S, 1) := by unfold Sb.rec_; rw [if_pos h]
theorem Sb.rec_stale {S : Sb} {seq : Int} {bs ss : List Lv} (h : Fit 1 bs ∧ Fit 2 ss) (h2 : seq < S.seq) : S.rec_ seq bs ss = (S, 180) := by unfold Sb.rec_; rw [if_neg (by simpa using h), if_pos h2]
theorem Sb.rec_ok {S : Sb} {seq : Int} {bs ss : List Lv} (h : Fit 1 bs ∧ Fit 2 ss) (h2 : ¬ seq < S.seq) : S.rec_ seq bs ss = (({ S with seq := seq, bs := bs, ss := ss, held := S.held.filter fun x => decide (seq < x.s) } : Sb).go, 0) := by unfold Sb.rec_; rw [if_neg (by simpa using h), if_neg h2]
abbrev Pcb (b : Nat) (seq : Int) (v1 v2 : Value) : Nat × Ch := (b, .cells (pcells seq v1 v2) 40)
set_option maxRecDepth 20000 in
set_option maxHeartbeats 1100000 in
theorem Recover_ok (w : World) (b m : Nat) (S : Sb) (hk : S.Ok) (hs0 : Hp) (hS : SubH b m S hs0) (seq : Int) (bs ss : List Lv) (B1 B2 : Option Addr) (d1 d2 : Nat) (r1 : Rd w (bl hs0) B1 (lrows bs)) (r2 : Rd w (bl hs0) B2 (lrows ss)) (hb : bs.length + ss.length ≤ 1100000) :
    Does Try.prog 35 [.pointer (some ⟨b, 0, none⟩), .agg ⟨pcells seq (.slice B1 bs.length d1) (.slice B2 ss.length d2)⟩] hs0 w (fun v hs => v = .int .i64 (S.rec_ seq bs ss).2 ∧ SubH b m (S.rec_ seq bs ss).1 hs) := by
  obtain ⟨v1, v2, k1, k2, es, c, rfl, h⟩ := hS
  refine Does.less (Does.of (n := 49) Try.func35 rfl rfl rfl rfl ?_)
  refine .seq ((.region (.nw (.box (l := pcells seq (.slice B1 bs.length d1) (.slice B2 ss.length d2)) rfl rfl) fun b3 => (.v (.assign rfl) (.nil ?_)))))
  refine .seq (.seq ((.region (.v (.fieldAddr rfl) (.v (.load (v := .slice B1 bs.length d1) rfl (.one rfl)) (.pc (v := .bool (decide (Fit 1 bs))) rfl rfl (fun w s => fit_ok w 1 B1 bs.length d1 bs (r1.keep0 s) rfl (by omega)) (.v (.not rfl) (.v (.move rfl) (.or (b2 := !decide (Fit 2 ss)) 10 14 4 4 rfl rfl (fun g1 => .v (.fieldAddr rfl) (.v (.load (v := .slice B2 ss.length d2) rfl (.one rfl)) (.pc (v := .bool (decide (Fit 2 ss))) rfl rfl (fun w s => fit_ok w 2 B2 ss.length d2 ss (r2.keep0 s) rfl (by omega)) (.v (.not rfl) (.nil ⟨rfl, rfl, rfl, rfl⟩))))) (.nil ?_))))))))))
  refine .cond rfl (fun h1 => ?_) (fun h1 => .skip ?_)
  · simp only [Bool.and_eq_true, Bool.or_eq_true, Bool.not_eq_true', Bool.and_eq_false_iff, Bool.or_eq_false_iff, Bool.not_eq_false', decide_eq_true_eq, decide_eq_false_iff_not, Bool.false_eq_true, false_iff] at h1
    have h1 : ¬ (Fit 1 bs ∧ Fit 2 ss) := fun hh => by rcases h1 with h1 | h1; exact h1 hh.1; exact h1 hh.2
    refine .seq ((.region (.v (.assign rfl) (.nil ?_))))
    rw [Sb.rec_arg h1]
    exact .ret ⟨[_], ⟨rfl, trivial⟩, SBH b m S v1 v2 k1 k2 es c, fun _ s => s.take, rfl, v1, v2, k1, k2, es, c, rfl, h⟩
  · simp only [Bool.and_eq_true, Bool.or_eq_true, Bool.not_eq_true', Bool.and_eq_false_iff, Bool.or_eq_false_iff, Bool.not_eq_false', decide_eq_true_eq, decide_eq_false_iff_not, Bool.false_eq_true, false_iff] at h1
    have h1 : Fit 1 bs ∧ Fit 2 ss := by simpa using h1
    refine .seq (.seq ((.drawK [Pcb b3 seq (.slice B1 bs.length d1) (.slice B2 ss.length d2), Sbk b S v1 v2 m] (by intro p hp; simp at hp ⊢; rcases hp with rfl | rfl <;> simp) (by kernel_rfl) (by kernel_rfl) ?_)))
    refine .v (fun _ f => .fieldAddr rfl) (.v (fun _ f => .load (v := .int .u64 seq) rfl (.one (hb := .sub f) rfl)) (.v (fun _ f => .move rfl) (.v (fun _ f => .nilCheck rfl) (.v (fun _ f => .fieldAddr rfl) (.v (fun _ f => .fieldAddr rfl) (.v (fun _ f => .load (v := .int .u64 S.seq) rfl (.one (hb := .sub f) rfl)) (.v (fun _ f => .lss rfl rfl) (.nil ?_))))))))
    refine .cond_dec rfl (fun h2 => ?_) (fun h2 => .skip ?_)
    · refine .seq ((.region (.v (.assign rfl) (.nil ?_))))
      rw [Sb.rec_stale h1 h2]
      exact .ret ⟨[_], ⟨rfl, trivial⟩, SBH b m S v1 v2 k1 k2 es c, fun _ s => s.take, rfl, v1, v2, k1, k2, es, c, rfl, h⟩
    · rw [Sb.rec_ok h1 h2]
      dsimp only
      refine .seq ((.region (.v (.move rfl) (.v (.loadA (vs := pcells seq (.slice B1 bs.length d1) (.slice B2 ss.length d2)) rfl .whole rfl) ?_))))
      refine .ef (.call0 rfl rfl fun w s => pcopied_ok w B1 B2 d1 d2 ⟨seq, bs, ss⟩ (r1.keep0 s) (r2.keep0 s) (by show bs.length + ss.length ≤ _; omega)) ?_
      rintro _ _ ⟨_, ⟨E1, E2, e1, e2, j1, j2, rfl, rfl, o1, o2⟩, rfl⟩
      dsimp only at o1 o2 ⊢
      refine .v (.nilCheck rfl) (.v (.fieldAddr rfl) (.st (.storeR (sbcells { S with seq := seq, bs := bs, ss := ss } (.slice E1 bs.length e1) (.slice E2 ss.length e2) m) rfl rfl) (.nil ?_)))
      refine .keep (Pcb b3 seq (.slice B1 bs.length d1) (.slice B2 ss.length d2) :: SBH b m { S with seq := seq, bs := bs, ss := ss } (.slice E1 bs.length e1) (.slice E2 ss.length e2) j1 j2 es c) ?_
      refine .seq (.seq ((.region (.v (.move rfl) (.v (.nilCheck rfl) (.v (.fieldAddr rfl) (.v (.load (v := .map (some m)) rfl (.one rfl)) (.ef (.range (es := es) (c := c) (q := .u64) rfl) ?_))))))))
      rintro _ _ ⟨r, rfl, rfl⟩
      refine .nil ?_
      have hkey : (es.map fun e => e.1).Nodup := by rw [h.m.keys]; exact hk.nd
      refine .block (.loop (X := List Nat × List ME) (fun z => [(0, .pointer (some ⟨b, 0, none⟩)), (3, .pointer (some ⟨b3, 0, none⟩)), (33, .pointer (some ⟨r, 0, none⟩))]) (fun z => (r, iter_ m c z.1 c) :: Pcb b3 seq (.slice B1 bs.length d1) (.slice B2 ss.length d2) :: SBH b m { S with seq := seq, bs := bs, ss := ss } (.slice E1 bs.length e1) (.slice E2 ss.length e2) j1 j2 z.2 c) (fun z => z.2 = es.filter (left_ seq z.1)) (fun z => unseen es z.1) ([], es) (by show es = es.filter _; exact (List.filter_eq_self.2 (by simp)).symm) (.cons rfl (.cons rfl (.cons rfl (.nil _)))) (fun _ s => s) ?_)
      rintro ⟨seen, es1⟩ hI
      dsimp only at hI ⊢
      have hsub : ∀ z ∈ es1, z ∈ es := fun z hz => by rw [hI] at hz; exact (List.mem_filter.1 hz).1
      refine .seq ((.region (.ef (.next (b := m) (seen := seen) (es := es1) (c := c) (q := .u64) rfl (fun z hz => h.m.lt z (hsub z hz)) (Nat.le_refl _)) ?_)))
      rintro _ _ (⟨rfl, hall, rfl⟩ | ⟨y, hy, hns, rfl, rfl⟩)
      · refine .v (.extract rfl rfl) (.nil ?_)
        refine .seq (.cond rfl (fun h3 => by cases h3) (fun h3 => .exit ?_))
        have hm := h.m.sieve seq hI hall
        refine .seq ((.region (.v (.move rfl) ?_)))
        refine .ef (.callT (SBH b m { S with seq := seq, bs := bs, ss := ss, held := S.held.filter fun x => decide (seq < x.s) } (.slice E1 bs.length e1) (.slice E2 ss.length e2) j1 j2 es1 c) rfl rfl fun w s => follows_ok w b m { S with seq := seq, bs := bs, ss := ss, held := S.held.filter fun x => decide (seq < x.s) } _ _ j1 j2 es1 c ⟨o1, o2, hm⟩ (by
          have := List.length_filter_le (fun x : Dt => decide (seq < x.s)) S.held
          have := hk.len
          unfold Sb.size; dsimp only; omega)) ?_
        rintro _ _ ⟨hq, ⟨rfl, h''⟩, rfl⟩
        refine .nil ?_
        refine .seq ((.region (.v (.assign rfl) (.nil ?_))))
        exact .ret ⟨[_], ⟨rfl, trivial⟩, hq, fun _ s => s.take, rfl, h''⟩
      · refine .v (.extract rfl rfl) (.nil ?_)
        refine .seq (.cond rfl (fun h3 => .skip ?_) (fun h3 => by cases h3))
        have hye := hsub y hy
        have hnd1 : (es1.map ME.born).Nodup := by rw [hI]; exact h.m.nd.sublist (List.filter_sublist.map _)
        have hkd1 : (es1.map fun e => e.1).Nodup := by rw [hI]; exact hkey.sublist (List.filter_sublist.map _)
        obtain ⟨ky, vy, by_⟩ := y
        dsimp only at hns hy ⊢
        refine .block (.seq ((.region (.v (.entry (b := m) (es := es1) (c := c) (y := (ky, vy, by_)) rfl hy hnd1) (.v (.extract rfl rfl) (.v (.assign rfl) (.nil ?_)))))))
        refine .seq ((.region (.v (.move rfl) (.v (.fieldAddr rfl) (.v (.load (v := .int .u64 seq) rfl (.one rfl)) (.v (.leq rfl rfl) (.nil ?_)))))))
        refine .cond_dec rfl (fun h4 => ?_) (fun h4 => .skip ?_)
        · refine .region (.v (.move rfl) (.v (.nilCheck rfl) (.v (.fieldAddr rfl) (.v (.load (v := .map (some m)) rfl (.one rfl)) (.v (.move rfl) (.ef0 (.del (es := es1) (c := c) rfl rfl) ?_))))))
          rintro _ _ ⟨rfl, rfl⟩
          refine .nil ?_
          refine ⟨(seen ++ [by_], mdel ky es1), ?_, unseen_lt hye hns, .cons rfl (.cons rfl (.cons rfl (.nil _))), fun _ s => s.take⟩
          show mdel ky es1 = _
          rw [mdel_filter hkd1, hI, List.filter_filter]
          refine List.filter_congr fun z hz => ?_
          by_cases hz1 : z.1 = ky
          · have : z = (ky, vy, by_) := key_inj hkey hz hye hz1
            subst this
            simp [h4]
          · have : z.born ≠ by_ := fun hh => hz1 (by rw [h.m.inj hz hye hh])
            simp [hz1, this]
        · refine ⟨(seen ++ [by_], es1), ?_, unseen_lt hye hns, .cons rfl (.cons rfl (.cons rfl (.nil _))), fun _ s => s.take⟩
          show es1 = _
          rw [hI]
          refine List.filter_congr fun z hz => ?_
          by_cases hz1 : z.born = by_
          · have : z = (ky, vy, by_) := h.m.inj hz hye hz1
            subst this
            have h4 : ¬ ky ≤ seq := h4
            simp [h4]
          · simp [hz1]
end Go.Proofs.Ytinmhhonpflojaa

/- The document's subscriber: held, Done, does, Can, Good, Last, NewSubscriber, Missing. -/
namespace Go.Proofs.Ytinmhhonpflojaa
open Go.V
set_option linter.unusedVariables false
set_option linter.unusedSimpArgs false

abbrev rscells (S : Sb) (v1 v2 vh : Value) : List Value := [.int .i64 S.hold, .int .u64 S.seq, v1, v2, vh, .int .u64 S.gr, .int .u64 S.last.s, .int .i64 S.last.k, .int .i64 S.last.d, .int .i64 S.last.p, .int .u64 S.last.q, .int .i64 S.last.c]
abbrev Rsb (b : Nat) (S : Sb) (v1 v2 vh : Value) : Nat × Ch := (b, .cells (rscells S v1 v2 vh) 65)
def hatv (n : Int) (l : List Dt) : Int := match hat n l with | some i => (i : Int) | none => -1
theorem hatv_some {n : Int} {l : List Dt} {i : Nat} (h : hat n l = some i) : hatv n l = i := by unfold hatv; rw [h]
theorem hatv_none {n : Int} {l : List Dt} (h : hat n l = none) : hatv n l = -1 := by unfold hatv; rw [h]
set_option maxRecDepth 20000 in
theorem held_ok (w : World) (S : Sb) (v1 v2 : Value) (A : Option Addr) (c : Nat) (n : Int) (l : List Dt) (hA : Rd w [] A (drows l)) (hb : l.length ≤ 1100000) :
    Is Try.prog 72 [.agg ⟨rscells S v1 v2 (.slice A l.length c)⟩, .int .u64 n] w (.int .i64 (hatv n l)) := by
  refine Does.pure (Does.of (n := 22) Try.func72 rfl rfl rfl rfl ?_)
  refine .seq ((.region (.nw (.box (l := rscells S v1 v2 (.slice A l.length c)) rfl rfl) fun b2 => (.v (.assign rfl) (.nil ?_)))))
  refine .seq (.seq ((.region (.v (.assign rfl) (.nil ?_)))))
  refine .block (.loop (X := Nat) (fun i => [(1, .int .u64 n), (2, .pointer (some ⟨b2, 0, none⟩)), (5, .int .i64 i)]) (fun i => [Rsb b2 S v1 v2 (.slice A l.length c)]) (fun i => i ≤ l.length ∧ ∀ j, (hj : j < l.length) → j < i → l[j].s ≠ n) (fun i => l.length - i) 0 ⟨by simp, fun j hj h => absurd h (by omega)⟩ (.cons rfl (.cons rfl (.cons rfl (.nil _)))) (fun _ s => s) ?_)
  rintro i ⟨hi, hno⟩
  refine .seq (.seq ((.region (.v (.move rfl) (.v (.fieldAddr rfl) (.v (.load (v := .slice A l.length c) rfl (.one rfl)) (.v (.len rfl) (.v (.lss rfl rfl) (.nil ?_)))))))))
  refine .cond_dec rfl (fun h1 => .skip ?_) (fun h1 => .exit ?_)
  · have hil : i < l.length := by omega
    obtain ⟨bq, oq, rfl, hq⟩ := Rd.recs Dt.cells 6 (fun _ => rfl) hA (by omega) (by omega)
    have hsq := fun hs => fldAt Dt.cells 6 (fun _ => rfl) (z := (i : Int)) (hq hs) hil 0 rfl
    obtain ⟨u, hu⟩ : ∃ u, l[i] = u := ⟨_, rfl⟩
    rw [hu] at hsq
    refine .seq (.block (.seq ((.region (.v (.fieldAddr rfl) (.v (.load (v := .slice (some ⟨bq, oq, none⟩) l.length c) rfl (.one rfl)) (.v (.move rfl) (.v (.indexAddr rfl rfl (by omega) (by omega)) (.v (.fieldAddr rfl) (.v (.load (v := .int .u64 u.s) rfl (hsq _)) (.v (.move rfl) (.v (.eqi rfl rfl) (.nil ?_)))))))))))))
    refine .cond_dec rfl (fun h2 => ?_) (fun h2 => .skip ?_)
    · refine .seq ((.region (.v (.move rfl) (.v (.assign rfl) (.nil ?_)))))
      refine .ret ⟨[_], ⟨rfl, trivial⟩, ?_⟩
      rw [hatv_some (hat_is hil (by rw [hu]; exact h2) hno)]
      rfl
    · refine .region (.v (.move rfl) (.v (.addi rfl rfl (by omega)) (.v (.assign rfl) (.nil ?_))))
      refine ⟨i + 1, ⟨by omega, fun j hj hji => ?_⟩, by omega, .cons rfl (.cons rfl (.cons rfl (.nil _))), fun _ s => s⟩
      by_cases hh : j = i
      · subst hh; rw [hu]; exact h2
      · exact hno j hj (by omega)
  · refine .seq ((.region (.v (.assign rfl) (.nil ?_))))
    refine .ret ⟨[_], ⟨rfl, trivial⟩, ?_⟩
    rw [hatv_none (hat_no fun x hx => by obtain ⟨j, hj, rfl⟩ := List.getElem_of_mem hx; exact hno j hj (by omega))]
    rfl
structure DnX where
  v1 : Value
  v2 : Value
  k1 : Hp
  k2 : Hp
set_option maxRecDepth 20000 in
theorem Done_ok (w : World) (x : Dt) (hx : x.can) (q : Int) (bs ss : List Lv) (v1 v2 : Value) (k1 k2 : Hp) (o1 : LOwn v1 bs k1) (o2 : LOwn v2 ss k2) (w1 : Wrs 1 bs) (w2 : Wrs 2 ss) (hb : bs.length + ss.length ≤ 2900000) :
    Does Try.prog 65 [.agg ⟨pcells q v1 v2⟩, .agg ⟨x.cells⟩] (k1 ++ k2) w (fun v hs => ∃ u1 u2 j1 j2, v = .agg ⟨pcells x.s u1 u2⟩ ∧ hs = j1 ++ j2 ∧ LOwn u1 (if x.k = 1 ∧ x.d = 1 then dn x bs else bs) j1 ∧ LOwn u2 (if x.k = 1 ∧ x.d = 2 then dn x ss else ss) j2) := by
  refine Does.less (Does.of (n := 35) Try.func65 rfl rfl rfl rfl ?_)
  refine .seq ((.region (.nw (.box (l := pcells q v1 v2) rfl rfl) fun b2 => (.nw (.box (l := x.cells) rfl rfl) fun b3 => (.nw .alloc fun b4 => (.nil ?_))))))
  refine .seq ((.region (.v (.fieldAddr rfl) (.v (.load (v := .int .u64 x.s) rfl (.one rfl)) (.v (.fieldAddr rfl) (.st (.storeL rfl rfl rfl) (.nil ?_)))))))
  refine .keep ((b4, .cells (pcells 0 (.slice none 0 0) (.slice none 0 0)) 40) :: Db b3 x :: Pcb b2 x.s v1 v2 :: (k1 ++ k2)) ?_
  refine .mid (X := DnX) (fun z => [(2, .pointer (some ⟨b2, 0, none⟩)), (3, .pointer (some ⟨b3, 0, none⟩)), (4, .pointer (some ⟨b4, 0, none⟩))]) (fun z => (b4, .cells (pcells 0 (.slice none 0 0) (.slice none 0 0)) 40) :: Db b3 x :: Pcb b2 x.s z.v1 v2 :: (z.k1 ++ k2)) (fun z => LOwn z.v1 (if x.k = 1 ∧ x.d = 1 then dn x bs else bs) z.k1) (.seq ((.region (.v (.fieldAddr rfl) (.v (.load (v := .int .i64 x.k) rfl (.one rfl)) (.v (.eqi rfl rfl) (.v (.move rfl) (.and (b2 := decide (x.d = 1)) 11 14 3 3 rfl rfl (fun g1 => .v (.fieldAddr rfl) (.v (.load (v := .int .i64 x.d) rfl (.one rfl)) (.v (.eqi rfl rfl) (.nil ⟨rfl, rfl, rfl, rfl⟩)))) (.nil ?_))))))))) ?_
  · refine .cond rfl (fun h1 => ?_) (fun h1 => .skip ?_)
    · simp only [Bool.and_eq_true, Bool.or_eq_true, Bool.not_eq_true', Bool.and_eq_false_iff, Bool.or_eq_false_iff, Bool.not_eq_false', decide_eq_true_eq, decide_eq_false_iff_not, Bool.false_eq_true, false_iff] at h1
      obtain ⟨A1, a1, rfl⟩ := lown_sl o1
      refine .region (.v (.fieldAddr rfl) (.v (.load (v := .slice A1 bs.length a1) rfl (.one rfl)) (.v (.loadA (vs := x.cells) rfl .whole rfl) ?_)))
      refine .ef (.call0 rfl rfl fun w s => refdone_ok w x A1 bs.length a1 bs (OwnS.rd o1 s (no := []) (fun y hy => by simp [hy]) (by simp)) rfl (by rw [h1.2]; exact w1) (by omega)) ?_
      rintro v' _ ⟨j1, k', rfl⟩
      obtain ⟨E1, e1, rfl⟩ := lown_sl k'
      refine .v (.fieldAddr rfl) (.st (.storeL rfl rfl rfl) (.nil ?_))
      refine ⟨⟨.slice E1 (dn x bs).length e1, v2, j1, k2⟩, ?_, .cons rfl (.cons rfl (.cons rfl (.nil _))), fun _ s => s.take⟩
      rw [if_pos h1]; exact k'
    · simp only [Bool.and_eq_true, Bool.or_eq_true, Bool.not_eq_true', Bool.and_eq_false_iff, Bool.or_eq_false_iff, Bool.not_eq_false', decide_eq_true_eq, decide_eq_false_iff_not, Bool.false_eq_true, false_iff] at h1
      refine ⟨⟨v1, v2, k1, k2⟩, ?_, .cons rfl (.cons rfl (.cons rfl (.nil _))), fun _ s => s.take⟩
      rw [if_neg (by intro hh; rcases h1 with h1 | h1; exact h1 hh.1; exact h1 hh.2)]; exact o1
  · rintro ⟨u1, _, j1, _⟩ p1
    dsimp only at p1 ⊢
    refine .mid (X := DnX) (fun z => [(2, .pointer (some ⟨b2, 0, none⟩)), (4, .pointer (some ⟨b4, 0, none⟩))]) (fun z => (b4, .cells (pcells 0 (.slice none 0 0) (.slice none 0 0)) 40) :: Pcb b2 x.s u1 z.v2 :: (j1 ++ z.k2)) (fun z => LOwn z.v2 (if x.k = 1 ∧ x.d = 2 then dn x ss else ss) z.k2) (.seq ((.region (.v (.fieldAddr rfl) (.v (.load (v := .int .i64 x.k) rfl (.one rfl)) (.v (.eqi rfl rfl) (.v (.move rfl) (.and (b2 := decide (x.d = 2)) 24 27 3 3 rfl rfl (fun g1 => .v (.fieldAddr rfl) (.v (.load (v := .int .i64 x.d) rfl (.one rfl)) (.v (.eqi rfl rfl) (.nil ⟨rfl, rfl, rfl, rfl⟩)))) (.nil ?_))))))))) ?_
    · refine .cond rfl (fun h1 => ?_) (fun h1 => .skip ?_)
      · simp only [Bool.and_eq_true, Bool.or_eq_true, Bool.not_eq_true', Bool.and_eq_false_iff, Bool.or_eq_false_iff, Bool.not_eq_false', decide_eq_true_eq, decide_eq_false_iff_not, Bool.false_eq_true, false_iff] at h1
        obtain ⟨A2, a2, rfl⟩ := lown_sl o2
        refine .region (.v (.fieldAddr rfl) (.v (.load (v := .slice A2 ss.length a2) rfl (.one rfl)) (.v (.loadA (vs := x.cells) rfl .whole rfl) ?_)))
        refine .ef (.call0 rfl rfl fun w s => refdone_ok w x A2 ss.length a2 ss (OwnS.rd o2 s (no := []) (fun y hy => by simp [hy]) (by simp)) rfl (by rw [h1.2]; exact w2) (by omega)) ?_
        rintro v' _ ⟨j2, k', rfl⟩
        obtain ⟨E2, e2, rfl⟩ := lown_sl k'
        refine .v (.fieldAddr rfl) (.st (.storeL rfl rfl rfl) (.nil ?_))
        refine ⟨⟨u1, .slice E2 (dn x ss).length e2, j1, j2⟩, ?_, .cons rfl (.cons rfl (.nil _)), fun _ s => s.take⟩
        rw [if_pos h1]; exact k'
      · simp only [Bool.and_eq_true, Bool.or_eq_true, Bool.not_eq_true', Bool.and_eq_false_iff, Bool.or_eq_false_iff, Bool.not_eq_false', decide_eq_true_eq, decide_eq_false_iff_not, Bool.false_eq_true, false_iff] at h1
        refine ⟨⟨u1, v2, j1, k2⟩, ?_, .cons rfl (.cons rfl (.nil _)), fun _ s => s.take⟩
        rw [if_neg (by intro hh; rcases h1 with h1 | h1; exact h1 hh.1; exact h1 hh.2)]; exact o2
    · rintro ⟨_, u2, _, j2⟩ p2
      dsimp only at p2 ⊢
      obtain ⟨E1, e1, rfl⟩ := lown_sl p1
      obtain ⟨E2, e2, rfl⟩ := lown_sl p2
      refine .seq ((.region (.v (.loadA (vs := pcells x.s (.slice E1 _ e1) (.slice E2 _ e2)) rfl .whole rfl) (.st (.sw rfl rfl) (.nil ?_)))))
      exact .ret ⟨[_], ⟨⟨_, rfl, .inr ⟨3, _, inferInstance, rfl, rfl, .whole⟩⟩, trivial⟩, j1 ++ j2, fun _ s => s.take, _, _, j1, j2, rfl, rfl, p1, p2⟩
theorem Sb.app_form {S : Sb} {x : Dt} (hx : x.can) : S.app x = { S with seq := x.s, bs := if x.k = 1 ∧ x.d = 1 then dn x S.bs else S.bs, ss := if x.k = 1 ∧ x.d = 2 then dn x S.ss else S.ss, last := if x.k = 2 then x else S.last } := by
  obtain ⟨-, hd, -, hk⟩ := hx
  have hk : x.k = 1 ∨ x.k = 2 := by rcases hk with hk | hk; exact .inl hk.1; exact .inr hk.1
  unfold Sb.app
  rcases hk with hk | hk <;> rcases hd with hd | hd <;> simp [hk, hd]
abbrev Rz (b : Nat) : Nat × Ch := (b, .cells [.int .i64 0, .int .u64 0, .slice none 0 0, .slice none 0 0, .slice none 0 0, .int .u64 0, .int .u64 0, .int .i64 0, .int .i64 0, .int .i64 0, .int .u64 0, .int .i64 0] 65)
set_option maxRecDepth 20000 in
set_option maxHeartbeats 1100000 in
theorem refdoes_ok (w : World) (S : Sb) (x : Dt) (hx : x.can) (v1 v2 : Value) (Ah : Option Addr) (nh ch : Nat) (k1 k2 : Hp) (o1 : LOwn v1 S.bs k1) (o2 : LOwn v2 S.ss k2) (hk : S.Ok) (hb : S.size ≤ 2900000) :
    Does Try.prog 73 [.agg ⟨rscells S v1 v2 (.slice Ah nh ch)⟩, .agg ⟨x.cells⟩] (k1 ++ k2) w (fun v hs => ∃ u1 u2 j1 j2, v = .agg ⟨rscells (S.app x) u1 u2 (.slice Ah nh ch)⟩ ∧ hs = j1 ++ j2 ∧ LOwn u1 (S.app x).bs j1 ∧ LOwn u2 (S.app x).ss j2) := by
  refine Does.less (Does.of (n := 16) Try.func73 rfl rfl rfl rfl ?_)
  refine .seq ((.region (.nw (.box (l := rscells S v1 v2 (.slice Ah nh ch)) rfl rfl) fun b2 => (.nw (.box (l := x.cells) rfl rfl) fun b3 => (.nw .alloc fun b4 => (.nil ?_))))))
  refine .seq ((.region (.v (.fieldAddr rfl) (.v (.loadA (vs := pcells S.seq v1 v2) rfl (.chunk (getPart 1 rfl)) rfl) (.v (.loadA (vs := x.cells) rfl .whole rfl) ?_)))))
  refine .ef (.callT (k1 ++ k2) rfl rfl fun w s => Done_ok w x hx S.seq S.bs S.ss v1 v2 k1 k2 o1 o2 hk.b hk.s (by unfold Sb.size at hb; omega)) ?_
  rintro _ _ ⟨_, ⟨u1, u2, j1, j2, rfl, rfl, p1, p2⟩, rfl⟩
  have ef := Sb.app_form (S := S) hx
  have e1 : (S.app x).bs = if x.k = 1 ∧ x.d = 1 then dn x S.bs else S.bs := by rw [ef]
  have e2 : (S.app x).ss = if x.k = 1 ∧ x.d = 2 then dn x S.ss else S.ss := by rw [ef]
  have e3 : (S.app x).last = if x.k = 2 then x else S.last := by rw [ef]
  have e4 := Sb.app_seq S x
  have e5 := Sb.app_gr S x
  have e6 := Sb.app_hold S x
  rw [← e1] at p1
  rw [← e2] at p2
  generalize S.app x = S' at *
  clear ef e1 e2
  obtain ⟨E1, a1, rfl⟩ := lown_sl p1
  obtain ⟨E2, a2, rfl⟩ := lown_sl p2
  refine .v (.fieldAddr rfl) (.st (.storeR [.int .i64 S.hold, .int .u64 x.s, .slice E1 S'.bs.length a1, .slice E2 S'.ss.length a2, .slice Ah nh ch, .int .u64 S.gr, .int .u64 S.last.s, .int .i64 S.last.k, .int .i64 S.last.d, .int .i64 S.last.p, .int .u64 S.last.q, .int .i64 S.last.c] rfl rfl) (.nil ?_))
  rw [← e4, ← e5, ← e6]
  refine .keep (Rz b4 :: Db b3 x :: Rsb b2 { S' with last := S.last } (.slice E1 S'.bs.length a1) (.slice E2 S'.ss.length a2) (.slice Ah nh ch) :: (j1 ++ j2)) ?_
  refine .mid (X := Unit) (fun z => [(2, .pointer (some ⟨b2, 0, none⟩)), (4, .pointer (some ⟨b4, 0, none⟩))]) (fun z => Rz b4 :: Rsb b2 S' (.slice E1 S'.bs.length a1) (.slice E2 S'.ss.length a2) (.slice Ah nh ch) :: (j1 ++ j2)) (fun z => True) (.seq ((.region (.v (.fieldAddr rfl) (.v (.load (v := .int .i64 x.k) rfl (.one rfl)) (.v (.eqi rfl rfl) (.nil ?_))))))) ?_
  · refine .cond_dec rfl (fun h1 => ?_) (fun h1 => .skip ?_)
    · rw [if_pos h1] at e3
      refine .region (.v (.loadA (vs := x.cells) rfl .whole rfl) (.v (.fieldAddr rfl) (.st (.storeR [.int .i64 S'.hold, .int .u64 S'.seq, .slice E1 S'.bs.length a1, .slice E2 S'.ss.length a2, .slice Ah nh ch, .int .u64 S'.gr, .int .u64 x.s, .int .i64 x.k, .int .i64 x.d, .int .i64 x.p, .int .u64 x.q, .int .i64 x.c] rfl rfl) (.nil ?_))))
      refine ⟨(), trivial, .cons rfl (.cons rfl (.nil _)), fun _ s => ?_⟩
      have hc : rscells S' (.slice E1 S'.bs.length a1) (.slice E2 S'.ss.length a2) (.slice Ah nh ch) = [.int .i64 S'.hold, .int .u64 S'.seq, .slice E1 S'.bs.length a1, .slice E2 S'.ss.length a2, .slice Ah nh ch, .int .u64 S'.gr, .int .u64 x.s, .int .i64 x.k, .int .i64 x.d, .int .i64 x.p, .int .u64 x.q, .int .i64 x.c] := by
        show [_, _, _, _, _, _, _, _, _, _, _, _] = _
        rw [e3]
      rw [← hc] at s
      exact s.take
    · rw [if_neg h1] at e3
      refine ⟨(), trivial, .cons rfl (.cons rfl (.nil _)), fun _ s => ?_⟩
      rw [← e3] at s
      exact s.take
  · rintro _ -
    refine .seq ((.region (.v (.loadA (vs := rscells S' (.slice E1 S'.bs.length a1) (.slice E2 S'.ss.length a2) (.slice Ah nh ch)) rfl .whole rfl) (.st (.sw rfl rfl) (.nil ?_)))))
    exact .ret ⟨[_], ⟨⟨_, rfl, .inr ⟨12, _, inferInstance, rfl, rfl, .whole⟩⟩, trivial⟩, j1 ++ j2, fun _ s => s.take, _, _, j1, j2, rfl, rfl, p1, p2⟩
set_option maxRecDepth 20000 in
theorem refGood_ok (w : World) (S : Sb) (v1 v2 vh : Value) : Is Try.prog 54 [.agg ⟨rscells S v1 v2 vh⟩] w (.bool S.good) := by
  refine Does.pure (Does.of (n := 9) Try.func54 rfl rfl rfl rfl ?_)
  refine .seq ((.region (.nw (.box (l := rscells S v1 v2 vh) rfl rfl) fun b1 => (.v (.assign rfl) (.nil ?_)))))
  refine .seq ((.region (.v (.fieldAddr rfl) (.v (.fieldAddr rfl) (.v (.load (v := .int .u64 S.seq) rfl (.one rfl)) (.v (.fieldAddr rfl) (.v (.load (v := .int .u64 S.gr) rfl (.one rfl)) (.v (.geq rfl rfl) (.v (.assign rfl) (.nil ?_))))))))))
  exact .ret ⟨[_], ⟨rfl, trivial⟩, rfl⟩
set_option maxRecDepth 20000 in
theorem refCan_ok (w : World) (q : Int) (bs ss : List Lv) (B1 B2 : Option Addr) (d1 d2 : Nat) (r1 : Rd w [] B1 (lrows bs)) (r2 : Rd w [] B2 (lrows ss)) (hb : bs.length + ss.length ≤ 1100000) : Is Try.prog 75 [.agg ⟨pcells q (.slice B1 bs.length d1) (.slice B2 ss.length d2)⟩] w (.bool (decide (Fit 1 bs) && decide (Fit 2 ss))) := by
  refine Does.pure (Does.of (n := 11) Try.func75 rfl rfl rfl rfl ?_)
  refine .seq ((.region (.nw (.box (l := pcells q (.slice B1 bs.length d1) (.slice B2 ss.length d2)) rfl rfl) fun b1 => (.v (.assign rfl) (.nil ?_)))))
  refine .seq ((.region (.v (.fieldAddr rfl) (.v (.load (v := .slice B1 bs.length d1) rfl (.one rfl)) (.pc (v := .bool (decide (Fit 1 bs))) rfl rfl (fun w s => levels_ok w 1 B1 bs.length d1 bs (r1.keep0 s) rfl (by omega)) (.v (.move rfl) (.and (b2 := decide (Fit 2 ss)) 6 9 3 3 rfl rfl (fun g1 => .v (.fieldAddr rfl) (.v (.load (v := .slice B2 ss.length d2) rfl (.one rfl)) (.pc (v := .bool (decide (Fit 2 ss))) rfl rfl (fun w s => levels_ok w 2 B2 ss.length d2 ss (r2.keep0 s) rfl (by omega)) (.nil ⟨rfl, rfl, rfl, rfl⟩)))) (.v (.assign rfl) (.nil ?_)))))))))
  exact .ret ⟨[_], ⟨rfl, trivial⟩, rfl⟩
set_option maxRecDepth 20000 in
theorem refNewSub_ok (w : World) (hold : Int) : Is Try.prog 26 [.int .i64 hold] w (.tuple ⟨[.agg ⟨rscells (Sb.new (if 0 ≤ hold ∧ hold ≤ 1024 then hold else 0)) (.slice none 0 0) (.slice none 0 0) (.slice none 0 0)⟩, .int .i64 (if 0 ≤ hold ∧ hold ≤ 1024 then 0 else 1)]⟩) := by
  refine Does.pure (Does.of (n := 13) Try.func26 rfl rfl rfl rfl ?_)
  refine .seq ((.region (.nw .alloc fun b2 => (.v (.assign rfl) (.nil ?_)))))
  refine .seq (.seq ((.region (.v (.move rfl) (.v (.lss rfl rfl) (.v (.move rfl) (.or (b2 := decide (hold > 1024)) 6 8 2 2 rfl rfl (fun g1 => .v (.move rfl) (.v (.gtr rfl rfl) (.nil ⟨rfl, rfl, rfl, rfl⟩))) (.nil ?_))))))))
  refine .cond rfl (fun h1 => ?_) (fun h1 => .skip ?_)
  · simp only [Bool.and_eq_true, Bool.or_eq_true, Bool.not_eq_true', Bool.and_eq_false_iff, Bool.or_eq_false_iff, Bool.not_eq_false', decide_eq_true_eq, decide_eq_false_iff_not, Bool.false_eq_true, false_iff] at h1
    refine .seq ((.region (.v (.build (out := rscells (Sb.new 0) (.slice none 0 0) (.slice none 0 0) (.slice none 0 0)) rfl rfl) (.st (.sw rfl rfl) (.v (.assign rfl) (.nil ?_))))))
    refine .ret ⟨[_, _], ⟨⟨_, rfl, .inr ⟨12, _, inferInstance, rfl, rfl, .whole⟩⟩, rfl, trivial⟩, ?_⟩
    rw [if_neg (by omega), if_neg (by omega)]
    rfl
  · simp only [Bool.and_eq_true, Bool.or_eq_true, Bool.not_eq_true', Bool.and_eq_false_iff, Bool.or_eq_false_iff, Bool.not_eq_false', decide_eq_true_eq, decide_eq_false_iff_not, Bool.false_eq_true, false_iff] at h1
    refine .seq ((.region (.v (.move rfl) (.v (.build (out := rscells (Sb.new hold) (.slice none 0 0) (.slice none 0 0) (.slice none 0 0)) rfl rfl) (.st (.sw rfl rfl) (.v (.assign rfl) (.nil ?_)))))))
    refine .ret ⟨[_, _], ⟨⟨_, rfl, .inr ⟨12, _, inferInstance, rfl, rfl, .whole⟩⟩, rfl, trivial⟩, ?_⟩
    rw [if_pos (by omega), if_pos (by omega)]
    rfl
end Go.Proofs.Ytinmhhonpflojaa

/- The document's subscriber: goes, Take. -/
namespace Go.Proofs.Ytinmhhonpflojaa
open Go.V
set_option linter.unusedVariables false
set_option linter.unusedSimpArgs false

structure RX where
  v1 : Value
  v2 : Value
  vh : Value
  k1 : Hp
  k2 : Hp
  kh : Hp
structure RI (S : Sb) (r : RX) : Prop where
  o1 : LOwn r.v1 S.bs r.k1
  o2 : LOwn r.v2 S.ss r.k2
  oh : DOwn r.vh S.held r.kh
abbrev RX.all (r : RX) : Hp := r.k1 ++ (r.k2 ++ r.kh)
theorem down_sl {v : Value} {l : List Dt} {h : Hp} (k : DOwn v l h) : ∃ A c, v = .slice A l.length c := OwnS.slice k
theorem drows_take (l : List Dt) (k : Nat) : drows (l.take k) = (drows l).take (k * 6) := V.rows_take Dt.cells 6 (fun _ => rfl) k
theorem drows_drop (l : List Dt) (k : Nat) : drows (l.drop k) = (drows l).drop (k * 6) := V.rows_drop Dt.cells 6 (fun _ => rfl) k
theorem drows_ones' (l : List Dt) : ones (drows l) = true := V.rows_ones Dt.cells (fun _ => rfl) l
theorem own_nil (b : Nat) : OwnS 24 6 (.slice (some ⟨b, 0, none⟩) 0 0) 0 [] [(b, .cells [] 24)] := ⟨rfl, .inr ⟨b, 0, 0, [], rfl, rfl, by omega, by simp, by simp⟩⟩
theorem lown_nil (b : Nat) : OwnS 109 3 (.slice (some ⟨b, 0, none⟩) 0 0) 0 [] [(b, .cells [] 109)] := ⟨rfl, .inr ⟨b, 0, 0, [], rfl, rfl, by omega, by simp, by simp⟩⟩
theorem hatv_neg {n : Int} {l : List Dt} : hatv n l < 0 ↔ hat n l = none := by
  cases hh : hat n l with
  | none => rw [hatv_none hh]; simp
  | some i => rw [hatv_some hh]; simp
theorem hatv_has {S : Sb} {n : Int} : hatv n S.held ≥ 0 ↔ S.has n = true := by
  unfold Sb.has
  cases hh : hat n S.held with
  | none => rw [hatv_none hh]; simp
  | some i => rw [hatv_some hh]; simp
set_option maxRecDepth 20000 in
set_option maxHeartbeats 1000000 in
theorem refgoes_ok (w : World) (S : Sb) (hS : S.Ok) (r : RX) (h : RI S r) (hb : S.size ≤ 2900000) :
    Does Try.prog 74 [.agg ⟨rscells S r.v1 r.v2 r.vh⟩] r.all w (fun v hs => ∃ r' : RX, v = .agg ⟨rscells S.go r'.v1 r'.v2 r'.vh⟩ ∧ hs = r'.all ∧ RI S.go r') := by
  refine Does.less (Does.of (n := 35) Try.func74 rfl rfl rfl rfl ?_)
  refine .seq ((.region (.nw (.box (l := rscells S r.v1 r.v2 r.vh) rfl rfl) fun b1 => (.nw .alloc fun b2 => (.nil ?_)))))
  refine .block (.loop (X := Sb × RX) (fun z => [(1, .pointer (some ⟨b1, 0, none⟩)), (2, .pointer (some ⟨b2, 0, none⟩))]) (fun z => Rz b2 :: Rsb b1 z.1 z.2.v1 z.2.v2 z.2.vh :: z.2.all) (fun z => RI z.1 z.2 ∧ z.1.go = S.go ∧ z.1.Ok ∧ z.1.size ≤ S.size) (fun z => z.1.held.length) (S, r) ⟨h, rfl, hS, by simp⟩ (.cons rfl (.cons rfl (.nil _))) (fun _ s => s.take) ?_)
  rintro ⟨S1, v1, v2, vh, k1, k2, kh⟩ ⟨⟨o1, o2, oh⟩, hg, hk, hz⟩
  dsimp only at o1 o2 oh hg hk hz ⊢
  obtain ⟨A1, a1, rfl⟩ := lown_sl o1
  obtain ⟨A2, a2, rfl⟩ := lown_sl o2
  obtain ⟨Ah, ah, rfl⟩ := down_sl oh
  have hcap := (OwnS.cap_ oh).2
  have hlen := hk.len.1
  refine .block (.seq ((.region (.v (.loadA (vs := rscells S1 (.slice A1 S1.bs.length a1) (.slice A2 S1.ss.length a2) (.slice Ah S1.held.length ah)) rfl .whole rfl) (.v (.fieldAddr rfl) (.v (.fieldAddr rfl) (.v (.load (v := .int .u64 S1.seq) rfl (.one rfl)) (.v (.add rfl rfl) ?_))))))))
  rw [show (IntKind.u64.wrap (S1.seq + 1)) = nxs S1.seq from u64w _]
  refine .pc (v := .int .i64 (hatv (nxs S1.seq) S1.held)) rfl rfl (fun w s => held_ok w S1 _ _ Ah ah (nxs S1.seq) S1.held (OwnS.rd oh s (no := []) (fun y hy => by simp [hy]) (by simp)) (by omega)) ?_
  refine .v (.assign rfl) (.nil ?_)
  refine .seq (.seq ((.region (.v (.move rfl) (.v (.lss rfl rfl) (.nil ?_))))))
  refine .cond_dec rfl (fun h1 => ?_) (fun h1 => .skip ?_)
  · have hh := hatv_neg.1 h1
    refine .seq ((.region (.v (.loadA (vs := rscells S1 (.slice A1 S1.bs.length a1) (.slice A2 S1.ss.length a2) (.slice Ah S1.held.length ah)) rfl .whole rfl) (.st (.sw rfl rfl) (.nil ?_)))))
    refine .ret ⟨[_], ⟨⟨_, rfl, .inr ⟨12, _, inferInstance, rfl, rfl, .whole⟩⟩, trivial⟩, k1 ++ (k2 ++ kh), fun _ s => s.take, ⟨.slice A1 S1.bs.length a1, .slice A2 S1.ss.length a2, .slice Ah S1.held.length ah, k1, k2, kh⟩, ?_, rfl, ?_⟩
    · rw [← hg, Sb.go_none hh]; rfl
    · rw [← hg, Sb.go_none hh]; exact ⟨o1, o2, oh⟩
  · obtain ⟨i, hh⟩ : ∃ i, hat (nxs S1.seq) S1.held = some i := by
      cases hq : hat (nxs S1.seq) S1.held with
      | none => exact absurd (hatv_neg.2 hq) h1
      | some i => exact ⟨i, rfl⟩
    rw [hatv_some hh]
    obtain ⟨hi, hgo⟩ := Sb.go_some hh
    have hs1 := Sb.one_size hi S1.held[i]
    have hko := hk.one hi
    have hlen1 : (S1.one i S1.held[i]).held.length = S1.held.length - 1 := by rw [Sb.one_held, List.length_eraseIdx_of_lt hi]
    have hone : S1.one i S1.held[i] = ({ S1 with held := S1.held.eraseIdx i } : Sb).app S1.held[i] := rfl
    have hcan := (hk.can _ (List.getElem_mem hi)).1
    have hk0 : Sb.Ok { S1 with held := S1.held.eraseIdx i } := ⟨hk.sq, hk.b, hk.s, fun y hy => hk.can y (List.mem_of_mem_eraseIdx hy), hk.nd.sublist ((List.eraseIdx_sublist S1.held i).map _), fun y hy => hk.gr y (List.mem_of_mem_eraseIdx hy), by
      have e : (S1.held.eraseIdx i).length = S1.held.length - 1 := List.length_eraseIdx_of_lt hi
      have := hk.len
      show (S1.held.eraseIdx i).length ≤ 1024 ∧ ((S1.held.eraseIdx i).length : Int) ≤ max S1.hold 0
      omega⟩
    have hez : Sb.size { S1 with held := S1.held.eraseIdx i } ≤ S1.size := by
      have e : (S1.held.eraseIdx i).length = S1.held.length - 1 := List.length_eraseIdx_of_lt hi
      unfold Sb.size; dsimp only; omega
    have hrd : ∀ w' hs', kh ⊆ hs' → Sat w (bl r.all) hs' w' → Rd w' [] Ah (drows S1.held) := fun w' hs' hsub s => OwnS.rd oh s (no := []) hsub (by simp)
    have hcell : ∀ hs', kh ⊆ hs' → ∃ b o, Ah = some ⟨b, o, none⟩ ∧ At w (bl r.all) hs' ⟨b, o + i * 6, none⟩ S1.held[i].cells := by
      intro hs' hsub
      obtain ⟨b, o, l, e1, e2, e3, e4, e5, e6⟩ := oh.some_ (by omega)
      subst e1
      refine ⟨b, o, rfl, ?_⟩
      have := OwnS.at0 (w0 := w) (own := bl r.all) oh hsub
      exact recAt Dt.cells 6 (fun _ => rfl) (z := (i : Int)) this hi
    generalize S1.held[i] = x at *
    obtain ⟨bq, oq, rfl, hat_⟩ := hcell (Rz b2 :: Rsb b1 S1 (.slice A1 S1.bs.length a1) (.slice A2 S1.ss.length a2) (.slice Ah S1.held.length ah) :: (k1 ++ (k2 ++ kh))) (fun y hy => by simp [hy])
    refine .seq ((.region (.v (.fieldAddr rfl) (.v (.load (v := .slice (some ⟨bq, oq, none⟩) S1.held.length ah) rfl (.one rfl)) (.v (.move rfl) (.v (.indexAddr rfl rfl (by omega) (by omega)) (.v (.loadA (vs := x.cells) rfl hat_ rfl) (.nw .alloc fun b4 => (.st (.sw rfl rfl) (.nil ?_))))))))))
    refine .seq ((.drawQ 13 [1, 2, 3, 4, 6, 7, 8, 9, 10, 0, 5, 11, 12, 13] [Db b4 x, Rz b2, Rsb b1 S1 (.slice A1 S1.bs.length a1) (.slice A2 S1.ss.length a2) (.slice (some ⟨bq, oq, none⟩) S1.held.length ah)] (by intro p hp; simp at hp ⊢; rcases hp with rfl | rfl | rfl <;> simp) (by kernel_rfl) (by kernel_rfl) ?_))
    refine .v (fun _ f => .fieldAddr rfl) (.v (fun _ f => .load (v := .slice (some ⟨bq, oq, none⟩) S1.held.length ah) rfl (.one (hb := .sub f) rfl)) (.v (fun _ f => .move rfl) (.v (fun _ f => .slHi rfl rfl (by omega) (by omega)) (.v (fun _ f => .fieldAddr rfl) (.v (fun _ f => .load (v := .slice (some ⟨bq, oq, none⟩) S1.held.length ah) rfl (.one (hb := .sub f) rfl)) (.v (fun _ f => .move rfl) (.v (fun _ f => .addE ((i + 1 : Nat) : Int) rfl rfl (by omega) (by omega)) (.v (fun _ f => .slLo rfl rfl (by omega) (by omega)) ?_))))))))
    rw [Int.toNat_natCast, Int.toNat_natCast]
    refine .ef (.buildSlice (out := []) rfl (by decide) rfl rfl) (fun _ _ ⟨_, _, e⟩ f => by subst e; exact fun p hp => List.mem_cons_of_mem _ (f hp)) ?_
    rintro _ _ ⟨b19, rfl, rfl⟩
    have el : (S1.held.take i).length = i := by rw [List.length_take]; omega
    have ed : (S1.held.drop (i + 1)).length = S1.held.length - (i + 1) := by rw [List.length_drop]
    refine .ef (.append (c := 0) (k := i) (vs := []) (news := drows (S1.held.take i)) (h := [(b19, .cells [] 24)]) (fr := Db b4 x :: Rz b2 :: Rsb b1 S1 (.slice A1 S1.bs.length a1) (.slice A2 S1.ss.length a2) (.slice (some ⟨bq, oq, none⟩) S1.held.length ah) :: (k1 ++ (k2 ++ kh))) rfl rfl (own_nil b19) (by exact List.Perm.refl _)
      (fun w' s => Rd.src (vs := drows (S1.held.take i)) (by rw [drows_take]; exact (hrd w' _ (fun y hy => by simp [hy]) s).take _) (by rw [drows_length, el]) (by omega)) (by rw [drows_length, el]) (drows_ones' _) (by omega) (by omega)) (fun _ _ ⟨_, _, e⟩ f => by subst e; intro p hp; simp at hp ⊢; rcases hp with rfl | rfl | rfl <;> simp) ?_
    rintro v' _ ⟨h', m', rfl⟩
    refine .ef (.append (c := 0 + i) (k := S1.held.length - (i + 1)) (vs := [] ++ drows (S1.held.take i)) (news := drows (S1.held.drop (i + 1))) (h := h') (fr := Db b4 x :: Rz b2 :: Rsb b1 S1 (.slice A1 S1.bs.length a1) (.slice A2 S1.ss.length a2) (.slice (some ⟨bq, oq, none⟩) S1.held.length ah) :: (k1 ++ (k2 ++ kh))) rfl rfl m' (by exact List.Perm.refl _)
      (fun w' s => Rd.src (vs := drows (S1.held.drop (i + 1))) (by rw [drows_drop]; exact (hrd w' _ (fun y hy => by simp [hy]) s).cut (by rw [drows_length]; omega)) (by rw [drows_length, ed]) (by omega)) (by rw [drows_length, ed]) (drows_ones' _) (by omega) (by omega)) (fun _ _ ⟨_, _, e⟩ f => by subst e; intro p hp; simp at hp ⊢; rcases hp with rfl | rfl | rfl <;> simp) ?_
    rintro v'' _ ⟨h'', m'', rfl⟩
    have hE : DOwn v'' (S1.held.eraseIdx i) h'' := by
      unfold DOwn
      rw [List.length_eraseIdx_of_lt hi, List.eraseIdx_eq_take_drop_succ, drows_app]
      rw [show 0 + i + (S1.held.length - (i + 1)) = S1.held.length - 1 from by omega, List.nil_append] at m''
      exact m''
    obtain ⟨Ax, ax, rfl⟩ := down_sl hE
    refine .v (fun _ f => .fieldAddr rfl) (.st (.storeL rfl rfl rfl) (.nil ?_))
    refine .region (.v (.loadA (vs := rscells { S1 with held := S1.held.eraseIdx i } (.slice A1 S1.bs.length a1) (.slice A2 S1.ss.length a2) (.slice Ax (S1.held.eraseIdx i).length ax)) rfl .whole rfl) (.v (.loadA (vs := x.cells) rfl .whole rfl) ?_))
    refine .ef (.callT (k1 ++ k2) rfl rfl fun w s => refdoes_ok w { S1 with held := S1.held.eraseIdx i } x hcan _ _ Ax _ ax k1 k2 o1 o2 hk0 (by omega)) ?_
    rintro _ _ ⟨_, ⟨u1, u2, j1, j2, rfl, rfl, p1, p2⟩, rfl⟩
    rw [← hone] at p1 p2 ⊢
    obtain ⟨E1, e1, rfl⟩ := lown_sl p1
    obtain ⟨E2, e2, rfl⟩ := lown_sl p2
    refine .st (.sw rfl rfl) (.nil ?_)
    exact ⟨(S1.one i x, ⟨.slice E1 (S1.one i x).bs.length e1, .slice E2 (S1.one i x).ss.length e2, .slice Ax (S1.held.eraseIdx i).length ax, j1, j2, h''⟩), ⟨⟨p1, p2, by show DOwn _ (S1.one i x).held _; rw [Sb.one_held]; exact hE⟩, by rw [← hg, hgo], hko, by show (S1.one i x).size ≤ _; omega⟩, by show (S1.one i x).held.length < S1.held.length; omega, .cons rfl (.cons rfl (.nil _)), fun _ s => s.take⟩
end Go.Proofs.Ytinmhhonpflojaa

/- VD: regions with one store at their end, in which two effects may come up in either order. -/
namespace Go
namespace V
open Go.RowKit
set_option linter.unusedVariables false
set_option linter.unusedSimpArgs false

/-- number i comes up now -/
def JT (P : Program) (n : Nat) (w0 : World) (own : List Nat) (ops : Array Oper) (F : Hp) (z : Nat) (m : Nat) (listed : Array Bool) (e : Env) (hs : Hp) (K : Env → Hp → Prop) (i : Nat) : Prop :=
  ∀ a w, Rep n a e → Sat w0 own hs w → (listed.getD z true = false → F ⊆ hs) →
    wpOp P ops (QN fun a' w' => ∃ e' hs', Rep n a' e' ∧ Sat w0 own hs' w' ∧ K e' hs') i (fun a' w' => ((listed.setIfInBounds i true).getD z true = false → Keeps w0 own F w') ∧ Upto P ops (QN fun a' w' => ∃ e' hs', Rep n a' e' ∧ Sat w0 own hs' w' ∧ K e' hs') (Keeps w0 own F) z m (listed.setIfInBounds i true) a' w') a w
section
variable {P : Program} {n : Nat} {w0 : World} {own : List Nat} {e : Env} {hs F : Hp} {K : Env → Hp → Prop} {z m : Nat} {listed : Array Bool}
variable {d : Nat} {ty : TypeId} {pos : String} {aft : Array Edge} {g : Option (Nat × Bool)}
theorem JZ.two {ops : Array Oper} (i j : Nat) (hr : (Region.ready .any ops listed == [i, j]) = true) (h1 : JT P n w0 own ops F z m listed e hs K i) (h2 : JT P n w0 own ops F z m listed e hs K j) : JZ P n w0 own ops F z (m + 1) listed e hs K := by
  intro a w hr' s hf
  have hr : Region.ready .any ops listed = [i, j] := by simpa using hr
  refine ⟨fun h0 => (by rw [hr] at h0; cases h0), fun k hk => ?_⟩
  rw [hr] at hk
  simp only [List.mem_cons, List.not_mem_nil, or_false] at hk
  rcases hk with rfl | rfl
  · exact h1 a w hr' s hf
  · exact h2 a w hr' s hf
theorem JT.ef {ops : Array Oper} {i : Nat} {op : Op} {R : Value → Hp → Prop} (hi : ops[i]? = some ⟨some d, op, ty, pos, aft, g⟩) (h : Eff P n w0 own e hs op R) (hF : ∀ v hs', R v hs' → F ⊆ hs → F ⊆ hs')
    (k : ∀ v hs', R v hs' → JZ P n w0 own ops F z m (listed.setIfInBounds i true) ((d, v) :: e) hs' K) (hdn : Nat.blt d n = true := by rfl) (hg : wantB ops e g = some true := by rfl) : JT P n w0 own ops F z m listed e hs K i := by
  intro a w hr s hf
  unfold wpOp
  simp only [hi]
  rw [if_pos (wanted_of hr hg)]
  have hsub : ∀ v hs', R v hs' → (listed.setIfInBounds i true).getD z true = false → F ⊆ hs' := by
    intro v hs' r hz'
    have hzj : z ≠ i := by
      intro e
      subst e
      rcases Nat.lt_or_ge z listed.size with h' | h'
      · simp [h'] at hz'
      · simp [h'] at hz'
    rw [getD_set_ne true (Ne.symm hzj)] at hz'
    exact hF v hs' r (hf hz')
  exact .inl (h a w _ _ _ _ _ _ _ hr s fun v hs' w' r s' => ⟨fun hz' => ⟨hs', s', hsub v hs' r hz'⟩, k v hs' r _ _ (hr.put (Nat.le_of_ble_eq_true hdn) v) s' (hsub v hs' r)⟩)
/-- the first operations, in an order of ours; then by hand -/
theorem JC.drawW {id : Nat} {Q : Post} {l : List Oper} (z : Nat) (is : List Nat) (F : Hp) (hF : F ⊆ hs) (hm : P.follows .mixedOrders = true)
    (hB : (ordZ l.toArray z (pickL l is) is (Array.replicate l.length false) && Nat.beq (pickL l is).length is.length && Nat.ble is.length l.length && Nat.blt z l.length) = true)
    (h : JQ P n w0 own l.toArray F z false (pickL l is) e hs (fun _ e' hs' => JZ P n w0 own l.toArray F z (l.length - is.length) (marks_ is (Array.replicate l.length false)) e' hs' (fun e hs => Q .normal e hs))) : JC P n w0 own (.region id l.toArray true) e hs Q := by
  rw [Bool.and_eq_true, Bool.and_eq_true, Bool.and_eq_true] at hB
  obtain ⟨⟨⟨h1, h2⟩, h3⟩, h4⟩ := hB
  have h2 := Nat.eq_of_beq_eq_true h2
  have h3 := Nat.le_of_ble_eq_true h3
  have h4 : z < l.length := Nat.le_of_ble_eq_true h4
  refine JC.drawZ z F hF hm ?_
  have := h (l.length - is.length) is (Array.replicate l.length false) (fun e hs => Q .normal e hs) (pickL_nums' is h2) h1 (by simp) (by simp [h4]) (fun _ => hF) (fun _ e' hs' _ _ ke => ke)
  rw [h2, show is.length + (l.length - is.length) = l.length by omega] at this
  simpa using this
/-- the others, in an order of ours -/
theorem JZ.run {l : List Oper} (is : List Nat) (hF : F ⊆ hs) (hB : (ordZ l.toArray z (pickL l is) is listed && doneB l.toArray (marks_ is listed) && Nat.beq (pickL l is).length is.length && Nat.beq is.length m && Nat.beq listed.size l.length && !listed.getD z true) = true)
    (h : JQ P n w0 own l.toArray F z false (pickL l is) e hs (fun _ e hs => K e hs)) : JZ P n w0 own l.toArray F z m listed e hs K := by
  simp only [Bool.and_eq_true] at hB
  obtain ⟨⟨⟨⟨⟨h1, h2⟩, h3⟩, h4⟩, h5⟩, h6⟩ := hB
  have h3 := Nat.eq_of_beq_eq_true h3
  have h4 := Nat.eq_of_beq_eq_true h4
  have h5 := Nat.eq_of_beq_eq_true h5
  have := h 0 is listed K (pickL_nums' is h3) h1 (by simpa using h5) (by simpa using h6) (fun _ => hF) (fun _ e' hs' _ _ ke => JZ.done h2 ke)
  rw [h3, h4] at this
  simpa using this
end
end V
end Go

/- The document's subscriber: Take, Recover, Last, Missing. -/
namespace Go.Proofs.Ytinmhhonpflojaa
open Go.V
set_option linter.unusedVariables false
set_option linter.unusedSimpArgs false

theorem Sb.Ok.gr_ {S : Sb} (h : S.Ok) (n : Int) : Sb.Ok { S with gr := max S.gr n } := ⟨h.sq, h.b, h.s, h.can, h.nd, fun y hy => by have := h.gr y hy; show y.s ≤ max S.gr n; omega, h.len⟩
abbrev Take_post (S : Sb) (v : Value) (hs : Hp) (e : Int) : Prop := ∃ r' : RX, v = .tuple ⟨[.agg ⟨rscells S r'.v1 r'.v2 r'.vh⟩, .int .i64 e]⟩ ∧ hs = r'.all ∧ RI S r'
set_option maxRecDepth 20000 in
set_option maxHeartbeats 2000000 in
theorem reftake_ok (w : World) (S : Sb) (hS : S.Ok) (x : Dt) (hxs : x.s < 18446744073709551616) (r : RX) (h : RI S r) (hb : S.size ≤ 2899990) :
    Does Try.prog 48 [.agg ⟨rscells S r.v1 r.v2 r.vh⟩, .agg ⟨x.cells⟩] r.all w (fun v hs => Take_post (S.take x).1 v hs (S.take x).2) := by
  obtain ⟨v1, v2, vh, k1, k2, kh⟩ := r
  obtain ⟨o1, o2, oh⟩ := h
  dsimp only at o1 o2 oh ⊢
  obtain ⟨A1, a1, rfl⟩ := lown_sl o1
  obtain ⟨A2, a2, rfl⟩ := lown_sl o2
  obtain ⟨Ah, ah, rfl⟩ := down_sl oh
  have hlen := hS.len.1
  refine Does.less (Does.of (n := 58) Try.func48 rfl rfl rfl rfl ?_)
  refine .seq ((.region (.nw (.box (l := rscells S (.slice A1 S.bs.length a1) (.slice A2 S.ss.length a2) (.slice Ah S.held.length ah)) rfl rfl) fun b2 => (.nw (.box (l := x.cells) rfl rfl) fun b3 => (.nw .alloc fun b4 => (.v (.assign rfl) (.nil ?_)))))))
  refine .seq (.seq ((.region (.v (.loadA (vs := x.cells) rfl .whole rfl) (.pc (v := .bool (decide x.can)) rfl rfl (fun w s => Message_ok w x.s x.k x.d x.p x.q x.c) (.v (.not rfl) (.nil ?_)))))))
  refine .cond rfl (fun h1 => ?_) (fun h1 => .skip ?_)
  · have h1 : ¬ x.can := by simpa using h1
    rw [Sb.take_arg h1]
    refine .seq ((.region (.v (.loadA (vs := rscells S (.slice A1 S.bs.length a1) (.slice A2 S.ss.length a2) (.slice Ah S.held.length ah)) rfl .whole rfl) (.st (.sw rfl rfl) (.v (.assign rfl) (.nil ?_))))))
    exact .ret ⟨[_, _], ⟨⟨_, rfl, .inr ⟨12, _, inferInstance, rfl, rfl, .whole⟩⟩, rfl, trivial⟩, k1 ++ (k2 ++ kh), fun _ s => s.take, ⟨.slice A1 S.bs.length a1, .slice A2 S.ss.length a2, .slice Ah S.held.length ah, k1, k2, kh⟩, rfl, rfl, o1, o2, oh⟩
  · have h1 : x.can := by simpa using h1
    refine .seq (.seq ((.region (.v (.fieldAddr rfl) (.v (.load (v := .int .u64 x.s) rfl (.one rfl)) (.v (.fieldAddr rfl) (.v (.fieldAddr rfl) (.v (.load (v := .int .u64 S.seq) rfl (.one rfl)) (.v (.leq rfl rfl) (.v (.move rfl) (.or (b2 := decide (hatv x.s S.held ≥ 0)) 16 21 5 5 rfl rfl (fun g1 => .v (.loadA (vs := rscells S (.slice A1 S.bs.length a1) (.slice A2 S.ss.length a2) (.slice Ah S.held.length ah)) rfl .whole rfl) (.v (.fieldAddr rfl) (.v (.load (v := .int .u64 x.s) rfl (.one rfl)) (.pc (v := .int .i64 (hatv x.s S.held)) rfl rfl (fun w s => held_ok w S _ _ Ah ah x.s S.held (OwnS.rd oh s (no := []) (fun y hy => by simp [hy]) (by simp)) (by omega)) (.v (.geq rfl rfl) (.nil ⟨rfl, rfl, rfl, rfl⟩)))))) (.nil ?_))))))))))))
    refine .cond rfl (fun h2 => ?_) (fun h2 => .skip ?_)
    · have h2 : S.has x.s = true ∨ x.s ≤ S.seq := by
        simp only [Bool.and_eq_true, Bool.or_eq_true, Bool.not_eq_true', Bool.and_eq_false_iff, Bool.or_eq_false_iff, Bool.not_eq_false', decide_eq_true_eq, decide_eq_false_iff_not, Bool.false_eq_true, false_iff] at h2
        rcases h2 with h2 | h2
        · exact .inr h2
        · exact .inl (hatv_has.1 h2)
      rw [Sb.take_stale h1 h2]
      refine .seq ((.region (.v (.loadA (vs := rscells S (.slice A1 S.bs.length a1) (.slice A2 S.ss.length a2) (.slice Ah S.held.length ah)) rfl .whole rfl) (.st (.sw rfl rfl) (.v (.assign rfl) (.nil ?_))))))
      exact .ret ⟨[_, _], ⟨⟨_, rfl, .inr ⟨12, _, inferInstance, rfl, rfl, .whole⟩⟩, rfl, trivial⟩, k1 ++ (k2 ++ kh), fun _ s => s.take, ⟨.slice A1 S.bs.length a1, .slice A2 S.ss.length a2, .slice Ah S.held.length ah, k1, k2, kh⟩, rfl, rfl, o1, o2, oh⟩
    · have h2 : ¬ (S.has x.s = true ∨ x.s ≤ S.seq) := by
        simp only [Bool.and_eq_true, Bool.or_eq_true, Bool.not_eq_true', Bool.and_eq_false_iff, Bool.or_eq_false_iff, Bool.not_eq_false', decide_eq_true_eq, decide_eq_false_iff_not, Bool.false_eq_true, false_iff] at h2
        intro hh
        rcases hh with hh | hh
        · exact absurd (hatv_has.2 hh) (by omega)
        · omega
      refine .mid (X := Unit) (fun z => [(2, .pointer (some ⟨b2, 0, none⟩)), (3, .pointer (some ⟨b3, 0, none⟩)), (4, .pointer (some ⟨b4, 0, none⟩))]) (fun z => Rz b4 :: Db b3 x :: Rsb b2 { S with gr := max S.gr x.s } (.slice A1 S.bs.length a1) (.slice A2 S.ss.length a2) (.slice Ah S.held.length ah) :: (k1 ++ (k2 ++ kh))) (fun z => True) (.seq ((.region (.v (.fieldAddr rfl) (.v (.load (v := .int .u64 x.s) rfl (.one rfl)) (.v (.fieldAddr rfl) (.v (.load (v := .int .u64 S.gr) rfl (.one rfl)) (.v (.gtr rfl rfl) (.nil ?_))))))))) ?_
      · refine .cond_dec rfl (fun h3 => ?_) (fun h3 => .skip ?_)
        · refine .region (.v (.fieldAddr rfl) (.v (.load (v := .int .u64 x.s) rfl (.one rfl)) (.v (.fieldAddr rfl) (.st (.storeL rfl rfl rfl) (.nil ?_)))))
          refine ⟨(), trivial, .cons rfl (.cons rfl (.cons rfl (.nil _))), fun _ s => ?_⟩
          have e : max S.gr x.s = x.s := by omega
          rw [e]
          exact s.take
        · refine ⟨(), trivial, .cons rfl (.cons rfl (.cons rfl (.nil _))), fun _ s => ?_⟩
          have e : max S.gr x.s = S.gr := by omega
          rw [e]
          exact s.take
      · rintro _ -
        have hS1 : Sb.Ok { S with gr := max S.gr x.s } := hS.gr_ x.s
        have hw : (IntKind.u64.wrap (S.seq + 1)) = nxs S.seq := u64w _
        refine .seq (.seq ((.region (.v (.fieldAddr rfl) (.v (.load (v := .int .u64 x.s) rfl (.one rfl)) (.v (.fieldAddr rfl) (.v (.fieldAddr rfl) (.v (.load (v := .int .u64 S.seq) rfl (.one rfl)) (.v (.add rfl rfl) (.v (.nei rfl rfl) (.nil ?_)))))))))))
        rw [hw]
        refine .cond_dec rfl (fun h4 => ?_) (fun h4 => .skip ?_)
        · rw [Sb.take_gap h1 h2 h4]
          dsimp only
          generalize hS' : ({ S with gr := max S.gr x.s } : Sb) = S1 at *
          have q1 : S1.bs = S.bs := by rw [← hS']
          have q2 : S1.ss = S.ss := by rw [← hS']
          have q3 : S1.held = S.held := by rw [← hS']
          have q4 : S1.hold = S.hold := by rw [← hS']
          refine .mid (X := Value × Hp) (fun z => [(2, .pointer (some ⟨b2, 0, none⟩)), (4, .pointer (some ⟨b4, 0, none⟩))]) (fun z => Rz b4 :: Rsb b2 S1 (.slice A1 S.bs.length a1) (.slice A2 S.ss.length a2) z.1 :: (k1 ++ (k2 ++ z.2))) (fun z => DOwn z.1 (if (S.held.length : Int) < S.hold then S.held ++ [x] else S.held) z.2) (.seq ((.region (.v (.fieldAddr rfl) (.v (.load (v := .slice Ah S.held.length ah) rfl (.one rfl)) (.v (.len rfl) (.v (.fieldAddr rfl) (.v (.load (v := .int .i64 S1.hold) rfl (.one rfl)) (.v (.lss rfl rfl) (.nil ?_)))))))))) ?_
          · rw [q4]
            refine .cond_dec rfl (fun h5 => ?_) (fun h5 => .skip ?_)
            · rw [if_pos h5]
              have hF : ([Db b3 x, Rsb b2 S1 (.slice A1 S.bs.length a1) (.slice A2 S.ss.length a2) (.slice Ah S.held.length ah)] : Hp) ⊆ Rz b4 :: Db b3 x :: Rsb b2 S1 (.slice A1 S.bs.length a1) (.slice A2 S.ss.length a2) (.slice Ah S.held.length ah) :: (k1 ++ (k2 ++ kh)) := by intro p hp; simp at hp ⊢; rcases hp with rfl | rfl <;> simp
              have fin : ∀ {v : Value} {h' : Hp}, OwnS 24 6 v (0 + S.held.length + 1) ([] ++ drows S.held ++ x.cells) h' → DOwn v (S.held ++ [x]) h' := by
                intro v h' m
                unfold DOwn
                rw [List.length_append, drows_app]
                rw [Nat.zero_add, List.nil_append] at m
                simpa [drows] using m
              have hsrc1 : ∀ hs', kh ⊆ hs' → ∀ w', Sat w (bl (k1 ++ (k2 ++ kh))) hs' w' → Src Try.prog w' 6 (.slice Ah S.held.length ah) S.held.length (drows S.held) := fun hs' hsub w' s => OwnS.src oh s hsub (by omega)
              refine (.drawW 8 [1, 2, 4] [Db b3 x, Rsb b2 S1 (.slice A1 S.bs.length a1) (.slice A2 S.ss.length a2) (.slice Ah S.held.length ah)] hF (by kernel_rfl) (by kernel_rfl) ?_)
              refine .v (fun _ f => .fieldAddr rfl) (.v (fun _ f => .load (v := .slice Ah S.held.length ah) rfl (.one (hb := .sub f) rfl)) (.v (fun _ f => .loadA (vs := x.cells) rfl (.whole (hb := .sub f)) rfl) (.nil ?_)))
              refine .two 0 5 (by kernel_rfl) (.ef rfl (.buildSlice (parts := []) (vs := []) (out := []) rfl (by decide) rfl rfl) (fun _ _ ⟨_, _, e⟩ f => by subst e; exact fun p hp => List.mem_cons_of_mem _ (f hp)) ?_) (.ef rfl (.buildSlice (parts := [(0, .tmp 49)]) (vs := [(0, .agg ⟨x.cells⟩)]) (out := x.cells) rfl (by decide) rfl rfl) (fun _ _ ⟨_, _, e⟩ f => by subst e; exact fun p hp => List.mem_cons_of_mem _ (f hp)) ?_)
              · rintro _ _ ⟨b45, rfl, rfl⟩
                refine .two 3 5 (by kernel_rfl) (.ef rfl (.append (c := 0) (k := S.held.length) (vs := []) (news := drows S.held) (h := [(b45, .cells [] 24)]) (fr := Rz b4 :: Db b3 x :: Rsb b2 S1 (.slice A1 S.bs.length a1) (.slice A2 S.ss.length a2) (.slice Ah S.held.length ah) :: (k1 ++ (k2 ++ kh))) rfl rfl (own_nil b45) (by exact List.Perm.refl _) (fun w' s => hsrc1 _ (fun y hy => by simp [hy]) w' s) (by rw [drows_length]) (drows_ones _) (by omega) (by omega)) (fun _ _ ⟨_, _, e⟩ f => by subst e; exact fun p hp => List.mem_append_right _ (hF hp)) ?_) (.ef rfl (.buildSlice (parts := [(0, .tmp 49)]) (vs := [(0, .agg ⟨x.cells⟩)]) (out := x.cells) rfl (by decide) rfl rfl) (fun _ _ ⟨_, _, e⟩ f => by subst e; exact fun p hp => List.mem_cons_of_mem _ (f hp)) ?_)
                · rintro v' _ ⟨h', m', rfl⟩
                  refine .run [5, 6, 7, 8] (fun p hp => List.mem_append_right _ (hF hp)) (by kernel_rfl) ?_
                  refine .ef (.buildSlice (parts := [(0, .tmp 49)]) (vs := [(0, .agg ⟨x.cells⟩)]) (out := x.cells) rfl (by decide) rfl rfl) (fun _ _ ⟨_, _, e⟩ f => by subst e; exact fun p hp => List.mem_cons_of_mem _ (f hp)) ?_
                  rintro _ _ ⟨b50, rfl, rfl⟩
                  refine .ef (.append (c := 0 + S.held.length) (k := 1) (vs := [] ++ drows S.held) (news := x.cells) (h := h') (fr := (b50, .cells x.cells 24) :: (Rz b4 :: Db b3 x :: Rsb b2 S1 (.slice A1 S.bs.length a1) (.slice A2 S.ss.length a2) (.slice Ah S.held.length ah) :: (k1 ++ (k2 ++ kh)))) rfl rfl m' (by exact List.perm_middle.symm) (fun w' s => Src.of_at s .whole rfl) rfl rfl (by omega) (by omega)) (fun _ _ ⟨_, _, e⟩ f => by subst e; exact fun p hp => List.mem_append_right _ (List.mem_cons_of_mem _ (hF hp))) ?_
                  rintro v'' _ ⟨h'', m'', rfl⟩
                  have hE := fin m''
                  obtain ⟨Ax, ax, rfl⟩ := down_sl hE
                  refine .v (fun _ f => .fieldAddr rfl) (.st (.storeL rfl rfl rfl) (.nil ?_))
                  exact ⟨(.slice Ax (S.held ++ [x]).length ax, h''), hE, .cons rfl (.cons rfl (.nil _)), fun _ s => s.take⟩
                · rintro _ _ ⟨b50, rfl, rfl⟩
                  refine .run [3, 6, 7, 8] (fun p hp => List.mem_cons_of_mem _ (List.mem_cons_of_mem _ (hF hp))) (by kernel_rfl) ?_
                  refine .ef (.append (c := 0) (k := S.held.length) (vs := []) (news := drows S.held) (h := [(b45, .cells [] 24)]) (fr := (b50, .cells x.cells 24) :: (Rz b4 :: Db b3 x :: Rsb b2 S1 (.slice A1 S.bs.length a1) (.slice A2 S.ss.length a2) (.slice Ah S.held.length ah) :: (k1 ++ (k2 ++ kh)))) rfl rfl (own_nil b45) (by exact List.Perm.swap _ _ _) (fun w' s => hsrc1 _ (fun y hy => by simp [hy]) w' s) (by rw [drows_length]) (drows_ones _) (by omega) (by omega)) (fun _ _ ⟨_, _, e⟩ f => by subst e; exact fun p hp => List.mem_append_right _ (List.mem_cons_of_mem _ (hF hp))) ?_
                  rintro v' _ ⟨h', m', rfl⟩
                  refine .ef (.append (c := 0 + S.held.length) (k := 1) (vs := [] ++ drows S.held) (news := x.cells) (h := h') (fr := (b50, .cells x.cells 24) :: (Rz b4 :: Db b3 x :: Rsb b2 S1 (.slice A1 S.bs.length a1) (.slice A2 S.ss.length a2) (.slice Ah S.held.length ah) :: (k1 ++ (k2 ++ kh)))) rfl rfl m' (by exact List.Perm.refl _) (fun w' s => Src.of_at s .whole rfl) rfl rfl (by omega) (by omega)) (fun _ _ ⟨_, _, e⟩ f => by subst e; exact fun p hp => List.mem_append_right _ (List.mem_cons_of_mem _ (hF hp))) ?_
                  rintro v'' _ ⟨h'', m'', rfl⟩
                  have hE := fin m''
                  obtain ⟨Ax, ax, rfl⟩ := down_sl hE
                  refine .v (fun _ f => .fieldAddr rfl) (.st (.storeL rfl rfl rfl) (.nil ?_))
                  exact ⟨(.slice Ax (S.held ++ [x]).length ax, h''), hE, .cons rfl (.cons rfl (.nil _)), fun _ s => s.take⟩
              · rintro _ _ ⟨b50, rfl, rfl⟩
                refine .run [0, 3, 6, 7, 8] (fun p hp => List.mem_cons_of_mem _ (hF hp)) (by kernel_rfl) ?_
                refine .ef (.buildSlice (parts := []) (vs := []) (out := []) rfl (by decide) rfl rfl) (fun _ _ ⟨_, _, e⟩ f => by subst e; exact fun p hp => List.mem_cons_of_mem _ (f hp)) ?_
                rintro _ _ ⟨b45, rfl, rfl⟩
                refine .ef (.append (c := 0) (k := S.held.length) (vs := []) (news := drows S.held) (h := [(b45, .cells [] 24)]) (fr := (b50, .cells x.cells 24) :: (Rz b4 :: Db b3 x :: Rsb b2 S1 (.slice A1 S.bs.length a1) (.slice A2 S.ss.length a2) (.slice Ah S.held.length ah) :: (k1 ++ (k2 ++ kh)))) rfl rfl (own_nil b45) (by exact List.Perm.refl _) (fun w' s => hsrc1 _ (fun y hy => by simp [hy]) w' s) (by rw [drows_length]) (drows_ones _) (by omega) (by omega)) (fun _ _ ⟨_, _, e⟩ f => by subst e; exact fun p hp => List.mem_append_right _ (List.mem_cons_of_mem _ (hF hp))) ?_
                rintro v' _ ⟨h', m', rfl⟩
                refine .ef (.append (c := 0 + S.held.length) (k := 1) (vs := [] ++ drows S.held) (news := x.cells) (h := h') (fr := (b50, .cells x.cells 24) :: (Rz b4 :: Db b3 x :: Rsb b2 S1 (.slice A1 S.bs.length a1) (.slice A2 S.ss.length a2) (.slice Ah S.held.length ah) :: (k1 ++ (k2 ++ kh)))) rfl rfl m' (by exact List.Perm.refl _) (fun w' s => Src.of_at s .whole rfl) rfl rfl (by omega) (by omega)) (fun _ _ ⟨_, _, e⟩ f => by subst e; exact fun p hp => List.mem_append_right _ (List.mem_cons_of_mem _ (hF hp))) ?_
                rintro v'' _ ⟨h'', m'', rfl⟩
                have hE := fin m''
                obtain ⟨Ax, ax, rfl⟩ := down_sl hE
                refine .v (fun _ f => .fieldAddr rfl) (.st (.storeL rfl rfl rfl) (.nil ?_))
                exact ⟨(.slice Ax (S.held ++ [x]).length ax, h''), hE, .cons rfl (.cons rfl (.nil _)), fun _ s => s.take⟩
            · rw [if_neg h5]
              exact ⟨(.slice Ah S.held.length ah, kh), oh, .cons rfl (.cons rfl (.nil _)), fun _ s => s.take⟩
          · rintro ⟨vx, kx⟩ ox
            dsimp only at ox ⊢
            have hox : DOwn vx (if (S.held.length : Int) < S.hold then S.held ++ [x] else S.held) kx := ox
            obtain ⟨Ax, ax, rfl⟩ := down_sl ox
            refine .seq ((.region (.v (.loadA (vs := rscells S1 (.slice A1 S.bs.length a1) (.slice A2 S.ss.length a2) (.slice Ax _ ax)) rfl .whole rfl) (.st (.sw rfl rfl) (.v (.assign rfl) (.nil ?_))))))
            refine .ret ⟨[_, _], ⟨⟨_, rfl, .inr ⟨12, _, inferInstance, rfl, rfl, .whole⟩⟩, rfl, trivial⟩, k1 ++ (k2 ++ kx), fun _ s => s.take, ⟨.slice A1 S.bs.length a1, .slice A2 S.ss.length a2, .slice Ax (if (S.held.length : Int) < S.hold then S.held ++ [x] else S.held).length ax, k1, k2, kx⟩, ?_, rfl, ?_⟩
            · subst hS'; split <;> rfl
            · subst hS'; split
              · rename_i hh; simp only [if_pos hh] at ox; exact ⟨o1, o2, by simp only [if_pos hh]; exact ox⟩
              · rename_i hh; simp only [if_neg hh] at ox; exact ⟨o1, o2, by simp only [if_neg hh]; exact ox⟩
        · have h4 : x.s = nxs S.seq := by simpa using h4
          rw [Sb.take_ok h1 h2 h4]
          dsimp only
          have hz1 := Sb.app_size { S with gr := max S.gr x.s } x
          have hz0 : Sb.size { S with gr := max S.gr x.s } = S.size := rfl
          have hka := hS1.app h1 hxs
          refine .seq ((.region (.v (.loadA (vs := rscells { S with gr := max S.gr x.s } (.slice A1 S.bs.length a1) (.slice A2 S.ss.length a2) (.slice Ah S.held.length ah)) rfl .whole rfl) (.v (.loadA (vs := x.cells) rfl .whole rfl) ?_))))
          refine .ef (.callT (k1 ++ k2) rfl rfl fun w s => refdoes_ok w { S with gr := max S.gr x.s } x h1 _ _ Ah _ ah k1 k2 o1 o2 hS1 (by omega)) ?_
          rintro _ _ ⟨_, ⟨u1, u2, j1, j2, rfl, rfl, p1, p2⟩, rfl⟩
          have eh : (({ S with gr := max S.gr x.s } : Sb).app x).held = S.held := Sb.app_held _ x
          generalize (({ S with gr := max S.gr x.s } : Sb).app x) = S2 at *
          refine .ef (.callT (j1 ++ (j2 ++ kh)) rfl rfl fun w s => refgoes_ok w S2 hka ⟨u1, u2, .slice Ah S.held.length ah, j1, j2, kh⟩ ⟨p1, p2, by rw [eh]; exact oh⟩ (by omega)) ?_
          rintro _ _ ⟨_, ⟨⟨y1, y2, yh, m1, m2, mh⟩, rfl, rfl, z1, z2, zh⟩, rfl⟩
          dsimp only at z1 z2 zh ⊢
          obtain ⟨E1, e1, rfl⟩ := lown_sl z1
          obtain ⟨E2, e2, rfl⟩ := lown_sl z2
          obtain ⟨Eh, eh_, rfl⟩ := down_sl zh
          refine .st (.sw rfl rfl) (.v (.assign rfl) (.nil ?_))
          exact .ret ⟨[_, _], ⟨⟨_, rfl, .inr ⟨12, _, inferInstance, rfl, rfl, .whole⟩⟩, rfl, trivial⟩, m1 ++ (m2 ++ mh), fun _ s => s.take, ⟨_, _, _, m1, m2, mh⟩, rfl, rfl, z1, z2, zh⟩
end Go.Proofs.Ytinmhhonpflojaa

/- The document's subscriber: Recover, Last, Missing. (the drawn region printed by wip/gen/gen_rsub4.py) -/
namespace Go.Proofs.Ytinmhhonpflojaa
open Go.V
set_option linter.unusedVariables false
set_option linter.unusedSimpArgs false

theorem filter_take {S : Sb} {seq : Int} {i : Nat} (hi : i < S.held.length) : (S.held.take (i + 1)).filter (fun x => decide (seq < x.s)) = (S.held.take i).filter (fun x => decide (seq < x.s)) ++ if seq < S.held[i].s then [S.held[i]] else [] := by
  rw [List.take_succ_eq_append_getElem hi, List.filter_append]
  by_cases h : seq < S.held[i].s <;> simp [h]
set_option maxRecDepth 20000 in
set_option maxHeartbeats 2000000 in
theorem refrecover_ok (w : World) (S : Sb) (hS : S.Ok) (r : RX) (h : RI S r) (hz : S.size ≤ 2900000) (seq : Int) (hq : 0 ≤ seq ∧ seq < 18446744073709551616) (bs ss : List Lv) (B1 B2 : Option Addr) (d1 d2 : Nat) (r1 : Rd w (bl r.all) B1 (lrows bs)) (r2 : Rd w (bl r.all) B2 (lrows ss)) (hb : bs.length + ss.length ≤ 1100000) :
    Does Try.prog 49 [.agg ⟨rscells S r.v1 r.v2 r.vh⟩, .agg ⟨pcells seq (.slice B1 bs.length d1) (.slice B2 ss.length d2)⟩] r.all w (fun v hs => Take_post (S.rec_ seq bs ss).1 v hs (S.rec_ seq bs ss).2) := by
  obtain ⟨v1, v2, vh, k1, k2, kh⟩ := r
  obtain ⟨o1, o2, oh⟩ := h
  dsimp only at o1 o2 oh r1 r2 ⊢
  obtain ⟨A1, a1, rfl⟩ := lown_sl o1
  obtain ⟨A2, a2, rfl⟩ := lown_sl o2
  obtain ⟨Ah, ah, rfl⟩ := down_sl oh
  have hlen := hS.len.1
  refine Does.less (Does.of (n := 59) Try.func49 rfl rfl rfl rfl ?_)
  refine .seq ((.region (.nw (.box (l := rscells S (.slice A1 S.bs.length a1) (.slice A2 S.ss.length a2) (.slice Ah S.held.length ah)) rfl rfl) fun b2 => (.nw (.box (l := pcells seq (.slice B1 bs.length d1) (.slice B2 ss.length d2)) rfl rfl) fun b3 => (.nw .alloc fun b4 => (.v (.assign rfl) (.nil ?_)))))))
  refine .seq (.seq ((.region (.v (.loadA (vs := pcells seq (.slice B1 bs.length d1) (.slice B2 ss.length d2)) rfl .whole rfl) (.pc (v := .bool (decide (Fit 1 bs) && decide (Fit 2 ss))) rfl rfl (fun w s => refCan_ok w seq bs ss B1 B2 d1 d2 (r1.keep0 s) (r2.keep0 s) hb) (.v (.not rfl) (.nil ?_)))))))
  refine .cond rfl (fun h1 => ?_) (fun h1 => .skip ?_)
  · have h1 : ¬ (Fit 1 bs ∧ Fit 2 ss) := fun hh => by simp [hh.1, hh.2] at h1
    rw [Sb.rec_arg h1]
    refine .seq ((.region (.v (.loadA (vs := rscells S (.slice A1 S.bs.length a1) (.slice A2 S.ss.length a2) (.slice Ah S.held.length ah)) rfl .whole rfl) (.st (.sw rfl rfl) (.v (.assign rfl) (.nil ?_))))))
    exact .ret ⟨[_, _], ⟨⟨_, rfl, .inr ⟨12, _, inferInstance, rfl, rfl, .whole⟩⟩, rfl, trivial⟩, k1 ++ (k2 ++ kh), fun _ s => s.take, ⟨.slice A1 S.bs.length a1, .slice A2 S.ss.length a2, .slice Ah S.held.length ah, k1, k2, kh⟩, rfl, rfl, o1, o2, oh⟩
  · have h1 : Fit 1 bs ∧ Fit 2 ss := by simpa using h1
    refine .seq (.seq ((.region (.v (.fieldAddr rfl) (.v (.load (v := .int .u64 seq) rfl (.one rfl)) (.v (.fieldAddr rfl) (.v (.fieldAddr rfl) (.v (.load (v := .int .u64 S.seq) rfl (.one rfl)) (.v (.lss rfl rfl) (.nil ?_))))))))))
    refine .cond_dec rfl (fun h2 => ?_) (fun h2 => .skip ?_)
    · rw [Sb.rec_stale h1 h2]
      refine .seq ((.region (.v (.loadA (vs := rscells S (.slice A1 S.bs.length a1) (.slice A2 S.ss.length a2) (.slice Ah S.held.length ah)) rfl .whole rfl) (.st (.sw rfl rfl) (.v (.assign rfl) (.nil ?_))))))
      exact .ret ⟨[_, _], ⟨⟨_, rfl, .inr ⟨12, _, inferInstance, rfl, rfl, .whole⟩⟩, rfl, trivial⟩, k1 ++ (k2 ++ kh), fun _ s => s.take, ⟨.slice A1 S.bs.length a1, .slice A2 S.ss.length a2, .slice Ah S.held.length ah, k1, k2, kh⟩, rfl, rfl, o1, o2, oh⟩
    rw [Sb.rec_ok h1 h2]
    dsimp only
    have hF : ([Pcb b3 seq (.slice B1 bs.length d1) (.slice B2 ss.length d2), Rsb b2 S (.slice A1 S.bs.length a1) (.slice A2 S.ss.length a2) (.slice Ah S.held.length ah)] : Hp) ⊆ Rz b4 :: Pcb b3 seq (.slice B1 bs.length d1) (.slice B2 ss.length d2) :: Rsb b2 S (.slice A1 S.bs.length a1) (.slice A2 S.ss.length a2) (.slice Ah S.held.length ah) :: (k1 ++ (k2 ++ kh)) := by intro p hp; simp at hp ⊢; rcases hp with rfl | rfl <;> simp
    refine .mid (X := DnX) (fun z => [(2, .pointer (some ⟨b2, 0, none⟩)), (3, .pointer (some ⟨b3, 0, none⟩)), (4, .pointer (some ⟨b4, 0, none⟩))]) (fun z => Rz b4 :: Pcb b3 seq (.slice B1 bs.length d1) (.slice B2 ss.length d2) :: Rsb b2 { S with seq := seq, bs := bs, ss := ss } z.v1 z.v2 (.slice Ah S.held.length ah) :: (z.k1 ++ (z.k2 ++ kh))) (fun z => LOwn z.v1 bs z.k1 ∧ LOwn z.v2 ss z.k2) ?_ ?_
    · skip
      refine (.drawW 12 [0, 1, 3, 4, 7, 8] [Pcb b3 seq (.slice B1 bs.length d1) (.slice B2 ss.length d2), Rsb b2 S (.slice A1 S.bs.length a1) (.slice A2 S.ss.length a2) (.slice Ah S.held.length ah)] hF (by kernel_rfl) (by kernel_rfl) ?_)
      refine .v (fun _ f => .fieldAddr rfl) (.v (fun _ f => .load (v := .int .u64 seq) rfl (.one (hb := .sub f) rfl)) (.v (fun _ f => .fieldAddr rfl) (.v (fun _ f => .load (v := .slice B1 bs.length d1) rfl (.one (hb := .sub f) rfl)) (.v (fun _ f => .fieldAddr rfl) (.v (fun _ f => .load (v := .slice B2 ss.length d2) rfl (.one (hb := .sub f) rfl)) (.nil ?_))))))
      refine .two 2 6 (by kernel_rfl) (.ef rfl (.buildSlice (parts := []) (vs := []) (out := []) rfl (by decide) rfl rfl) (fun _ _ ⟨_, _, e⟩ f => by subst e; exact fun p hp => List.mem_cons_of_mem _ (f hp)) ?_) (.ef rfl (.buildSlice (parts := []) (vs := []) (out := []) rfl (by decide) rfl rfl) (fun _ _ ⟨_, _, e⟩ f => by subst e; exact fun p hp => List.mem_cons_of_mem _ (f hp)) ?_)
      · rintro _ _ ⟨b21, rfl, rfl⟩
        refine .two 5 6 (by kernel_rfl) (.ef rfl (.append (c := 0) (k := bs.length) (vs := []) (news := lrows bs) (h := [(b21, .cells [] 109)]) (fr := Rz b4 :: Pcb b3 seq (.slice B1 bs.length d1) (.slice B2 ss.length d2) :: Rsb b2 S (.slice A1 S.bs.length a1) (.slice A2 S.ss.length a2) (.slice Ah S.held.length ah) :: (k1 ++ (k2 ++ kh))) rfl rfl (lown_nil b21) (by exact List.Perm.refl _) (fun w' s => Rd.src (r1.keep0 s) (by rw [lrows_length]) (by omega)) (by rw [lrows_length]) (lrows_ones _) (by omega) (by omega)) (fun _ _ ⟨_, _, e⟩ f => by subst e; exact fun p hp => List.mem_append_right _ (hF hp)) ?_) (.ef rfl (.buildSlice (parts := []) (vs := []) (out := []) rfl (by decide) rfl rfl) (fun _ _ ⟨_, _, e⟩ f => by subst e; exact fun p hp => List.mem_cons_of_mem _ (f hp)) ?_)
        · rintro v1' _ ⟨j1, m1, rfl⟩
          refine .run [6, 9, 10, 11, 12] (fun p hp => List.mem_append_right _ (hF hp)) (by kernel_rfl) ?_
          refine .ef (.buildSlice (parts := []) (vs := []) (out := []) rfl (by decide) rfl rfl) (fun _ _ ⟨_, _, e⟩ f => by subst e; exact fun p hp => List.mem_cons_of_mem _ (f hp)) ?_
          rintro _ _ ⟨b25, rfl, rfl⟩
          refine .ef (.append (c := 0) (k := ss.length) (vs := []) (news := lrows ss) (h := [(b25, .cells [] 109)]) (fr := j1 ++ (Rz b4 :: Pcb b3 seq (.slice B1 bs.length d1) (.slice B2 ss.length d2) :: Rsb b2 S (.slice A1 S.bs.length a1) (.slice A2 S.ss.length a2) (.slice Ah S.held.length ah) :: (k1 ++ (k2 ++ kh)))) rfl rfl (lown_nil b25) (by exact List.Perm.refl _) (fun w' s => Rd.src (r2.keep0 s) (by rw [lrows_length]) (by omega)) (by rw [lrows_length]) (lrows_ones _) (by omega) (by omega)) (fun _ _ ⟨_, _, e⟩ f => by subst e; exact fun p hp => List.mem_append_right _ (List.mem_append_right _ (hF hp))) ?_
          rintro v2' _ ⟨j2, m2, rfl⟩
          rw [Nat.zero_add, List.nil_append] at m1 m2
          obtain ⟨E1, e1, rfl⟩ := OwnS.slice m1
          obtain ⟨E2, e2, rfl⟩ := OwnS.slice m2
          refine .v (fun _ f => .build (out := pcells seq (.slice E1 bs.length e1) (.slice E2 ss.length e2)) rfl rfl) (.v (fun _ f => .fieldAddr rfl) (.st (.storeR (rscells { S with seq := seq, bs := bs, ss := ss } (.slice E1 bs.length e1) (.slice E2 ss.length e2) (.slice Ah S.held.length ah)) rfl rfl) (.nil ?_)))
          exact ⟨⟨.slice E1 bs.length e1, .slice E2 ss.length e2, j1, j2⟩, ⟨m1, m2⟩, .cons rfl (.cons rfl (.cons rfl (.nil _))), fun _ s => s.take⟩
        · rintro _ _ ⟨b25, rfl, rfl⟩
          refine .run [5, 9, 10, 11, 12] (fun p hp => List.mem_cons_of_mem _ (List.mem_cons_of_mem _ (hF hp))) (by kernel_rfl) ?_
          refine .ef (.append (c := 0) (k := bs.length) (vs := []) (news := lrows bs) (h := [(b21, .cells [] 109)]) (fr := (b25, .cells [] 109) :: (Rz b4 :: Pcb b3 seq (.slice B1 bs.length d1) (.slice B2 ss.length d2) :: Rsb b2 S (.slice A1 S.bs.length a1) (.slice A2 S.ss.length a2) (.slice Ah S.held.length ah) :: (k1 ++ (k2 ++ kh)))) rfl rfl (lown_nil b21) (by exact List.Perm.swap _ _ _) (fun w' s => Rd.src (r1.keep0 s) (by rw [lrows_length]) (by omega)) (by rw [lrows_length]) (lrows_ones _) (by omega) (by omega)) (fun _ _ ⟨_, _, e⟩ f => by subst e; exact fun p hp => List.mem_append_right _ (List.mem_cons_of_mem _ (hF hp))) ?_
          rintro v1' _ ⟨j1, m1, rfl⟩
          refine .ef (.append (c := 0) (k := ss.length) (vs := []) (news := lrows ss) (h := [(b25, .cells [] 109)]) (fr := j1 ++ (Rz b4 :: Pcb b3 seq (.slice B1 bs.length d1) (.slice B2 ss.length d2) :: Rsb b2 S (.slice A1 S.bs.length a1) (.slice A2 S.ss.length a2) (.slice Ah S.held.length ah) :: (k1 ++ (k2 ++ kh)))) rfl rfl (lown_nil b25) (by exact List.perm_middle) (fun w' s => Rd.src (r2.keep0 s) (by rw [lrows_length]) (by omega)) (by rw [lrows_length]) (lrows_ones _) (by omega) (by omega)) (fun _ _ ⟨_, _, e⟩ f => by subst e; exact fun p hp => List.mem_append_right _ (List.mem_append_right _ (hF hp))) ?_
          rintro v2' _ ⟨j2, m2, rfl⟩
          rw [Nat.zero_add, List.nil_append] at m1 m2
          obtain ⟨E1, e1, rfl⟩ := OwnS.slice m1
          obtain ⟨E2, e2, rfl⟩ := OwnS.slice m2
          refine .v (fun _ f => .build (out := pcells seq (.slice E1 bs.length e1) (.slice E2 ss.length e2)) rfl rfl) (.v (fun _ f => .fieldAddr rfl) (.st (.storeR (rscells { S with seq := seq, bs := bs, ss := ss } (.slice E1 bs.length e1) (.slice E2 ss.length e2) (.slice Ah S.held.length ah)) rfl rfl) (.nil ?_)))
          exact ⟨⟨.slice E1 bs.length e1, .slice E2 ss.length e2, j1, j2⟩, ⟨m1, m2⟩, .cons rfl (.cons rfl (.cons rfl (.nil _))), fun _ s => s.take⟩
      · rintro _ _ ⟨b25, rfl, rfl⟩
        refine .run [2, 5, 9, 10, 11, 12] (fun p hp => List.mem_cons_of_mem _ (hF hp)) (by kernel_rfl) ?_
        refine .ef (.buildSlice (parts := []) (vs := []) (out := []) rfl (by decide) rfl rfl) (fun _ _ ⟨_, _, e⟩ f => by subst e; exact fun p hp => List.mem_cons_of_mem _ (f hp)) ?_
        rintro _ _ ⟨b21, rfl, rfl⟩
        refine .ef (.append (c := 0) (k := bs.length) (vs := []) (news := lrows bs) (h := [(b21, .cells [] 109)]) (fr := (b25, .cells [] 109) :: (Rz b4 :: Pcb b3 seq (.slice B1 bs.length d1) (.slice B2 ss.length d2) :: Rsb b2 S (.slice A1 S.bs.length a1) (.slice A2 S.ss.length a2) (.slice Ah S.held.length ah) :: (k1 ++ (k2 ++ kh)))) rfl rfl (lown_nil b21) (by exact List.Perm.refl _) (fun w' s => Rd.src (r1.keep0 s) (by rw [lrows_length]) (by omega)) (by rw [lrows_length]) (lrows_ones _) (by omega) (by omega)) (fun _ _ ⟨_, _, e⟩ f => by subst e; exact fun p hp => List.mem_append_right _ (List.mem_cons_of_mem _ (hF hp))) ?_
        rintro v1' _ ⟨j1, m1, rfl⟩
        refine .ef (.append (c := 0) (k := ss.length) (vs := []) (news := lrows ss) (h := [(b25, .cells [] 109)]) (fr := j1 ++ (Rz b4 :: Pcb b3 seq (.slice B1 bs.length d1) (.slice B2 ss.length d2) :: Rsb b2 S (.slice A1 S.bs.length a1) (.slice A2 S.ss.length a2) (.slice Ah S.held.length ah) :: (k1 ++ (k2 ++ kh)))) rfl rfl (lown_nil b25) (by exact List.perm_middle) (fun w' s => Rd.src (r2.keep0 s) (by rw [lrows_length]) (by omega)) (by rw [lrows_length]) (lrows_ones _) (by omega) (by omega)) (fun _ _ ⟨_, _, e⟩ f => by subst e; exact fun p hp => List.mem_append_right _ (List.mem_append_right _ (hF hp))) ?_
        rintro v2' _ ⟨j2, m2, rfl⟩
        rw [Nat.zero_add, List.nil_append] at m1 m2
        obtain ⟨E1, e1, rfl⟩ := OwnS.slice m1
        obtain ⟨E2, e2, rfl⟩ := OwnS.slice m2
        refine .v (fun _ f => .build (out := pcells seq (.slice E1 bs.length e1) (.slice E2 ss.length e2)) rfl rfl) (.v (fun _ f => .fieldAddr rfl) (.st (.storeR (rscells { S with seq := seq, bs := bs, ss := ss } (.slice E1 bs.length e1) (.slice E2 ss.length e2) (.slice Ah S.held.length ah)) rfl rfl) (.nil ?_)))
        exact ⟨⟨.slice E1 bs.length e1, .slice E2 ss.length e2, j1, j2⟩, ⟨m1, m2⟩, .cons rfl (.cons rfl (.cons rfl (.nil _))), fun _ s => s.take⟩
    rintro ⟨u1, u2, j1, j2⟩ ⟨p1, p2⟩
    dsimp only at p1 p2 ⊢
    obtain ⟨E1, e1, rfl⟩ := lown_sl p1
    obtain ⟨E2, e2, rfl⟩ := lown_sl p2
    generalize hS1 : ({ S with seq := seq, bs := bs, ss := ss } : Sb) = S1
    have q1 : S1.bs = bs := by rw [← hS1]
    have q2 : S1.ss = ss := by rw [← hS1]
    have q3 : S1.held = S.held := by rw [← hS1]
    refine .seq ((.region (.v (.assign rfl) (.nil ?_))))
    refine .seq (.seq ((.region (.v (.assign rfl) (.nil ?_)))))
    refine .block (.loop (X := Nat × Value × Hp) (fun z => [(2, .pointer (some ⟨b2, 0, none⟩)), (3, .pointer (some ⟨b3, 0, none⟩)), (4, .pointer (some ⟨b4, 0, none⟩)), (6, z.2.1), (7, .int .i64 z.1)]) (fun z => Rz b4 :: Pcb b3 seq (.slice B1 bs.length d1) (.slice B2 ss.length d2) :: Rsb b2 S1 (.slice E1 bs.length e1) (.slice E2 ss.length e2) (.slice Ah S.held.length ah) :: (j1 ++ (j2 ++ (kh ++ z.2.2)))) (fun z => z.1 ≤ S.held.length ∧ DOwn z.2.1 ((S.held.take z.1).filter fun x => decide (seq < x.s)) z.2.2) (fun z => S.held.length - z.1) ⟨0, .slice none 0 0, []⟩ ⟨by simp, OwnS.nil _ _⟩ (.cons rfl (.cons rfl (.cons rfl (.cons rfl (.cons rfl (.nil _)))))) (fun _ s => s.take) ?_)
    rintro ⟨i, v, h⟩ ⟨hi, ho⟩
    dsimp only at hi ho ⊢
    have hfl := List.length_filter_le (fun x : Dt => decide (seq < x.s)) (S.held.take i)
    rw [List.length_take] at hfl
    refine .seq (.seq ((.region (.v (.move rfl) (.v (.fieldAddr rfl) (.v (.load (v := .slice Ah S.held.length ah) rfl (.one rfl)) (.v (.len rfl) (.v (.lss rfl rfl) (.nil ?_)))))))))
    refine .cond_dec rfl (fun h3 => .skip ?_) (fun h3 => .exit ?_)
    · have hil : i < S.held.length := by omega
      have hft := filter_take (seq := seq) hil
      obtain ⟨bq, oq, lq, rfl, -, rfl, -, -, -⟩ := oh.some_ (by omega)
      have hrec : ∀ hs', [(bq, Ch.cells lq 24)] ⊆ hs' → At w (bl (k1 ++ (k2 ++ [(bq, Ch.cells lq 24)]))) hs' ⟨bq, oq + ((i : Nat) : Int).toNat * 6, none⟩ S.held[i].cells := fun hs' hsub => recAt Dt.cells 6 (fun _ => rfl) (z := (i : Int)) (OwnS.at0 oh hsub) hil
      have hsq : ∀ hs', [(bq, Ch.cells lq 24)] ⊆ hs' → At w (bl (k1 ++ (k2 ++ [(bq, Ch.cells lq 24)]))) hs' ⟨bq, oq + ((i : Nat) : Int).toNat * 6 + 0, none⟩ [.int .u64 S.held[i].s] := fun hs' hsub => fldAt Dt.cells 6 (fun _ => rfl) (z := (i : Int)) (OwnS.at0 oh hsub) hil 0 rfl
      generalize S.held[i] = u at *
      refine .mid (X := Value × Hp) (fun z => [(2, .pointer (some ⟨b2, 0, none⟩)), (3, .pointer (some ⟨b3, 0, none⟩)), (4, .pointer (some ⟨b4, 0, none⟩)), (6, z.1), (7, .int .i64 i)]) (fun z => Rz b4 :: Pcb b3 seq (.slice B1 bs.length d1) (.slice B2 ss.length d2) :: Rsb b2 S1 (.slice E1 bs.length e1) (.slice E2 ss.length e2) (.slice (some ⟨bq, oq, none⟩) S.held.length ah) :: (j1 ++ (j2 ++ ([(bq, Ch.cells lq 24)] ++ z.2)))) (fun z => DOwn z.1 ((S.held.take (i + 1)).filter fun x => decide (seq < x.s)) z.2) (.block (.seq ((.drawK [Pcb b3 seq (.slice B1 bs.length d1) (.slice B2 ss.length d2), Rsb b2 S1 (.slice E1 bs.length e1) (.slice E2 ss.length e2) (.slice (some ⟨bq, oq, none⟩) S.held.length ah), (bq, Ch.cells lq 24)] (by intro p hp; simp at hp ⊢; rcases hp with rfl | rfl | rfl <;> simp) (by kernel_rfl) (by kernel_rfl) ?_)))) ?_
      · refine .v (fun _ f => .fieldAddr rfl) (.v (fun _ f => .load (v := .slice (some ⟨bq, oq, none⟩) S.held.length ah) rfl (.one (hb := .sub f) rfl)) (.v (fun _ f => .move rfl) (.v (fun _ f => .indexAddr rfl rfl (by omega) (by omega)) (.v (fun _ f => .fieldAddr rfl) (.v (fun hs' f => .load (v := .int .u64 u.s) rfl (hsq hs' (fun p hp => f (by simp at hp; subst hp; simp)))) (.v (fun _ f => .fieldAddr rfl) (.v (fun _ f => .load (v := .int .u64 seq) rfl (.one (hb := .sub f) rfl)) (.v (fun _ f => .gtr rfl rfl) (.nil ?_)))))))))
        refine .cond_dec rfl (fun h4 => ?_) (fun h4 => .skip ?_)
        · have h4 : seq < u.s := by omega
          rw [if_pos h4] at hft
          refine .region (.v (.move rfl) (.v (.fieldAddr rfl) (.v (.load (v := .slice (some ⟨bq, oq, none⟩) S.held.length ah) rfl (.one rfl)) (.v (.move rfl) (.v (.indexAddr rfl rfl (by omega) (by omega)) (.v (.loadA (vs := u.cells) rfl (hrec _ (fun p hp => by simp at hp; subst hp; simp)) rfl) (.push (vs := drows ((S.held.take i).filter fun x => decide (seq < x.s))) (c := ((S.held.take i).filter fun x => decide (seq < x.s)).length) (oc := u.cells) rfl rfl ho rfl rfl rfl (by omega) (by omega) ?_)))))))
          intro b9 v' h' k'
          refine .v (.assign rfl) (.nil ?_)
          refine ⟨(v', h'), ?_, .cons rfl (.cons rfl (.cons rfl (.cons rfl (.cons rfl (.nil _))))), fun _ s => s.take⟩
          rw [hft]
          unfold DOwn
          rw [List.length_append, drows_app]
          have k2 : OwnS 24 6 v' (((S.held.take i).filter fun x => decide (seq < x.s)).length + 1) (drows ((S.held.take i).filter fun x => decide (seq < x.s)) ++ u.cells) h' := k'
          simpa [drows] using k2
        · have h4 : ¬ seq < u.s := by omega
          rw [if_neg h4, List.append_nil] at hft
          refine ⟨(v, h), ?_, .cons rfl (.cons rfl (.cons rfl (.cons rfl (.cons rfl (.nil _))))), fun _ s => s.take⟩
          rw [hft]; exact ho
      · rintro ⟨v', h'⟩ ho'
        dsimp only at ho' ⊢
        refine .region (.v (.move rfl) (.v (.addi rfl rfl (by omega)) (.v (.assign rfl) (.nil ?_))))
        exact ⟨⟨i + 1, v', h'⟩, ⟨by show i + 1 ≤ _; omega, ho'⟩, by show S.held.length - (i + 1) < _; omega, .cons rfl (.cons rfl (.cons rfl (.cons rfl (.cons rfl (.nil _))))), fun _ s => s⟩
    · rw [List.take_of_length_le (by omega)] at ho hfl
      have hlf : (S.held.filter fun x => decide (seq < x.s)).length ≤ S.held.length := List.length_filter_le _ _
      obtain ⟨Ax, ax, rfl⟩ := down_sl ho
      refine .seq ((.region (.v (.move rfl) (.v (.fieldAddr rfl) (.st (.storeL rfl rfl rfl) (.nil ?_))))))
      have hS2 : Sb.Ok { S with seq := seq, bs := bs, ss := ss, held := S.held.filter fun x => decide (seq < x.s) } := ⟨hq, h1.1.wrs, h1.2.wrs, fun x hx => hS.can x ((List.mem_filter.1 hx).1), hS.nd.sublist ((List.filter_sublist).map _), fun x hx => hS.gr x ((List.mem_filter.1 hx).1), by
        have := hS.len
        show (S.held.filter _).length ≤ 1024 ∧ ((S.held.filter _).length : Int) ≤ max S.hold 0
        omega⟩
      generalize hS2e : ({ S with seq := seq, bs := bs, ss := ss, held := S.held.filter fun x => decide (seq < x.s) } : Sb) = S2 at hS2 ⊢
      have c1 : S1.hold = S2.hold := by rw [← hS1, ← hS2e]
      have c2 : S1.seq = S2.seq := by rw [← hS1, ← hS2e]
      have c3 : S1.gr = S2.gr := by rw [← hS1, ← hS2e]
      have c4 : S1.last = S2.last := by rw [← hS1, ← hS2e]
      have c5 : S2.bs = bs := by rw [← hS2e]
      have c6 : S2.ss = ss := by rw [← hS2e]
      have c7 : S2.held = S.held.filter fun x => decide (seq < x.s) := by rw [← hS2e]
      rw [c1, c2, c3, c4]
      clear hS2e hS1 q1 q2 q3 c1 c2 c3 c4
      generalize (S.held.filter fun x : Dt => decide (seq < x.s)) = fl at ho c7 hlf ⊢
      refine .seq ((.region (.v (.loadA (vs := rscells S2 (.slice E1 bs.length e1) (.slice E2 ss.length e2) (.slice Ax fl.length ax)) rfl .whole rfl) ?_)))
      refine .ef (.callT (j1 ++ (j2 ++ h)) rfl rfl fun w s => refgoes_ok w S2 hS2 ⟨.slice E1 bs.length e1, .slice E2 ss.length e2, .slice Ax fl.length ax, j1, j2, h⟩ ⟨by rw [c5]; exact p1, by rw [c6]; exact p2, by rw [c7]; exact ho⟩ (by unfold Sb.size; rw [c5, c6, c7]; omega)) ?_
      rintro _ _ ⟨_, ⟨⟨y1, y2, yh, m1, m2, mh⟩, rfl, rfl, z1, z2, zh⟩, rfl⟩
      dsimp only at z1 z2 zh ⊢
      obtain ⟨G1, g1, rfl⟩ := lown_sl z1
      obtain ⟨G2, g2, rfl⟩ := lown_sl z2
      obtain ⟨Gh, gh_, rfl⟩ := down_sl zh
      refine .st (.sw rfl rfl) (.v (.assign rfl) (.nil ?_))
      exact .ret ⟨[_, _], ⟨⟨_, rfl, .inr ⟨12, _, inferInstance, rfl, rfl, .whole⟩⟩, rfl, trivial⟩, m1 ++ (m2 ++ mh), fun _ s => s.take, ⟨_, _, _, m1, m2, mh⟩, rfl, rfl, z1, z2, zh⟩
end Go.Proofs.Ytinmhhonpflojaa

/- The document's subscriber: Last, Missing. -/
namespace Go.Proofs.Ytinmhhonpflojaa
open Go.V
set_option linter.unusedVariables false
set_option linter.unusedSimpArgs false

set_option maxRecDepth 20000 in
theorem refLast_ok (w : World) (S : Sb) (A1 A2 Ah : Option Addr) (n1 n2 nh a1 a2 ah : Nat) : Is Try.prog 53 [.agg ⟨rscells S (.slice A1 n1 a1) (.slice A2 n2 a2) (.slice Ah nh ah)⟩] w (.tuple ⟨[.agg ⟨S.last.cells⟩, .bool (decide (S.last.k = 2))]⟩) := by
  refine Does.pure (Does.of (n := 10) Try.func53 rfl rfl rfl rfl ?_)
  refine .seq ((.region (.nw (.box (l := rscells S (.slice A1 n1 a1) (.slice A2 n2 a2) (.slice Ah nh ah)) rfl rfl) fun b1 => (.nw .alloc fun b2 => (.v (.assign rfl) (.nil ?_))))))
  have hF : ∀ (c : Ch), ([Rsb b1 S (.slice A1 n1 a1) (.slice A2 n2 a2) (.slice Ah nh ah)] : Hp) ⊆ (b2, c) :: [Rsb b1 S (.slice A1 n1 a1) (.slice A2 n2 a2) (.slice Ah nh ah)] := by intro c p hp; simp at hp ⊢; rcases hp with rfl; simp
  refine .seq ((.drawX [0, 1] [Rsb b1 S (.slice A1 n1 a1) (.slice A2 n2 a2) (.slice Ah nh ah)] (hF _) (by kernel_rfl) (by kernel_rfl) ?_))
  refine .v (fun _ f => .fieldAddr rfl) (.v (fun _ f => .loadA (vs := S.last.cells) rfl (.chunk (hb := .sub f) (getPart 6 rfl)) rfl) (.nil ?_))
  refine .two 2 6 (by kernel_rfl) (.v rfl (.fieldAddr rfl) (.two 3 6 (by kernel_rfl) (.v rfl (.fieldAddr rfl) (.two 4 6 (by kernel_rfl) (.v rfl (.load (v := .int .i64 S.last.k) rfl (.one rfl)) (.two 5 6 (by kernel_rfl) (.v rfl (.eqi rfl rfl) (.run [6, 7] (hF _) (by kernel_rfl) (.st (.sw rfl rfl) (fun _ => hF _) (.v (fun _ f => .assign rfl) (.nil ?_))))) (.st rfl (.sw rfl rfl) (hF _) (.run [5, 7] (hF _) (by kernel_rfl) (.v (fun _ f => .eqi rfl rfl) (.v (fun _ f => .assign rfl) (.nil ?_))))))) (.st rfl (.sw rfl rfl) (hF _) (.run [4, 5, 7] (hF _) (by kernel_rfl) (.v (fun _ f => .load (v := .int .i64 S.last.k) rfl (.one (hb := .sub f) rfl)) (.v (fun _ f => .eqi rfl rfl) (.v (fun _ f => .assign rfl) (.nil ?_)))))))) (.st rfl (.sw rfl rfl) (hF _) (.run [3, 4, 5, 7] (hF _) (by kernel_rfl) (.v (fun _ f => .fieldAddr rfl) (.v (fun _ f => .load (v := .int .i64 S.last.k) rfl (.one (hb := .sub f) rfl)) (.v (fun _ f => .eqi rfl rfl) (.v (fun _ f => .assign rfl) (.nil ?_))))))))) (.st rfl (.sw rfl rfl) (hF _) (.run [2, 3, 4, 5, 7] (hF _) (by kernel_rfl) (.v (fun _ f => .fieldAddr rfl) (.v (fun _ f => .fieldAddr rfl) (.v (fun _ f => .load (v := .int .i64 S.last.k) rfl (.one (hb := .sub f) rfl)) (.v (fun _ f => .eqi rfl rfl) (.v (fun _ f => .assign rfl) (.nil ?_))))))))
  all_goals
    exact .ret ⟨[_, _], ⟨⟨_, rfl, .inr ⟨6, _, inferInstance, rfl, rfl, .whole⟩⟩, rfl, trivial⟩, rfl⟩
theorem mnh_app (e : Int) (l : List Dt) (x : Dt) : mnh e (l ++ [x]) = min (mnh e l) (x.s - 1) := by simp [mnh, List.foldl_append]
set_option maxRecDepth 20000 in
theorem refMissing_ok (w : World) (S : Sb) (hk : S.Ok) (A1 A2 Ah : Option Addr) (n1 n2 a1 a2 ah : Nat) (hA : Rd w [] Ah (drows S.held)) :
    Is Try.prog 51 [.agg ⟨rscells S (.slice A1 n1 a1) (.slice A2 n2 a2) (.slice Ah S.held.length ah)⟩] w (.tuple ⟨[.int .u64 S.miss.1, .int .u64 S.miss.2.1, .bool S.miss.2.2]⟩) := by
  have hlen := hk.len.1
  refine Does.pure (Does.of (n := 43) Try.func51 rfl rfl rfl rfl ?_)
  refine .seq ((.region (.nw (.box (l := rscells S (.slice A1 n1 a1) (.slice A2 n2 a2) (.slice Ah S.held.length ah)) rfl rfl) fun b1 => (.v (.assign rfl) (.v (.assign rfl) (.v (.assign rfl) (.nil ?_)))))))
  refine .seq (.seq ((.region (.v (.loadA (vs := rscells S (.slice A1 n1 a1) (.slice A2 n2 a2) (.slice Ah S.held.length ah)) rfl .whole rfl) (.pc (v := .bool S.good) rfl rfl (fun w s => refGood_ok w S _ _ _) (.nil ?_))))))
  refine .cond rfl (fun h1 => ?_) (fun h1 => .skip ?_)
  · rw [Sb.miss_good h1]
    refine .seq ((.region (.v (.assign rfl) (.v (.assign rfl) (.v (.assign rfl) (.nil ?_))))))
    exact .ret ⟨[_, _, _], ⟨rfl, rfl, rfl, trivial⟩, rfl⟩
  · rw [Sb.miss_not h1]
    refine .seq ((.region (.v (.fieldAddr rfl) (.v (.load (v := .int .u64 S.gr) rfl (.one rfl)) (.v (.assign rfl) (.nil ?_))))))
    refine .seq (.seq ((.region (.v (.assign rfl) (.nil ?_)))))
    refine .block (.loop (X := Nat × Int) (fun z => [(1, .pointer (some ⟨b1, 0, none⟩)), (5, .int .u64 z.2), (6, .int .i64 z.1)]) (fun z => [Rsb b1 S (.slice A1 n1 a1) (.slice A2 n2 a2) (.slice Ah S.held.length ah)]) (fun z => z.1 ≤ S.held.length ∧ z.2 = mnh S.gr (S.held.take z.1)) (fun z => S.held.length - z.1) (0, S.gr) ⟨by simp, rfl⟩ (.cons rfl (.cons rfl (.cons rfl (.nil _)))) (fun _ s => s) ?_)
    rintro ⟨i, to⟩ ⟨hi, hto⟩
    dsimp only at hi hto ⊢
    refine .seq (.seq ((.region (.v (.move rfl) (.v (.fieldAddr rfl) (.v (.load (v := .slice Ah S.held.length ah) rfl (.one rfl)) (.v (.len rfl) (.v (.lss rfl rfl) (.nil ?_)))))))))
    refine .cond_dec rfl (fun h2 => .skip ?_) (fun h2 => .exit ?_)
    · have hil : i < S.held.length := by omega
      obtain ⟨bq, oq, rfl, hq⟩ := Rd.recs Dt.cells 6 (fun _ => rfl) hA (by omega) (by omega)
      have hsq := fun hs => fldAt Dt.cells 6 (fun _ => rfl) (z := (i : Int)) (hq hs) hil 0 rfl
      have hc := hk.can _ (List.getElem_mem hil)
      have hg := hk.gr _ (List.getElem_mem hil)
      have hnx : mnh S.gr (S.held.take (i + 1)) = min to (S.held[i].s - 1) := by rw [List.take_succ_eq_append_getElem hil, mnh_app, hto]
      generalize S.held[i] = u at *
      have hc1 := hc.1.1
      refine .mid (X := Int) (fun z => [(1, .pointer (some ⟨b1, 0, none⟩)), (5, .int .u64 z), (6, .int .i64 i)]) (fun z => [Rsb b1 S (.slice A1 n1 a1) (.slice A2 n2 a2) (.slice (some ⟨bq, oq, none⟩) S.held.length ah)]) (fun z => z = min to (u.s - 1)) (.block (.seq ((.region (.v (.move rfl) (.v (.eqi rfl rfl) (.v (.move rfl) (.or (b2 := decide (u.s - 1 < to)) 20 29 9 9 rfl rfl (fun g1 => .v (.fieldAddr rfl) (.v (.load (v := .slice (some ⟨bq, oq, none⟩) S.held.length ah) rfl (.one rfl)) (.v (.move rfl) (.v (.indexAddr rfl rfl (by omega) (by omega)) (.v (.fieldAddr rfl) (.v (.load (v := .int .u64 u.s) rfl (hsq _)) (.v (.subU (u.s - 1) rfl rfl rfl (by omega)) (.v (.move rfl) (.v (.lss rfl rfl) (.nil ⟨rfl, rfl, rfl, rfl⟩)))))))))) (.nil ?_))))))))) ?_
      · refine .cond rfl (fun h3 => ?_) (fun h3 => .skip ?_)
        · simp only [Bool.and_eq_true, Bool.or_eq_true, Bool.not_eq_true', Bool.and_eq_false_iff, Bool.or_eq_false_iff, Bool.not_eq_false', decide_eq_true_eq, decide_eq_false_iff_not, Bool.false_eq_true, false_iff] at h3
          refine .region (.v (.fieldAddr rfl) (.v (.load (v := .slice (some ⟨bq, oq, none⟩) S.held.length ah) rfl (.one rfl)) (.v (.move rfl) (.v (.indexAddr rfl rfl (by omega) (by omega)) (.v (.fieldAddr rfl) (.v (.load (v := .int .u64 u.s) rfl (hsq _)) (.v (.subU (u.s - 1) rfl rfl rfl (by omega)) (.v (.assign rfl) (.nil ?_)))))))))
          refine ⟨u.s - 1, ?_, .cons rfl (.cons rfl (.cons rfl (.nil _))), fun _ s => s⟩
          show u.s - 1 = min to (u.s - 1)
          rcases h3 with h3 | h3
          · have : i = 0 := by omega
            subst this
            have : to = S.gr := hto
            omega
          · omega
        · simp only [Bool.and_eq_true, Bool.or_eq_true, Bool.not_eq_true', Bool.and_eq_false_iff, Bool.or_eq_false_iff, Bool.not_eq_false', decide_eq_true_eq, decide_eq_false_iff_not, Bool.false_eq_true, false_iff] at h3
          refine ⟨to, ?_, .cons rfl (.cons rfl (.cons rfl (.nil _))), fun _ s => s⟩
          show to = min to (u.s - 1)
          omega
      · rintro _ rfl
        refine .region (.v (.move rfl) (.v (.addi rfl rfl (by omega)) (.v (.assign rfl) (.nil ?_))))
        exact ⟨(i + 1, min to (u.s - 1)), ⟨by show i + 1 ≤ _; omega, hnx.symm⟩, by show S.held.length - (i + 1) < _; omega, .cons rfl (.cons rfl (.cons rfl (.nil _))), fun _ s => s⟩
    · rw [List.take_of_length_le (by omega)] at hto
      refine .seq ((.region (.v (.fieldAddr rfl) (.v (.fieldAddr rfl) (.v (.load (v := .int .u64 S.seq) rfl (.one rfl)) (.v (.add rfl rfl) (.v (.move rfl) (.v (.assign rfl) (.v (.assign rfl) (.v (.assign rfl) (.nil ?_)))))))))))
      rw [show (IntKind.u64.wrap (S.seq + 1)) = nxs S.seq from u64w _, hto]
      exact .ret ⟨[_, _, _], ⟨rfl, rfl, rfl, trivial⟩, rfl⟩
end Go.Proofs.Ytinmhhonpflojaa

/- FeedTakes: a pair, what it tells. -/
namespace Go.Proofs.Ytinmhhonpflojaa
open Go.V
set_option linter.unusedVariables false
set_option linter.unusedSimpArgs false

abbrev prcells (b : Nat) (S : Sb) (v1 v2 vh : Value) : List Value := [.pointer (some ⟨b, 0, none⟩), .int .i64 S.hold, .int .u64 S.seq, v1, v2, vh, .int .u64 S.gr, .int .u64 S.last.s, .int .i64 S.last.k, .int .i64 S.last.d, .int .i64 S.last.p, .int .u64 S.last.q, .int .i64 S.last.c]
abbrev Pr (p b : Nat) (S : Sb) (v1 v2 vh : Value) : Nat × Ch := (p, .cells (prcells b S v1 v2 vh) 70)
structure PX where
  b : Nat
  m : Nat
  v1 : Value
  v2 : Value
  k1 : Hp
  k2 : Hp
  es : List ME
  c : Nat
  u1 : Value
  u2 : Value
  uh : Value
  j1 : Hp
  j2 : Hp
  jh : Hp
structure PI (S : Sb) (z : PX) : Prop where
  s : SubI S z.v1 z.v2 z.k1 z.k2 z.es z.c
  o1 : LOwn z.u1 S.bs z.j1
  o2 : LOwn z.u2 S.ss z.j2
  oh : DOwn z.uh S.held z.jh
abbrev PX.H (p : Nat) (S : Sb) (z : PX) : Hp := Pr p z.b S z.u1 z.u2 z.uh :: (SBH z.b z.m S z.v1 z.v2 z.k1 z.k2 z.es z.c ++ (z.j1 ++ (z.j2 ++ z.jh)))
/-- a pair in memory -/
def PairH (p : Nat) (S : Sb) (hs : Hp) : Prop := ∃ z : PX, hs = z.H p S ∧ PI S z
set_option maxRecDepth 20000 in
set_option maxHeartbeats 2000000 in
theorem tells_ok (w : World) (p : Nat) (S : Sb) (hk : S.Ok) (hz : S.size ≤ 2900000) (z : PX) (hI : PI S z) :
    Does Try.prog 28 [.pointer (some ⟨p, 0, none⟩)] (z.H p S) w (fun v hs => v = .bool true ∧ hs = z.H p S) := by
  obtain ⟨b, m, v1, v2, k1, k2, es, c, u1, u2, uh, j1, j2, jh⟩ := z
  obtain ⟨sI, w1, w2, wh⟩ := hI
  dsimp only at sI w1 w2 wh ⊢
  have o1 := sI.o1
  have o2 := sI.o2
  obtain ⟨A1, a1, rfl⟩ := lown_sl o1
  obtain ⟨A2, a2, rfl⟩ := lown_sl o2
  obtain ⟨B1, b1, rfl⟩ := lown_sl w1
  obtain ⟨B2, b2, rfl⟩ := lown_sl w2
  obtain ⟨Bh, bh, rfl⟩ := down_sl wh
  have hsz : S.bs.length + S.ss.length ≤ 10000000 := by unfold Sb.size at hz; omega
  refine Does.less (Does.of (n := 112) Try.func28 rfl rfl rfl rfl ?_)
  refine .seq ((.region (.v (.assign rfl) (.nil ?_))))
  refine .seq ((.region (.v (.move rfl) (.v (.nilCheck rfl) (.v (.fieldAddr rfl) (.v (.load (v := .pointer (some ⟨b, 0, none⟩)) rfl (.one rfl)) ?_))))))
  refine .ef (.call0 rfl rfl fun w s => SPicture_ok w b m S A1 A2 a1 a2 (Rd.blk s) (OwnS.rd o1 s (no := []) (fun y hy => by simp [hy]) (by simp)) (OwnS.rd o2 s (no := []) (fun y hy => by simp [hy]) (by simp)) (by omega)) ?_
  rintro _ _ ⟨_, ⟨E1, E2, e1, e2, q1, q2, rfl, rfl, p1, p2⟩, rfl⟩
  dsimp only at p1 p2 ⊢
  refine .nw .alloc fun b3 => (.st (.sw rfl rfl) (.nil ?_))
  refine .seq (.seq ((.drawK [Pcb b3 S.seq (.slice E1 S.bs.length e1) (.slice E2 S.ss.length e2), Pr p b S (.slice B1 S.bs.length b1) (.slice B2 S.ss.length b2) (.slice Bh S.held.length bh)] (by intro y hy; simp at hy ⊢; rcases hy with rfl | rfl <;> simp) (by kernel_rfl) (by kernel_rfl) ?_)))
  refine .v (fun _ f => .loadA (vs := pcells S.seq (.slice E1 S.bs.length e1) (.slice E2 S.ss.length e2)) rfl (.whole (hb := .sub f)) rfl) (.v (fun _ f => .move rfl) (.v (fun _ f => .nilCheck rfl) (.v (fun _ f => .fieldAddr rfl) (.v (fun _ f => .fieldAddr rfl) (.v (fun _ f => .loadA (vs := pcells S.seq (.slice B1 S.bs.length b1) (.slice B2 S.ss.length b2)) rfl (.chunk (hb := .sub f) (getPart 2 rfl)) rfl) (.pc (v := .bool true) rfl rfl (fun w s => samePicture_ok w E1 E2 B1 B2 e1 e2 b1 b2 ⟨S.seq, S.bs, S.ss⟩ (OwnS.rd p1 s (no := []) (fun y hy => by simp [hy]) (by simp)) (OwnS.rd p2 s (no := []) (fun y hy => by simp [hy]) (by simp)) (OwnS.rd w1 s (no := []) (fun y hy => by simp [hy]) (by simp)) (OwnS.rd w2 s (no := []) (fun y hy => by simp [hy]) (by simp)) hsz) (.v (fun _ f => .not rfl) (.nil ?_))))))))
  refine .cond_false rfl (.skip ?_)
  refine .seq ((.region (.v (.loadA (vs := pcells S.seq (.slice E1 S.bs.length e1) (.slice E2 S.ss.length e2)) rfl .whole rfl) ?_)))
  refine .ef (.callT (q1 ++ q2) rfl rfl fun w s => wipe_ok w S.seq (.slice E1 S.bs.length e1) (.slice E2 S.ss.length e2) S.bs.length S.ss.length q1 q2 p1.any p2.any hsz) ?_
  rintro _ _ ⟨_, rfl, rfl⟩
  refine .nil ?_
  refine .keep (PX.H p S ⟨b, m, .slice A1 S.bs.length a1, .slice A2 S.ss.length a2, k1, k2, es, c, .slice B1 S.bs.length b1, .slice B2 S.ss.length b2, .slice Bh S.held.length bh, j1, j2, jh⟩) ?_
  refine .seq ((.region (.v (.move rfl) (.v (.nilCheck rfl) (.v (.fieldAddr rfl) (.v (.load (v := .pointer (some ⟨b, 0, none⟩)) rfl (.one rfl)) ?_))))))
  refine .ef (.callT (SBH b m S (.slice A1 S.bs.length a1) (.slice A2 S.ss.length a2) k1 k2 es c) rfl rfl fun w s => Missing_ok w b m S _ _ k1 k2 es c sI hk) ?_
  rintro _ _ ⟨_, ⟨rfl, rfl⟩, rfl⟩
  refine .v (.move rfl) (.v (.extract rfl rfl) (.v (.extract rfl rfl) (.v (.extract rfl rfl) (.v (.assign rfl) (.v (.assign rfl) (.v (.assign rfl) (.nil ?_)))))))
  refine .keep (PX.H p S ⟨b, m, .slice A1 S.bs.length a1, .slice A2 S.ss.length a2, k1, k2, es, c, .slice B1 S.bs.length b1, .slice B2 S.ss.length b2, .slice Bh S.held.length bh, j1, j2, jh⟩) ?_
  refine .seq ((.region (.v (.move rfl) (.v (.nilCheck rfl) (.v (.fieldAddr rfl) (.v (.loadA (vs := rscells S (.slice B1 S.bs.length b1) (.slice B2 S.ss.length b2) (.slice Bh S.held.length bh)) rfl (.chunk (getPart 1 rfl)) rfl) (.pc (v := .tuple ⟨[.int .u64 S.miss.1, .int .u64 S.miss.2.1, .bool S.miss.2.2]⟩) rfl rfl (fun w s => refMissing_ok w S hk B1 B2 Bh S.bs.length S.ss.length b1 b2 bh (OwnS.rd wh s (no := []) (fun y hy => by simp [hy]) (by simp))) (.v (.move rfl) (.v (.extract rfl rfl) (.v (.extract rfl rfl) (.v (.extract rfl rfl) (.v (.assign rfl) (.v (.assign rfl) (.v (.assign rfl) (.nil ?_)))))))))))))))
  refine .seq ((.region (.v (.move rfl) (.v (.nilCheck rfl) (.v (.fieldAddr rfl) (.v (.load (v := .pointer (some ⟨b, 0, none⟩)) rfl (.one rfl)) (.pc (v := .tuple ⟨[.agg ⟨S.last.cells⟩, .bool (decide (S.last.k = 2))]⟩) rfl rfl (fun w s => Last_ok w b m S _ _ (Rd.blk s)) (.v (.move rfl) (.v (.extract rfl rfl) (.v (.extract rfl rfl) (.nw .alloc fun b10 => (.st (.sw rfl rfl) (.v (.assign rfl) (.nil ?_))))))))))))))
  refine .seq ((.region (.v (.move rfl) (.v (.nilCheck rfl) (.v (.fieldAddr rfl) (.v (.loadA (vs := rscells S (.slice B1 S.bs.length b1) (.slice B2 S.ss.length b2) (.slice Bh S.held.length bh)) rfl (.chunk (getPart 1 rfl)) rfl) (.pc (v := .tuple ⟨[.agg ⟨S.last.cells⟩, .bool (decide (S.last.k = 2))]⟩) rfl rfl (fun w s => refLast_ok w S B1 B2 Bh _ _ _ b1 b2 bh) (.v (.move rfl) (.v (.extract rfl rfl) (.v (.extract rfl rfl) (.nw .alloc fun b12 => (.st (.sw rfl rfl) (.v (.assign rfl) (.nil ?_))))))))))))))
  refine .seq ((.drawP [0, 1, 2, 3, 5, 6, 7, 8, 9, 4, 10, 11, 12, 13, 14, 15, 17, 18, 19, 20, 16, 21, 22, 23, 24, 25, 26, 27, 28, 29, 30, 31, 32, 33, 34, 35, 36, 37, 38, 39, 40, 41, 42, 43, 44, 45, 46, 47, 48, 49] [Db b10 S.last, Db b12 S.last, Pr p b S (.slice B1 S.bs.length b1) (.slice B2 S.ss.length b2) (.slice Bh S.held.length bh)] (by intro y hy; simp at hy ⊢; rcases hy with rfl | rfl | rfl <;> simp) (by kernel_rfl) (by kernel_rfl) ?_))
  refine .v (fun _ f => .move rfl) (.v (fun _ f => .nilCheck rfl) (.v (fun _ f => .fieldAddr rfl) (.v (fun _ f => .load (v := .pointer (some ⟨b, 0, none⟩)) rfl (.one (hb := .sub f) rfl)) (.v (fun _ f => .move rfl) (.v (fun _ f => .nilCheck rfl) (.v (fun _ f => .fieldAddr rfl) (.v (fun _ f => .fieldAddr rfl) (.v (fun _ f => .loadA (vs := pcells S.seq (.slice B1 S.bs.length b1) (.slice B2 S.ss.length b2)) rfl (.chunk (hb := .sub f) (getPart 2 rfl)) rfl) ?_))))))))
  refine .cl rfl rfl (fun w s => SPicture_ok w b m S A1 A2 a1 a2 (Rd.blk s) (OwnS.rd o1 s (no := []) (fun y hy => by simp [hy]) (by simp)) (OwnS.rd o2 s (no := []) (fun y hy => by simp [hy]) (by simp)) (by omega)) ?_
  rintro _ _ ⟨E1, E2, e1, e2, q1, q2, rfl, rfl, p1, p2⟩
  dsimp only at p1 p2 ⊢
  refine .pc (v := .bool true) rfl rfl (fun w s => samePicture_ok w E1 E2 B1 B2 e1 e2 b1 b2 ⟨S.seq, S.bs, S.ss⟩ (OwnS.rd p1 s (no := []) (fun y hy => by simp [hy]) (by simp)) (OwnS.rd p2 s (no := []) (fun y hy => by simp [hy]) (by simp)) (OwnS.rd w1 s (no := []) (fun y hy => by simp [hy]) (by simp)) (OwnS.rd w2 s (no := []) (fun y hy => by simp [hy]) (by simp)) hsz) (.v (fun _ f => .move rfl) ?_)
  refine .and (b2 := S.good == S.good) 74 85 11 11 rfl rfl (fun g1 => .v (fun _ f => .move rfl) (.v (fun _ f => .nilCheck rfl) (.v (fun _ f => .fieldAddr rfl) (.v (fun _ f => .load (v := .pointer (some ⟨b, 0, none⟩)) rfl (.one (hb := .sub f) rfl)) (.v (fun _ f => .move rfl) (.v (fun _ f => .nilCheck rfl) (.v (fun _ f => .fieldAddr rfl) (.v (fun _ f => .loadA (vs := rscells S (.slice B1 S.bs.length b1) (.slice B2 S.ss.length b2) (.slice Bh S.held.length bh)) rfl (.chunk (hb := .sub f) (getPart 1 rfl)) rfl) (.pc (v := .bool S.good) rfl rfl (fun w s => Good_ok w b m S _ _ (Rd.blk s)) (.pc (v := .bool S.good) rfl rfl (fun w s => refGood_ok w S _ _ _) (.v (fun _ f => .eqb rfl rfl) (.nil ⟨rfl, rfl, rfl, rfl⟩)))))))))))) ?_
  refine .v (fun _ f => .move rfl) (.and (b2 := decide (S.miss.1 = S.miss.1)) 87 90 3 3 rfl rfl (fun g2 => .v (fun _ f => .move rfl) (.v (fun _ f => .move rfl) (.v (fun _ f => .eqi rfl rfl) (.nil ⟨rfl, rfl, rfl, rfl⟩)))) ?_)
  refine .v (fun _ f => .move rfl) (.and (b2 := decide (S.miss.2.1 = S.miss.2.1)) 92 95 3 3 rfl rfl (fun g3 => .v (fun _ f => .move rfl) (.v (fun _ f => .move rfl) (.v (fun _ f => .eqi rfl rfl) (.nil ⟨rfl, rfl, rfl, rfl⟩)))) ?_)
  refine .v (fun _ f => .move rfl) (.and (b2 := S.miss.2.2 == S.miss.2.2) 97 100 3 3 rfl rfl (fun g4 => .v (fun _ f => .move rfl) (.v (fun _ f => .move rfl) (.v (fun _ f => .eqb rfl rfl) (.nil ⟨rfl, rfl, rfl, rfl⟩)))) ?_)
  refine .v (fun _ f => .move rfl) (.and (b2 := cellsEq S.last.cells S.last.cells) 102 105 3 3 rfl rfl (fun g5 => .v (fun _ f => .loadA (vs := S.last.cells) rfl (.whole (hb := .sub f)) rfl) (.v (fun _ f => .loadA (vs := S.last.cells) rfl (.whole (hb := .sub f)) rfl) (.v (fun _ f => .eqA rfl rfl (Dt.oks _) (Dt.oks _)) (.nil ⟨rfl, rfl, rfl, rfl⟩)))) ?_)
  refine .v (fun _ f => .move rfl) (.and (b2 := decide (S.last.k = 2) == decide (S.last.k = 2)) 107 110 3 3 rfl rfl (fun g6 => .v (fun _ f => .move rfl) (.v (fun _ f => .move rfl) (.v (fun _ f => .eqb rfl rfl) (.nil ⟨rfl, rfl, rfl, rfl⟩)))) ?_)
  refine .v (fun _ f => .assign rfl) (.nil ?_)
  have hce : cellsEq S.last.cells S.last.cells = true := (cellsEq_iff (Dt.oks _) (Dt.oks _)).2 rfl
  refine .ret ⟨[_], ⟨rfl, trivial⟩, PX.H p S ⟨b, m, .slice A1 S.bs.length a1, .slice A2 S.ss.length a2, k1, k2, es, c, .slice B1 S.bs.length b1, .slice B2 S.ss.length b2, .slice Bh S.held.length bh, j1, j2, jh⟩, fun _ s => s.take, ?_, rfl⟩
  rw [hce]
  simp [tup]
end Go.Proofs.Ytinmhhonpflojaa

/- FeedTakes: one step. -/
namespace Go.Proofs.Ytinmhhonpflojaa
open Go.V
set_option linter.unusedVariables false
set_option linter.unusedSimpArgs false

structure TO where
  kd : Int
  oth : Bool
  x : Dt
  seq : Int
  B1 : Option Addr
  d1 : Nat
  B2 : Option Addr
  d2 : Nat
  bs : List Lv
  ss : List Lv
abbrev TO.cells (t : TO) : List Value := [.int .i64 t.kd, .bool t.oth, .int .u64 t.x.s, .int .i64 t.x.k, .int .i64 t.x.d, .int .i64 t.x.p, .int .u64 t.x.q, .int .i64 t.x.c, .int .u64 t.seq, .slice t.B1 t.bs.length t.d1, .slice t.B2 t.ss.length t.d2]
abbrev Tob (b : Nat) (t : TO) : Nat × Ch := (b, .cells t.cells 72)
structure TO.R (w : World) (no : List Nat) (t : TO) : Prop where
  r1 : Rd w no t.B1 (lrows t.bs)
  r2 : Rd w no t.B2 (lrows t.ss)
  hx : t.x.s < 18446744073709551616
  hq : 0 ≤ t.seq ∧ t.seq < 18446744073709551616
  hb : t.bs.length + t.ss.length ≤ 1048576
noncomputable def Sb.op (S : Sb) (t : TO) : Sb := if t.kd = 0 then (S.take t.x).1 else if t.kd = 1 then (S.rec_ t.seq t.bs t.ss).1 else S
structure T5 where
  b5 : Nat
  u1 : Value
  u2 : Value
  uh : Value
  j1 : Hp
  j2 : Hp
  jh : Hp
abbrev T5.r (z : T5) : RX := ⟨z.u1, z.u2, z.uh, z.j1, z.j2, z.jh⟩
set_option maxRecDepth 20000 in
set_option maxHeartbeats 4000000 in
theorem step_ok (w : World) (p : Nat) (S : Sb) (hk : S.Ok) (hz : S.size ≤ 2899990) (z : PX) (hI : PI S z) (t : TO) (hR : TO.R w (bl (z.H p S)) t) :
    Does Try.prog 27 [.pointer (some ⟨p, 0, none⟩), .agg ⟨t.cells⟩] (z.H p S) w (fun v hs => v = .bool true ∧ PairH p (S.op t) hs) := by
  have hI0 := hI
  obtain ⟨r1, r2, hx, hq, hb⟩ := hR
  obtain ⟨b, m, v1, v2, k1, k2, es, c, u1, u2, uh, j1, j2, jh⟩ := z
  obtain ⟨sI, w1, w2, wh⟩ := hI
  dsimp only at sI w1 w2 wh r1 r2 ⊢
  have hsubJ : ∀ y ∈ bl (j1 ++ (j2 ++ jh)), y ∈ bl (PX.H p S ⟨b, m, v1, v2, k1, k2, es, c, u1, u2, uh, j1, j2, jh⟩) := by
    intro y hy
    obtain ⟨q, hq, rfl⟩ := List.mem_map.1 hy
    exact List.mem_map.2 ⟨q, List.mem_cons_of_mem _ (List.mem_append_right _ hq), rfl⟩
  obtain ⟨U1, a1, rfl⟩ := lown_sl w1
  obtain ⟨U2, a2, rfl⟩ := lown_sl w2
  obtain ⟨Uh, ah, rfl⟩ := down_sl wh
  refine Does.less (Does.of (n := 80) Try.func27 rfl rfl rfl rfl ?_)
  refine .seq ((.region (.nw (.box (l := t.cells) rfl rfl) fun b3 => (.v (.assign rfl) (.nil ?_)))))
  refine .seq (.seq ((.region (.v (.fieldAddr rfl) (.v (.load (v := .int .i64 t.kd) rfl (.one rfl)) (.nil ?_))))))
  refine .block (.seq ((.region (.v (.eqi rfl rfl) (.v (.assign rfl) (.nil ?_))))))
  refine .cond_dec rfl (fun h1 => ?_) (fun h1 => ?_)
  · have eo : S.op t = (S.take t.x).1 := by unfold Sb.op; rw [if_pos h1]
    rw [eo]
    have hT := fun w' => reftake_ok w' S hk t.x hx ⟨.slice U1 S.bs.length a1, .slice U2 S.ss.length a2, .slice Uh S.held.length ah, j1, j2, jh⟩ ⟨w1, w2, wh⟩ hz
    have hT2 := fun w' => take_ok w' b m S t.x (SBH b m S v1 v2 k1 k2 es c) ⟨v1, v2, k1, k2, es, c, rfl, sI⟩ hz
    generalize S.take t.x = res at hT hT2 ⊢
    obtain ⟨S', er⟩ := res
    dsimp only at hT hT2 ⊢
    have hF : ([Pr p b S (.slice U1 S.bs.length a1) (.slice U2 S.ss.length a2) (.slice Uh S.held.length ah), Tob b3 t] : Hp) ⊆ Tob b3 t :: Pr p b S (.slice U1 S.bs.length a1) (.slice U2 S.ss.length a2) (.slice Uh S.held.length ah) :: SBH b m S v1 v2 k1 k2 es c := by intro y hy; simp at hy ⊢; rcases hy with rfl | rfl <;> simp
    refine (.mid (X := T5) (fun z => [(0, .pointer (some ⟨p, 0, none⟩)), (3, .pointer (some ⟨b3, 0, none⟩)), (5, .pointer (some ⟨z.b5, 0, none⟩)), (6, .int .i64 er)]) (fun z => Rsb z.b5 S' z.u1 z.u2 z.uh :: Tob b3 t :: Pr p b S (.slice U1 S.bs.length a1) (.slice U2 S.ss.length a2) (.slice Uh S.held.length ah) :: (SBH b m S v1 v2 k1 k2 es c ++ (z.j1 ++ (z.j2 ++ z.jh)))) (fun z => RI S' z.r) (.drawX [0, 1, 2, 3, 4, 5] [Pr p b S (.slice U1 S.bs.length a1) (.slice U2 S.ss.length a2) (.slice Uh S.held.length ah), Tob b3 t] (by intro y hy; simp at hy ⊢; rcases hy with rfl | rfl <;> simp) (by kernel_rfl) (by kernel_rfl) ?_) ?_)
    · refine .v (fun _ f => .move rfl) (.v (fun _ f => .nilCheck rfl) (.v (fun _ f => .fieldAddr rfl) (.v (fun _ f => .loadA (vs := rscells S (.slice U1 S.bs.length a1) (.slice U2 S.ss.length a2) (.slice Uh S.held.length ah)) rfl (.chunk (hb := .sub f) (getPart 1 rfl)) rfl) (.v (fun _ f => .fieldAddr rfl) (.v (fun _ f => .loadA (vs := t.x.cells) rfl (.chunk (hb := .sub f) (getPart 2 rfl)) rfl) (.nil ?_))))))
      refine .two 6 10 (by kernel_rfl) (.clT (j1 ++ (j2 ++ jh)) rfl rfl rfl (fun w s => hT w) (fun h => by intro y hy; simp at hy ⊢; rcases hy with rfl | rfl <;> simp) ?_) (.nw rfl .alloc fun b5 => ?_)
      · rintro _ _ ⟨⟨x1, x2, xh, y1, y2, yh⟩, rfl, rfl, z1, z2, zh⟩
        dsimp only at z1 z2 zh ⊢
        obtain ⟨E1, e1, rfl⟩ := lown_sl z1
        obtain ⟨E2, e2, rfl⟩ := lown_sl z2
        obtain ⟨Eh, eh, rfl⟩ := down_sl zh
        refine .run [7, 8, 9, 10, 11, 12] (by intro y hy; simp at hy ⊢; rcases hy with rfl | rfl <;> simp) (by kernel_rfl) ?_
        refine .v (fun _ f => .move rfl) (.v (fun _ f => .extract rfl rfl) (.v (fun _ f => .extract rfl rfl) (.nw .alloc fun b5 => (.st (.sw rfl rfl) (fun _ => by intro y hy; simp at hy ⊢; rcases hy with rfl | rfl <;> simp) (.v (fun _ f => .assign rfl) (.nil ?_))))))
        exact ⟨⟨b5, _, _, _, y1, y2, yh⟩, ⟨z1, z2, zh⟩, .cons rfl (.cons rfl (.cons rfl (.cons rfl (.nil _)))), fun _ s => s.take⟩
      · refine .run [6, 7, 8, 9, 11, 12] (by intro y hy; simp at hy ⊢; rcases hy with rfl | rfl <;> simp) (by kernel_rfl) ?_
        refine .clT (j1 ++ (j2 ++ jh)) rfl rfl (fun w s => hT w) (fun h => by intro y hy; simp at hy ⊢; rcases hy with rfl | rfl <;> simp) ?_
        rintro _ _ ⟨⟨x1, x2, xh, y1, y2, yh⟩, rfl, rfl, z1, z2, zh⟩
        dsimp only at z1 z2 zh ⊢
        obtain ⟨E1, e1, rfl⟩ := lown_sl z1
        obtain ⟨E2, e2, rfl⟩ := lown_sl z2
        obtain ⟨Eh, eh, rfl⟩ := down_sl zh
        refine .v (fun _ f => .move rfl) (.v (fun _ f => .extract rfl rfl) (.v (fun _ f => .extract rfl rfl) (.st (.sw rfl rfl) (fun _ => by intro y hy; simp at hy ⊢; rcases hy with rfl | rfl <;> simp) (.v (fun _ f => .assign rfl) (.nil ?_)))))
        exact ⟨⟨b5, _, _, _, y1, y2, yh⟩, ⟨z1, z2, zh⟩, .cons rfl (.cons rfl (.cons rfl (.cons rfl (.nil _)))), fun _ s => s.take⟩
    · rintro ⟨b5, x1, x2, xh, y1, y2, yh⟩ ⟨z1, z2, zh⟩
      dsimp only at z1 z2 zh ⊢
      obtain ⟨E1, e1, rfl⟩ := lown_sl z1
      obtain ⟨E2, e2, rfl⟩ := lown_sl z2
      obtain ⟨Eh, eh, rfl⟩ := down_sl zh
      refine .seq ((.region (.v (.move rfl) (.v (.loadA (vs := rscells S' (.slice E1 S'.bs.length e1) (.slice E2 S'.ss.length e2) (.slice Eh S'.held.length eh)) rfl .whole rfl) (.v (.nilCheck rfl) (.v (.fieldAddr rfl) (.st (.storeR (prcells b S' (.slice E1 S'.bs.length e1) (.slice E2 S'.ss.length e2) (.slice Eh S'.held.length eh)) rfl rfl) (.nil ?_))))))))
      refine .keep (Tob b3 t :: Pr p b S' (.slice E1 S'.bs.length e1) (.slice E2 S'.ss.length e2) (.slice Eh S'.held.length eh) :: (SBH b m S v1 v2 k1 k2 es c ++ (y1 ++ (y2 ++ yh)))) ?_
      refine .seq ((.drawP [0, 1, 2, 3, 4, 5, 7, 6, 8, 9] [Tob b3 t, Pr p b S' (.slice E1 S'.bs.length e1) (.slice E2 S'.ss.length e2) (.slice Eh S'.held.length eh)] (by intro y hy; simp at hy ⊢; rcases hy with rfl | rfl <;> simp) (by kernel_rfl) (by kernel_rfl) ?_))
      refine .v (fun _ f => .move rfl) (.v (fun _ f => .nilCheck rfl) (.v (fun _ f => .fieldAddr rfl) (.v (fun _ f => .load (v := .pointer (some ⟨b, 0, none⟩)) rfl (.one (hb := .sub f) rfl)) (.v (fun _ f => .fieldAddr rfl) (.v (fun _ f => .loadA (vs := t.x.cells) rfl (.chunk (hb := .sub f) (getPart 2 rfl)) rfl) (.v (fun _ f => .move rfl) ?_))))))
      refine .clT (SBH b m S v1 v2 k1 k2 es c) rfl rfl (fun w s => hT2 w) (fun h => by intro y hy; simp at hy ⊢; rcases hy with rfl | rfl <;> simp) ?_
      rintro _ _ ⟨rfl, v1', v2', k1', k2', es', c', rfl, sI'⟩
      refine .v (fun _ f => .eqi rfl rfl) (.v (fun _ f => .assign rfl) (.nil ?_))
      exact .ret ⟨[_], ⟨rfl, trivial⟩, PX.H p S' ⟨b, m, v1', v2', k1', k2', es', c', .slice E1 S'.bs.length e1, .slice E2 S'.ss.length e2, .slice Eh S'.held.length eh, y1, y2, yh⟩, fun _ s => s.take, by simp [tup], ⟨b, m, v1', v2', k1', k2', es', c', _, _, _, y1, y2, yh⟩, rfl, sI', z1, z2, zh⟩
  · refine .seq ((.region (.v (.eqi rfl rfl) (.v (.assign rfl) (.nil ?_)))))
    refine .cond_dec rfl (fun h2 => ?_) (fun h2 => ?_)
    · have eo : S.op t = (S.rec_ t.seq t.bs t.ss).1 := by unfold Sb.op; rw [if_neg h1, if_pos h2]
      rw [eo]
      have hT := fun w' q1 q2 => refrecover_ok w' S hk ⟨.slice U1 S.bs.length a1, .slice U2 S.ss.length a2, .slice Uh S.held.length ah, j1, j2, jh⟩ ⟨w1, w2, wh⟩ (by omega) t.seq hq t.bs t.ss t.B1 t.B2 t.d1 t.d2 q1 q2 (by omega)
      have hT2 := fun w' E1 E2 e1 e2 q1 q2 => Recover_ok w' b m S hk (SBH b m S v1 v2 k1 k2 es c) ⟨v1, v2, k1, k2, es, c, rfl, sI⟩ t.seq t.bs t.ss E1 E2 e1 e2 q1 q2 (by omega)
      generalize S.rec_ t.seq t.bs t.ss = res at hT hT2 ⊢
      obtain ⟨S', er⟩ := res
      dsimp only at hT hT2 ⊢
      refine .seq ((.region (.v (.fieldAddr rfl) (.v (.loadA (vs := pcells t.seq (.slice t.B1 t.bs.length t.d1) (.slice t.B2 t.ss.length t.d2)) rfl (.chunk (getPart 8 rfl)) rfl) ?_))))
      refine .ef (.call0 rfl rfl fun w s => lcopied_ok w t.B1 t.B2 t.d1 t.d2 ⟨t.seq, t.bs, t.ss⟩ (r1.keep0 s) (r2.keep0 s) (by show t.bs.length + t.ss.length ≤ _; omega)) ?_
      rintro _ _ ⟨_, ⟨E1, E2, e1, e2, q1, q2, rfl, rfl, p1, p2⟩, rfl⟩
      dsimp only at p1 p2 ⊢
      refine .nw .alloc fun b7 => (.st (.sw rfl rfl) (.nil ?_))
      refine .seq ((.drawK [Tob b3 t, Pcb b7 t.seq (.slice E1 t.bs.length e1) (.slice E2 t.ss.length e2), Pr p b S (.slice U1 S.bs.length a1) (.slice U2 S.ss.length a2) (.slice Uh S.held.length ah)] (by intro y hy; simp at hy ⊢; rcases hy with rfl | rfl | rfl <;> simp) (by kernel_rfl) (by kernel_rfl) ?_))
      refine .v (fun _ f => .move rfl) (.v (fun _ f => .nilCheck rfl) (.v (fun _ f => .fieldAddr rfl) (.v (fun _ f => .load (v := .pointer (some ⟨b, 0, none⟩)) rfl (.one (hb := .sub f) rfl)) (.v (fun _ f => .loadA (vs := pcells t.seq (.slice E1 t.bs.length e1) (.slice E2 t.ss.length e2)) rfl (.whole (hb := .sub f)) rfl) ?_))))
      refine .clT (SBH b m S v1 v2 k1 k2 es c) rfl rfl (fun w s => hT2 w E1 E2 e1 e2 (OwnS.rd p1 s (fun y hy => by simp [hy]) (Sat.apart (a := q1) (b := SBH b m S v1 v2 k1 k2 es c) s)) (OwnS.rd p2 s (fun y hy => by simp [hy]) (Sat.apart (a := q2) (b := SBH b m S v1 v2 k1 k2 es c) s))) (fun h => by intro y hy; simp at hy ⊢; rcases hy with rfl | rfl | rfl <;> simp) ?_
      rintro _ _ ⟨rfl, v1', v2', k1', k2', es', c', rfl, sI'⟩
      refine .v (fun _ f => .assign rfl) (.nil ?_)
      refine .keep (Pcb b7 t.seq (.slice E1 t.bs.length e1) (.slice E2 t.ss.length e2) :: (q1 ++ (q2 ++ (Tob b3 t :: Pr p b S (.slice U1 S.bs.length a1) (.slice U2 S.ss.length a2) (.slice Uh S.held.length ah) :: (SBH b m S' v1' v2' k1' k2' es' c' ++ (j1 ++ (j2 ++ jh))))))) ?_
      refine .seq ((.region (.v (.loadA (vs := pcells t.seq (.slice E1 t.bs.length e1) (.slice E2 t.ss.length e2)) rfl .whole rfl) (.v (.fieldAddr rfl) (.v (.loadA (vs := pcells t.seq (.slice t.B1 t.bs.length t.d1) (.slice t.B2 t.ss.length t.d2)) rfl (.chunk (getPart 8 rfl)) rfl) (.pc (v := .bool true) rfl rfl (fun w s => samePicture_ok w E1 E2 t.B1 t.B2 e1 e2 t.d1 t.d2 ⟨t.seq, t.bs, t.ss⟩ (OwnS.rd p1 s (no := []) (fun y hy => by simp [hy]) (by simp)) (OwnS.rd p2 s (no := []) (fun y hy => by simp [hy]) (by simp)) (r1.keep0 s) (r2.keep0 s) (by show t.bs.length + t.ss.length ≤ _; omega)) (.v (.assign rfl) (.nil ?_))))))))
      refine .seq ((.region (.v (.loadA (vs := pcells t.seq (.slice E1 t.bs.length e1) (.slice E2 t.ss.length e2)) rfl .whole rfl) ?_)))
      refine .ef (.callT (q1 ++ q2) rfl rfl fun w s => wipe_ok w t.seq (.slice E1 t.bs.length e1) (.slice E2 t.ss.length e2) t.bs.length t.ss.length q1 q2 p1.any p2.any (by omega)) ?_
      rintro _ _ ⟨_, rfl, rfl⟩
      refine .nil ?_
      refine .keep (Tob b3 t :: Pr p b S (.slice U1 S.bs.length a1) (.slice U2 S.ss.length a2) (.slice Uh S.held.length ah) :: (SBH b m S' v1' v2' k1' k2' es' c' ++ (j1 ++ (j2 ++ jh)))) ?_
      refine (.mid (X := T5) (fun z => [(0, .pointer (some ⟨p, 0, none⟩)), (8, .int .i64 er), (9, .bool true), (10, .pointer (some ⟨z.b5, 0, none⟩)), (11, .int .i64 er)]) (fun z => Rsb z.b5 S' z.u1 z.u2 z.uh :: Pr p b S (.slice U1 S.bs.length a1) (.slice U2 S.ss.length a2) (.slice Uh S.held.length ah) :: (SBH b m S' v1' v2' k1' k2' es' c' ++ (z.j1 ++ (z.j2 ++ z.jh)))) (fun z => RI S' z.r) (.drawX [0, 1, 2, 3, 4, 5] [Pr p b S (.slice U1 S.bs.length a1) (.slice U2 S.ss.length a2) (.slice Uh S.held.length ah), Tob b3 t] (by intro y hy; simp at hy ⊢; rcases hy with rfl | rfl <;> simp) (by kernel_rfl) (by kernel_rfl) ?_) ?_)
      · refine .v (fun _ f => .move rfl) (.v (fun _ f => .nilCheck rfl) (.v (fun _ f => .fieldAddr rfl) (.v (fun _ f => .loadA (vs := rscells S (.slice U1 S.bs.length a1) (.slice U2 S.ss.length a2) (.slice Uh S.held.length ah)) rfl (.chunk (hb := .sub f) (getPart 1 rfl)) rfl) (.v (fun _ f => .fieldAddr rfl) (.v (fun _ f => .loadA (vs := pcells t.seq (.slice t.B1 t.bs.length t.d1) (.slice t.B2 t.ss.length t.d2)) rfl (.chunk (hb := .sub f) (getPart 8 rfl)) rfl) (.nil ?_))))))
        refine .two 6 10 (by kernel_rfl) (.clT (j1 ++ (j2 ++ jh)) rfl rfl rfl (fun w s => hT w (r1.keep s fun y hy => .inl (hsubJ y hy)) (r2.keep s fun y hy => .inl (hsubJ y hy))) (fun h => by intro y hy; simp at hy ⊢; rcases hy with rfl | rfl <;> simp) ?_) (.nw rfl .alloc fun b5 => ?_)
        · rintro _ _ ⟨⟨x1, x2, xh, y1, y2, yh⟩, rfl, rfl, z1, z2, zh⟩
          dsimp only at z1 z2 zh ⊢
          obtain ⟨E1, e1, rfl⟩ := lown_sl z1
          obtain ⟨E2, e2, rfl⟩ := lown_sl z2
          obtain ⟨Eh, eh, rfl⟩ := down_sl zh
          refine .run [7, 8, 9, 10, 11, 12] (by intro y hy; simp at hy ⊢; rcases hy with rfl | rfl <;> simp) (by kernel_rfl) ?_
          refine .v (fun _ f => .move rfl) (.v (fun _ f => .extract rfl rfl) (.v (fun _ f => .extract rfl rfl) (.nw .alloc fun b5 => (.st (.sw rfl rfl) (fun _ => by intro y hy; simp at hy ⊢; rcases hy with rfl | rfl <;> simp) (.v (fun _ f => .assign rfl) (.nil ?_))))))
          exact ⟨⟨b5, _, _, _, y1, y2, yh⟩, ⟨z1, z2, zh⟩, .cons rfl (.cons rfl (.cons rfl (.cons rfl (.cons rfl (.nil _))))), fun _ s => s.take⟩
        · refine .run [6, 7, 8, 9, 11, 12] (by intro y hy; simp at hy ⊢; rcases hy with rfl | rfl <;> simp) (by kernel_rfl) ?_
          refine .clT (j1 ++ (j2 ++ jh)) rfl rfl (fun w s => hT w (r1.keep s fun y hy => .inl (hsubJ y hy)) (r2.keep s fun y hy => .inl (hsubJ y hy))) (fun h => by intro y hy; simp at hy ⊢; rcases hy with rfl | rfl <;> simp) ?_
          rintro _ _ ⟨⟨x1, x2, xh, y1, y2, yh⟩, rfl, rfl, z1, z2, zh⟩
          dsimp only at z1 z2 zh ⊢
          obtain ⟨E1, e1, rfl⟩ := lown_sl z1
          obtain ⟨E2, e2, rfl⟩ := lown_sl z2
          obtain ⟨Eh, eh, rfl⟩ := down_sl zh
          refine .v (fun _ f => .move rfl) (.v (fun _ f => .extract rfl rfl) (.v (fun _ f => .extract rfl rfl) (.st (.sw rfl rfl) (fun _ => by intro y hy; simp at hy ⊢; rcases hy with rfl | rfl <;> simp) (.v (fun _ f => .assign rfl) (.nil ?_)))))
          exact ⟨⟨b5, _, _, _, y1, y2, yh⟩, ⟨z1, z2, zh⟩, .cons rfl (.cons rfl (.cons rfl (.cons rfl (.cons rfl (.nil _))))), fun _ s => s.take⟩
      · rintro ⟨b5, x1, x2, xh, y1, y2, yh⟩ ⟨z1, z2, zh⟩
        dsimp only at z1 z2 zh ⊢
        obtain ⟨E1, e1, rfl⟩ := lown_sl z1
        obtain ⟨E2, e2, rfl⟩ := lown_sl z2
        obtain ⟨Eh, eh, rfl⟩ := down_sl zh
        refine .seq ((.region (.v (.move rfl) (.v (.loadA (vs := rscells S' (.slice E1 S'.bs.length e1) (.slice E2 S'.ss.length e2) (.slice Eh S'.held.length eh)) rfl .whole rfl) (.v (.nilCheck rfl) (.v (.fieldAddr rfl) (.st (.storeR (prcells b S' (.slice E1 S'.bs.length e1) (.slice E2 S'.ss.length e2) (.slice Eh S'.held.length eh)) rfl rfl) (.nil ?_))))))))
        refine .seq ((.region (.v (.move rfl) (.v (.move rfl) (.and (b2 := decide (er = er)) 71 74 3 3 rfl rfl (fun g1 => .v (.move rfl) (.v (.move rfl) (.v (.eqi rfl rfl) (.nil ⟨rfl, rfl, rfl, rfl⟩)))) (.v (.assign rfl) (.nil ?_)))))))
        exact .ret ⟨[_], ⟨rfl, trivial⟩, PX.H p S' ⟨b, m, v1', v2', k1', k2', es', c', .slice E1 S'.bs.length e1, .slice E2 S'.ss.length e2, .slice Eh S'.held.length eh, y1, y2, yh⟩, fun _ s => s.take, by simp [tup], ⟨b, m, v1', v2', k1', k2', es', c', _, _, _, y1, y2, yh⟩, rfl, sI', z1, z2, zh⟩
    · have eo : S.op t = S := by unfold Sb.op; rw [if_neg h1, if_neg h2]
      rw [eo]
      refine .keep (PX.H p S ⟨b, m, v1, v2, k1, k2, es, c, .slice U1 S.bs.length a1, .slice U2 S.ss.length a2, .slice Uh S.held.length ah, j1, j2, jh⟩) ?_
      refine .seq ((.region (.v (.eqi rfl rfl) (.v (.assign rfl) (.nil ?_)))))
      refine .cond_dec rfl (fun h3 => ?_) (fun h3 => .skip ?_)
      · refine .seq ((.region (.v (.move rfl) ?_)))
        refine .ef (.callT (PX.H p S ⟨b, m, v1, v2, k1, k2, es, c, .slice U1 S.bs.length a1, .slice U2 S.ss.length a2, .slice Uh S.held.length ah, j1, j2, jh⟩) rfl rfl fun w s => tells_ok w p S hk (by omega) ⟨b, m, v1, v2, k1, k2, es, c, .slice U1 S.bs.length a1, .slice U2 S.ss.length a2, .slice Uh S.held.length ah, j1, j2, jh⟩ hI0) ?_
        rintro _ _ ⟨_, ⟨rfl, rfl⟩, rfl⟩
        refine .v (.assign rfl) (.nil ?_)
        exact .ret ⟨[_], ⟨rfl, trivial⟩, PX.H p S ⟨b, m, v1, v2, k1, k2, es, c, .slice U1 S.bs.length a1, .slice U2 S.ss.length a2, .slice Uh S.held.length ah, j1, j2, jh⟩, fun _ s => s.take, rfl, _, rfl, hI0⟩
      · refine .seq ((.region (.v (.assign rfl) (.nil ?_))))
        exact .ret ⟨[_], ⟨rfl, trivial⟩, PX.H p S ⟨b, m, v1, v2, k1, k2, es, c, .slice U1 S.bs.length a1, .slice U2 S.ss.length a2, .slice Uh S.held.length ah, j1, j2, jh⟩, fun _ s => s.take, rfl, _, rfl, hI0⟩
end Go.Proofs.Ytinmhhonpflojaa

/- FeedTakes: the law. -/
namespace Go.Proofs.Ytinmhhonpflojaa
open Go.V
set_option linter.unusedVariables false
set_option linter.unusedSimpArgs false

theorem Sb.go_hold (S : Sb) : S.go.hold = S.hold := by
  generalize hn : S.held.length = n
  induction n using Nat.strongRecOn generalizing S with
  | _ n ih =>
    cases hh : hat (nxs S.seq) S.held with
    | none => rw [Sb.go_none hh]
    | some i =>
      obtain ⟨hi, e⟩ := Sb.go_some hh
      rw [e, ih (n - 1) (by omega) (S.one i S.held[i]) (by rw [Sb.one_held, List.length_eraseIdx_of_lt hi]; omega)]
      unfold Sb.one; rw [Sb.app_hold]
structure Kp (S S' : Sb) : Prop where
  ok : S'.Ok
  hold : S'.hold = S.hold
  size : S'.size ≤ S.size + 1 ∨ S'.size ≤ 1050000
theorem Sb.take_keeps {S : Sb} (h : S.Ok) (hh : S.hold ≤ 1024) {x : Dt} (hx : x.s < 18446744073709551616) : Kp S (S.take x).1 := by
  refine ⟨h.take hx hh, ?_, .inl ?_⟩
  · unfold Sb.take
    split
    · rfl
    · split
      · rfl
      · split
        · split <;> rfl
        · show ((({ S with gr := max S.gr x.s } : Sb).app x).go).hold = _
          rw [Sb.go_hold, Sb.app_hold]
  · unfold Sb.take
    split
    · show S.size ≤ _; omega
    · split
      · show S.size ≤ _; omega
      · split
        · split
          · unfold Sb.size; simp only [List.length_append, List.length_singleton]; omega
          · show S.size ≤ _; omega
        · have h1 := Sb.go_size (({ S with gr := max S.gr x.s } : Sb).app x)
          have h2 := Sb.app_size { S with gr := max S.gr x.s } x
          have h3 : Sb.size { S with gr := max S.gr x.s } = S.size := rfl
          show ((({ S with gr := max S.gr x.s } : Sb).app x).go).size ≤ _
          omega
theorem Sb.rec_keeps {S : Sb} (h : S.Ok) {q : Int} (hq : 0 ≤ q ∧ q < 18446744073709551616) {bs ss : List Lv} (hb : bs.length + ss.length ≤ 1048576) : Kp S (S.rec_ q bs ss).1 := by
  refine ⟨h.rec_ hq, ?_, ?_⟩
  · unfold Sb.rec_
    split
    · rfl
    · split
      · rfl
      · rw [Sb.go_hold]
  · unfold Sb.rec_
    split
    · left; show S.size ≤ _; omega
    · split
      · left; show S.size ≤ _; omega
      · right
        refine Nat.le_trans (Sb.go_size _) ?_
        have := List.length_filter_le (fun x : Dt => decide (q < x.s)) S.held
        have := h.len
        unfold Sb.size
        dsimp only
        omega
theorem Sb.op_keeps {S : Sb} (h : S.Ok) (hh : S.hold ≤ 1024) {t : TO} {w : World} {no : List Nat} (ht : TO.R w no t) : Kp S (S.op t) := by
  unfold Sb.op
  split
  · exact Sb.take_keeps h hh ht.hx
  · split
    · exact Sb.rec_keeps h ht.hq ht.hb
    · exact ⟨h, rfl, .inl (by omega)⟩
theorem Sb.new_ok (hold : Int) : (Sb.new hold).Ok := ⟨by simp [Sb.new], (Fit.nil 1).wrs, (Fit.nil 2).wrs, by simp [Sb.new], by simp [Sb.new], by simp [Sb.new], by simp [Sb.new]; omega⟩
theorem NewSub_yes (w : World) {hold : Int} (h : 0 ≤ hold ∧ hold ≤ 1024) : Does Try.prog 25 [.int .i64 hold] [] w (fun v hs => ∃ b m, v = .tuple ⟨[.pointer (some ⟨b, 0, none⟩), .int .i64 0]⟩ ∧ SubH b m (Sb.new hold) hs) := by
  have := NewSub_ok w hold
  simp only [if_pos h] at this
  exact this
theorem NewSub_no (w : World) {hold : Int} (h : ¬ (0 ≤ hold ∧ hold ≤ 1024)) : Is Try.prog 25 [.int .i64 hold] w (.tuple ⟨[.pointer none, .int .i64 1]⟩) := by
  have := NewSub_ok w hold
  simp only [if_neg h] at this
  exact this
abbrev nil12 : List Value := [.int .i64 0, .int .u64 0, .slice none 0 0, .slice none 0 0, .slice none 0 0, .int .u64 0, .int .u64 0, .int .i64 0, .int .i64 0, .int .i64 0, .int .u64 0, .int .i64 0]
abbrev new12 (hold : Int) : List Value := [.int .i64 hold, .int .u64 0, .slice none 0 0, .slice none 0 0, .slice none 0 0, .int .u64 0, .int .u64 0, .int .i64 0, .int .i64 0, .int .i64 0, .int .u64 0, .int .i64 0]
theorem refNewSub_yes (w : World) {hold : Int} (h : 0 ≤ hold ∧ hold ≤ 1024) : Is Try.prog 26 [.int .i64 hold] w (.tuple ⟨[.agg ⟨new12 hold⟩, .int .i64 0]⟩) := by
  have := refNewSub_ok w hold
  simp only [if_pos h] at this
  exact this
theorem refNewSub_no (w : World) {hold : Int} (h : ¬ (0 ≤ hold ∧ hold ≤ 1024)) : Is Try.prog 26 [.int .i64 hold] w (.tuple ⟨[.agg ⟨nil12⟩, .int .i64 1]⟩) := by
  have := refNewSub_ok w hold
  simp only [if_neg h] at this
  exact this
structure TKS where
  i : Nat
  S1 : Sb
  z1 : PX
  S2 : Sb
  z2 : PX
structure TKS.I (len : Nat) (x : TKS) : Prop where
  le : x.i ≤ len
  p1 : PI x.S1 x.z1
  p2 : PI x.S2 x.z2
  k1 : x.S1.Ok
  k2 : x.S2.Ok
  h1 : x.S1.hold ≤ 1024
  h2 : x.S2.hold ≤ 1024
  s1 : x.S1.size ≤ 1050000 + x.i
  s2 : x.S2.size ≤ 1050000 + x.i
set_option maxRecDepth 20000 in
set_option maxHeartbeats 4000000 in
theorem FeedTakes_ok (w : World) (hold other : Int) (A : Option Addr) (len cap : Nat) (l : List TO) (hA : Rd w [] A (l.flatMap TO.cells)) (hl : len = l.length) (hr : ∀ t ∈ l, TO.R w [] t) (hb : len ≤ 1048576) :
    Is Try.prog 5 [.int .i64 hold, .int .i64 other, .slice A len cap] w (.bool true) := by
  refine Does.pure (Does.of (n := 106) Try.func5 rfl rfl rfl rfl ?_)
  refine .seq ((.region (.v (.assign rfl) (.nil ?_))))
  by_cases hh1 : 0 ≤ hold ∧ hold ≤ 1024
  · refine .seq ((.region (.v (.move rfl) ?_)))
    refine .ef (.call0 rfl rfl fun w s => NewSub_yes w hh1) ?_
    rintro _ _ ⟨_, ⟨b, m, rfl, v1, v2, k1, k2, es, c, rfl, sI⟩, rfl⟩
    refine .v (.move rfl) (.v (.extract rfl rfl) (.v (.extract rfl rfl) (.v (.assign rfl) (.v (.assign rfl) (.nil ?_)))))
    refine .seq ((.region (.v (.move rfl) (.pc rfl rfl (fun w s => refNewSub_yes w hh1) (.v (.move rfl) (.v (.extract rfl rfl) (.v (.extract rfl rfl) (.nw .alloc fun b9 => (.st (.sw rfl rfl) (.v (.assign rfl) (.nil ?_)))))))))))
    by_cases hh2 : 0 ≤ other ∧ other ≤ 1024
    · refine .seq ((.region (.v (.move rfl) ?_)))
      refine .ef (.call0 rfl rfl fun w s => NewSub_yes w hh2) ?_
      rintro _ _ ⟨_, ⟨b', m', rfl, v1', v2', k1', k2', es', c', rfl, sI'⟩, rfl⟩
      refine .v (.move rfl) (.v (.extract rfl rfl) (.v (.extract rfl rfl) (.v (.assign rfl) (.v (.assign rfl) (.nil ?_)))))
      refine .seq ((.region (.v (.move rfl) (.pc rfl rfl (fun w s => refNewSub_yes w hh2) (.v (.move rfl) (.v (.extract rfl rfl) (.v (.extract rfl rfl) (.nw .alloc fun b13 => (.st (.sw rfl rfl) (.v (.assign rfl) (.nil ?_)))))))))))
      refine .seq (.seq ((.region (.v (.move rfl) (.v (.move rfl) (.v (.nei rfl rfl) (.v (.move rfl) (.or (b2 := false) 42 45 3 3 rfl rfl (fun g1 => .v (.move rfl) (.v (.move rfl) (.v (.nei rfl rfl) (.nil ⟨rfl, rfl, rfl, rfl⟩)))) (.v (.move rfl) (.or (b2 := false) 47 52 5 5 rfl rfl (fun g2 => .v (.move rfl) (.v (.eql_ptr_nil rfl rfl) (.v (.move rfl) (.v (.nei rfl rfl) (.v (.neb rfl rfl) (.nil ⟨rfl, rfl, rfl, rfl⟩)))))) (.v (.move rfl) (.or (b2 := false) 54 59 5 5 rfl rfl (fun g3 => .v (.move rfl) (.v (.eql_ptr_nil rfl rfl) (.v (.move rfl) (.v (.nei rfl rfl) (.v (.neb rfl rfl) (.nil ⟨rfl, rfl, rfl, rfl⟩)))))) (.nil ?_)))))))))))))
      refine .cond_false rfl (.skip ?_)
      refine .seq (.seq ((.region (.v (.move rfl) (.v (.eql_ptr_nil rfl rfl) (.v (.move rfl) (.or (b2 := false) 63 65 2 2 rfl rfl (fun g4 => .v (.move rfl) (.v (.eql_ptr_nil rfl rfl) (.nil ⟨rfl, rfl, rfl, rfl⟩))) (.nil ?_))))))))
      refine .cond_false rfl (.skip ?_)
      refine .keep ((b9, .cells (new12 hold) 65) :: (b13, .cells (new12 other) 65) :: (SBH b m (Sb.new hold) v1 v2 k1 k2 es c ++ SBH b' m' (Sb.new other) v1' v2' k1' k2' es' c')) ?_
      refine (.mid (X := Nat × Nat) (fun z => [(2, .slice A len cap), (15, .pointer (some ⟨z.1, 0, none⟩)), (16, .pointer (some ⟨z.2, 0, none⟩))]) (fun z => PX.H z.1 (Sb.new hold) ⟨b, m, v1, v2, k1, k2, es, c, .slice none 0 0, .slice none 0 0, .slice none 0 0, [], [], []⟩ ++ PX.H z.2 (Sb.new other) ⟨b', m', v1', v2', k1', k2', es', c', .slice none 0 0, .slice none 0 0, .slice none 0 0, [], [], []⟩) (fun z => True) (.drawX [0, 1, 2, 4, 5, 6] [(b9, .cells (new12 hold) 65), (b13, .cells (new12 other) 65)] (by intro y hy; simp at hy ⊢; rcases hy with rfl | rfl <;> simp) (by kernel_rfl) (by kernel_rfl) ?_) ?_)
      · refine .v (fun _ f => .move rfl) (.v (fun _ f => .loadA (vs := new12 hold) rfl (.whole (hb := .sub f)) rfl) (.v (fun _ f => .build (out := prcells b (Sb.new hold) (.slice none 0 0) (.slice none 0 0) (.slice none 0 0)) rfl rfl) (.v (fun _ f => .move rfl) (.v (fun _ f => .loadA (vs := new12 other) rfl (.whole (hb := .sub f)) rfl) (.v (fun _ f => .build (out := prcells b' (Sb.new other) (.slice none 0 0) (.slice none 0 0) (.slice none 0 0)) rfl rfl) (.nil ?_))))))
        refine .two 3 7 (by kernel_rfl) (.nw rfl (.box (l := prcells b (Sb.new hold) (.slice none 0 0) (.slice none 0 0) (.slice none 0 0)) rfl rfl) fun b70 => ?_) (.nw rfl (.box (l := prcells b' (Sb.new other) (.slice none 0 0) (.slice none 0 0) (.slice none 0 0)) rfl rfl) fun b74 => ?_)
        · refine .two 7 8 (by kernel_rfl) (.nw rfl (.box (l := prcells b' (Sb.new other) (.slice none 0 0) (.slice none 0 0) (.slice none 0 0)) rfl rfl) fun b74 => ?_) (.v rfl (.assign rfl) ?_)
          · refine .run [8, 9] (by intro y hy; simp at hy ⊢; rcases hy with rfl | rfl <;> simp) (by kernel_rfl) (.v (fun _ f => .assign rfl) (.v (fun _ f => .assign rfl) (.nil ?_)))
            exact ⟨(b70, b74), trivial, .cons rfl (.cons rfl (.cons rfl (.nil _))), fun _ s => s.take⟩
          · refine .run [7, 9] (by intro y hy; simp at hy ⊢; rcases hy with rfl | rfl <;> simp) (by kernel_rfl) (.nw (.box (l := prcells b' (Sb.new other) (.slice none 0 0) (.slice none 0 0) (.slice none 0 0)) rfl rfl) fun b74 => (.v (fun _ f => .assign rfl) (.nil ?_)))
            exact ⟨(b70, b74), trivial, .cons rfl (.cons rfl (.cons rfl (.nil _))), fun _ s => s.take⟩
        · refine .run [3, 8, 9] (by intro y hy; simp at hy ⊢; rcases hy with rfl | rfl <;> simp) (by kernel_rfl) (.nw (.box (l := prcells b (Sb.new hold) (.slice none 0 0) (.slice none 0 0) (.slice none 0 0)) rfl rfl) fun b70 => (.v (fun _ f => .assign rfl) (.v (fun _ f => .assign rfl) (.nil ?_))))
          exact ⟨(b70, b74), trivial, .cons rfl (.cons rfl (.cons rfl (.nil _))), fun _ s => s.take⟩
      · rintro ⟨p1, p2⟩ -
        dsimp only
        refine .seq (.seq ((.region (.v (.assign rfl) (.nil ?_)))))
        refine .block (.loop (X := TKS) (fun x => [(2, .slice A len cap), (15, .pointer (some ⟨p1, 0, none⟩)), (16, .pointer (some ⟨p2, 0, none⟩)), (17, .int .i64 x.i)]) (fun x => x.z1.H p1 x.S1 ++ x.z2.H p2 x.S2) (TKS.I len) (fun x => len - x.i) ⟨0, Sb.new hold, ⟨b, m, v1, v2, k1, k2, es, c, .slice none 0 0, .slice none 0 0, .slice none 0 0, [], [], []⟩, Sb.new other, ⟨b', m', v1', v2', k1', k2', es', c', .slice none 0 0, .slice none 0 0, .slice none 0 0, [], [], []⟩⟩
          ⟨by simp, ⟨sI, OwnS.nil _ _, OwnS.nil _ _, OwnS.nil _ _⟩, ⟨sI', OwnS.nil _ _, OwnS.nil _ _, OwnS.nil _ _⟩, Sb.new_ok _, Sb.new_ok _, hh1.2, hh2.2, by simp [Sb.new, Sb.size], by simp [Sb.new, Sb.size]⟩ (.cons rfl (.cons rfl (.cons rfl (.cons rfl (.nil _))))) (fun _ s => s) ?_)
        rintro ⟨i, S1, z1, S2, z2⟩ ⟨hle, q1, q2, kk1, kk2, hd1, hd2, sz1, sz2⟩
        dsimp only at hle q1 q2 kk1 kk2 hd1 hd2 sz1 sz2 ⊢
        refine .seq (.seq ((.region (.v (.move rfl) (.v (.move rfl) (.v (.len rfl) (.v (.lss rfl rfl) (.nil ?_))))))))
        refine .cond_dec rfl (fun h3 => .skip ?_) (fun h3 => .exit ?_)
        · have hil : i < l.length := by omega
          obtain ⟨bt, ot, rfl, hc⟩ := Rd.recs TO.cells 11 (fun _ => rfl) hA (by omega) (by omega)
          have hR := hr _ (List.getElem_mem hil)
          have g1 := fun hs => fldAt TO.cells 11 (fun _ => rfl) (z := (i : Int)) (hc hs) hil 1 rfl
          have g2 := fun hs => recAt TO.cells 11 (fun _ => rfl) (z := (i : Int)) (hc hs) hil
          generalize l[i] = t at hR g1 g2
          have hRk : ∀ w' hs' no, Sat w [] hs' w' → (∀ y ∈ no, y ∈ bl hs') → TO.R w' no t := fun w' hs' no s hsub => ⟨hR.r1.keep s (fun y hy => s.mine y (hsub y hy)), hR.r2.keep s (fun y hy => s.mine y (hsub y hy)), hR.hx, hR.hq, hR.hb⟩
          refine .seq (.block (.seq ((.region (.v (.move rfl) (.v (.assign rfl) (.nil ?_)))))))
          refine .seq (.seq ((.region (.v (.move rfl) (.v (.move rfl) (.v (.indexAddr rfl rfl (by omega) (by omega)) (.v (.fieldAddr rfl) (.v (.load (v := .bool t.oth) rfl (g1 _)) (.nil ?_)))))))))
          refine .cond rfl (fun h4 => ?_) (fun h4 => .skip ?_)
          · refine .region (.v (.move rfl) (.v (.assign rfl) (.nil ?_)))
            refine .seq ((.region (.v (.move rfl) (.v (.move rfl) (.v (.move rfl) (.v (.indexAddr rfl rfl (by omega) (by omega)) (.v (.loadA (vs := t.cells) rfl (g2 _) rfl) ?_)))))))
            refine .ef (Eff.call (pre := z2.H p2 S2) (fr := z1.H p1 S1) rfl rfl List.perm_append_comm (fun w s => step_ok w p2 S2 kk2 (by omega) z2 q2 t (hRk w _ _ s (fun y hy => by simp only [bl, List.map_append, List.mem_append] at hy ⊢; exact .inr hy)))) ?_
            rintro _ _ ⟨_, ⟨rfl, z2', rfl, q2'⟩, rfl⟩
            obtain ⟨kk2', hd2', sz2'⟩ := Sb.op_keeps kk2 hd2 hR
            generalize S2.op t = S2' at *
            refine .v (.not rfl) (.v (.move rfl) (.or (b2 := false) 95 98 3 3 rfl rfl (fun g5 => .v (.move rfl) (.pl (z1.H p1 S1) rfl rfl (by exact List.Perm.refl _) (fun w s => tells_ok w p2 S2' kk2' (by omega) z2' q2') (.v (.not rfl) (.nil ⟨rfl, rfl, rfl, rfl⟩)))) (.nil ?_)))
            refine .cond_false rfl (.skip ?_)
            refine .region (.v (.move rfl) (.v (.addi rfl rfl (by omega)) (.v (.assign rfl) (.nil ?_))))
            exact ⟨⟨i + 1, S1, z1, S2', z2'⟩, ⟨by show i + 1 ≤ len; omega, q1, q2', kk1, kk2', hd1, by show S2'.hold ≤ _; omega, by show S1.size ≤ _ + (i + 1); omega, by show S2'.size ≤ _ + (i + 1); omega⟩, by show len - (i + 1) < _; omega, .cons rfl (.cons rfl (.cons rfl (.cons rfl (.nil _)))), fun _ s => s.perm List.perm_append_comm⟩
          · refine .seq ((.region (.v (.move rfl) (.v (.move rfl) (.v (.move rfl) (.v (.indexAddr rfl rfl (by omega) (by omega)) (.v (.loadA (vs := t.cells) rfl (g2 _) rfl) ?_)))))))
            refine .ef (Eff.call (pre := z1.H p1 S1) (fr := z2.H p2 S2) rfl rfl (by exact List.Perm.refl _) (fun w s => step_ok w p1 S1 kk1 (by omega) z1 q1 t (hRk w _ _ s (fun y hy => by simp only [bl, List.map_append, List.mem_append] at hy ⊢; exact .inl hy)))) ?_
            rintro _ _ ⟨_, ⟨rfl, z1', rfl, q1'⟩, rfl⟩
            obtain ⟨kk1', hd1', sz1'⟩ := Sb.op_keeps kk1 hd1 hR
            generalize S1.op t = S1' at *
            refine .v (.not rfl) (.v (.move rfl) (.or (b2 := false) 95 98 3 3 rfl rfl (fun g5 => .v (.move rfl) (.pl (z2.H p2 S2) rfl rfl (by exact List.Perm.refl _) (fun w s => tells_ok w p1 S1' kk1' (by omega) z1' q1') (.v (.not rfl) (.nil ⟨rfl, rfl, rfl, rfl⟩)))) (.nil ?_)))
            refine .cond_false rfl (.skip ?_)
            refine .region (.v (.move rfl) (.v (.addi rfl rfl (by omega)) (.v (.assign rfl) (.nil ?_))))
            exact ⟨⟨i + 1, S1', z1', S2, z2⟩, ⟨by show i + 1 ≤ len; omega, q1', q2, kk1', kk2, by show S1'.hold ≤ _; omega, hd2, by show S1'.size ≤ _ + (i + 1); omega, by show S2.size ≤ _ + (i + 1); omega⟩, by show len - (i + 1) < _; omega, .cons rfl (.cons rfl (.cons rfl (.cons rfl (.nil _)))), fun _ s => s⟩
        · refine .seq ((.region (.v (.move rfl) (.pl (z2.H p2 S2) rfl rfl (by exact List.Perm.refl _) (fun w s => tells_ok w p1 S1 kk1 (by omega) z1 q1) (.v (.move rfl) (.and (b2 := true) 102 104 2 2 rfl rfl (fun g7 => .v (.move rfl) (.pl (z1.H p1 S1) rfl rfl List.perm_append_comm (fun w s => tells_ok w p2 S2 kk2 (by omega) z2 q2) (.nil ⟨rfl, rfl, rfl, rfl⟩))) (.v (.assign rfl) (.nil ?_))))))))
          exact .ret ⟨[_], ⟨rfl, trivial⟩, rfl⟩
    · refine .seq ((.region (.v (.move rfl) (.pc rfl rfl (fun w s => NewSub_no w hh2) (.v (.move rfl) (.v (.extract rfl rfl) (.v (.extract rfl rfl) (.v (.assign rfl) (.v (.assign rfl) (.nil ?_))))))))))
      refine .seq ((.region (.v (.move rfl) (.pc rfl rfl (fun w s => refNewSub_no w hh2) (.v (.move rfl) (.v (.extract rfl rfl) (.v (.extract rfl rfl) (.nw .alloc fun b13 => (.st (.sw rfl rfl) (.v (.assign rfl) (.nil ?_)))))))))))
      refine .seq (.seq ((.region (.v (.move rfl) (.v (.move rfl) (.v (.nei rfl rfl) (.v (.move rfl) (.or (b2 := false) 42 45 3 3 rfl rfl (fun g1 => .v (.move rfl) (.v (.move rfl) (.v (.nei rfl rfl) (.nil ⟨rfl, rfl, rfl, rfl⟩)))) (.v (.move rfl) (.or (b2 := false) 47 52 5 5 rfl rfl (fun g2 => .v (.move rfl) (.v (.eql_ptr_nil rfl rfl) (.v (.move rfl) (.v (.nei rfl rfl) (.v (.neb rfl rfl) (.nil ⟨rfl, rfl, rfl, rfl⟩)))))) (.v (.move rfl) (.or (b2 := false) 54 59 5 5 rfl rfl (fun g3 => .v (.move rfl) (.v (.eql_ptr_nil rfl rfl) (.v (.move rfl) (.v (.nei rfl rfl) (.v (.neb rfl rfl) (.nil ⟨rfl, rfl, rfl, rfl⟩)))))) (.nil ?_)))))))))))))
      refine .cond_false rfl (.skip ?_)
      refine .seq (.seq ((.region (.v (.move rfl) (.v (.eql_ptr_nil rfl rfl) (.v (.move rfl) (.or (b2 := true) 63 65 2 2 rfl rfl (fun g4 => .v (.move rfl) (.v (.eql_ptr_nil rfl rfl) (.nil ⟨rfl, rfl, rfl, rfl⟩))) (.nil ?_))))))))
      refine .cond rfl (fun h2 => ?_) (fun h2 => absurd h2 (by simp))
      refine .seq ((.region (.v (.assign rfl) (.nil ?_))))
      exact .ret ⟨[_], ⟨rfl, trivial⟩, rfl⟩
  · refine .seq ((.region (.v (.move rfl) (.pc rfl rfl (fun w s => NewSub_no w hh1) (.v (.move rfl) (.v (.extract rfl rfl) (.v (.extract rfl rfl) (.v (.assign rfl) (.v (.assign rfl) (.nil ?_))))))))))
    refine .seq ((.region (.v (.move rfl) (.pc rfl rfl (fun w s => refNewSub_no w hh1) (.v (.move rfl) (.v (.extract rfl rfl) (.v (.extract rfl rfl) (.nw .alloc fun b9 => (.st (.sw rfl rfl) (.v (.assign rfl) (.nil ?_)))))))))))
    by_cases hh2 : 0 ≤ other ∧ other ≤ 1024
    · refine .seq ((.region (.v (.move rfl) ?_)))
      refine .ef (.call0 rfl rfl fun w s => NewSub_yes w hh2) ?_
      rintro _ _ ⟨_, ⟨b', m', rfl, v1', v2', k1', k2', es', c', rfl, sI'⟩, rfl⟩
      refine .v (.move rfl) (.v (.extract rfl rfl) (.v (.extract rfl rfl) (.v (.assign rfl) (.v (.assign rfl) (.nil ?_)))))
      refine .seq ((.region (.v (.move rfl) (.pc rfl rfl (fun w s => refNewSub_yes w hh2) (.v (.move rfl) (.v (.extract rfl rfl) (.v (.extract rfl rfl) (.nw .alloc fun b13 => (.st (.sw rfl rfl) (.v (.assign rfl) (.nil ?_)))))))))))
      refine .seq (.seq ((.region (.v (.move rfl) (.v (.move rfl) (.v (.nei rfl rfl) (.v (.move rfl) (.or (b2 := false) 42 45 3 3 rfl rfl (fun g1 => .v (.move rfl) (.v (.move rfl) (.v (.nei rfl rfl) (.nil ⟨rfl, rfl, rfl, rfl⟩)))) (.v (.move rfl) (.or (b2 := false) 47 52 5 5 rfl rfl (fun g2 => .v (.move rfl) (.v (.eql_ptr_nil rfl rfl) (.v (.move rfl) (.v (.nei rfl rfl) (.v (.neb rfl rfl) (.nil ⟨rfl, rfl, rfl, rfl⟩)))))) (.v (.move rfl) (.or (b2 := false) 54 59 5 5 rfl rfl (fun g3 => .v (.move rfl) (.v (.eql_ptr_nil rfl rfl) (.v (.move rfl) (.v (.nei rfl rfl) (.v (.neb rfl rfl) (.nil ⟨rfl, rfl, rfl, rfl⟩)))))) (.nil ?_)))))))))))))
      refine .cond_false rfl (.skip ?_)
      refine .seq (.seq ((.region (.v (.move rfl) (.v (.eql_ptr_nil rfl rfl) (.v (.move rfl) (.or (b2 := false) 63 65 2 2 rfl rfl (fun g4 => .v (.move rfl) (.v (.eql_ptr_nil rfl rfl) (.nil ⟨rfl, rfl, rfl, rfl⟩))) (.nil ?_))))))))
      refine .cond rfl (fun h2 => ?_) (fun h2 => absurd h2 (by simp))
      refine .seq ((.region (.v (.assign rfl) (.nil ?_))))
      exact .ret ⟨[_], ⟨rfl, trivial⟩, rfl⟩
    · refine .seq ((.region (.v (.move rfl) (.pc rfl rfl (fun w s => NewSub_no w hh2) (.v (.move rfl) (.v (.extract rfl rfl) (.v (.extract rfl rfl) (.v (.assign rfl) (.v (.assign rfl) (.nil ?_))))))))))
      refine .seq ((.region (.v (.move rfl) (.pc rfl rfl (fun w s => refNewSub_no w hh2) (.v (.move rfl) (.v (.extract rfl rfl) (.v (.extract rfl rfl) (.nw .alloc fun b13 => (.st (.sw rfl rfl) (.v (.assign rfl) (.nil ?_)))))))))))
      refine .seq (.seq ((.region (.v (.move rfl) (.v (.move rfl) (.v (.nei rfl rfl) (.v (.move rfl) (.or (b2 := false) 42 45 3 3 rfl rfl (fun g1 => .v (.move rfl) (.v (.move rfl) (.v (.nei rfl rfl) (.nil ⟨rfl, rfl, rfl, rfl⟩)))) (.v (.move rfl) (.or (b2 := false) 47 52 5 5 rfl rfl (fun g2 => .v (.move rfl) (.v (.eql_ptr_nil rfl rfl) (.v (.move rfl) (.v (.nei rfl rfl) (.v (.neb rfl rfl) (.nil ⟨rfl, rfl, rfl, rfl⟩)))))) (.v (.move rfl) (.or (b2 := false) 54 59 5 5 rfl rfl (fun g3 => .v (.move rfl) (.v (.eql_ptr_nil rfl rfl) (.v (.move rfl) (.v (.nei rfl rfl) (.v (.neb rfl rfl) (.nil ⟨rfl, rfl, rfl, rfl⟩)))))) (.nil ?_)))))))))))))
      refine .cond_false rfl (.skip ?_)
      refine .seq (.seq ((.region (.v (.move rfl) (.v (.eql_ptr_nil rfl rfl) (.v (.move rfl) (.or (b2 := true) 63 65 2 2 rfl rfl (fun g4 => .v (.move rfl) (.v (.eql_ptr_nil rfl rfl) (.nil ⟨rfl, rfl, rfl, rfl⟩))) (.nil ?_))))))))
      refine .cond rfl (fun h2 => ?_) (fun h2 => absurd h2 (by simp))
      refine .seq ((.region (.v (.assign rfl) (.nil ?_))))
      exact .ret ⟨[_], ⟨rfl, trivial⟩, rfl⟩
end Go.Proofs.Ytinmhhonpflojaa

/- bourseref18.Unpack; FeedPacks: the walk. -/
namespace Go.Proofs.Ytinmhhonpflojaa
open Go.V
set_option linter.unusedVariables false
set_option linter.unusedSimpArgs false

theorem refUnpack_ok (w : World) (k a0 a1 a2 a3 a4 a5 a6 : Int) : Is Try.prog 14 [.agg ⟨fr k a0 a1 a2 a3 a4 a5 a6⟩] w (upkV k a0 a1 a2 a3 a4 a5 a6) := by
  refine Does.pure (Does.of (n := 53) Try.func14 rfl rfl rfl rfl ?_)
  refine .seq ((.region (.nw (.box rfl rfl) fun b1 => (.nw .alloc fun b2 => (.v (.assign rfl) (.nil ?_))))))
  refine .seq (.seq ((.region (.v (.fieldAddr rfl) (.v (.load rfl (.one rfl)) (.v (.nei rfl rfl) (.v (.move rfl) (.and 10 13 3 3 rfl rfl (fun g1 => .v (.fieldAddr rfl) (.v (.load rfl (.one rfl)) (.v (.nei rfl rfl) (.nil ⟨rfl, rfl, rfl, rfl⟩)))) (.nil ?_)))))))))
  refine .cond rfl (fun h1 => ?_) (fun h1 => .skip ?_)
  · have hk : k ≠ 80 ∧ k ≠ 81 := by simpa using h1
    have e : upk k a0 a1 a2 a3 a4 a5 a6 = (zd, 41) := by unfold upk; rw [if_pos hk]
    refine .seq ((.region (.v (.build (out := zd) rfl rfl) (.st (.sw rfl rfl) (.v (.assign rfl) (.nil ?_))))))
    exact .ret ⟨[_, _], ⟨⟨_, rfl, .inr ⟨6, _, inferInstance, rfl, rfl, .whole⟩⟩, rfl, trivial⟩, by rw [upkV, e]; rfl⟩
  have hk : ¬ (k ≠ 80 ∧ k ≠ 81) := by
    intro h
    simp [h.1, h.2] at h1
  refine .seq ((.region (.v (.fieldAddr rfl) (.v (.indexAddrA1 rfl rfl (by omega) (by omega)) (.v (.load rfl (.one rfl)) (.v (.fieldAddr rfl) (.v (.load rfl (.one rfl)) (.v (.conv rfl) (.v (.sub_ rfl rfl) (.v (.fieldAddr rfl) (.v (.indexAddrA1 rfl rfl (by omega) (by omega)) (.v (.load rfl (.one rfl)) (.v (.conv rfl) (.v (.fieldAddr rfl) (.v (.indexAddrA1 rfl rfl (by omega) (by omega)) (.v (.load rfl (.one rfl)) (.v (.conv rfl) (.v (.fieldAddr rfl) (.v (.indexAddrA1 rfl rfl (by omega) (by omega)) (.v (.load rfl (.one rfl)) (.v (.fieldAddr rfl) (.v (.indexAddrA1 rfl rfl (by omega) (by omega)) (.v (.load rfl (.one rfl)) (.v (.conv rfl) (.v (.build (out := dcells a0 (kof k) (IntKind.i64.wrap a1) (IntKind.i64.wrap a2) a3 (IntKind.i64.wrap a4)) rfl rfl) (.nw .alloc fun b4 => (.st (.sw rfl rfl) (.nil ?_))))))))))))))))))))))))))))
  refine .seq ((.region (.v (.loadA rfl .whole rfl) (.pc rfl rfl (fun w _ => refPack_ok w a0 (kof k) (IntKind.i64.wrap a1) (IntKind.i64.wrap a2) a3 (IntKind.i64.wrap a4)) (.v (.move rfl) (.v (.extract (vs := [.agg ⟨(pk a0 (kof k) (IntKind.i64.wrap a1) (IntKind.i64.wrap a2) a3 (IntKind.i64.wrap a4)).1⟩, .int .i64 (pk a0 (kof k) (IntKind.i64.wrap a1) (IntKind.i64.wrap a2) a3 (IntKind.i64.wrap a4)).2]) rfl rfl) (.v (.extract (vs := [.agg ⟨(pk a0 (kof k) (IntKind.i64.wrap a1) (IntKind.i64.wrap a2) a3 (IntKind.i64.wrap a4)).1⟩, .int .i64 (pk a0 (kof k) (IntKind.i64.wrap a1) (IntKind.i64.wrap a2) a3 (IntKind.i64.wrap a4)).2]) rfl rfl) (.nw .alloc fun b6 => (.st (.sw rfl rfl (pk_len _ _ _ _ _ _) (pk_ones _ _ _ _ _ _)) (.v (.assign rfl) (.nil ?_)))))))))))
  refine .seq (.seq ((.region (.v (.move rfl) (.v (.nei rfl rfl) (.v (.move rfl) (.or 46 49 3 3 rfl rfl (fun g2 => .v (.loadA rfl .whole (pk_len _ _ _ _ _ _)) (.v (.loadA rfl .whole rfl) (.v (.neA rfl rfl (pk_oks _ _ _ _ _ _) (fr_oks _ _ _ _ _ _ _ _)) (.nil ⟨rfl, rfl, rfl, rfl⟩)))) (.nil ?_))))))))
  refine .cond rfl (fun h2 => ?_) (fun h2 => .skip ?_)
  · have e : upk k a0 a1 a2 a3 a4 a5 a6 = (zd, 40) := by unfold upk; rw [if_neg hk, if_pos (by simpa using h2)]
    refine .seq ((.region (.v (.build (out := zd) rfl rfl) (.st (.sw rfl rfl) (.v (.assign rfl) (.nil ?_))))))
    exact .ret ⟨[_, _], ⟨⟨_, rfl, .inr ⟨6, _, inferInstance, rfl, rfl, .whole⟩⟩, rfl, trivial⟩, by rw [upkV, e]; rfl⟩
  · have e : upk k a0 a1 a2 a3 a4 a5 a6 = (dcells a0 (kof k) (IntKind.i64.wrap a1) (IntKind.i64.wrap a2) a3 (IntKind.i64.wrap a4), 0) := by unfold upk; rw [if_neg hk, if_neg (by simpa using h2)]
    refine .seq ((.region (.v (.loadA rfl .whole rfl) (.st (.sw rfl rfl) (.v (.assign rfl) (.nil ?_))))))
    exact .ret ⟨[_, _], ⟨⟨_, rfl, .inr ⟨6, _, inferInstance, rfl, rfl, .whole⟩⟩, rfl, trivial⟩, by rw [upkV, e]; rfl⟩

theorem okw_d {cs : List Value} (h : okw DL cs) : ∃ s k d p q c, cs = dcells s k d p q c := by
  match cs, h with
  | [.int _ s, .int _ k, .int _ d, .int _ p, .int _ q, .int _ c], ⟨⟨h1, _⟩, ⟨h2, _⟩, ⟨h3, _⟩, ⟨h4, _⟩, ⟨h5, _⟩, ⟨h6, _⟩, _⟩ => exact ⟨s, k, d, p, q, c, by rw [h1, h2, h3, h4, h5, h6]; rfl⟩
theorem okw_f {cs : List Value} (h : okw FL cs) : ∃ k a0 a1 a2 a3 a4 a5 a6, cs = fr k a0 a1 a2 a3 a4 a5 a6 := by
  match cs, h with
  | [.int _ k, .int _ a0, .int _ a1, .int _ a2, .int _ a3, .int _ a4, .int _ a5, .int _ a6], ⟨⟨h1, _⟩, ⟨h2, _⟩, ⟨h3, _⟩, ⟨h4, _⟩, ⟨h5, _⟩, ⟨h6, _⟩, ⟨h7, _⟩, ⟨h8, _⟩, _⟩ => exact ⟨k, a0, a1, a2, a3, a4, a5, a6, by rw [h1, h2, h3, h4, h5, h6, h7, h8]; rfl⟩
theorem cellsEq_refl {ls : List Lf} {xs : List Value} (h : oks ls xs) : cellsEq xs xs = true := (cellsEq_iff h h).2 rfl

theorem FeedPacks_ok (w : World) (s k d p q c : Int) (kf a0 a1 a2 a3 a4 a5 a6 : Int) : Is Try.prog 3 [.agg ⟨dcells s k d p q c⟩, .agg ⟨fr kf a0 a1 a2 a3 a4 a5 a6⟩] w (.bool true) := by
  refine Does.pure (Does.of (n := 51) Try.func3 rfl rfl rfl rfl ?_)
  have e1 := cellsEq_refl (pk_oks s k d p q c)
  have e2 := cellsEq_refl (upk_oks kf a0 a1 a2 a3 a4 a5 a6)
  refine .seq ((.region (.nw (.box rfl rfl) fun b2 => (.nw (.box rfl rfl) fun b3 => (.v (.assign rfl) (.nil ?_))))))
  refine .seq ((.region (.v (.loadA rfl .whole rfl) (.pc rfl rfl (fun w _ => Pack_ok w s k d p q c) (.v (.move rfl) (.v (.extract (vs := [.agg ⟨(pk s k d p q c).1⟩, .int .i64 (pk s k d p q c).2]) rfl rfl) (.v (.extract (vs := [.agg ⟨(pk s k d p q c).1⟩, .int .i64 (pk s k d p q c).2]) rfl rfl) (.nw .alloc fun b5 => (.st (.sw rfl rfl (pk_len _ _ _ _ _ _) (pk_ones _ _ _ _ _ _)) (.v (.assign rfl) (.nil ?_)))))))))))
  refine .seq ((.region (.v (.loadA rfl .whole rfl) (.pc rfl rfl (fun w _ => refPack_ok w s k d p q c) (.v (.move rfl) (.v (.extract (vs := [.agg ⟨(pk s k d p q c).1⟩, .int .i64 (pk s k d p q c).2]) rfl rfl) (.v (.extract (vs := [.agg ⟨(pk s k d p q c).1⟩, .int .i64 (pk s k d p q c).2]) rfl rfl) (.nw .alloc fun b7 => (.st (.sw rfl rfl (pk_len _ _ _ _ _ _) (pk_ones _ _ _ _ _ _)) (.v (.assign rfl) (.nil ?_)))))))))))
  refine .seq ((.region (.v (.loadA rfl .whole rfl) (.pc rfl rfl (fun w _ => Unpack_ok w kf a0 a1 a2 a3 a4 a5 a6) (.v (.move rfl) (.v (.extract (vs := [.agg ⟨(upk kf a0 a1 a2 a3 a4 a5 a6).1⟩, .int .i64 (upk kf a0 a1 a2 a3 a4 a5 a6).2]) rfl rfl) (.v (.extract (vs := [.agg ⟨(upk kf a0 a1 a2 a3 a4 a5 a6).1⟩, .int .i64 (upk kf a0 a1 a2 a3 a4 a5 a6).2]) rfl rfl) (.nw .alloc fun b9 => (.st (.sw rfl rfl (upk_len _ _ _ _ _ _ _ _) (upk_ones _ _ _ _ _ _ _ _)) (.v (.assign rfl) (.nil ?_)))))))))))
  refine .seq ((.region (.v (.loadA rfl .whole rfl) (.pc rfl rfl (fun w _ => refUnpack_ok w kf a0 a1 a2 a3 a4 a5 a6) (.v (.move rfl) (.v (.extract (vs := [.agg ⟨(upk kf a0 a1 a2 a3 a4 a5 a6).1⟩, .int .i64 (upk kf a0 a1 a2 a3 a4 a5 a6).2]) rfl rfl) (.v (.extract (vs := [.agg ⟨(upk kf a0 a1 a2 a3 a4 a5 a6).1⟩, .int .i64 (upk kf a0 a1 a2 a3 a4 a5 a6).2]) rfl rfl) (.nw .alloc fun b11 => (.st (.sw rfl rfl (upk_len _ _ _ _ _ _ _ _) (upk_ones _ _ _ _ _ _ _ _)) (.v (.assign rfl) (.nil ?_)))))))))))
  refine .seq ((.region (.v (.loadA rfl .whole (pk_len _ _ _ _ _ _)) (.v (.loadA rfl .whole (pk_len _ _ _ _ _ _)) (.v (.eqA rfl rfl (pk_oks _ _ _ _ _ _) (pk_oks _ _ _ _ _ _)) (.v (.move rfl) (.and 36 39 3 3 rfl rfl (fun g1 => .v (.move rfl) (.v (.move rfl) (.v (.eqi rfl rfl) (.nil ⟨rfl, rfl, rfl, rfl⟩)))) (.v (.move rfl) (.and 41 44 3 3 rfl rfl (fun g2 => .v (.loadA rfl .whole (upk_len _ _ _ _ _ _ _ _)) (.v (.loadA rfl .whole (upk_len _ _ _ _ _ _ _ _)) (.v (.eqA rfl rfl (upk_oks _ _ _ _ _ _ _ _) (upk_oks _ _ _ _ _ _ _ _)) (.nil ⟨rfl, rfl, rfl, rfl⟩)))) (.v (.move rfl) (.and 46 49 3 3 rfl rfl (fun g3 => .v (.move rfl) (.v (.move rfl) (.v (.eqi rfl rfl) (.nil ⟨rfl, rfl, rfl, rfl⟩)))) (.v (.assign rfl) (.nil ?_)))))))))))))
  exact .ret ⟨[_], ⟨rfl, trivial⟩, congrArg Value.bool (by rw [e1, e2]; simp)⟩
theorem FeedPacks_walk (w : World) (cs fs : List Value) (h : okw DL cs) (h2 : okw FL fs) : Is Try.prog 3 [.agg ⟨cs⟩, .agg ⟨fs⟩] w (.bool true) := by
  obtain ⟨s, k, d, p, q, c, rfl⟩ := okw_d h
  obtain ⟨kf, a0, a1, a2, a3, a4, a5, a6, rfl⟩ := okw_f h2
  exact FeedPacks_ok w s k d p q c kf a0 a1 a2 a3 a4 a5 a6
end Go.Proofs.Ytinmhhonpflojaa

/- FeedFrames: a publisher and a subscriber live. -/
namespace Go.Proofs.Ytinmhhonpflojaa
open Go.V
set_option linter.unusedVariables false
set_option linter.unusedSimpArgs false

theorem Val.pickT {P : Program} {n : Nat} {w0 : World} {own : List Nat} {e : Env} {hs : Hp} {c x y : Operand} {u v : Value} (hc : ev e c = some (.bool true)) (hx : ev e x = some u) (hy : ev e y = some v) : Val P n w0 own e hs (.pick c x y) u := by
  have := Val.pick (P := P) (n := n) (w0 := w0) (own := own) (hs := hs) hc hx hy
  simpa using this
abbrev lv10 : Lv := ⟨10, 5, 1⟩
abbrev lv11 : Lv := ⟨11, 2, 1⟩
abbrev lv12 : Lv := ⟨12, 9, 2⟩
abbrev mg1 : Dt := ⟨1, 1, 2, 10, 5, 1⟩
abbrev mg2 : Dt := ⟨2, 1, 2, 11, 2, 1⟩
theorem live_fit : Fit 2 [lv10, lv11, lv12] := by
  intro i hi
  match i, hi with
  | 0, _ => exact ⟨by simp [Lv.ok], fun h => absurd h (by omega)⟩
  | 1, _ => exact ⟨by simp [Lv.ok], fun _ => by simp [wse]⟩
  | 2, _ => exact ⟨by simp [Lv.ok], fun _ => by simp [wse]⟩
theorem live_pub : pc0.res 2 [] [lv10, lv11, lv12] [] = (⟨2, [], [lv10, lv11]⟩, [mg1, mg2], 0) := by
  have hok : okPub [] [lv10, lv11, lv12] [] := ⟨Fit.nil 1, live_fit, by intro e he; cases he⟩
  unfold Pc.res
  rw [Pc.pub_some hok]
  simp [Pc.next, raw, trs, chg, num, told]
abbrev Sl0 : Sb := ⟨3, 0, [], [], [], 0, ⟨0, 0, 0, 0, 0, 0⟩⟩
abbrev Sl1 : Sb := ⟨3, 0, [], [], [mg2], 2, ⟨0, 0, 0, 0, 0, 0⟩⟩
abbrev Sl2 : Sb := ⟨3, 2, [], [lv10, lv11], [], 2, ⟨0, 0, 0, 0, 0, 0⟩⟩
theorem live_take1 : (Sb.new 3).take mg2 = (Sl1, 181) := by
  simp [Sb.take, Sb.new, Sb.has, hat, nxs, Dt.can, Can]
  decide
theorem live_take2 : Sl1.take mg1 = (Sl2, 0) := by
  simp [Sb.take, Sb.has, hat, nxs, Dt.can, Can, Sb.app, Sb.go, Sb.goes, Sb.one, dn, Dt.lv, wse, List.findIdx?_cons]
  decide
set_option maxRecDepth 20000 in
set_option maxHeartbeats 2000000 in
theorem lives_ok (w : World) : Is Try.prog 29 [] w (.bool true) := by
  refine Does.pure (Does.of (n := 82) Try.func29 rfl rfl rfl rfl ?_)
  refine .seq ((.region (.v (.assign rfl) (.nil ?_))))
  refine .seq ((.region ?_))
  refine .ef (.call0 (vals := [.int .i64 ((2 : Nat) : Int)]) rfl rfl fun w s => NewPublisher_ok w ((2 : Nat) : Int)) ?_
  rintro _ _ ⟨_, hN, rfl⟩
  rcases hN with ⟨-, -, b, rfl, rfl⟩ | ⟨hd, -, -⟩
  case inr => exact absurd (by omega) hd
  refine .v (.move rfl) (.v (.extract rfl rfl) (.v (.extract rfl rfl) (.v (.assign rfl) (.v (.assign rfl) (.nil ?_)))))
  refine .seq ((.region ?_))
  refine .ef (.call0 rfl rfl fun w s => NewSub_yes w (hold := 3) (by omega)) ?_
  rintro _ _ ⟨_, ⟨b', m, rfl, v1, v2, k1, k2, es, c, rfl, sI⟩, rfl⟩
  refine .v (.move rfl) (.v (.extract rfl rfl) (.v (.extract rfl rfl) (.v (.assign rfl) (.v (.assign rfl) (.nil ?_)))))
  refine .seq (.seq ((.region (.v (.move rfl) (.v (.nei rfl rfl) (.v (.move rfl) (.or (b2 := false) 17 19 2 2 rfl rfl (fun g1 => .v (.move rfl) (.v (.nei rfl rfl) (.nil ⟨rfl, rfl, rfl, rfl⟩))) (.v (.move rfl) (.or (b2 := false) 21 23 2 2 rfl rfl (fun g2 => .v (.move rfl) (.v (.eql_ptr_nil rfl rfl) (.nil ⟨rfl, rfl, rfl, rfl⟩))) (.v (.move rfl) (.or (b2 := false) 25 27 2 2 rfl rfl (fun g3 => .v (.move rfl) (.v (.eql_ptr_nil rfl rfl) (.nil ⟨rfl, rfl, rfl, rfl⟩))) (.nil ?_))))))))))))
  refine .cond_false rfl (.skip ?_)
  have hT1 := fun w' => take_ok w' b' m (Sb.new 3) mg2 (SBH b' m (Sb.new 3) v1 v2 k1 k2 es c) ⟨v1, v2, k1, k2, es, c, rfl, sI⟩ (by simp [Sb.new, Sb.size])
  simp only [live_take1] at hT1
  refine .seq ((.region (.v (.move rfl) (.v (.build (out := lv10.cells) rfl rfl) (.v (.build (out := lv11.cells) rfl rfl) (.v (.build (out := lv12.cells) rfl rfl) ?_))))))
  refine .ef (.buildSlice (parts := [(0, .tmp 31), (1, .tmp 32), (2, .tmp 33)]) (vs := [(0, .agg ⟨lv10.cells⟩), (1, .agg ⟨lv11.cells⟩), (2, .agg ⟨lv12.cells⟩)]) (out := lrows [lv10, lv11, lv12]) rfl (by decide) rfl rfl) ?_
  rintro _ _ ⟨b34, rfl, rfl⟩
  refine .ef (.callT (PubB b 2 pc0 (.slice none 0 0) (.slice none 0 0) [] []) rfl rfl fun w s => publishU_ok w b 2 (by omega) pc0 (by simp) (.slice none 0 0) (.slice none 0 0) [] [] (OwnS.nil _ _) (OwnS.nil _ _) none (some ⟨b34, 0, none⟩) none 0 3 0 [] [lv10, lv11, lv12] [] (fun j v hv => by simp [lrows] at hv) (Rd.chunk s (T := 109) (l := lrows [lv10, lv11, lv12]) (Sat.apart (a := [(b34, Ch.cells (lrows [lv10, lv11, lv12]) 109)]) (b := PubB b 2 pc0 (.slice none 0 0) (.slice none 0 0) [] []) s b34 (by simp [bl])) (fun j v hv => by rw [Nat.zero_add]; exact hv)) (fun j v hv => by simp [erows] at hv) (by simp) (by simp) (by simp) (by simp)) ?_
  rintro _ _ ⟨_, ⟨vm, hm, u1, u2, j1, j2, rfl, om, rfl, p1, p2⟩, rfl⟩
  rw [live_pub] at om p1 p2 ⊢
  dsimp only at om p1 p2 ⊢
  obtain ⟨bm, ox, lm, mc, e1, e2⟩ : ∃ (bm ox : Nat) (lm : List Value) (mc : Nat), vm = .slice (some ⟨bm, ox, none⟩) 2 mc ∧ hm = [(bm, .cells lm 24)] := by
    obtain ⟨M, mc, rfl⟩ := OwnS.slice om
    obtain ⟨bm, ox, lm, rfl, -, rfl, -, -, -⟩ := om.some_ (by simp)
    exact ⟨bm, ox, lm, mc, rfl, rfl⟩
  subst e1; subst e2
  have hr1 : ∀ hs', [(bm, Ch.cells lm 24)] ⊆ hs' → At w [] hs' ⟨bm, ox + (0 : Int).toNat * 6, none⟩ mg1.cells := fun hs' hsub => recAt Dt.cells 6 (fun _ => rfl) (l := [mg1, mg2]) (i := 0) (OwnS.at0 om hsub) (by simp)
  have hr2 : ∀ hs', [(bm, Ch.cells lm 24)] ⊆ hs' → At w [] hs' ⟨bm, ox + (1 : Int).toNat * 6, none⟩ mg2.cells := fun hs' hsub => recAt Dt.cells 6 (fun _ => rfl) (l := [mg1, mg2]) (i := 1) (OwnS.at0 om hsub) (by simp)
  refine .v (.move rfl) (.v (.extract rfl rfl) (.v (.extract rfl rfl) (.v (.assign rfl) (.v (.assign rfl) (.nil ?_)))))
  refine .keep (PubB b 2 ⟨2, [], [lv10, lv11]⟩ u1 u2 j1 j2 ++ ([(bm, Ch.cells lm 24)] ++ SBH b' m (Sb.new 3) v1 v2 k1 k2 es c)) ?_
  refine .seq (.seq ((.region (.v (.move rfl) (.v (.nei rfl rfl) (.v (.move rfl) (.or (b2 := false) 40 43 3 3 rfl rfl (fun g4 => .v (.move rfl) (.v (.len rfl) (.v (.nei rfl rfl) (.nil ⟨rfl, rfl, rfl, rfl⟩)))) (.v (.move rfl) (.or (b2 := !cellsEq mg2.cells mg2.cells) 45 50 5 5 rfl rfl (fun g5 => .v (.move rfl) (.v (.indexAddr rfl rfl (by omega) (by omega)) (.v (.loadA (vs := mg2.cells) rfl (hr2 _ (fun y hy => by simp at hy; subst hy; simp)) rfl) (.v (.build (out := mg2.cells) rfl rfl) (.v (.neA rfl rfl (Dt.oks _) (Dt.oks _)) (.nil ⟨rfl, rfl, rfl, rfl⟩)))))) (.nil ?_))))))))))
  have hce : cellsEq mg2.cells mg2.cells = true := (cellsEq_iff (Dt.oks _) (Dt.oks _)).2 rfl
  rw [hce]
  refine .cond_false rfl (.skip ?_)
  refine .seq ((.region (.v (.move rfl) (.v (.move rfl) (.v (.indexAddr rfl rfl (by omega) (by omega)) (.v (.loadA (vs := mg2.cells) rfl (hr2 _ (fun y hy => by simp at hy; subst hy; simp)) rfl) ?_))))))
  refine .ef (.callT (SBH b' m (Sb.new 3) v1 v2 k1 k2 es c) rfl rfl fun w s => hT1 w) ?_
  rintro _ _ ⟨_, ⟨rfl, v1', v2', k1', k2', es', c', rfl, sI'⟩, rfl⟩
  have hT2 := fun w' => take_ok w' b' m Sl1 mg1 (SBH b' m Sl1 v1' v2' k1' k2' es' c') ⟨v1', v2', k1', k2', es', c', rfl, sI'⟩ (by simp [Sb.size])
  simp only [live_take2] at hT2
  refine .v (.eqi rfl rfl) (.v (.move rfl) (.v (.move rfl) (.pc (v := .bool false) rfl rfl (fun w s => Good_ok w b' m Sl1 _ _ (Rd.blk s)) (.v (.not rfl) (.v (v := .bool true) (Val.pickT rfl rfl rfl) (.v (.move rfl) (.v (.move rfl) (.v (.move rfl) (.v (.indexAddr rfl rfl (by omega) (by omega)) (.v (.loadA (vs := mg1.cells) rfl (hr1 _ (fun y hy => by simp at hy; subst hy; simp)) rfl) ?_))))))))))
  refine .ef (.callT (SBH b' m Sl1 v1' v2' k1' k2' es' c') rfl rfl fun w s => hT2 w) ?_
  rintro _ _ ⟨_, ⟨rfl, v1'', v2'', k1'', k2'', es'', c'', rfl, sI''⟩, rfl⟩
  have o1 := sI''.o1
  have o2 := sI''.o2
  obtain ⟨A1, a1, rfl⟩ := lown_sl o1
  obtain ⟨A2, a2, rfl⟩ := lown_sl o2
  obtain ⟨U1, c1, rfl⟩ := lown_sl p1
  obtain ⟨U2, c2, rfl⟩ := lown_sl p2
  refine .v (.eqi rfl rfl) (.v (v := .bool true) (Val.pickT rfl rfl rfl) (.v (.move rfl) (.v (.move rfl) (.pc (v := .bool true) rfl rfl (fun w s => Good_ok w b' m Sl2 _ _ (Rd.blk s)) (.v (v := .bool true) (Val.pickT rfl rfl rfl) (.v (.move rfl) (.v (.move rfl) ?_)))))))
  refine .ef (.call0 rfl rfl fun w s => SPicture_ok w b' m Sl2 A1 A2 a1 a2 (Rd.blk s) (OwnS.rd o1 s (no := []) (fun y hy => by simp [hy]) (by simp)) (OwnS.rd o2 s (no := []) (fun y hy => by simp [hy]) (by simp)) (by simp [Sb.size])) ?_
  rintro _ _ ⟨_, ⟨E1, E2, e1, e2, q1, q2, rfl, rfl, x1, x2⟩, rfl⟩
  dsimp only at x1 x2 ⊢
  refine .v (.move rfl) ?_
  refine .ef (.call0 rfl rfl fun w s => Picture_ok w b ((2 : Nat) : Int) ⟨2, [], [lv10, lv11]⟩ U1 U2 c1 c2 (Rd.blk (T := 105) s) (OwnS.rd p1 s (no := []) (fun y hy => by simp [hy]) (by simp)) (OwnS.rd p2 s (no := []) (fun y hy => by simp [hy]) (by simp)) (by simp)) ?_
  rintro _ _ ⟨_, ⟨F1, F2, f1, f2, r1, r2, rfl, rfl, y1, y2⟩, rfl⟩
  dsimp only at y1 y2 ⊢
  refine .pc (v := .bool true) rfl rfl (fun w s => samePicture_ok w E1 E2 F1 F2 e1 e2 f1 f2 ⟨2, [], [lv10, lv11]⟩ (OwnS.rd x1 s (no := []) (fun y hy => by simp [hy]) (by simp)) (OwnS.rd x2 s (no := []) (fun y hy => by simp [hy]) (by simp)) (OwnS.rd y1 s (no := []) (fun y hy => by simp [hy]) (by simp)) (OwnS.rd y2 s (no := []) (fun y hy => by simp [hy]) (by simp)) (by simp)) ?_
  refine .v (v := .bool true) (Val.pickT rfl rfl rfl) (.v (.assign rfl) (.nil ?_))
  exact .ret ⟨[_], ⟨rfl, trivial⟩, rfl⟩
end Go.Proofs.Ytinmhhonpflojaa

/- The law RulesNumbers: its walk. -/
namespace Go.Proofs.Ytinmhhonpflojaa
open Go.V
set_option linter.unusedVariables false
set_option linter.unusedSimpArgs false

def crows (l : List Cm) : List Value := l.flatMap Cm.cells
theorem crows_length (l : List Cm) : (crows l).length = l.length * 9 := flatMap_length _ 9 (fun _ => rfl) l
theorem crows_get (l : List Cm) (i j : Nat) (hi : i < l.length) (hj : j < 9) : (crows l)[i * 9 + j]? = (l[i].cells)[j]? := flatMap_get _ 9 (fun _ => rfl) l i j hi hj
theorem Rd.cm {w : World} {no : List Nat} {A : Option Addr} {l : List Cm} (h : Rd w no A (crows l)) (hn : 0 < l.length) :
    ∃ b o, A = some ⟨b, o, none⟩ ∧ ∀ (i : Nat) (hi : i < l.length) (own : List Nat) (hs : Hp), (∀ x ∈ own, x ∈ no) → At w own hs ⟨b, o + i * 9, none⟩ l[i].cells := by
  obtain ⟨b, o, e, hb, hc⟩ := h.base (by rw [crows_length]; omega)
  refine ⟨b, o, e, fun i hi own hs hsub => At.old (fun j v hv => ?_) (fun hx => hb (hsub _ hx))⟩
  have hj : j < 9 := (List.getElem?_eq_some_iff.1 hv).1
  rw [add_none, Nat.add_assoc]
  exact hc (i * 9 + j) v (by rw [crows_get l i j hi hj]; exact hv)
theorem drop_at {α : Type} {l : List α} {j : Nat} (hj : j < l.length) : l.drop j = l[j] :: l.drop (j + 1) := List.drop_eq_getElem_cons hj
structure N3 where
  j : Nat
  s : Int
  h : Int
structure BS where
  i : Nat
  B : Bk
  v1 : Value
  v2 : Value
  k1 : Hp
  k2 : Hp
abbrev BS.H (x : BS) (b : Nat) : Hp := Tb b (Bc x.B x.v1 x.v2) :: (x.k1 ++ x.k2)
def BS.I (x : BS) (n : Nat) : Prop := x.i ≤ n ∧ x.B.Inv ∧ Side x.v1 x.B.bs x.k1 ∧ Side x.v2 x.B.ss x.k2
end Go.Proofs.Ytinmhhonpflojaa

/- VE: drawn regions in which blocks are let go. -/
namespace Go
namespace V
open Go.RowKit
set_option linter.unusedVariables false
section
variable {P : Program} {n : Nat} {w0 : World} {own : List Nat} {e : Env} {hs hs2 F : Hp} {ops : Array Oper} {l : List Oper} {K : Env → Hp → Prop}
/-- some of what lies there is let go -/
theorem JK.heap (k : ∀ w, Sat w0 own hs w → Sat w0 own hs2 w) (hF : F ⊆ hs → F ⊆ hs2) (h : JK P n w0 own ops F l e hs2 K) : JK P n w0 own ops F l e hs K :=
  fun m is listed Z h1 h2 h3 hz a w hr s hf => h m is listed Z h1 h2 (hF h3) hz a w hr (k w s) (hF hf)
theorem JK.dropA {h : Hp} (hF : F ⊆ hs) (k : JK P n w0 own ops F l e hs K) : JK P n w0 own ops F l e (h ++ hs) K :=
  JK.heap (fun w s => s.sub (List.sublist_append_right _ _)) (fun _ => hF) k
end
end V
end Go

/- FeedBooks: the law. -/
namespace Go.Proofs.Ytinmhhonpflojaa
open Go.V
set_option linter.unusedVariables false
set_option linter.unusedSimpArgs false

/-- a Publish of what a book is behind a command -/
theorem pubDo_ok (w : World) (b d : Nat) (hd : d ≤ 64) {B : Bk} {c : Cm} (hV : B.Vl) (hw : c.wf) (q : Int) (hq : 0 ≤ q ∧ q < 18446744073709551616) (v1 v2 : Value) (k1 k2 : Hp) (h1 : LOwn v1 (lvs d B.bs) k1) (h2 : LOwn v2 (lvs d B.ss) k2) (B1 B2 Be : Option Addr) (c1 c2 ce : Nat)
    (r1 : Rd w (bl (PubB b d (pcB q d B) v1 v2 k1 k2)) B1 (lrows (lvs 4096 (B.does c).1.bs))) (r2 : Rd w (bl (PubB b d (pcB q d B) v1 v2 k1 k2)) B2 (lrows (lvs 4096 (B.does c).1.ss))) (re : Rd w (bl (PubB b d (pcB q d B) v1 v2 k1 k2)) Be (erows (B.does c).2))
    (hc1 : (lvs 4096 (B.does c).1.bs).length ≤ c1) (hc2 : (lvs 4096 (B.does c).1.ss).length ≤ c2) :
    Does Try.prog 18 [.pointer (some ⟨b, 0, none⟩), .slice B1 (lvs 4096 (B.does c).1.bs).length c1, .slice B2 (lvs 4096 (B.does c).1.ss).length c2, .slice Be (B.does c).2.length ce] (PubB b d (pcB q d B) v1 v2 k1 k2) w
      (fun v hs => ∃ M mc hm v1' v2' k1' k2', v = .tuple ⟨[.slice M (tellB d B (B.does c).1 (B.does c).2).length mc, .int .i64 0]⟩ ∧ DOwn (.slice M (tellB d B (B.does c).1 (B.does c).2).length mc) (num q (tellB d B (B.does c).1 (B.does c).2)) hm ∧
        hs = PubB b d (pcB ((q + (tellB d B (B.does c).1 (B.does c).2).length) % 18446744073709551616) d (B.does c).1) v1' v2' k1' k2' ++ hm ∧ LOwn v1' (lvs d (B.does c).1.bs) k1' ∧ LOwn v2' (lvs d (B.does c).1.ss) k2') := by
  have h' := does_vl hV hw
  have a := vl_len hV
  have a' := vl_len h'
  have e := does_len hV.inv hw
  have l1 := lvs_len d B.bs
  have l2 := lvs_len d B.ss
  have m1 := lvs_le hV d
  have l3 := lvs_len 4096 (B.does c).1.bs
  have l4 := lvs_len 4096 (B.does c).1.ss
  have h := publishU_ok w b d hd (pcB q d B) hq v1 v2 k1 k2 h1 h2 B1 B2 Be c1 c2 ce (lvs 4096 (B.does c).1.bs) (lvs 4096 (B.does c).1.ss) (B.does c).2 r1 r2 re hc1 hc2
  rw [pub_does hV hw] at h
  refine Does.mono (h (by omega) (by show (lvs d B.bs).length + (lvs d B.ss).length ≤ 1000; omega)) ?_
  rintro v hs ⟨vm, hm, v1', v2', k1', k2', rfl, om, rfl, o1, o2⟩
  dsimp only at om o1 o2 ⊢
  obtain ⟨M, mc, rfl⟩ := OwnS.slice om
  unfold DOwn at om
  rw [num_length] at om ⊢
  exact ⟨M, mc, hm, v1', v2', k1', k2', rfl, by unfold DOwn; rw [num_length]; exact om, rfl, o1, o2⟩
theorem trs_at {evs : List Ev} {k : Nat} (h : k < evs.length) (h3 : evs[k].kind = 3) : ∃ h' : (trs (evs.take k)).length < (trs evs).length, (trs evs)[(trs (evs.take k)).length] = trd evs[k] := by
  have e : trs evs = trs (evs.take k) ++ (trd evs[k] :: trs (evs.drop (k + 1))) := by
    have h1 : evs = evs.take k ++ evs[k] :: evs.drop (k + 1) := by rw [← List.drop_eq_getElem_cons h, List.take_append_drop]
    have h2 : trs (evs.take k ++ evs[k] :: evs.drop (k + 1)) = trs (evs.take k) ++ (trd evs[k] :: trs (evs.drop (k + 1))) := by
      unfold trs
      rw [List.filter_append, List.filter_cons_of_pos (by simpa using h3), List.map_append, List.map_cons]
    rw [← h1] at h2
    exact h2
  have hl : (trs (evs.take k)).length < (trs evs).length := by rw [e, List.length_append, List.length_cons]; omega
  refine ⟨hl, ?_⟩
  have : (trs evs)[(trs (evs.take k)).length]? = some (trd evs[k]) := by rw [e, List.getElem?_append_right (Nat.le_refl _)]; simp
  rw [List.getElem?_eq_getElem hl] at this
  exact Option.some.inj this
structure FBS where
  i : Nat
  B : Bk
  v1 : Value
  v2 : Value
  k1 : Hp
  k2 : Hp
  q : Int
  u1 : Value
  u2 : Value
  j1 : Hp
  j2 : Hp
abbrev FBS.H (b p d : Nat) (x : FBS) : Hp := Tb b (Bc x.B x.v1 x.v2) :: (x.k1 ++ x.k2) ++ PubB p d (pcB x.q d x.B) x.u1 x.u2 x.j1 x.j2
structure FBS.I (len d : Nat) (x : FBS) : Prop where
  le : x.i ≤ len
  vl : x.B.Vl
  hq : 0 ≤ x.q ∧ x.q < 18446744073709551616
  s1 : Side x.v1 x.B.bs x.k1
  s2 : Side x.v2 x.B.ss x.k2
  l1 : LOwn x.u1 (lvs d x.B.bs) x.j1
  l2 : LOwn x.u2 (lvs d x.B.ss) x.j2
theorem New_yes (w : World) {c m : Int} (h : Cfg c m) : Does Try.prog 30 [.agg ⟨[.int .i64 c, .int .i64 m]⟩] [] w (fun v hs => ∃ b, v = .tuple ⟨[.pointer (some ⟨b, 0, none⟩), .int .i64 0]⟩ ∧ hs = [(b, .cells (bnew c m) 126)]) := by
  have := New_ok w c m
  simp only [if_pos h] at this
  exact this
theorem New_no (w : World) {c m : Int} (h : ¬ Cfg c m) : Is Try.prog 30 [.agg ⟨[.int .i64 c, .int .i64 m]⟩] w (.tuple ⟨[.pointer none, .int .i64 1]⟩) := by
  have := New_ok w c m
  simp only [if_neg h] at this
  exact this
theorem NewPub_yes (w : World) {d : Nat} (h : 1 ≤ d ∧ d ≤ 64) : Does Try.prog 15 [.int .i64 d] [] w (fun v hs => ∃ b, v = .tuple ⟨[.pointer (some ⟨b, 0, none⟩), .int .i64 0]⟩ ∧ hs = [Ub b d pc0 (.slice none 0 0) (.slice none 0 0)]) := by
  refine (NewPublisher_ok w d).mono ?_
  rintro v hs (⟨_, _, b, rfl, rfl⟩ | ⟨hn, _⟩)
  · exact ⟨b, rfl, rfl⟩
  · omega
theorem NewPub_no (w : World) {d : Int} (h : ¬ (1 ≤ d ∧ d ≤ 64)) : Is Try.prog 15 [.int .i64 d] w (.tuple ⟨[.pointer none, .int .i64 1]⟩) := by
  refine (NewPublisher_ok w d).mono ?_
  rintro v hs (⟨h1, h2, _⟩ | ⟨_, rfl, rfl⟩)
  · omega
  · exact ⟨rfl, rfl⟩
/-- the levels that a book tells -/
theorem DepthB_ok (w : World) (b : Nat) (B : Bk) (hV : B.Vl) (A1 A2 : Option Addr) (c1 c2 : Nat) (k1 k2 : Hp) (h1 : Side (.slice A1 B.bs.length c1) B.bs k1) (h2 : Side (.slice A2 B.ss.length c2) B.ss k2) (d : Nat) {own : List Nat} {hs fr : Hp} {w0 : World} (s : Sat w0 own hs w)
    [tk : TakeI (Tb b (Bc B (.slice A1 B.bs.length c1) (.slice A2 B.ss.length c2)) :: (k1 ++ k2)) hs fr] :
    Does Try.prog 32 [.pointer (some ⟨b, 0, none⟩), .int .i64 1, .int .i64 d] [] w (fun v hs => ∃ A c, v = .slice A (lvs d B.bs).length c ∧ LOwn (.slice A (lvs d B.bs).length c) (lvs d B.bs) hs) ∧
    Does Try.prog 32 [.pointer (some ⟨b, 0, none⟩), .int .i64 2, .int .i64 d] [] w (fun v hs => ∃ A c, v = .slice A (lvs d B.ss).length c ∧ LOwn (.slice A (lvs d B.ss).length c) (lvs d B.ss) hs) := by
  have s' := s.take (pre := Tb b (Bc B (.slice A1 B.bs.length c1) (.slice A2 B.ss.length c2)) :: (k1 ++ k2))
  have hl := vl_len hV
  constructor
  · refine (Depth_ok w b 2 1 d rfl A1 c1 B.bs (Rd.chunk s' (T := 126) (l := Bc B (.slice A1 B.bs.length c1) (.slice A2 B.ss.length c2)) (by simp) (fun j v hv => by match j, hv with | 0, hv => simpa using hv)) (OwnS.rd h1 s' (no := []) (fun y hy => by simp [hy]) (by simp)) (by omega)).mono ?_
    intro v hs h
    obtain ⟨A, c, rfl⟩ := lown_sl h
    exact ⟨A, c, rfl, h⟩
  · refine (Depth_ok w b 3 2 d rfl A2 c2 B.ss (Rd.chunk s' (T := 126) (l := Bc B (.slice A1 B.bs.length c1) (.slice A2 B.ss.length c2)) (by simp) (fun j v hv => by match j, hv with | 0, hv => simpa using hv)) (OwnS.rd h2 s' (no := []) (fun y hy => by simp [hy]) (by simp)) (by omega)).mono ?_
    intro v hs h
    obtain ⟨A, c, rfl⟩ := lown_sl h
    exact ⟨A, c, rfl, h⟩
end Go.Proofs.Ytinmhhonpflojaa

/- bourselaw18.shown: what a publisher over a book tells, command by command. -/
namespace Go.Proofs.Ytinmhhonpflojaa
open Go.V
set_option linter.unusedVariables false
set_option linter.unusedSimpArgs false

/-- a picture in memory -/
structure PicD where
  pc : Pc
  vB : Value
  vS : Value
  hB : Hp
  hS : Hp
def PicD.cells (d : PicD) : List Value := pcells d.pc.seq d.vB d.vS
structure PicD.ok (d : PicD) : Prop where
  b : LOwn d.vB d.pc.bs d.hB
  s : LOwn d.vS d.pc.ss d.hS
def picH (l : List PicD) : Hp := l.flatMap fun d => d.hB ++ d.hS
def prows (l : List PicD) : List Value := l.flatMap PicD.cells
theorem prows_app (a b : List PicD) : prows (a ++ b) = prows a ++ prows b := by simp [prows]
theorem picH_app (a b : List PicD) : picH (a ++ b) = picH a ++ picH b := by simp [picH]
/-- what was told up to now -/
structure Sh where
  B : Bk
  q : Int
  dt : List Dt
  pcs : List Pc
noncomputable def Sh.step (d : Nat) (s : Sh) (c : Cm) : Sh :=
  ⟨(s.B.does c).1, (s.q + (tellB d s.B (s.B.does c).1 (s.B.does c).2).length) % 18446744073709551616, s.dt ++ num s.q (tellB d s.B (s.B.does c).1 (s.B.does c).2),
    s.pcs ++ [pcB ((s.q + (tellB d s.B (s.B.does c).1 (s.B.does c).2).length) % 18446744073709551616) d (s.B.does c).1]⟩
noncomputable def Sh.run (d : Nat) (cc cm : Int) (l : List Cm) : Sh := l.foldl (Sh.step d) ⟨newB cc cm, 0, [], [pc0]⟩
theorem Sh.run_succ {d : Nat} {cc cm : Int} {l : List Cm} {i : Nat} (h : i < l.length) : Sh.run d cc cm (l.take (i + 1)) = Sh.step d (Sh.run d cc cm (l.take i)) l[i] := by
  unfold Sh.run
  rw [List.take_add_one, List.getElem?_eq_getElem h, List.foldl_append]; rfl
/-- a show in memory -/
abbrev ShB (bs p b : Nat) (vD vP : Value) : Nat × Ch := (bs, .cells [.pointer (some ⟨p, 0, none⟩), .pointer (some ⟨b, 0, none⟩), vD, vP] 95)
structure ShI (dt : List Dt) (vD : Value) (hD : Hp) (ps : List PicD) (vP : Value) (hP : Hp) : Prop where
  d : DOwn vD dt hD
  p : OwnS 40 3 vP ps.length (prows ps) hP
  o : ∀ d ∈ ps, d.ok
structure SS where
  x : FBS
  dt : List Dt
  vD : Value
  hD : Hp
  ps : List PicD
  vP : Value
  hP : Hp
abbrev SS.H (bs p b dp : Nat) (x : SS) : Hp := ShB bs p b x.vD x.vP :: (x.hD ++ (x.hP ++ (picH x.ps ++ FBS.H b p dp x.x)))
structure SS.I (len dp : Nat) (cc cm : Int) (l : List Cm) (x : SS) : Prop where
  f : FBS.I len dp x.x
  o : ShI x.dt x.vD x.hD x.ps x.vP x.hP
  r : Sh.run dp cc cm (l.take x.x.i) = ⟨x.x.B, x.x.q, x.dt, x.ps.map (·.pc)⟩
  n : x.dt.length ≤ x.x.i * 4100000
  m : x.ps.length = x.x.i + 1
set_option maxRecDepth 20000 in
set_option maxHeartbeats 4000000 in
theorem shown_no (w : World) (d cc cm : Int) (A : Option Addr) (len cap : Nat) (h : ¬ ((1 ≤ d ∧ d ≤ 64) ∧ Cfg cc cm)) :
    Is Try.prog 33 [.int .i64 d, .agg ⟨[.int .i64 cc, .int .i64 cm]⟩, .slice A len cap] w (.tuple ⟨[.pointer none, .bool true]⟩) := by
  refine Does.pure (Does.of (n := 100) Try.func33 rfl rfl rfl rfl ?_)
  refine .seq ((.region (.nw (.box rfl rfl) fun b4 => (.v (.assign rfl) (.v (.assign rfl) (.nil ?_))))))
  by_cases hd : 1 ≤ d ∧ d ≤ 64
  case neg =>
    refine .seq ((.region (.v (.move rfl) (.pc rfl rfl (fun w s => NewPub_no w hd) ?_))))
    refine .v (.move rfl) (.v (.extract rfl rfl) (.v (.extract rfl rfl) (.v (.assign rfl) (.v (.assign rfl) (.nil ?_)))))
    refine .mid (X := Value × Int) (fun z => [(8, .pointer none), (9, .int .i64 1), (10, z.1), (11, .int .i64 z.2)]) (fun _ => []) (fun _ => True) (.region (.v (.loadA (vs := [.int .i64 cc, .int .i64 cm]) rfl .whole rfl) ?_)) ?_
    · by_cases hc : Cfg cc cm
      · refine .ef (.call0 rfl rfl fun w s => New_yes w hc) ?_
        rintro _ _ ⟨_, ⟨b, rfl, rfl⟩, rfl⟩
        refine .v (.move rfl) (.v (.extract rfl rfl) (.v (.extract rfl rfl) (.v (.assign rfl) (.v (.assign rfl) (.nil ?_)))))
        exact ⟨(_, _), trivial, .cons rfl (.cons rfl (.cons rfl (.cons rfl (.nil _)))), fun _ s => s.sub (List.nil_sublist _)⟩
      · refine .pc rfl rfl (fun w s => New_no w hc) ?_
        refine .v (.move rfl) (.v (.extract rfl rfl) (.v (.extract rfl rfl) (.v (.assign rfl) (.v (.assign rfl) (.nil ?_)))))
        exact ⟨(_, _), trivial, .cons rfl (.cons rfl (.cons rfl (.cons rfl (.nil _)))), fun _ s => s.sub (List.nil_sublist _)⟩
    · rintro ⟨zv, zi⟩ -
      dsimp only
      refine .seq (.seq ((.region (.v (.move rfl) (.v (.nei rfl rfl) (.v (.move rfl) (.or (b2 := true) 29 31 2 2 rfl rfl (fun g1 => absurd g1 (by simp)) (.v (.move rfl) (.or (b2 := true) 33 35 2 2 rfl rfl (fun g2 => absurd g2 (by simp)) (.v (.move rfl) (.or (b2 := true) 37 39 2 2 rfl rfl (fun g3 => absurd g3 (by simp)) (.nil ?_))))))))))))
      refine .cond rfl (fun _ => ?_) (fun h => absurd h (by simp))
      refine .seq ((.region (.v (.move rfl) (.v (.nei rfl rfl) (.v (.move rfl) (.or (b2 := true) 43 45 2 2 rfl rfl (fun g4 => absurd g4 (by simp)) (.v (.assign rfl) (.v (.assign rfl) (.nil ?_)))))))))
      exact .ret ⟨[_, _], ⟨rfl, rfl, trivial⟩, rfl⟩
  have hc : ¬ Cfg cc cm := fun hc => h ⟨hd, hc⟩
  obtain ⟨dp, rfl⟩ : ∃ dp : Nat, d = dp := ⟨d.toNat, by omega⟩
  have hd' : 1 ≤ dp ∧ dp ≤ 64 := by omega
  refine .seq ((.region (.v (.move rfl) ?_)))
  refine .ef (.call0 rfl rfl fun w s => NewPub_yes w hd') ?_
  rintro _ _ ⟨_, ⟨p, rfl, rfl⟩, rfl⟩
  refine .v (.move rfl) (.v (.extract rfl rfl) (.v (.extract rfl rfl) (.v (.assign rfl) (.v (.assign rfl) (.nil ?_)))))
  refine .seq ((.region (.v (.loadA (vs := [.int .i64 cc, .int .i64 cm]) rfl .whole rfl) ?_)))
  refine .pc rfl rfl (fun w s => New_no w hc) ?_
  refine .v (.move rfl) (.v (.extract rfl rfl) (.v (.extract rfl rfl) (.v (.assign rfl) (.v (.assign rfl) (.nil ?_)))))
  refine .seq (.seq ((.region (.v (.move rfl) (.v (.nei rfl rfl) (.v (.move rfl) (.or (b2 := true) 29 31 2 2 rfl rfl (fun g1 => .v (.move rfl) (.v (.nei rfl rfl) (.nil ⟨rfl, rfl, rfl, rfl⟩))) (.v (.move rfl) (.or (b2 := true) 33 35 2 2 rfl rfl (fun g2 => absurd g2 (by simp)) (.v (.move rfl) (.or (b2 := true) 37 39 2 2 rfl rfl (fun g3 => absurd g3 (by simp)) (.nil ?_))))))))))))
  refine .cond rfl (fun _ => ?_) (fun h => absurd h (by simp))
  refine .seq ((.region (.v (.move rfl) (.v (.nei rfl rfl) (.v (.move rfl) (.or (b2 := true) 43 45 2 2 rfl rfl (fun g4 => .v (.move rfl) (.v (.nei rfl rfl) (.nil ⟨rfl, rfl, rfl, rfl⟩))) (.v (.assign rfl) (.v (.assign rfl) (.nil ?_)))))))))
  exact .ret ⟨[_, _], ⟨rfl, rfl, trivial⟩, rfl⟩
set_option maxRecDepth 20000 in
set_option maxHeartbeats 4000000 in
theorem shown_yes (w : World) (dp : Nat) (cc cm : Int) (A : Option Addr) (len cap : Nat) (l : List Cm) (hl : len = l.length) (hA : Rd w [] A (crows l)) (hb : len ≤ 600000) (hw : ∀ c ∈ l, c.wf) (hd' : 1 ≤ dp ∧ dp ≤ 64) (hc : Cfg cc cm) :
    Does Try.prog 33 [.int .i64 dp, .agg ⟨[.int .i64 cc, .int .i64 cm]⟩, .slice A len cap] [] w (fun v hs => ∃ bs p b vD hD ps vP hP, v = .tuple ⟨[.pointer (some ⟨bs, 0, none⟩), .bool true]⟩ ∧
      hs = ShB bs p b vD vP :: (hD ++ (hP ++ picH ps)) ∧ ShI (Sh.run dp cc cm l).dt vD hD ps vP hP ∧ ps.map (·.pc) = (Sh.run dp cc cm l).pcs ∧ (Sh.run dp cc cm l).dt.length ≤ len * 4100000) := by
  refine Does.less (Does.of (n := 100) Try.func33 rfl rfl rfl rfl ?_)
  refine .seq ((.region (.nw (.box rfl rfl) fun b4 => (.v (.assign rfl) (.v (.assign rfl) (.nil ?_))))))
  refine .seq ((.region (.v (.move rfl) ?_)))
  refine .ef (.call0 rfl rfl fun w s => NewPub_yes w hd') ?_
  rintro _ _ ⟨_, ⟨p, rfl, rfl⟩, rfl⟩
  refine .v (.move rfl) (.v (.extract rfl rfl) (.v (.extract rfl rfl) (.v (.assign rfl) (.v (.assign rfl) (.nil ?_)))))
  refine .seq ((.region (.v (.loadA (vs := [.int .i64 cc, .int .i64 cm]) rfl .whole rfl) ?_)))
  refine .ef (.call0 rfl rfl fun w s => New_yes w hc) ?_
  rintro _ _ ⟨_, ⟨b, rfl, rfl⟩, rfl⟩
  refine .v (.move rfl) (.v (.extract rfl rfl) (.v (.extract rfl rfl) (.v (.assign rfl) (.v (.assign rfl) (.nil ?_)))))
  refine .seq (.seq ((.region (.v (.move rfl) (.v (.nei rfl rfl) (.v (.move rfl) (.or (b2 := false) 29 31 2 2 rfl rfl (fun g1 => .v (.move rfl) (.v (.nei rfl rfl) (.nil ⟨rfl, rfl, rfl, rfl⟩))) (.v (.move rfl) (.or (b2 := false) 33 35 2 2 rfl rfl (fun g2 => .v (.move rfl) (.v (.eql_ptr_nil rfl rfl) (.nil ⟨rfl, rfl, rfl, rfl⟩))) (.v (.move rfl) (.or (b2 := false) 37 39 2 2 rfl rfl (fun g3 => .v (.move rfl) (.v (.eql_ptr_nil rfl rfl) (.nil ⟨rfl, rfl, rfl, rfl⟩))) (.nil ?_))))))))))))
  refine .cond rfl (fun h => absurd h (by simp)) (fun _ => .skip ?_)
  refine .heap (hs' := FBS.H b p dp ⟨0, newB cc cm, .slice none 0 0, .slice none 0 0, [], [], 0, .slice none 0 0, .slice none 0 0, [], []⟩) (fun _ s => Sat.take (pre := [(b, .cells (bnew cc cm) 126), Ub p dp pc0 (.slice none 0 0) (.slice none 0 0)]) s) ?_
  refine .seq ((.region (.v (.move rfl) (.v (.move rfl) (.v (.move rfl) ?_)))))
  refine .ef (.call0 rfl rfl fun w s => Picture_ok w p dp pc0 none none 0 0 (Rd.blk (T := 105) s) (Rd.nil _ _ _) (Rd.nil _ _ _) (by decide)) ?_
  rintro _ _ ⟨_, ⟨G1, G2, f1, f2, x1, x2, rfl, rfl, y1, y2⟩, rfl⟩
  refine .ef (.buildSlice (out := pcells 0 (.slice G1 0 f1) (.slice G2 0 f2)) rfl (by decide) rfl rfl) ?_
  rintro _ _ ⟨b51, rfl, rfl⟩
  refine .v (.build (out := [.pointer (some ⟨p, 0, none⟩), .pointer (some ⟨b, 0, none⟩), .slice none 0 0, .slice (some ⟨b51, 0, none⟩) 1 1]) rfl rfl) (.nw (.box rfl rfl) fun bs => (.v (.assign rfl) (.nil ?_)))
  refine .seq (.seq ((.region (.v (.assign rfl) (.nil ?_)))))
  refine .block (.loop (X := SS) (fun x => [(2, .slice A len cap), (8, .pointer (some ⟨p, 0, none⟩)), (10, .pointer (some ⟨b, 0, none⟩)), (12, .pointer (some ⟨bs, 0, none⟩)), (13, .int .i64 x.x.i)]) (SS.H bs p b dp) (SS.I len dp cc cm l) (fun x => len - x.x.i)
    ⟨⟨0, newB cc cm, .slice none 0 0, .slice none 0 0, [], [], 0, .slice none 0 0, .slice none 0 0, [], []⟩, [], .slice none 0 0, [], [⟨pc0, .slice G1 0 f1, .slice G2 0 f2, x1, x2⟩], .slice (some ⟨b51, 0, none⟩) 1 1, [(b51, .cells (pcells 0 (.slice G1 0 f1) (.slice G2 0 f2)) 40)]⟩
    ⟨⟨Nat.zero_le _, newB_vl hc, by show (0 : Int) ≤ 0 ∧ (0 : Int) < 18446744073709551616; decide, OwnS.nil _ _, OwnS.nil _ _, OwnS.nil _ _, OwnS.nil _ _⟩, ⟨OwnS.nil _ _, ⟨rfl, .inr ⟨b51, 0, 1, _, rfl, rfl, Nat.le_refl 1, Nat.le_refl 3, rfl⟩⟩, by intro d hd; simp at hd; subst hd; exact ⟨y1, y2⟩⟩, rfl, Nat.zero_le _, rfl⟩
    (.cons rfl (.cons rfl (.cons rfl (.cons rfl (.cons rfl (.nil _)))))) (fun _ s => by
      have := s.take (pre := ShB bs p b (.slice none 0 0) (.slice (some ⟨b51, 0, none⟩) 1 1) :: (b51, Ch.cells (pcells 0 (.slice G1 0 f1) (.slice G2 0 f2)) 40) :: (x1 ++ (x2 ++ FBS.H b p dp ⟨0, newB cc cm, .slice none 0 0, .slice none 0 0, [], [], 0, .slice none 0 0, .slice none 0 0, [], []⟩)))
      simpa [picH, SS.H] using this) ?_)
  rintro ⟨⟨i, B, v1, v2, k1, k2, q, u1, u2, j1, j2⟩, dt, vD, hD, ps, vP, hP⟩ ⟨⟨hi, hV, hq, s1, s2, l1, l2⟩, ⟨oD, oP, oO⟩, hrun, hn, hm⟩
  dsimp only at hi hV hq s1 s2 l1 l2 oD oP oO hrun hn hm ⊢
  refine .seq (.seq ((.region (.v (.move rfl) (.v (.move rfl) (.v (.len rfl) (.v (.lss rfl rfl) (.nil ?_))))))))
  refine .cond_dec rfl (fun h3 => .skip ?_) (fun h3 => .exit ?_)
  case refine_2 =>
    have hil : i = l.length := by omega
    rw [hil, List.take_length] at hrun
    refine .seq ((.region (.v (.move rfl) (.v (.assign rfl) (.v (.assign rfl) (.nil ?_))))))
    exact .ret ⟨[_, _], ⟨rfl, rfl, trivial⟩, ShB bs p b vD vP :: (hD ++ (hP ++ picH ps)), fun _ s => s.take, bs, p, b, vD, hD, ps, vP, hP, rfl, rfl, by rw [hrun]; exact ⟨oD, oP, oO⟩, by rw [hrun], by rw [hrun]; show dt.length ≤ _; rw [hl, ← hil]; exact hn⟩
  have hil : i < l.length := by omega
  obtain ⟨ba, oa, rfl, hat⟩ := Rd.cm hA (by omega)
  have hcw := hw _ (List.getElem_mem hil)
  have hat := hat i hil
  have hrun' := Sh.run_succ (d := dp) (cc := cc) (cm := cm) hil
  rw [hrun] at hrun'
  unfold Sh.step at hrun'
  dsimp only at hrun'
  generalize l[i] = c at hat hcw hrun'
  have hV' := does_vl hV hcw
  have hel := does_len hV.inv hcw
  have hpub := fun w M1 M2 Me c1 c2 ce => pubDo_ok w p dp hd'.2 hV hcw q hq u1 u2 j1 j2 l1 l2 M1 M2 Me c1 c2 ce
  refine .seq (.block (.seq ((.region (.v (.move rfl) (.v (.move rfl) (.v (.move rfl) (.v (.indexAddr rfl rfl (by omega) (by omega)) (.v (.loadA (vs := c.cells) rfl (hat _ _ (by simp [bl])) rfl) ?_)))))))))
  refine .ef (.callT (Tb b (Bc B v1 v2) :: (k1 ++ k2)) rfl rfl (fun w s => Does.call_Do w b B hV.inv.ok c hcw.2.1 hcw.2.2 v1 v2 k1 k2 s1 s2)) ?_
  have htl := tell_len hV hcw dp
  generalize hDo : B.does c = D at hV' hel hpub htl hrun'
  obtain ⟨B', evs⟩ := D
  rintro _ _ ⟨_, ⟨Ae, ce, v1', v2', k1', k2', ke, rfl, rfl, s1', s2', hE⟩, rfl⟩
  dsimp only at hV' hel hpub s1' s2' hE htl hrun' ⊢
  obtain ⟨D1, d1, rfl⟩ := OwnS.sl s1'
  obtain ⟨D2, d2, rfl⟩ := OwnS.sl s2'
  have hvl := vl_len hV'
  have hlv := fun m => lvs_len m B'.bs
  have hlw := fun m => lvs_len m B'.ss
  refine .v (.assign rfl) (.nil ?_)
  refine .keep (Tb b (Bc B' (.slice D1 B'.bs.length d1) (.slice D2 B'.ss.length d2)) :: (k1' ++ k2') ++ (ke ++ (PubB p dp (pcB q dp B) u1 u2 j1 j2 ++ (ShB bs p b vD vP :: (hD ++ (hP ++ picH ps)))))) ?_
  refine .seq ((.region (.v (.move rfl) (.v (.move rfl) ?_))))
  refine .ef (.call0 rfl rfl fun w s => (DepthB_ok w b B' hV' D1 D2 d1 d2 k1' k2' s1' s2' 4096 s).1) ?_
  rintro _ _ ⟨z1, ⟨E1, e1, rfl, o1⟩, rfl⟩
  refine .v (.move rfl) ?_
  refine .ef (.call0 rfl rfl fun w s => (DepthB_ok w b B' hV' D1 D2 d1 d2 k1' k2' s1' s2' 4096 s).2) ?_
  rintro _ _ ⟨z2, ⟨E2, e2, rfl, o2⟩, rfl⟩
  refine .v (.move rfl) ?_
  refine .ef (.callT (PubB p dp (pcB q dp B) u1 u2 j1 j2) rfl rfl (fun w s => hpub w E1 E2 Ae e1 e2 ce (OwnS.rd o1 s (fun y hy => by simp [hy]) (Sat.apart (a := z1) (b := PubB p dp (pcB q dp B) u1 u2 j1 j2) s)) (OwnS.rd o2 s (fun y hy => by simp [hy]) (Sat.apart (a := z2) (b := PubB p dp (pcB q dp B) u1 u2 j1 j2) s))
    (OwnS.rd hE s (fun y hy => by simp [hy]) (Sat.apart (a := ke) (b := PubB p dp (pcB q dp B) u1 u2 j1 j2) s)) (OwnS.cap_ o1).2 (OwnS.cap_ o2).2)) ?_
  generalize hT : tellB dp B B' evs = T at htl hrun'
  rintro _ _ ⟨_, ⟨M, mc, hmm, u1', u2', j1', j2', rfl, om, rfl, l1', l2'⟩, rfl⟩
  refine .v (.move rfl) (.v (.extract rfl rfl) (.v (.extract rfl rfl) (.v (.assign rfl) (.v (.assign rfl) (.nil ?_)))))
  generalize hq9 : (q + (T.length : Int)) % 18446744073709551616 = q' at l1' l2' hrun' ⊢
  have om' : OwnS 24 6 (.slice M T.length mc) T.length (drows (num q T)) hmm := by
    have := om; unfold DOwn at this; rwa [num_length] at this
  clear om
  refine .keep (hmm ++ (ShB bs p b vD vP :: (hD ++ (hP ++ (picH ps ++ FBS.H b p dp ⟨i, B', .slice D1 B'.bs.length d1, .slice D2 B'.ss.length d2, k1', k2', q', u1', u2', j1', j2'⟩))))) ?_
  obtain ⟨U1, g1, rfl⟩ := lown_sl l1'
  obtain ⟨U2, g2, rfl⟩ := lown_sl l2'
  obtain ⟨AD, cD, rfl⟩ := OwnS.slice oD
  obtain ⟨AP, cP, rfl⟩ := OwnS.slice oP
  refine .seq (.seq ((.region (.v (.move rfl) (.v (.nei rfl rfl) (.nil ?_))))))
  refine .cond_dec rfl (fun h => absurd rfl h) (fun _ => .skip ?_)
  refine .seq ((.region (.v (.move rfl) (.v (.move rfl) (.v (.nilCheck rfl) (.v (.fieldAddr rfl) (.v (.load (v := .slice AD dt.length cD) rfl (.one rfl)) (.v (.move rfl) (.appT (h := hD) (c := dt.length) (k := T.length) (vs := drows dt) (news := drows (num q T)) rfl rfl oD (fun w' s => OwnS.src om' s (fun y hy => by simp [hy]) (by omega)) (by rw [drows_length, num_length]) (drows_ones _) (by omega) (by omega) ?_)))))))))
  intro vD' hD' oD'
  rw [← drows_app] at oD'
  obtain ⟨AD', cD', rfl⟩ := OwnS.slice oD'
  refine .v (.nilCheck rfl) (.v (.fieldAddr rfl) (.st (.storeL (l' := [.pointer (some ⟨p, 0, none⟩), .pointer (some ⟨b, 0, none⟩), .slice AD' (dt.length + T.length) cD', .slice AP ps.length cP]) rfl rfl rfl) (.nil ?_)))
  refine (.drawQ 11 [0, 1, 2, 3, 4, 5, 6, 7, 8, 9, 10, 11] [ShB bs p b (.slice AD' (dt.length + T.length) cD') (.slice AP ps.length cP)] (by intro y hy; simp at hy; subst hy; simp) (by kernel_rfl) (by kernel_rfl) ?_)
  refine .v (fun _ f => .move rfl) (.v (fun _ f => .move rfl) (.v (fun _ f => .nilCheck rfl) (.v (fun _ f => .fieldAddr rfl) (.v (fun _ f => .load (v := .slice AP ps.length cP) rfl (.one (hb := .sub f) rfl)) (.v (fun _ f => .move rfl) ?_)))))
  refine .ef (.call0 rfl rfl fun w s => Picture_ok w p dp (pcB q' dp B') U1 U2 g1 g2 (Rd.blk (T := 105) s) (OwnS.rd l1' s (no := []) (fun y hy => by simp [hy]) (by simp)) (OwnS.rd l2' s (no := []) (fun y hy => by simp [hy]) (by simp)) (by show (lvs dp B'.bs).length + (lvs dp B'.ss).length ≤ _; have := hlv dp; have := hlw dp; omega)) (fun v hs' ⟨h, _, e⟩ f => by subst e; exact fun y hy => List.mem_append_right _ (f hy)) ?_
  rintro _ _ ⟨_, ⟨G1, G2, f1, f2, x1', x2', rfl, rfl, y1', y2'⟩, rfl⟩
  refine .ef (.buildSlice (out := pcells q' (.slice G1 (lvs dp B'.bs).length f1) (.slice G2 (lvs dp B'.ss).length f2)) rfl (by decide) rfl rfl) (fun v hs' ⟨_, _, e⟩ f => by subst e; exact fun y hy => List.mem_cons_of_mem _ (f hy)) ?_
  rintro _ _ ⟨b95, rfl, rfl⟩
  refine .ef (.append (c := ps.length) (k := 1) (vs := prows ps) (news := pcells q' (.slice G1 (lvs dp B'.bs).length f1) (.slice G2 (lvs dp B'.ss).length f2)) (h := hP) rfl rfl oP TakeI.out (fun w' s => Src.of_at s .whole rfl) rfl rfl (by omega) (by omega)) (fun v hs' ⟨_, _, e⟩ f => by subst e; intro y hy; simp at hy; subst hy; simp) ?_
  rintro vP' _ ⟨hP', oP', rfl⟩
  obtain ⟨AP', cP', rfl⟩ := OwnS.slice oP'
  refine .v (fun _ f => .nilCheck rfl) (.v (fun _ f => .fieldAddr rfl) (.st (.storeL (l' := [.pointer (some ⟨p, 0, none⟩), .pointer (some ⟨b, 0, none⟩), .slice AD' (dt.length + T.length) cD', .slice AP' (ps.length + 1) cP']) rfl rfl rfl) (.nil ?_)))
  refine .region (.v (.move rfl) (.v (.addi rfl rfl (by omega)) (.v (.assign rfl) (.nil ?_))))
  refine ⟨⟨⟨i + 1, B', .slice D1 B'.bs.length d1, .slice D2 B'.ss.length d2, k1', k2', q', .slice U1 (lvs dp B'.bs).length g1, .slice U2 (lvs dp B'.ss).length g2, j1', j2'⟩, dt ++ num q T, .slice AD' (dt.length + T.length) cD', hD', ps ++ [⟨pcB q' dp B', .slice G1 (lvs dp B'.bs).length f1, .slice G2 (lvs dp B'.ss).length f2, x1', x2'⟩], .slice AP' (ps.length + 1) cP', hP'⟩,
    ⟨⟨by show i + 1 ≤ len; omega, hV', by show 0 ≤ q' ∧ q' < _; omega, s1', s2', l1', l2'⟩, ⟨?_, ?_, ?_⟩, ?_, ?_, ?_⟩, by show len - (i + 1) < _; omega, .cons rfl (.cons rfl (.cons rfl (.cons rfl (.cons rfl (.nil _))))), fun _ s => ?_⟩
  · show OwnS _ 6 _ (dt ++ num q T).length _ _
    rw [List.length_append, num_length]; exact oD'
  · show OwnS _ 3 _ (ps ++ [_]).length (prows (ps ++ [_])) _
    rw [List.length_append, prows_app]; exact oP'
  · intro d hd
    rcases List.mem_append.1 hd with hd | hd
    · exact oO d hd
    · simp at hd; subst hd; exact ⟨y1', y2'⟩
  · dsimp only; rw [hrun', List.map_append]; rfl
  · show (dt ++ num q T).length ≤ (i + 1) * 4100000
    rw [List.length_append, num_length]; omega
  · show (ps ++ [_]).length = _
    rw [List.length_append, hm]; rfl
  · have := s.take (pre := ShB bs p b (.slice AD' (dt.length + T.length) cD') (.slice AP' (ps.length + 1) cP') :: (hD' ++ (hP' ++ (picH ps ++ (x1' ++ (x2' ++ FBS.H b p dp ⟨i, B', .slice D1 B'.bs.length d1, .slice D2 B'.ss.length d2, k1', k2', q', .slice U1 (lvs dp B'.bs).length g1, .slice U2 (lvs dp B'.ss).length g2, j1', j2'⟩))))))
    simpa [picH, SS.H] using this
end Go.Proofs.Ytinmhhonpflojaa

/- FeedDepths, plain: what shows of two depths have in common. -/
namespace Go.Proofs.Ytinmhhonpflojaa
open Go.V
set_option linter.unusedVariables false
set_option linter.unusedSimpArgs false

/-- the book behind commands -/
noncomputable def bks (cc cm : Int) (l : List Cm) : Bk := l.foldl (fun B c => (B.does c).1) (newB cc cm)
theorem bks_succ {cc cm : Int} {l : List Cm} {i : Nat} (h : i < l.length) : bks cc cm (l.take (i + 1)) = ((bks cc cm (l.take i)).does l[i]).1 := by
  unfold bks
  rw [List.take_add_one, List.getElem?_eq_getElem h, List.foldl_append]; rfl
theorem bks_vl {cc cm : Int} (hc : Cfg cc cm) {l : List Cm} (hw : ∀ c ∈ l, c.wf) : ∀ i, i ≤ l.length → (bks cc cm (l.take i)).Vl
  | 0, _ => newB_vl hc
  | i + 1, h => by
    rw [bks_succ (by omega)]
    exact does_vl (bks_vl hc hw i (by omega)) (hw _ (List.getElem_mem _))
/-- the trades of messages -/
def tds (l : List Dt) : List (Int × Int × Int) := (l.filter fun x => decide (x.k = 2)).map fun x => (x.d, x.p, x.q)
theorem tds_app (a b : List Dt) : tds (a ++ b) = tds a ++ tds b := by simp [tds]
theorem tds_num (s : Int) : ∀ l : List Dt, tds (num s l) = tds l
  | [] => rfl
  | x :: l => by
    have ih := tds_num ((s + 1) % 18446744073709551616) l
    unfold tds at ih ⊢
    simp only [num]
    by_cases h : x.k = 2
    · rw [List.filter_cons_of_pos (by simpa using h), List.filter_cons_of_pos (by simpa using h), List.map_cons, List.map_cons, ih]
    · rw [List.filter_cons_of_neg (by simpa using h), List.filter_cons_of_neg (by simpa using h), ih]
theorem tds_lev {l : List Dt} (h : ∀ x ∈ l, x.k = 1) : tds l = [] := by
  unfold tds
  rw [List.filter_eq_nil_iff.2 (fun x hx => by rw [h x hx]; decide)]; rfl
theorem tds_tell (d : Nat) (B B' : Bk) (evs : List Ev) : tds (tellB d B B' evs) = tds (trs evs) := by
  unfold tellB
  rw [tds_app, tds_app, tds_lev (chg_kind _ _ _), tds_lev (chg_kind _ _ _), List.append_nil, List.append_nil]
theorem run_facts (d : Nat) (cc cm : Int) (l : List Cm) : ∀ n, n ≤ l.length → (Sh.run d cc cm (l.take n)).B = bks cc cm (l.take n) ∧ (Sh.run d cc cm (l.take n)).pcs.length = n + 1 ∧
    ∀ i, i ≤ n → ∃ q, (Sh.run d cc cm (l.take n)).pcs[i]? = some (pcB q d (bks cc cm (l.take i)))
  | 0, _ => ⟨rfl, rfl, fun i hi => by
      have : i = 0 := by omega
      subst this
      exact ⟨0, rfl⟩⟩
  | n + 1, h => by
    obtain ⟨h1, h2, h3⟩ := run_facts d cc cm l n (by omega)
    rw [Sh.run_succ (by omega)]
    unfold Sh.step
    refine ⟨by dsimp only; rw [h1, ← bks_succ (by omega)], by dsimp only; rw [List.length_append, h2]; rfl, fun i hi => ?_⟩
    dsimp only
    by_cases hin : i ≤ n
    · obtain ⟨q, hq⟩ := h3 i hin
      exact ⟨q, by rw [List.getElem?_append_left (by omega)]; exact hq⟩
    · have : i = n + 1 := by omega
      subst this
      rw [List.getElem?_append_right (by omega), h2, h1, ← bks_succ (by omega)]
      exact ⟨_, by simp; rfl⟩
theorem run_trades (d d' : Nat) (cc cm : Int) (l : List Cm) : ∀ n, n ≤ l.length → tds (Sh.run d cc cm (l.take n)).dt = tds (Sh.run d' cc cm (l.take n)).dt
  | 0, _ => rfl
  | n + 1, h => by
    have ih := run_trades d d' cc cm l n (by omega)
    have e1 := (run_facts d cc cm l n (by omega)).1
    have e2 := (run_facts d' cc cm l n (by omega)).1
    rw [Sh.run_succ (by omega), Sh.run_succ (by omega)]
    unfold Sh.step
    dsimp only
    rw [tds_app, tds_app, tds_num, tds_num, tds_tell, tds_tell, e1, e2, ih]
/-- fewer levels are the first of more -/
theorem lvs_pre {B : Bk} (hV : B.Vl) (d m : Nat) : (lvs d B.bs = (lvs (d + m) B.bs).take (lvs d B.bs).length ∧ ((lvs d B.bs).length < d → (lvs (d + m) B.bs).length = (lvs d B.bs).length)) ∧
    (lvs d B.ss = (lvs (d + m) B.ss).take (lvs d B.ss).length ∧ ((lvs d B.ss).length < d → (lvs (d + m) B.ss).length = (lvs d B.ss).length)) := by
  obtain ⟨a1, a2⟩ := lvs_take hV d
  obtain ⟨b1, b2⟩ := lvs_take hV (d + m)
  have key : ∀ (X : List Lv), X.take d = (X.take (d + m)).take (X.take d).length ∧ ((X.take d).length < d → (X.take (d + m)).length = (X.take d).length) := fun X => by
    refine ⟨?_, fun h => ?_⟩
    · rw [List.take_take, List.length_take]
      by_cases h : d ≤ X.length
      · congr 1; omega
      · rw [List.take_of_length_le (by omega), List.take_of_length_le (by omega)]
    · rw [List.length_take] at h ⊢
      rw [List.length_take]; omega
  rw [← a1, ← a2, ← b1, ← b2]
  exact ⟨key _, key _⟩
end Go.Proofs.Ytinmhhonpflojaa
