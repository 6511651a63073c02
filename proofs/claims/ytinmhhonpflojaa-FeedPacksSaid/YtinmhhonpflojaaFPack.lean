/- feed.Pack, feed.Unpack, and the document's: what they compute; FeedPacks: the walk. -/
import Derived.Test.YtinmhhonpflojaaVK
import Derived.Test.YtinmhhonpflojaaVG
import Derived.Test.YtinmhhonpflojaaTy
namespace Go.Proofs.Ytinmhhonpflojaa
open Go.V
set_option linter.unusedVariables false
set_option linter.unusedSimpArgs false

def dcells (s k d p q c : Int) : List Value := [.int .u64 s, .int .i64 k, .int .i64 d, .int .i64 p, .int .u64 q, .int .i64 c]
/-- can a message be? -/
def Can (s k d p q c : Int) : Prop := 1 ≤ s ∧ (d = 1 ∨ d = 2) ∧ (0 ≤ p ∧ p < 262144) ∧ (k = 1 ∧ (q = 0 ∧ c = 0 ∨ 1 ≤ q ∧ 1 ≤ c) ∨ k = 2 ∧ 1 ≤ q ∧ c = 0)
instance (s k d p q c : Int) : Decidable (Can s k d p q c) := by unfold Can; infer_instance
theorem isTick_ok (w : World) (p : Int) : Is Try.prog 66 [.int .i64 p] w (.bool (decide (0 ≤ p) && decide (p < 262144))) := by
  refine Does.pure (Does.of (n := 9) Try.func66 rfl rfl rfl rfl ?_)
  refine .seq ((.region (.v (.assign rfl) (.nil ?_))))
  refine .seq ((.region (.v (.move rfl) (.v (.geq rfl rfl) (.v (.move rfl) (.and 5 7 2 2 rfl rfl (fun g1 => .v (.move rfl) (.v (.lss rfl rfl) (.nil ⟨rfl, rfl, rfl, rfl⟩))) (.v (.assign rfl) (.nil ?_))))))))
  exact .ret ⟨[_], ⟨rfl, trivial⟩, rfl⟩
theorem tick_ok (w : World) (p : Int) : Is Try.prog 67 [.int .i64 p] w (.bool (decide (0 ≤ p) && decide (p < 262144))) := by
  refine Does.pure (Does.of (n := 9) Try.func67 rfl rfl rfl rfl ?_)
  refine .seq ((.region (.v (.assign rfl) (.nil ?_))))
  refine .seq ((.region (.v (.move rfl) (.v (.geq rfl rfl) (.v (.move rfl) (.and 5 7 2 2 rfl rfl (fun g1 => .v (.move rfl) (.v (.lss rfl rfl) (.nil ⟨rfl, rfl, rfl, rfl⟩))) (.v (.assign rfl) (.nil ?_))))))))
  exact .ret ⟨[_], ⟨rfl, trivial⟩, rfl⟩
theorem canBe_ok (w : World) (s k d p q c : Int) : Is Try.prog 39 [.agg ⟨dcells s k d p q c⟩] w (.bool (decide (Can s k d p q c))) := by
  refine Does.pure (Does.of (n := 54) Try.func39 rfl rfl rfl rfl ?_)
  refine .seq ((.region (.nw (.box rfl rfl) fun b1 => (.v (.assign rfl) (.nil ?_)))))
  refine .seq (.seq ((.region (.v (.fieldAddr rfl) (.v (.load rfl (.one rfl)) (.v (.lss rfl rfl) (.v (.move rfl) (.or 6 14 8 5 rfl rfl (fun g1 => .v (.fieldAddr rfl) (.v (.load rfl (.one rfl)) (.v (.nei rfl rfl) (.v (.move rfl) (.and 10 13 3 3 rfl rfl (fun g2 => .v (.fieldAddr rfl) (.v (.load rfl (.one rfl)) (.v (.nei rfl rfl) (.nil ⟨rfl, rfl, rfl, rfl⟩)))) (.nil ⟨rfl, rfl, rfl, rfl⟩)))))) (.v (.move rfl) (.or 16 20 4 4 rfl rfl (fun g3 => .v (.fieldAddr rfl) (.v (.load rfl (.one rfl)) (.pc rfl rfl (fun w s => isTick_ok w _) (.v (.not rfl) (.nil ⟨rfl, rfl, rfl, rfl⟩))))) (.nil ?_)))))))))))
  refine .cond rfl (fun h1 => ?_) (fun h1 => .skip ?_)
  · refine .seq ((.region (.v (.assign rfl) (.nil ?_))))
    refine .ret ⟨[_], ⟨rfl, trivial⟩, vb ?_⟩
    simp only [Bool.and_eq_true, Bool.or_eq_true, Bool.not_eq_true', Bool.and_eq_false_iff, Bool.or_eq_false_iff, Bool.not_eq_false', decide_eq_true_eq, decide_eq_false_iff_not, Bool.false_eq_true, false_iff] at h1 ⊢; unfold Can; omega
  · simp only [Bool.and_eq_true, Bool.or_eq_true, Bool.not_eq_true', Bool.and_eq_false_iff, Bool.or_eq_false_iff, Bool.not_eq_false', decide_eq_true_eq, decide_eq_false_iff_not, Bool.false_eq_true, false_iff] at h1
    refine .seq (.seq ((.region (.v (.fieldAddr rfl) (.v (.load rfl (.one rfl)) (.nil ?_))))))
    refine .block (.seq ((.region (.v (.eqi rfl rfl) (.v (.assign rfl) (.nil ?_))))))
    refine .cond_dec rfl (fun h2 => ?_) (fun h2 => ?_)
    · refine .seq ((.region (.v (.fieldAddr rfl) (.v (.load rfl (.one rfl)) (.v (.eqi rfl rfl) (.v (.move rfl) (.and 29 32 3 3 rfl rfl (fun g4 => .v (.fieldAddr rfl) (.v (.load rfl (.one rfl)) (.v (.eqi rfl rfl) (.nil ⟨rfl, rfl, rfl, rfl⟩)))) (.v (.move rfl) (.or 34 42 8 5 rfl rfl (fun g5 => .v (.fieldAddr rfl) (.v (.load rfl (.one rfl)) (.v (.geq rfl rfl) (.v (.move rfl) (.and 38 41 3 3 rfl rfl (fun g6 => .v (.fieldAddr rfl) (.v (.load rfl (.one rfl)) (.v (.geq rfl rfl) (.nil ⟨rfl, rfl, rfl, rfl⟩)))) (.nil ⟨rfl, rfl, rfl, rfl⟩)))))) (.v (.assign rfl) (.nil ?_)))))))))))
      refine .ret ⟨[_], ⟨rfl, trivial⟩, vb ?_⟩
      simp only [Bool.and_eq_true, Bool.or_eq_true, Bool.not_eq_true', Bool.and_eq_false_iff, Bool.or_eq_false_iff, Bool.not_eq_false', decide_eq_true_eq, decide_eq_false_iff_not, Bool.false_eq_true, false_iff]; unfold Can; omega
    · refine .seq ((.region (.v (.eqi rfl rfl) (.v (.assign rfl) (.nil ?_)))))
      refine .cond_dec rfl (fun h3 => ?_) (fun h3 => .skip ?_)
      · refine .seq ((.region (.v (.fieldAddr rfl) (.v (.load rfl (.one rfl)) (.v (.geq rfl rfl) (.v (.move rfl) (.and 49 52 3 3 rfl rfl (fun g7 => .v (.fieldAddr rfl) (.v (.load rfl (.one rfl)) (.v (.eqi rfl rfl) (.nil ⟨rfl, rfl, rfl, rfl⟩)))) (.v (.assign rfl) (.nil ?_)))))))))
        refine .ret ⟨[_], ⟨rfl, trivial⟩, vb ?_⟩
        simp only [Bool.and_eq_true, Bool.or_eq_true, Bool.not_eq_true', Bool.and_eq_false_iff, Bool.or_eq_false_iff, Bool.not_eq_false', decide_eq_true_eq, decide_eq_false_iff_not, Bool.false_eq_true, false_iff]; unfold Can; omega
      · refine .seq ((.region (.v (.assign rfl) (.nil ?_))))
        refine .ret ⟨[_], ⟨rfl, trivial⟩, vb ?_⟩
        simp only [Bool.and_eq_true, Bool.or_eq_true, Bool.not_eq_true', Bool.and_eq_false_iff, Bool.or_eq_false_iff, Bool.not_eq_false', decide_eq_true_eq, decide_eq_false_iff_not, Bool.false_eq_true, false_iff]; unfold Can; omega
theorem Message_ok (w : World) (s k d p q c : Int) : Is Try.prog 40 [.agg ⟨dcells s k d p q c⟩] w (.bool (decide (Can s k d p q c))) := by
  refine Does.pure (Does.of (n := 56) Try.func40 rfl rfl rfl rfl ?_)
  refine .seq ((.region (.nw (.box rfl rfl) fun b1 => (.v (.assign rfl) (.nil ?_)))))
  refine .seq (.seq ((.region (.v (.fieldAddr rfl) (.v (.load rfl (.one rfl)) (.v (.lss rfl rfl) (.v (.move rfl) (.or 6 14 8 5 rfl rfl (fun g1 => .v (.fieldAddr rfl) (.v (.load rfl (.one rfl)) (.v (.nei rfl rfl) (.v (.move rfl) (.and 10 13 3 3 rfl rfl (fun g2 => .v (.fieldAddr rfl) (.v (.load rfl (.one rfl)) (.v (.nei rfl rfl) (.nil ⟨rfl, rfl, rfl, rfl⟩)))) (.nil ⟨rfl, rfl, rfl, rfl⟩)))))) (.v (.move rfl) (.or 16 20 4 4 rfl rfl (fun g3 => .v (.fieldAddr rfl) (.v (.load rfl (.one rfl)) (.pc rfl rfl (fun w s => tick_ok w _) (.v (.not rfl) (.nil ⟨rfl, rfl, rfl, rfl⟩))))) (.nil ?_)))))))))))
  refine .cond rfl (fun h1 => ?_) (fun h1 => .skip ?_)
  · refine .seq ((.region (.v (.assign rfl) (.nil ?_))))
    refine .ret ⟨[_], ⟨rfl, trivial⟩, vb ?_⟩
    simp only [Bool.and_eq_true, Bool.or_eq_true, Bool.not_eq_true', Bool.and_eq_false_iff, Bool.or_eq_false_iff, Bool.not_eq_false', decide_eq_true_eq, decide_eq_false_iff_not, Bool.false_eq_true, false_iff] at h1 ⊢; unfold Can; omega
  · simp only [Bool.and_eq_true, Bool.or_eq_true, Bool.not_eq_true', Bool.and_eq_false_iff, Bool.or_eq_false_iff, Bool.not_eq_false', decide_eq_true_eq, decide_eq_false_iff_not, Bool.false_eq_true, false_iff] at h1
    refine .seq (.seq ((.region (.v (.fieldAddr rfl) (.v (.load rfl (.one rfl)) (.v (.eqi rfl rfl) (.nil ?_)))))))
    refine .cond_dec rfl (fun h2 => ?_) (fun h2 => .skip ?_)
    · refine .seq ((.region (.v (.fieldAddr rfl) (.v (.load rfl (.one rfl)) (.v (.geq rfl rfl) (.v (.move rfl) (.and 28 31 3 3 rfl rfl (fun g4 => .v (.fieldAddr rfl) (.v (.load rfl (.one rfl)) (.v (.eqi rfl rfl) (.nil ⟨rfl, rfl, rfl, rfl⟩)))) (.v (.assign rfl) (.nil ?_)))))))))
      refine .ret ⟨[_], ⟨rfl, trivial⟩, vb ?_⟩
      simp only [Bool.and_eq_true, Bool.or_eq_true, Bool.not_eq_true', Bool.and_eq_false_iff, Bool.or_eq_false_iff, Bool.not_eq_false', decide_eq_true_eq, decide_eq_false_iff_not, Bool.false_eq_true, false_iff]; unfold Can; omega
    · refine .seq ((.region (.v (.fieldAddr rfl) (.v (.load rfl (.one rfl)) (.v (.eqi rfl rfl) (.v (.move rfl) (.and 36 54 18 7 rfl rfl (fun g5 => .v (.fieldAddr rfl) (.v (.load rfl (.one rfl)) (.v (.geq rfl rfl) (.v (.move rfl) (.and 40 43 3 3 rfl rfl (fun g6 => .v (.fieldAddr rfl) (.v (.load rfl (.one rfl)) (.v (.geq rfl rfl) (.nil ⟨rfl, rfl, rfl, rfl⟩)))) (.v (.move rfl) (.or 45 53 8 5 rfl rfl (fun g7 => .v (.fieldAddr rfl) (.v (.load rfl (.one rfl)) (.v (.eqi rfl rfl) (.v (.move rfl) (.and 49 52 3 3 rfl rfl (fun g8 => .v (.fieldAddr rfl) (.v (.load rfl (.one rfl)) (.v (.eqi rfl rfl) (.nil ⟨rfl, rfl, rfl, rfl⟩)))) (.nil ⟨rfl, rfl, rfl, rfl⟩)))))) (.nil ⟨rfl, rfl, rfl, rfl⟩)))))))) (.v (.assign rfl) (.nil ?_)))))))))
      refine .ret ⟨[_], ⟨rfl, trivial⟩, vb ?_⟩
      simp only [Bool.and_eq_true, Bool.or_eq_true, Bool.not_eq_true', Bool.and_eq_false_iff, Bool.or_eq_false_iff, Bool.not_eq_false', decide_eq_true_eq, decide_eq_false_iff_not, Bool.false_eq_true, false_iff]; unfold Can; omega

/-- a frame of a message, and the error -/
def zf : List Value := [.int .u8 0, .int .u64 0, .int .u64 0, .int .u64 0, .int .u64 0, .int .u64 0, .int .u64 0, .int .u64 0]
def zd : List Value := dcells 0 0 0 0 0 0
def pk (s k d p q c : Int) : List Value × Int :=
  if Can s k d p q c then ([.int .u8 (IntKind.u8.wrap (IntKind.i64.wrap (79 + k))), .int .u64 s, .int .u64 (IntKind.u64.wrap d), .int .u64 (IntKind.u64.wrap p), .int .u64 q, .int .u64 (IntKind.u64.wrap c), .int .u64 0, .int .u64 0], 0) else (zf, 40)
def pkV (s k d p q c : Int) : Value := .tuple ⟨[.agg ⟨(pk s k d p q c).1⟩, .int .i64 (pk s k d p q c).2]⟩
abbrev FL : List Lf := [.i .u8, .i .u64, .i .u64, .i .u64, .i .u64, .i .u64, .i .u64, .i .u64]
abbrev DL : List Lf := [.i .u64, .i .i64, .i .i64, .i .i64, .i .u64, .i .i64]
theorem pk_oks (s k d p q c : Int) : oks FL (pk s k d p q c).1 := by
  unfold pk; split <;> exact ⟨rfl, rfl, rfl, rfl, rfl, rfl, rfl, rfl, trivial⟩
theorem pk_len (s k d p q c : Int) : (pk s k d p q c).1.length = 8 := by unfold pk; split <;> rfl
theorem pk_ones (s k d p q c : Int) : ones (pk s k d p q c).1 = true := by unfold pk; split <;> rfl
theorem Pack_ok (w : World) (s k d p q c : Int) : Is Try.prog 11 [.agg ⟨dcells s k d p q c⟩] w (pkV s k d p q c) := by
  refine Does.pure (Does.of (n := 27) Try.func11 rfl rfl rfl rfl ?_)
  refine .seq ((.region (.nw (.box rfl rfl) fun b1 => (.nw .alloc fun b2 => (.v (.assign rfl) (.nil ?_))))))
  refine .seq (.seq ((.region (.v (.loadA rfl .whole rfl) (.pc rfl rfl (fun w _ => canBe_ok w s k d p q c) (.v (.not rfl) (.nil ?_)))))))
  refine .cond rfl (fun h1 => ?_) (fun h1 => .skip ?_)
  · have hc : ¬ Can s k d p q c := by simpa using h1
    have e : pk s k d p q c = (zf, 40) := by unfold pk; rw [if_neg hc]
    refine .seq ((.region (.v (.build (out := zf) rfl rfl) (.st (.sw rfl rfl) (.v (.assign rfl) (.nil ?_))))))
    exact .ret ⟨[_, _], ⟨⟨_, rfl, .inr ⟨8, _, inferInstance, rfl, rfl, .whole⟩⟩, rfl, trivial⟩, by rw [pkV, e]; rfl⟩
  · have hc : Can s k d p q c := by simpa using h1
    have e : pk s k d p q c = ([.int .u8 (IntKind.u8.wrap (IntKind.i64.wrap (79 + k))), .int .u64 s, .int .u64 (IntKind.u64.wrap d), .int .u64 (IntKind.u64.wrap p), .int .u64 q, .int .u64 (IntKind.u64.wrap c), .int .u64 0, .int .u64 0], 0) := by unfold pk; rw [if_pos hc]
    refine .seq ((.region (.v (.fieldAddr rfl) (.v (.load rfl (.one rfl)) (.v (.add rfl rfl) (.v (.conv rfl) (.v (.fieldAddr rfl) (.v (.load rfl (.one rfl)) (.v (.fieldAddr rfl) (.v (.load rfl (.one rfl)) (.v (.conv rfl) (.v (.fieldAddr rfl) (.v (.load rfl (.one rfl)) (.v (.conv rfl) (.v (.fieldAddr rfl) (.v (.load rfl (.one rfl)) (.v (.fieldAddr rfl) (.v (.load rfl (.one rfl)) (.v (.conv rfl) (.v (.buildArr (out := [.int .u64 s, .int .u64 (IntKind.u64.wrap d), .int .u64 (IntKind.u64.wrap p), .int .u64 q, .int .u64 (IntKind.u64.wrap c), .int .u64 0, .int .u64 0]) rfl rfl) (.v (.build (out := .int .u8 (IntKind.u8.wrap (IntKind.i64.wrap (79 + k))) :: [.int .u64 s, .int .u64 (IntKind.u64.wrap d), .int .u64 (IntKind.u64.wrap p), .int .u64 q, .int .u64 (IntKind.u64.wrap c), .int .u64 0, .int .u64 0]) rfl rfl) (.st (.sw rfl rfl) (.v (.assign rfl) (.nil ?_))))))))))))))))))))))))
    exact .ret ⟨[_, _], ⟨⟨_, rfl, .inr ⟨8, _, inferInstance, rfl, rfl, .whole⟩⟩, rfl, trivial⟩, by rw [pkV, e]; rfl⟩
theorem refPack_ok (w : World) (s k d p q c : Int) : Is Try.prog 12 [.agg ⟨dcells s k d p q c⟩] w (pkV s k d p q c) := by
  refine Does.pure (Does.of (n := 27) Try.func12 rfl rfl rfl rfl ?_)
  refine .seq ((.region (.nw (.box rfl rfl) fun b1 => (.nw .alloc fun b2 => (.v (.assign rfl) (.nil ?_))))))
  refine .seq (.seq ((.region (.v (.loadA rfl .whole rfl) (.pc rfl rfl (fun w _ => Message_ok w s k d p q c) (.v (.not rfl) (.nil ?_)))))))
  refine .cond rfl (fun h1 => ?_) (fun h1 => .skip ?_)
  · have hc : ¬ Can s k d p q c := by simpa using h1
    have e : pk s k d p q c = (zf, 40) := by unfold pk; rw [if_neg hc]
    refine .seq ((.region (.v (.build (out := zf) rfl rfl) (.st (.sw rfl rfl) (.v (.assign rfl) (.nil ?_))))))
    exact .ret ⟨[_, _], ⟨⟨_, rfl, .inr ⟨8, _, inferInstance, rfl, rfl, .whole⟩⟩, rfl, trivial⟩, by rw [pkV, e]; rfl⟩
  · have hc : Can s k d p q c := by simpa using h1
    have e : pk s k d p q c = ([.int .u8 (IntKind.u8.wrap (IntKind.i64.wrap (79 + k))), .int .u64 s, .int .u64 (IntKind.u64.wrap d), .int .u64 (IntKind.u64.wrap p), .int .u64 q, .int .u64 (IntKind.u64.wrap c), .int .u64 0, .int .u64 0], 0) := by unfold pk; rw [if_pos hc]
    refine .seq ((.region (.v (.fieldAddr rfl) (.v (.load rfl (.one rfl)) (.v (.add rfl rfl) (.v (.conv rfl) (.v (.fieldAddr rfl) (.v (.load rfl (.one rfl)) (.v (.fieldAddr rfl) (.v (.load rfl (.one rfl)) (.v (.conv rfl) (.v (.fieldAddr rfl) (.v (.load rfl (.one rfl)) (.v (.conv rfl) (.v (.fieldAddr rfl) (.v (.load rfl (.one rfl)) (.v (.fieldAddr rfl) (.v (.load rfl (.one rfl)) (.v (.conv rfl) (.v (.buildArr (out := [.int .u64 s, .int .u64 (IntKind.u64.wrap d), .int .u64 (IntKind.u64.wrap p), .int .u64 q, .int .u64 (IntKind.u64.wrap c), .int .u64 0, .int .u64 0]) rfl rfl) (.v (.build (out := .int .u8 (IntKind.u8.wrap (IntKind.i64.wrap (79 + k))) :: [.int .u64 s, .int .u64 (IntKind.u64.wrap d), .int .u64 (IntKind.u64.wrap p), .int .u64 q, .int .u64 (IntKind.u64.wrap c), .int .u64 0, .int .u64 0]) rfl rfl) (.st (.sw rfl rfl) (.v (.assign rfl) (.nil ?_))))))))))))))))))))))))
    exact .ret ⟨[_, _], ⟨⟨_, rfl, .inr ⟨8, _, inferInstance, rfl, rfl, .whole⟩⟩, rfl, trivial⟩, by rw [pkV, e]; rfl⟩

/-- a message of a frame, and the error -/
def fr (k a0 a1 a2 a3 a4 a5 a6 : Int) : List Value := [.int .u8 k, .int .u64 a0, .int .u64 a1, .int .u64 a2, .int .u64 a3, .int .u64 a4, .int .u64 a5, .int .u64 a6]
def kof (k : Int) : Int := IntKind.i64.wrap (IntKind.i64.wrap k - 79)
def upk (k a0 a1 a2 a3 a4 a5 a6 : Int) : List Value × Int :=
  if k ≠ 80 ∧ k ≠ 81 then (zd, 41)
  else if (pk a0 (kof k) (IntKind.i64.wrap a1) (IntKind.i64.wrap a2) a3 (IntKind.i64.wrap a4)).2 ≠ 0 ∨ cellsEq (pk a0 (kof k) (IntKind.i64.wrap a1) (IntKind.i64.wrap a2) a3 (IntKind.i64.wrap a4)).1 (fr k a0 a1 a2 a3 a4 a5 a6) = false then (zd, 40)
  else (dcells a0 (kof k) (IntKind.i64.wrap a1) (IntKind.i64.wrap a2) a3 (IntKind.i64.wrap a4), 0)
def upkV (k a0 a1 a2 a3 a4 a5 a6 : Int) : Value := .tuple ⟨[.agg ⟨(upk k a0 a1 a2 a3 a4 a5 a6).1⟩, .int .i64 (upk k a0 a1 a2 a3 a4 a5 a6).2]⟩
theorem fr_oks (k a0 a1 a2 a3 a4 a5 a6 : Int) : oks FL (fr k a0 a1 a2 a3 a4 a5 a6) := ⟨rfl, rfl, rfl, rfl, rfl, rfl, rfl, rfl, trivial⟩
theorem upk_oks (k a0 a1 a2 a3 a4 a5 a6 : Int) : oks DL (upk k a0 a1 a2 a3 a4 a5 a6).1 := by
  unfold upk; repeat' split
  all_goals exact ⟨rfl, rfl, rfl, rfl, rfl, rfl, trivial⟩
theorem upk_len (k a0 a1 a2 a3 a4 a5 a6 : Int) : (upk k a0 a1 a2 a3 a4 a5 a6).1.length = 6 := by
  unfold upk; repeat' split
  all_goals rfl
theorem upk_ones (k a0 a1 a2 a3 a4 a5 a6 : Int) : ones (upk k a0 a1 a2 a3 a4 a5 a6).1 = true := by
  unfold upk; repeat' split
  all_goals rfl
theorem Unpack_ok (w : World) (k a0 a1 a2 a3 a4 a5 a6 : Int) : Is Try.prog 13 [.agg ⟨fr k a0 a1 a2 a3 a4 a5 a6⟩] w (upkV k a0 a1 a2 a3 a4 a5 a6) := by
  refine Does.pure (Does.of (n := 51) Try.func13 rfl rfl rfl rfl ?_)
  refine .seq ((.region (.nw (.box rfl rfl) fun b1 => (.nw .alloc fun b2 => (.v (.assign rfl) (.nil ?_))))))
  refine .seq (.seq ((.region (.v (.fieldAddr rfl) (.v (.load rfl (.one rfl)) (.v (.nei rfl rfl) (.v (.move rfl) (.and 11 14 3 3 rfl rfl (fun g1 => .v (.fieldAddr rfl) (.v (.load rfl (.one rfl)) (.v (.nei rfl rfl) (.nil ⟨rfl, rfl, rfl, rfl⟩)))) (.nil ?_)))))))))
  refine .cond rfl (fun h1 => ?_) (fun h1 => .skip ?_)
  · have hk : k ≠ 80 ∧ k ≠ 81 := by simpa using h1
    have e : upk k a0 a1 a2 a3 a4 a5 a6 = (zd, 41) := by unfold upk; rw [if_pos hk]
    refine .seq ((.region (.v (.build (out := zd) rfl rfl) (.st (.sw rfl rfl) (.v (.assign rfl) (.nil ?_))))))
    exact .ret ⟨[_, _], ⟨⟨_, rfl, .inr ⟨6, _, inferInstance, rfl, rfl, .whole⟩⟩, rfl, trivial⟩, by rw [upkV, e]; rfl⟩
  have hk : ¬ (k ≠ 80 ∧ k ≠ 81) := by
    intro h
    simp [h.1, h.2] at h1
  refine .seq ((.region (.v (.fieldAddr rfl) (.v (.loadA (vs := [.int .u64 a0, .int .u64 a1, .int .u64 a2, .int .u64 a3, .int .u64 a4, .int .u64 a5, .int .u64 a6]) rfl (.chunk fun j v hv => by rw [show 0 + 1 + j = j + 1 from by omega]; exact hv) rfl) (.nw .alloc fun b4 => (.st (.sw rfl rfl) (.nil ?_)))))))
  refine .seq ((.region (.v (.indexAddrA1 rfl rfl (by omega) (by omega)) (.v (.load rfl (.one rfl)) (.v (.fieldAddr rfl) (.v (.load rfl (.one rfl)) (.v (.conv rfl) (.v (.sub_ rfl rfl) (.v (.indexAddrA1 rfl rfl (by omega) (by omega)) (.v (.load rfl (.one rfl)) (.v (.conv rfl) (.v (.indexAddrA1 rfl rfl (by omega) (by omega)) (.v (.load rfl (.one rfl)) (.v (.conv rfl) (.v (.indexAddrA1 rfl rfl (by omega) (by omega)) (.v (.load rfl (.one rfl)) (.v (.indexAddrA1 rfl rfl (by omega) (by omega)) (.v (.load rfl (.one rfl)) (.v (.conv rfl) (.v (.build (out := dcells a0 (kof k) (IntKind.i64.wrap a1) (IntKind.i64.wrap a2) a3 (IntKind.i64.wrap a4)) rfl rfl) (.nw .alloc fun b5 => (.st (.sw rfl rfl) (.nil ?_)))))))))))))))))))))))
  refine .seq (.seq ((.region (.v (.loadA rfl .whole rfl) (.pc rfl rfl (fun w _ => Pack_ok w a0 (kof k) (IntKind.i64.wrap a1) (IntKind.i64.wrap a2) a3 (IntKind.i64.wrap a4)) (.v (.move rfl) (.v (.extract (vs := [.agg ⟨(pk a0 (kof k) (IntKind.i64.wrap a1) (IntKind.i64.wrap a2) a3 (IntKind.i64.wrap a4)).1⟩, .int .i64 (pk a0 (kof k) (IntKind.i64.wrap a1) (IntKind.i64.wrap a2) a3 (IntKind.i64.wrap a4)).2]) rfl rfl) (.v (.extract (vs := [.agg ⟨(pk a0 (kof k) (IntKind.i64.wrap a1) (IntKind.i64.wrap a2) a3 (IntKind.i64.wrap a4)).1⟩, .int .i64 (pk a0 (kof k) (IntKind.i64.wrap a1) (IntKind.i64.wrap a2) a3 (IntKind.i64.wrap a4)).2]) rfl rfl) (.nw .alloc fun b6 => (.st (.storeW rfl rfl (pk_len _ _ _ _ _ _) (pk_ones _ _ _ _ _ _) rfl) (.v (.assign rfl) (.nil ?_))))))))))))
  refine .seq ((.region (.v (.move rfl) (.v (.nei rfl rfl) (.v (.move rfl) (.or 44 47 3 3 rfl rfl (fun g2 => .v (.loadA rfl .whole (pk_len _ _ _ _ _ _)) (.v (.loadA rfl .whole rfl) (.v (.neA rfl rfl (pk_oks _ _ _ _ _ _) (fr_oks _ _ _ _ _ _ _ _)) (.nil ⟨rfl, rfl, rfl, rfl⟩)))) (.nil ?_)))))))
  refine .cond rfl (fun h2 => ?_) (fun h2 => .skip ?_)
  · have e : upk k a0 a1 a2 a3 a4 a5 a6 = (zd, 40) := by unfold upk; rw [if_neg hk, if_pos (by simpa using h2)]
    refine .seq ((.region (.v (.build (out := zd) rfl rfl) (.st (.sw rfl rfl) (.v (.assign rfl) (.nil ?_))))))
    exact .ret ⟨[_, _], ⟨⟨_, rfl, .inr ⟨6, _, inferInstance, rfl, rfl, .whole⟩⟩, rfl, trivial⟩, by rw [upkV, e]; rfl⟩
  · have e : upk k a0 a1 a2 a3 a4 a5 a6 = (dcells a0 (kof k) (IntKind.i64.wrap a1) (IntKind.i64.wrap a2) a3 (IntKind.i64.wrap a4), 0) := by unfold upk; rw [if_neg hk, if_neg (by simpa using h2)]
    refine .seq ((.region (.v (.loadA rfl .whole rfl) (.st (.sw rfl rfl) (.v (.assign rfl) (.nil ?_))))))
    exact .ret ⟨[_, _], ⟨⟨_, rfl, .inr ⟨6, _, inferInstance, rfl, rfl, .whole⟩⟩, rfl, trivial⟩, by rw [upkV, e]; rfl⟩
end Go.Proofs.Ytinmhhonpflojaa
