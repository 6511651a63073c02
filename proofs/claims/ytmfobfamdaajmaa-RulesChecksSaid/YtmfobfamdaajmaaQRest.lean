/- rules.canRest and the document's order; better: what they compute. -/
import Derived.Test.YtmfobfamdaajmaaQCheck
import Derived.Test.YtmfobfamdaajmaaVO
namespace Go.Proofs.Ytmfobfamdaajmaa
open Go.V
set_option linter.unusedVariables false
set_option linter.unusedSimpArgs false

/-- a resting order's cells -/
def rcells (id mb ty pr v hd pk : Int) : List Value := [.int .u64 id, .int .u32 mb, .int .i64 ty, .int .i64 pr, .int .u64 v, .int .u64 hd, .int .u64 pk]
/-- can it rest? -/
def Rests (id ty pr v hd pk high : Int) : Prop :=
  (1 ≤ id ∧ id ≤ high) ∧ (ty = 1 ∨ ty = 5) ∧ (0 ≤ pr ∧ pr < 262144) ∧ (1 ≤ v ∧ v ≤ 4294967295) ∧ pk ≤ 4294967295 ∧ v + hd ≤ 4294967295 ∧ (pk = 0 ∧ hd = 0 ∨ 0 < pk ∧ v ≤ pk ∧ v + hd ≤ 256 * pk)
instance (id ty pr v hd pk high : Int) : Decidable (Rests id ty pr v hd pk high) := by unfold Rests; infer_instance
/-- u64 -/
def U (x : Int) : Prop := 0 ≤ x ∧ x ≤ 18446744073709551615
theorem canRest_ok (w : World) (id mb ty pr v hd pk high : Int) (hi : U id) (hv : U v) (hh : U hd) (hp : U pk) : Is Try.prog 32 [.agg ⟨rcells id mb ty pr v hd pk⟩, .int .u64 high] w (.bool (decide (Rests id ty pr v hd pk high))) := by
  refine Does.pure (Does.of (n := 93) Try.func32 rfl rfl rfl rfl ?_)
  refine .seq ((.region (.nw (.box rfl rfl) fun b2 => (.v (.assign rfl) (.nil ?_)))))
  refine .seq ((.region (.v (.fieldAddr rfl) (.v (.load rfl (.one rfl)) (.v (.eqi rfl rfl) (.v (.move rfl) (.and 9 12 3 3 rfl rfl (fun g1 => .v (.fieldAddr rfl) (.v (.load rfl (.one rfl)) (.v (.eqi rfl rfl) (.nil ⟨rfl, rfl, rfl, rfl⟩)))) (.v (.move rfl) (.or 14 36 22 7 rfl rfl (fun g2 => .v (.fieldAddr rfl) (.v (.load rfl (.one rfl)) (.v (.gtr rfl rfl) (.v (.move rfl) (.and 18 23 5 5 rfl rfl (fun g3 => .v (.fieldAddr rfl) (.v (.load rfl (.one rfl)) (.v (.fieldAddr rfl) (.v (.load rfl (.one rfl)) (.v (.leq rfl rfl) (.nil ⟨rfl, rfl, rfl, rfl⟩)))))) (.v (.move rfl) (.and 25 35 10 10 rfl rfl (fun g4 => .v (.fieldAddr rfl) (.v (.load rfl (.one rfl)) (.v (.fieldAddr rfl) (.v (.load rfl (.one rfl)) (.v (.min2 rfl rfl) (.v (.mul rfl rfl) (.v (.fieldAddr rfl) (.v (.load rfl (.one rfl)) (.v (.sub_ rfl rfl) (.v (.leq rfl rfl) (.nil ⟨rfl, rfl, rfl, rfl⟩))))))))))) (.nil ⟨rfl, rfl, rfl, rfl⟩)))))))) (.v (.assign rfl) (.nil ?_)))))))))))
  refine .seq ((.region (.v (.fieldAddr rfl) (.v (.load rfl (.one rfl)) (.v (.geq rfl rfl) (.v (.move rfl) (.and 41 45 4 4 rfl rfl (fun g5 => .v (.fieldAddr rfl) (.v (.load rfl (.one rfl)) (.v (.move rfl) (.v (.leq rfl rfl) (.nil ⟨rfl, rfl, rfl, rfl⟩))))) (.v (.move rfl) (.and 47 55 8 5 rfl rfl (fun g6 => .v (.fieldAddr rfl) (.v (.load rfl (.one rfl)) (.v (.eqi rfl rfl) (.v (.move rfl) (.or 51 54 3 3 rfl rfl (fun g7 => .v (.fieldAddr rfl) (.v (.load rfl (.one rfl)) (.v (.eqi rfl rfl) (.nil ⟨rfl, rfl, rfl, rfl⟩)))) (.nil ⟨rfl, rfl, rfl, rfl⟩)))))) (.v (.move rfl) (.and 57 60 3 3 rfl rfl (fun g8 => .v (.fieldAddr rfl) (.v (.load rfl (.one rfl)) (.v (.geq rfl rfl) (.nil ⟨rfl, rfl, rfl, rfl⟩)))) (.v (.move rfl) (.and 62 65 3 3 rfl rfl (fun g9 => .v (.fieldAddr rfl) (.v (.load rfl (.one rfl)) (.v (.lss rfl rfl) (.nil ⟨rfl, rfl, rfl, rfl⟩)))) (.v (.move rfl) (.and 67 70 3 3 rfl rfl (fun g10 => .v (.fieldAddr rfl) (.v (.load rfl (.one rfl)) (.v (.geq rfl rfl) (.nil ⟨rfl, rfl, rfl, rfl⟩)))) (.v (.move rfl) (.and 72 75 3 3 rfl rfl (fun g11 => .v (.fieldAddr rfl) (.v (.load rfl (.one rfl)) (.v (.leq rfl rfl) (.nil ⟨rfl, rfl, rfl, rfl⟩)))) (.v (.move rfl) (.and 77 80 3 3 rfl rfl (fun g12 => .v (.fieldAddr rfl) (.v (.load rfl (.one rfl)) (.v (.leq rfl rfl) (.nil ⟨rfl, rfl, rfl, rfl⟩)))) (.v (.move rfl) (.and 82 88 6 6 rfl rfl (fun g13 => .v (.fieldAddr rfl) (.v (.load rfl (.one rfl)) (.v (.fieldAddr rfl) (.v (.load rfl (.one rfl)) (.v (.sub_ rfl rfl) (.v (.leq rfl rfl) (.nil ⟨rfl, rfl, rfl, rfl⟩))))))) (.v (.move rfl) (.and 90 91 1 1 rfl rfl (fun g14 => .v (.move rfl) (.nil ⟨rfl, rfl, rfl, rfl⟩)) (.v (.assign rfl) (.nil ?_)))))))))))))))))))))))))
  refine .ret ⟨[_], ⟨rfl, trivial⟩, vb ?_⟩
  simp only [Bool.and_eq_true, Bool.or_eq_true, Bool.not_eq_true', Bool.and_eq_false_iff, Bool.or_eq_false_iff, Bool.not_eq_false', decide_eq_true_eq, decide_eq_false_iff_not, Bool.false_eq_true, false_iff, u64w]
  unfold Rests
  unfold U at hi hv hh hp
  omega
theorem order_ok (w : World) (id mb ty pr v hd pk high : Int) (hi : U id) (hv : U v) (hh : U hd) (hp : U pk) : Is Try.prog 34 [.agg ⟨rcells id mb ty pr v hd pk⟩, .int .u64 high] w (.bool (decide (Rests id ty pr v hd pk high))) := by
  refine Does.pure (Does.of (n := 82) Try.func34 rfl rfl rfl rfl ?_)
  unfold U at hi hv hh hp
  refine .seq ((.region (.nw (.box rfl rfl) fun b2 => (.v (.assign rfl) (.nil ?_)))))
  refine .seq (.seq ((.region (.v (.fieldAddr rfl) (.v (.load rfl (.one rfl)) (.v (.lss rfl rfl) (.v (.move rfl) (.or 8 12 4 4 rfl rfl (fun g1 => .v (.fieldAddr rfl) (.v (.load rfl (.one rfl)) (.v (.move rfl) (.v (.gtr rfl rfl) (.nil ⟨rfl, rfl, rfl, rfl⟩))))) (.v (.move rfl) (.or 14 22 8 5 rfl rfl (fun g2 => .v (.fieldAddr rfl) (.v (.load rfl (.one rfl)) (.v (.nei rfl rfl) (.v (.move rfl) (.and 18 21 3 3 rfl rfl (fun g3 => .v (.fieldAddr rfl) (.v (.load rfl (.one rfl)) (.v (.nei rfl rfl) (.nil ⟨rfl, rfl, rfl, rfl⟩)))) (.nil ⟨rfl, rfl, rfl, rfl⟩)))))) (.v (.move rfl) (.or 24 27 3 3 rfl rfl (fun g4 => .v (.fieldAddr rfl) (.v (.load rfl (.one rfl)) (.v (.lss rfl rfl) (.nil ⟨rfl, rfl, rfl, rfl⟩)))) (.v (.move rfl) (.or 29 32 3 3 rfl rfl (fun g5 => .v (.fieldAddr rfl) (.v (.load rfl (.one rfl)) (.v (.geq rfl rfl) (.nil ⟨rfl, rfl, rfl, rfl⟩)))) (.nil ?_)))))))))))))))
  refine .cond rfl (fun h1 => ?_) (fun h1 => .skip ?_) <;> simp only [Bool.and_eq_true, Bool.or_eq_true, Bool.not_eq_true', Bool.and_eq_false_iff, Bool.or_eq_false_iff, Bool.not_eq_false', decide_eq_true_eq, decide_eq_false_iff_not, Bool.false_eq_true, false_iff, u64w] at h1
  · refine .seq ((.region (.v (.assign rfl) (.nil ?_))))
    refine .ret ⟨[_], ⟨rfl, trivial⟩, vb ?_⟩
    simp only [Bool.and_eq_true, Bool.or_eq_true, Bool.not_eq_true', Bool.and_eq_false_iff, Bool.or_eq_false_iff, Bool.not_eq_false', decide_eq_true_eq, decide_eq_false_iff_not, Bool.false_eq_true, false_iff, u64w]; unfold Rests; omega
  · refine .seq (.seq ((.region (.v (.fieldAddr rfl) (.v (.load rfl (.one rfl)) (.v (.lss rfl rfl) (.v (.move rfl) (.or 37 40 3 3 rfl rfl (fun g6 => .v (.fieldAddr rfl) (.v (.load rfl (.one rfl)) (.v (.gtr rfl rfl) (.nil ⟨rfl, rfl, rfl, rfl⟩)))) (.v (.move rfl) (.or 42 45 3 3 rfl rfl (fun g7 => .v (.fieldAddr rfl) (.v (.load rfl (.one rfl)) (.v (.gtr rfl rfl) (.nil ⟨rfl, rfl, rfl, rfl⟩)))) (.v (.move rfl) (.or 47 50 3 3 rfl rfl (fun g8 => .v (.fieldAddr rfl) (.v (.load rfl (.one rfl)) (.v (.gtr rfl rfl) (.nil ⟨rfl, rfl, rfl, rfl⟩)))) (.v (.move rfl) (.or 52 58 6 6 rfl rfl (fun g9 => .v (.fieldAddr rfl) (.v (.load rfl (.one rfl)) (.v (.fieldAddr rfl) (.v (.load rfl (.one rfl)) (.v (.add rfl rfl) (.v (.gtr rfl rfl) (.nil ⟨rfl, rfl, rfl, rfl⟩))))))) (.nil ?_)))))))))))))))
    refine .cond rfl (fun h2 => ?_) (fun h2 => .skip ?_) <;> simp only [Bool.and_eq_true, Bool.or_eq_true, Bool.not_eq_true', Bool.and_eq_false_iff, Bool.or_eq_false_iff, Bool.not_eq_false', decide_eq_true_eq, decide_eq_false_iff_not, Bool.false_eq_true, false_iff, u64w] at h2
    · refine .seq ((.region (.v (.assign rfl) (.nil ?_))))
      refine .ret ⟨[_], ⟨rfl, trivial⟩, vb ?_⟩
      simp only [Bool.and_eq_true, Bool.or_eq_true, Bool.not_eq_true', Bool.and_eq_false_iff, Bool.or_eq_false_iff, Bool.not_eq_false', decide_eq_true_eq, decide_eq_false_iff_not, Bool.false_eq_true, false_iff, u64w]; unfold Rests; omega
    · refine .seq (.seq ((.region (.v (.fieldAddr rfl) (.v (.load rfl (.one rfl)) (.v (.eqi rfl rfl) (.nil ?_)))))))
      refine .cond_dec rfl (fun h3 => ?_) (fun h3 => .skip ?_)
      · refine .seq ((.region (.v (.fieldAddr rfl) (.v (.load rfl (.one rfl)) (.v (.eqi rfl rfl) (.v (.assign rfl) (.nil ?_)))))))
        refine .ret ⟨[_], ⟨rfl, trivial⟩, vb ?_⟩
        simp only [Bool.and_eq_true, Bool.or_eq_true, Bool.not_eq_true', Bool.and_eq_false_iff, Bool.or_eq_false_iff, Bool.not_eq_false', decide_eq_true_eq, decide_eq_false_iff_not, Bool.false_eq_true, false_iff, u64w]; unfold Rests; omega
      · refine .seq ((.region (.v (.fieldAddr rfl) (.v (.load rfl (.one rfl)) (.v (.fieldAddr rfl) (.v (.load rfl (.one rfl)) (.v (.leq rfl rfl) (.v (.move rfl) (.and 71 80 9 9 rfl rfl (fun g10 => .v (.fieldAddr rfl) (.v (.load rfl (.one rfl)) (.v (.fieldAddr rfl) (.v (.load rfl (.one rfl)) (.v (.add rfl rfl) (.v (.fieldAddr rfl) (.v (.load rfl (.one rfl)) (.v (.mul rfl rfl) (.v (.leq rfl rfl) (.nil ⟨rfl, rfl, rfl, rfl⟩)))))))))) (.v (.assign rfl) (.nil ?_)))))))))))
        refine .ret ⟨[_], ⟨rfl, trivial⟩, vb ?_⟩
        simp only [Bool.and_eq_true, Bool.or_eq_true, Bool.not_eq_true', Bool.and_eq_false_iff, Bool.or_eq_false_iff, Bool.not_eq_false', decide_eq_true_eq, decide_eq_false_iff_not, Bool.false_eq_true, false_iff, u64w]; unfold Rests; omega

theorem better_ok (w : World) (s p q : Int) : Is Try.prog 33 [.int .i64 s, .int .i64 p, .int .i64 q] w (.bool (if s = 1 then decide (q < p) else decide (p < q))) := by
  refine Does.pure (Does.of (n := 15) Try.func33 rfl rfl rfl rfl ?_)
  refine .seq ((.region (.v (.assign rfl) (.nil ?_))))
  refine .seq (.seq ((.region (.v (.move rfl) (.v (.eqi rfl rfl) (.nil ?_))))))
  refine .cond_dec rfl (fun h1 => ?_) (fun h1 => .skip ?_)
  · refine .seq ((.region (.v (.move rfl) (.v (.move rfl) (.v (.gtr rfl rfl) (.v (.assign rfl) (.nil ?_)))))))
    exact .ret ⟨[_], ⟨rfl, trivial⟩, by rw [if_pos h1]; rfl⟩
  · refine .seq ((.region (.v (.move rfl) (.v (.move rfl) (.v (.lss rfl rfl) (.v (.assign rfl) (.nil ?_)))))))
    exact .ret ⟨[_], ⟨rfl, trivial⟩, by rw [if_neg h1]; rfl⟩
theorem refBetter_ok (w : World) (s p q : Int) : Is Try.prog 49 [.int .i64 s, .int .i64 p, .int .i64 q] w (.bool (if s = 1 then decide (q < p) else decide (p < q))) := by
  refine Does.pure (Does.of (n := 15) Try.func49 rfl rfl rfl rfl ?_)
  refine .seq ((.region (.v (.assign rfl) (.nil ?_))))
  refine .seq (.seq ((.region (.v (.move rfl) (.v (.eqi rfl rfl) (.nil ?_))))))
  refine .cond_dec rfl (fun h1 => ?_) (fun h1 => .skip ?_)
  · refine .seq ((.region (.v (.move rfl) (.v (.move rfl) (.v (.gtr rfl rfl) (.v (.assign rfl) (.nil ?_)))))))
    exact .ret ⟨[_], ⟨rfl, trivial⟩, by rw [if_pos h1]; rfl⟩
  · refine .seq ((.region (.v (.move rfl) (.v (.move rfl) (.v (.lss rfl rfl) (.v (.assign rfl) (.nil ?_)))))))
    exact .ret ⟨[_], ⟨rfl, trivial⟩, by rw [if_neg h1]; rfl⟩
end Go.Proofs.Ytmfobfamdaajmaa
