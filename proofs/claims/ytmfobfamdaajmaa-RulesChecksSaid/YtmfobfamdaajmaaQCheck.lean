/- rules.Check and the document's: what a command is refused for, by itself. -/
import Derived.Test.YtmfobfamdaajmaaVM
import Derived.Test.YtmfobfamdaajmaaVG
import Derived.Test.YtmfobfamdaajmaaTy
namespace Go.Proofs.Ytmfobfamdaajmaa
open Go.V
set_option linter.unusedVariables false
set_option linter.unusedSimpArgs false

/-- a command's cells -/
def ccells (k id tg mb sd ty pr q pk : Int) : List Value := [.int .i64 k, .int .u64 id, .int .u64 tg, .int .u32 mb, .int .i64 sd, .int .i64 ty, .int .i64 pr, .int .u64 q, .int .u64 pk]
def szd (id pr q pk ty : Int) : Int :=
  if pr < 0 ∨ 262144 ≤ pr ∨ ty = 2 ∧ pr ≠ 0 then 94
  else if q < 1 ∨ 4294967295 < q then 95
  else if q < pk ∨ pk ≠ 0 ∧ (¬ (ty = 1 ∨ ty = 5) ∨ IntKind.u64.wrap (256 * pk) < q) then 96
  else if id = 0 then 97 else 0
def chk (k id sd ty pr q pk : Int) : Int :=
  if k = 1 then (if sd ≠ 1 ∧ sd ≠ 2 then 92 else if ty < 1 ∨ 5 < ty then 93 else szd id pr q pk ty)
  else if k = 3 then szd id pr q pk 1 else if k = 2 then 0 else 90
theorem configured_ok (w : World) (c m : Int) : Is Try.prog 28 [.agg ⟨[.int .i64 c, .int .i64 m]⟩] w (.bool (decide (1 ≤ c ∧ c ≤ 4096 ∧ 0 ≤ m ∧ m ≤ 3))) := by
  refine Does.pure (Does.of (n := 21) Try.func28 rfl rfl rfl rfl ?_)
  refine .seq ((.region (.nw (.box rfl rfl) fun b1 => (.v (.assign rfl) (.nil ?_)))))
  refine .seq ((.region (.v (.fieldAddr rfl) (.v (.load rfl (.one rfl)) (.v (.geq rfl rfl) (.v (.move rfl) (.and 6 9 3 3 rfl rfl (fun g1 => .v (.fieldAddr rfl) (.v (.load rfl (.one rfl)) (.v (.leq rfl rfl) (.nil ⟨rfl, rfl, rfl, rfl⟩)))) (.v (.move rfl) (.and 11 14 3 3 rfl rfl (fun g2 => .v (.fieldAddr rfl) (.v (.load rfl (.one rfl)) (.v (.geq rfl rfl) (.nil ⟨rfl, rfl, rfl, rfl⟩)))) (.v (.move rfl) (.and 16 19 3 3 rfl rfl (fun g3 => .v (.fieldAddr rfl) (.v (.load rfl (.one rfl)) (.v (.leq rfl rfl) (.nil ⟨rfl, rfl, rfl, rfl⟩)))) (.v (.assign rfl) (.nil ?_)))))))))))))
  refine .ret ⟨[_], ⟨rfl, trivial⟩, vb ?_⟩
  simp only [Bool.and_eq_true, Bool.or_eq_true, Bool.not_eq_true', Bool.and_eq_false_iff, Bool.or_eq_false_iff, Bool.not_eq_false', decide_eq_true_eq, decide_eq_false_iff_not, Bool.false_eq_true, false_iff]; omega
theorem refConfig_ok (w : World) (c m : Int) : Is Try.prog 29 [.agg ⟨[.int .i64 c, .int .i64 m]⟩] w (.bool (decide (1 ≤ c ∧ c ≤ 4096 ∧ 0 ≤ m ∧ m ≤ 3))) := by
  refine Does.pure (Does.of (n := 21) Try.func29 rfl rfl rfl rfl ?_)
  refine .seq ((.region (.nw (.box rfl rfl) fun b1 => (.v (.assign rfl) (.nil ?_)))))
  refine .seq ((.region (.v (.fieldAddr rfl) (.v (.load rfl (.one rfl)) (.v (.geq rfl rfl) (.v (.move rfl) (.and 6 9 3 3 rfl rfl (fun g1 => .v (.fieldAddr rfl) (.v (.load rfl (.one rfl)) (.v (.leq rfl rfl) (.nil ⟨rfl, rfl, rfl, rfl⟩)))) (.v (.move rfl) (.and 11 14 3 3 rfl rfl (fun g2 => .v (.fieldAddr rfl) (.v (.load rfl (.one rfl)) (.v (.geq rfl rfl) (.nil ⟨rfl, rfl, rfl, rfl⟩)))) (.v (.move rfl) (.and 16 19 3 3 rfl rfl (fun g3 => .v (.fieldAddr rfl) (.v (.load rfl (.one rfl)) (.v (.leq rfl rfl) (.nil ⟨rfl, rfl, rfl, rfl⟩)))) (.v (.assign rfl) (.nil ?_)))))))))))))
  refine .ret ⟨[_], ⟨rfl, trivial⟩, vb ?_⟩
  simp only [Bool.and_eq_true, Bool.or_eq_true, Bool.not_eq_true', Bool.and_eq_false_iff, Bool.or_eq_false_iff, Bool.not_eq_false', decide_eq_true_eq, decide_eq_false_iff_not, Bool.false_eq_true, false_iff]; omega
theorem sized_ok (w : World) (k id tg mb sd t0 pr q pk ty : Int) : Is Try.prog 30 [.agg ⟨ccells k id tg mb sd t0 pr q pk⟩, .int .i64 ty] w (.int .i64 (szd id pr q pk ty)) := by
  refine Does.pure (Does.of (n := 66) Try.func30 rfl rfl rfl rfl ?_)
  refine .seq ((.region (.nw (.box rfl rfl) fun b2 => (.v (.assign rfl) (.nil ?_)))))
  refine .seq ((.region (.v (.move rfl) (.v (.eqi rfl rfl) (.v (.move rfl) (.or 8 10 2 2 rfl rfl (fun g1 => .v (.move rfl) (.v (.eqi rfl rfl) (.nil ⟨rfl, rfl, rfl, rfl⟩))) (.v (.assign rfl) (.nil ?_))))))))
  refine .seq (.block (.seq ((.region (.v (.fieldAddr rfl) (.v (.load rfl (.one rfl)) (.v (.lss rfl rfl) (.v (.move rfl) (.or 16 19 3 3 rfl rfl (fun g2 => .v (.fieldAddr rfl) (.v (.load rfl (.one rfl)) (.v (.geq rfl rfl) (.nil ⟨rfl, rfl, rfl, rfl⟩)))) (.v (.move rfl) (.or 21 28 7 4 rfl rfl (fun g3 => .v (.move rfl) (.v (.eqi rfl rfl) (.v (.move rfl) (.and 24 27 3 3 rfl rfl (fun g4 => .v (.fieldAddr rfl) (.v (.load rfl (.one rfl)) (.v (.nei rfl rfl) (.nil ⟨rfl, rfl, rfl, rfl⟩)))) (.nil ⟨rfl, rfl, rfl, rfl⟩))))) (.v (.assign rfl) (.nil ?_)))))))))))))
  refine .cond rfl (fun h1 => ?_) (fun h1 => ?_) <;> simp only [Bool.and_eq_true, Bool.or_eq_true, Bool.not_eq_true', Bool.and_eq_false_iff, Bool.or_eq_false_iff, Bool.not_eq_false', decide_eq_true_eq, decide_eq_false_iff_not, Bool.false_eq_true, false_iff] at h1
  · refine .seq ((.region (.v (.assign rfl) (.nil ?_))))
    exact .ret ⟨[_], ⟨rfl, trivial⟩, by rw [show szd id pr q pk ty = 94 from by unfold szd; rw [if_pos (by omega)]]; rfl⟩
  · refine .seq ((.region (.v (.fieldAddr rfl) (.v (.load rfl (.one rfl)) (.v (.lss rfl rfl) (.v (.move rfl) (.or 34 37 3 3 rfl rfl (fun g5 => .v (.fieldAddr rfl) (.v (.load rfl (.one rfl)) (.v (.gtr rfl rfl) (.nil ⟨rfl, rfl, rfl, rfl⟩)))) (.v (.assign rfl) (.nil ?_)))))))))
    refine .cond rfl (fun h2 => ?_) (fun h2 => ?_) <;> simp only [Bool.and_eq_true, Bool.or_eq_true, Bool.not_eq_true', Bool.and_eq_false_iff, Bool.or_eq_false_iff, Bool.not_eq_false', decide_eq_true_eq, decide_eq_false_iff_not, Bool.false_eq_true, false_iff] at h2
    · refine .seq ((.region (.v (.assign rfl) (.nil ?_))))
      exact .ret ⟨[_], ⟨rfl, trivial⟩, by rw [show szd id pr q pk ty = 95 from by unfold szd; rw [if_neg (by omega), if_pos (by omega)]]; rfl⟩
    · refine .seq ((.region (.v (.fieldAddr rfl) (.v (.load rfl (.one rfl)) (.v (.fieldAddr rfl) (.v (.load rfl (.one rfl)) (.v (.gtr rfl rfl) (.v (.move rfl) (.or 45 60 15 5 rfl rfl (fun g6 => .v (.fieldAddr rfl) (.v (.load rfl (.one rfl)) (.v (.nei rfl rfl) (.v (.move rfl) (.and 49 59 10 4 rfl rfl (fun g7 => .v (.move rfl) (.v (.not rfl) (.v (.move rfl) (.or 52 58 6 6 rfl rfl (fun g8 => .v (.fieldAddr rfl) (.v (.load rfl (.one rfl)) (.v (.mul rfl rfl) (.v (.fieldAddr rfl) (.v (.load rfl (.one rfl)) (.v (.lss rfl rfl) (.nil ⟨rfl, rfl, rfl, rfl⟩))))))) (.nil ⟨rfl, rfl, rfl, rfl⟩))))) (.nil ⟨rfl, rfl, rfl, rfl⟩)))))) (.v (.assign rfl) (.nil ?_)))))))))))
      refine .cond rfl (fun h3 => ?_) (fun h3 => ?_) <;> simp only [Bool.and_eq_true, Bool.or_eq_true, Bool.not_eq_true', Bool.and_eq_false_iff, Bool.or_eq_false_iff, Bool.not_eq_false', decide_eq_true_eq, decide_eq_false_iff_not, Bool.false_eq_true, false_iff] at h3
      · refine .seq ((.region (.v (.assign rfl) (.nil ?_))))
        exact .ret ⟨[_], ⟨rfl, trivial⟩, by rw [show szd id pr q pk ty = 96 from by unfold szd; rw [if_neg (by omega), if_neg (by omega), if_pos (by omega)]]; rfl⟩
      · refine .seq ((.region (.v (.fieldAddr rfl) (.v (.load rfl (.one rfl)) (.v (.eqi rfl rfl) (.v (.assign rfl) (.nil ?_)))))))
        refine .cond_dec rfl (fun h4 => ?_) (fun h4 => .skip ?_)
        · refine .seq ((.region (.v (.assign rfl) (.nil ?_))))
          exact .ret ⟨[_], ⟨rfl, trivial⟩, by rw [show szd id pr q pk ty = 97 from by unfold szd; rw [if_neg (by omega), if_neg (by omega), if_neg (by omega), if_pos (by omega)]]; rfl⟩
        · refine .seq ((.region (.v (.assign rfl) (.nil ?_))))
          exact .ret ⟨[_], ⟨rfl, trivial⟩, by rw [show szd id pr q pk ty = 0 from by unfold szd; rw [if_neg (by omega), if_neg (by omega), if_neg (by omega), if_neg (by omega)]]; rfl⟩
theorem amounts_ok (w : World) (k id tg mb sd t0 pr q pk ty : Int) : Is Try.prog 31 [.agg ⟨ccells k id tg mb sd t0 pr q pk⟩, .int .i64 ty] w (.int .i64 (szd id pr q pk ty)) := by
  refine Does.pure (Does.of (n := 59) Try.func31 rfl rfl rfl rfl ?_)
  refine .seq ((.region (.nw (.box rfl rfl) fun b2 => (.v (.assign rfl) (.nil ?_)))))
  refine .seq (.seq ((.region (.v (.fieldAddr rfl) (.v (.load rfl (.one rfl)) (.v (.lss rfl rfl) (.v (.move rfl) (.or 8 11 3 3 rfl rfl (fun g1 => .v (.fieldAddr rfl) (.v (.load rfl (.one rfl)) (.v (.geq rfl rfl) (.nil ⟨rfl, rfl, rfl, rfl⟩)))) (.v (.move rfl) (.or 13 20 7 4 rfl rfl (fun g2 => .v (.move rfl) (.v (.eqi rfl rfl) (.v (.move rfl) (.and 16 19 3 3 rfl rfl (fun g3 => .v (.fieldAddr rfl) (.v (.load rfl (.one rfl)) (.v (.nei rfl rfl) (.nil ⟨rfl, rfl, rfl, rfl⟩)))) (.nil ⟨rfl, rfl, rfl, rfl⟩))))) (.nil ?_)))))))))))
  refine .cond rfl (fun h1 => ?_) (fun h1 => .skip ?_) <;> simp only [Bool.and_eq_true, Bool.or_eq_true, Bool.not_eq_true', Bool.and_eq_false_iff, Bool.or_eq_false_iff, Bool.not_eq_false', decide_eq_true_eq, decide_eq_false_iff_not, Bool.false_eq_true, false_iff] at h1
  · refine .seq ((.region (.v (.assign rfl) (.nil ?_))))
    exact .ret ⟨[_], ⟨rfl, trivial⟩, by rw [show szd id pr q pk ty = 94 from by unfold szd; rw [if_pos (by omega)]]; rfl⟩
  · refine .seq (.seq ((.region (.v (.fieldAddr rfl) (.v (.load rfl (.one rfl)) (.v (.lss rfl rfl) (.v (.move rfl) (.or 25 28 3 3 rfl rfl (fun g4 => .v (.fieldAddr rfl) (.v (.load rfl (.one rfl)) (.v (.gtr rfl rfl) (.nil ⟨rfl, rfl, rfl, rfl⟩)))) (.nil ?_)))))))))
    refine .cond rfl (fun h2 => ?_) (fun h2 => .skip ?_) <;> simp only [Bool.and_eq_true, Bool.or_eq_true, Bool.not_eq_true', Bool.and_eq_false_iff, Bool.or_eq_false_iff, Bool.not_eq_false', decide_eq_true_eq, decide_eq_false_iff_not, Bool.false_eq_true, false_iff] at h2
    · refine .seq ((.region (.v (.assign rfl) (.nil ?_))))
      exact .ret ⟨[_], ⟨rfl, trivial⟩, by rw [show szd id pr q pk ty = 95 from by unfold szd; rw [if_neg (by omega), if_pos (by omega)]]; rfl⟩
    · refine .seq (.seq ((.region (.v (.fieldAddr rfl) (.v (.load rfl (.one rfl)) (.v (.fieldAddr rfl) (.v (.load rfl (.one rfl)) (.v (.gtr rfl rfl) (.v (.move rfl) (.or 35 54 19 5 rfl rfl (fun g5 => .v (.fieldAddr rfl) (.v (.load rfl (.one rfl)) (.v (.nei rfl rfl) (.v (.move rfl) (.and 39 53 14 6 rfl rfl (fun g6 => .v (.move rfl) (.v (.nei rfl rfl) (.v (.move rfl) (.and 42 44 2 2 rfl rfl (fun g7 => .v (.move rfl) (.v (.nei rfl rfl) (.nil ⟨rfl, rfl, rfl, rfl⟩))) (.v (.move rfl) (.or 46 52 6 6 rfl rfl (fun g8 => .v (.fieldAddr rfl) (.v (.load rfl (.one rfl)) (.v (.mul rfl rfl) (.v (.fieldAddr rfl) (.v (.load rfl (.one rfl)) (.v (.lss rfl rfl) (.nil ⟨rfl, rfl, rfl, rfl⟩))))))) (.nil ⟨rfl, rfl, rfl, rfl⟩))))))) (.nil ⟨rfl, rfl, rfl, rfl⟩)))))) (.nil ?_)))))))))))
      refine .cond rfl (fun h3 => ?_) (fun h3 => .skip ?_) <;> simp only [Bool.and_eq_true, Bool.or_eq_true, Bool.not_eq_true', Bool.and_eq_false_iff, Bool.or_eq_false_iff, Bool.not_eq_false', decide_eq_true_eq, decide_eq_false_iff_not, Bool.false_eq_true, false_iff] at h3
      · refine .seq ((.region (.v (.assign rfl) (.nil ?_))))
        exact .ret ⟨[_], ⟨rfl, trivial⟩, by rw [show szd id pr q pk ty = 96 from by unfold szd; rw [if_neg (by omega), if_neg (by omega), if_pos (by omega)]]; rfl⟩
      · refine .seq (.seq ((.region (.v (.fieldAddr rfl) (.v (.load rfl (.one rfl)) (.v (.eqi rfl rfl) (.nil ?_)))))))
        refine .cond_dec rfl (fun h4 => ?_) (fun h4 => .skip ?_)
        · refine .seq ((.region (.v (.assign rfl) (.nil ?_))))
          exact .ret ⟨[_], ⟨rfl, trivial⟩, by rw [show szd id pr q pk ty = 97 from by unfold szd; rw [if_neg (by omega), if_neg (by omega), if_neg (by omega), if_pos (by omega)]]; rfl⟩
        · refine .seq ((.region (.v (.assign rfl) (.nil ?_))))
          exact .ret ⟨[_], ⟨rfl, trivial⟩, by rw [show szd id pr q pk ty = 0 from by unfold szd; rw [if_neg (by omega), if_neg (by omega), if_neg (by omega), if_neg (by omega)]]; rfl⟩
theorem Check_ok (w : World) (k id tg mb sd ty pr q pk : Int) : Is Try.prog 14 [.agg ⟨ccells k id tg mb sd ty pr q pk⟩] w (.int .i64 (chk k id sd ty pr q pk)) := by
  refine Does.pure (Does.of (n := 33) Try.func14 rfl rfl rfl rfl ?_)
  refine .seq ((.region (.nw (.box rfl rfl) fun b1 => (.v (.assign rfl) (.nil ?_)))))
  refine .seq (.seq ((.region (.v (.fieldAddr rfl) (.v (.load rfl (.one rfl)) (.nil ?_))))))
  refine .block (.seq ((.region (.v (.eqi rfl rfl) (.v (.assign rfl) (.nil ?_))))))
  refine .cond_dec rfl (fun h1 => ?_) (fun h1 => ?_)
  · refine .seq (.seq ((.region (.v (.fieldAddr rfl) (.v (.load rfl (.one rfl)) (.v (.nei rfl rfl) (.v (.move rfl) (.and 10 13 3 3 rfl rfl (fun g1 => .v (.fieldAddr rfl) (.v (.load rfl (.one rfl)) (.v (.nei rfl rfl) (.nil ⟨rfl, rfl, rfl, rfl⟩)))) (.nil ?_)))))))))
    refine .cond rfl (fun h2 => ?_) (fun h2 => .skip ?_) <;> simp only [Bool.and_eq_true, Bool.or_eq_true, Bool.not_eq_true', Bool.and_eq_false_iff, Bool.or_eq_false_iff, Bool.not_eq_false', decide_eq_true_eq, decide_eq_false_iff_not, Bool.false_eq_true, false_iff] at h2
    · refine .seq ((.region (.v (.assign rfl) (.nil ?_))))
      exact .ret ⟨[_], ⟨rfl, trivial⟩, by rw [show chk k id sd ty pr q pk = 92 from by unfold chk; rw [if_pos (by omega), if_pos (by omega)]]; rfl⟩
    · refine .seq (.seq ((.region (.v (.fieldAddr rfl) (.v (.load rfl (.one rfl)) (.v (.lss rfl rfl) (.v (.move rfl) (.or 18 21 3 3 rfl rfl (fun g2 => .v (.fieldAddr rfl) (.v (.load rfl (.one rfl)) (.v (.gtr rfl rfl) (.nil ⟨rfl, rfl, rfl, rfl⟩)))) (.nil ?_)))))))))
      refine .cond rfl (fun h3 => ?_) (fun h3 => .skip ?_) <;> simp only [Bool.and_eq_true, Bool.or_eq_true, Bool.not_eq_true', Bool.and_eq_false_iff, Bool.or_eq_false_iff, Bool.not_eq_false', decide_eq_true_eq, decide_eq_false_iff_not, Bool.false_eq_true, false_iff] at h3
      · refine .seq ((.region (.v (.assign rfl) (.nil ?_))))
        exact .ret ⟨[_], ⟨rfl, trivial⟩, by rw [show chk k id sd ty pr q pk = 93 from by unfold chk; rw [if_pos (by omega), if_neg (by omega), if_pos (by omega)]]; rfl⟩
      · refine .seq ((.region (.v (.loadA rfl .whole rfl) (.v (.fieldAddr rfl) (.v (.load rfl (.one rfl)) (.pc rfl rfl (fun w s => sized_ok w k id tg mb sd ty pr q pk ty) (.v (.assign rfl) (.nil ?_))))))))
        exact .ret ⟨[_], ⟨rfl, trivial⟩, by rw [show chk k id sd ty pr q pk = szd id pr q pk ty from by unfold chk; rw [if_pos (by omega), if_neg (by omega), if_neg (by omega)]]; rfl⟩
  · refine .seq ((.region (.v (.eqi rfl rfl) (.v (.assign rfl) (.nil ?_)))))
    refine .cond_dec rfl (fun h4 => ?_) (fun h4 => ?_)
    · refine .seq ((.region (.v (.loadA rfl .whole rfl) (.pc rfl rfl (fun w s => sized_ok w k id tg mb sd ty pr q pk 1) (.v (.assign rfl) (.nil ?_))))))
      exact .ret ⟨[_], ⟨rfl, trivial⟩, by rw [show chk k id sd ty pr q pk = szd id pr q pk 1 from by unfold chk; rw [if_neg (by omega), if_pos (by omega)]]; rfl⟩
    · refine .seq ((.region (.v (.eqi rfl rfl) (.v (.assign rfl) (.nil ?_)))))
      refine .cond_dec rfl (fun h5 => ?_) (fun h5 => .skip ?_)
      · refine .seq ((.region (.v (.assign rfl) (.nil ?_))))
        exact .ret ⟨[_], ⟨rfl, trivial⟩, by rw [show chk k id sd ty pr q pk = 0 from by unfold chk; rw [if_neg (by omega), if_neg (by omega), if_pos (by omega)]]; rfl⟩
      · refine .seq ((.region (.v (.assign rfl) (.nil ?_))))
        exact .ret ⟨[_], ⟨rfl, trivial⟩, by rw [show chk k id sd ty pr q pk = 90 from by unfold chk; rw [if_neg (by omega), if_neg (by omega), if_neg (by omega)]]; rfl⟩
theorem refCheck_ok (w : World) (k id tg mb sd ty pr q pk : Int) : Is Try.prog 15 [.agg ⟨ccells k id tg mb sd ty pr q pk⟩] w (.int .i64 (chk k id sd ty pr q pk)) := by
  refine Does.pure (Does.of (n := 33) Try.func15 rfl rfl rfl rfl ?_)
  refine .seq ((.region (.nw (.box rfl rfl) fun b1 => (.v (.assign rfl) (.nil ?_)))))
  refine .seq (.seq ((.region (.v (.fieldAddr rfl) (.v (.load rfl (.one rfl)) (.nil ?_))))))
  refine .block (.seq ((.region (.v (.eqi rfl rfl) (.v (.assign rfl) (.nil ?_))))))
  refine .cond_dec rfl (fun h1 => ?_) (fun h1 => ?_)
  · refine .seq ((.region (.v (.assign rfl) (.nil ?_))))
    exact .ret ⟨[_], ⟨rfl, trivial⟩, by rw [show chk k id sd ty pr q pk = 0 from by unfold chk; rw [if_neg (by omega), if_neg (by omega), if_pos (by omega)]]; rfl⟩
  · refine .seq ((.region (.v (.eqi rfl rfl) (.v (.assign rfl) (.nil ?_)))))
    refine .cond_dec rfl (fun h2 => ?_) (fun h2 => ?_)
    · refine .seq ((.region (.v (.loadA rfl .whole rfl) (.pc rfl rfl (fun w s => amounts_ok w k id tg mb sd ty pr q pk 1) (.v (.assign rfl) (.nil ?_))))))
      exact .ret ⟨[_], ⟨rfl, trivial⟩, by rw [show chk k id sd ty pr q pk = szd id pr q pk 1 from by unfold chk; rw [if_neg (by omega), if_pos (by omega)]]; rfl⟩
    · refine .seq ((.region (.v (.eqi rfl rfl) (.v (.assign rfl) (.nil ?_)))))
      refine .cond_dec rfl (fun h3 => ?_) (fun h3 => .skip ?_)
      · refine .seq (.seq ((.region (.v (.fieldAddr rfl) (.v (.load rfl (.one rfl)) (.v (.nei rfl rfl) (.v (.move rfl) (.and 16 19 3 3 rfl rfl (fun g1 => .v (.fieldAddr rfl) (.v (.load rfl (.one rfl)) (.v (.nei rfl rfl) (.nil ⟨rfl, rfl, rfl, rfl⟩)))) (.nil ?_)))))))))
        refine .cond rfl (fun h4 => ?_) (fun h4 => .skip ?_) <;> simp only [Bool.and_eq_true, Bool.or_eq_true, Bool.not_eq_true', Bool.and_eq_false_iff, Bool.or_eq_false_iff, Bool.not_eq_false', decide_eq_true_eq, decide_eq_false_iff_not, Bool.false_eq_true, false_iff] at h4
        · refine .seq ((.region (.v (.assign rfl) (.nil ?_))))
          exact .ret ⟨[_], ⟨rfl, trivial⟩, by rw [show chk k id sd ty pr q pk = 92 from by unfold chk; rw [if_pos (by omega), if_pos (by omega)]]; rfl⟩
        · refine .seq (.seq ((.region (.v (.fieldAddr rfl) (.v (.load rfl (.one rfl)) (.v (.lss rfl rfl) (.v (.move rfl) (.or 24 27 3 3 rfl rfl (fun g2 => .v (.fieldAddr rfl) (.v (.load rfl (.one rfl)) (.v (.gtr rfl rfl) (.nil ⟨rfl, rfl, rfl, rfl⟩)))) (.nil ?_)))))))))
          refine .cond rfl (fun h5 => ?_) (fun h5 => .skip ?_) <;> simp only [Bool.and_eq_true, Bool.or_eq_true, Bool.not_eq_true', Bool.and_eq_false_iff, Bool.or_eq_false_iff, Bool.not_eq_false', decide_eq_true_eq, decide_eq_false_iff_not, Bool.false_eq_true, false_iff] at h5
          · refine .seq ((.region (.v (.assign rfl) (.nil ?_))))
            exact .ret ⟨[_], ⟨rfl, trivial⟩, by rw [show chk k id sd ty pr q pk = 93 from by unfold chk; rw [if_pos (by omega), if_neg (by omega), if_pos (by omega)]]; rfl⟩
          · refine .seq ((.region (.v (.loadA rfl .whole rfl) (.v (.fieldAddr rfl) (.v (.load rfl (.one rfl)) (.pc rfl rfl (fun w s => amounts_ok w k id tg mb sd ty pr q pk ty) (.v (.assign rfl) (.nil ?_))))))))
            exact .ret ⟨[_], ⟨rfl, trivial⟩, by rw [show chk k id sd ty pr q pk = szd id pr q pk ty from by unfold chk; rw [if_pos (by omega), if_neg (by omega), if_neg (by omega)]]; rfl⟩
      · refine .seq ((.region (.v (.assign rfl) (.nil ?_))))
        exact .ret ⟨[_], ⟨rfl, trivial⟩, by rw [show chk k id sd ty pr q pk = 90 from by unfold chk; rw [if_neg (by omega), if_neg (by omega), if_neg (by omega)]]; rfl⟩
end Go.Proofs.Ytmfobfamdaajmaa
