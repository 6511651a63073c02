/- RiskLimits: for every input the law returns true; the input reads as it did. Condition: the arguments hold together at most 1048576 values and letters. -/
import Derived.Test.YtfajjkolhajldaaYRiskLimitsF
import Derived.Test.YtfajjkolhajldaaYRiskLimitsA
import Derived.Test.YtfajjkolhajldaaRows
namespace Go.Proofs.Ytfajjkolhajldaa.riskLimitsU
open Go.ChangeShapes Go.WideShapes Go.ChangeAt Go.RowKit Go.V
open Go.ChangeMaps (open_string shut_string)
set_option linter.unusedVariables false

theorem own : ownKnob Try.prog.godebug = none := by kernel_rfl
theorem laidOut : laidOutB Try.prog = true := by kernel_rfl

set_option maxRecDepth 100000 in
theorem lifted (os : Os) (started : os.Started) (H : Type) (enc : TypeId × Value → H) (F : Stop.Interp) :
    ReturnsInHanded {} Try.checked os 6 .any ((Rows.OpenSpec.upto Rows.riskLimitsSpec).pre6 enc Try.prog Try.f6 Rows.riskLimitsUptoRow.domain false) (((Rows.OpenSpec.upto Rows.riskLimitsSpec).at F).post enc Try.prog Try.f6 false true false false) := by
  refine returnsInHanded_of_cond (C := Try.checked) (s := (Rows.OpenSpec.upto Rows.riskLimitsSpec)) (k := Rows.uptoSmall) rfl own started (by kernel_rfl) Try.func6
    (OpenSpec.witness (enc := enc) (C := Try.checked) (s := (Rows.OpenSpec.upto Rows.riskLimitsSpec)) (k := Rows.uptoSmall) rfl false ⟨#[], #[.agg #[.int .i64 0, .int .i64 0, .slice none 0 0, .slice none 0 0, .slice none 0 0]], []⟩ 8 (by kernel_rfl) (by kernel_rfl) (by kernel_rfl)
      (x := ([.agg [.agg [.lit (.int .i64 0), .lit (.int .i64 0)], .nil, .nil, .nil]], [], [])) (by kernel_rfl) rfl (by kernel_rfl)) ?_
  intro W base args ds gs before hval0 hW hcnd hk0 _
  have hval : ∀ (j : Nat) t v, Try.f6.params[j]? = some t → args[j]? = some v → Value.okWide Try.prog W .any base t v := hval0
  have hW' := hW
  obtain ⟨p, q, hA0, hV, rfl, hfz, hnd⟩ := hW
  have hA : DataW.TrodAll enc Try.prog W 0 (fun _ => true) true Try.f6.params.toList args.toList ds p := hA0
  rw [Try.params6] at hA hval
  obtain ⟨v0, vs0, d0, ds0, p0, q0, hargs, rfl, rfl, h0, r0⟩ := trodAll_cons hA
  obtain ⟨rfl, rfl, rfl⟩ := trodAll_nil r0
  obtain rfl : args = #[v0] := by cases args; simp_all
  obtain ⟨rfl, rfl⟩ := trodVars_none hV
  have k0 := h0
  have lt0 : ∀ x ∈ p0, x.block < W.heap.size := by obtain ⟨m, hm⟩ := k0; exact DataW.trod_lt m _ _ _ hm
  obtain ⟨cs0, rfl⟩ := okWide_agg (P := Try.prog) (T := 75) (m := 5) inferInstance (hval 0 75 v0 rfl rfl)
  have hk : Rows.uptoBulkAll [d0] ≤ 1048576 := by
    have := of_decide_eq_true hk0
    simpa using this
  obtain ⟨cc, cm, A0, p0', L, A, cap, l, A2, p2', ks, el, rA0, hL, rA, ho, rA2, nL⟩ := read_run (TC.of h0 (cs := cs0) rfl)
  cases el
  simp only [Rows.uptoBulkAll] at hk
  clear hA0 hval0
  refine (RiskLimits_ok W cc cm A0 p0' L A cap l A2 p2' ks rA0 hL rA (fun c hc => ⟨(ho c hc).wf, by obtain ⟨_, _, _, ⟨h4, h5⟩, _, _, ⟨_, h7⟩, _⟩ := ho c hc; exact ⟨h4, by omega, h7⟩⟩) rA2 (by omega) (by omega) (by omega)).calls.mono fun e W' ⟨⟨v, hs, he, hv, _⟩, bel⟩ => ?_
  subst he
  subst hv
  exact ⟨_, rfl, _, _, _, [], _, [], hW', trodAll_mk1 (shut_bool Try.underlying4 _), (trodAll_cons_mk (Below.trod laidOut (by kernel_rfl) (of_decide_eq_true (by kernel_rfl)) k0 bel lt0) trodAll_mk0), rfl, bel.frame _, fun h => by cases h⟩

theorem over : Rows.riskLimitsUptoRow.holds Try.pinned (Rows.OpenSpec.upto Rows.riskLimitsSpec) :=
  OpenClaim.holds_of_cond 6 Try.f6 rfl rfl rfl rfl rfl rfl rfl ⟨rfl, rfl, rfl, rfl, rfl⟩ rfl rfl rfl rfl rfl (by kernel_rfl) Try.func6 (by kernel_rfl)
    (of_decide_eq_true (by kernel_rfl)) (by unfold Func.isWrapper; first | (rw [if_pos (by decide +kernel)]; kernel_rfl) | (rw [if_neg (by decide +kernel)]; exact ⟨rfl, rfl⟩))
    (fun os started H enc _ F => lifted os started H enc F)

/-- THE STATEMENT -/
theorem proved : Rows.RiskLimitsUptoSaid := over
end Go.Proofs.Ytfajjkolhajldaa.riskLimitsU
