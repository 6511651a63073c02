/- RulesChecks: for every input the law returns true; the input reads as it did. No condition. -/
import Derived.Test.YtmfobfamdaajmaaQChecks
import Derived.Test.YtmfobfamdaajmaaVG
import Derived.Test.YtmfobfamdaajmaaQRead
import Derived.Test.YtmfobfamdaajmaaRows
namespace Go.Proofs.Ytmfobfamdaajmaa.rulesChecks
open Go.ChangeShapes Go.WideShapes Go.ChangeAt Go.RowKit Go.V
open Go.ChangeMaps (open_string shut_string)
set_option linter.unusedVariables false

theorem own : ownKnob Try.prog.godebug = none := by kernel_rfl
theorem laidOut : laidOutB Try.prog = true := by kernel_rfl

set_option maxRecDepth 100000 in
theorem lifted (os : Os) (started : os.Started) (H : Type) (enc : TypeId × Value → H) :
    ReturnsInHanded {} Try.checked os 3 .any (Rows.rulesChecksSpec.pre6 enc Try.prog Try.f3 Rows.rulesChecksRow.domain false) (Rows.rulesChecksSpec.post enc Try.prog Try.f3 false true false false) := by
  refine returnsInHanded_of_change_sized (C := Try.checked) own started (by kernel_rfl) Try.func3
    (ChangeSpec.witness6 (enc := enc) (C := Try.checked) false ⟨#[], #[.agg #[.int .i64 0, .int .u64 0, .int .u64 0, .int .u32 0, .int .i64 0, .int .i64 0, .int .i64 0, .int .u64 0, .int .u64 0], .agg #[.int .i64 0, .int .i64 0, .slice none 0 0, .slice none 0 0, .int .u64 0, .int .u64 0]], []⟩ 8 (by kernel_rfl) (by kernel_rfl) (by kernel_rfl) (by kernel_rfl)) ?_
  intro W base args ds gs before hval0 hW hcnd hsz0 _
  have hsz : (DataW.weightsEach Try.prog (Try.f3.params.toList ++ Rows.rulesChecksSpec.plain.varTypes Try.prog) (ds ++ gs)).all (· ≤ reachBytes) = true := hsz0
  clear hsz0
  have hval : ∀ (j : Nat) t v, Try.f3.params[j]? = some t → args[j]? = some v → Value.okWide Try.prog W .any base t v := hval0
  have hW' := hW
  obtain ⟨p, q, hA0, hV, rfl, hfz, hnd⟩ := hW
  have hA : DataW.TrodAll enc Try.prog W 0 (fun _ => true) true Try.f3.params.toList args.toList ds p := hA0
  rw [Try.params3] at hA hval hsz
  obtain ⟨v0, vs0, d0, ds0, p0, q0, hargs, rfl, rfl, h0, r0⟩ := trodAll_cons hA
  obtain ⟨v1, vs1, d1, ds1, p1, q1, rfl, rfl, rfl, h1, r1⟩ := trodAll_cons r0
  obtain ⟨rfl, rfl, rfl⟩ := trodAll_nil r1
  obtain rfl : args = #[v0, v1] := by cases args; simp_all
  obtain ⟨rfl, rfl⟩ := trodVars_none hV
  have k0 := h0
  have lt0 : ∀ x ∈ p0, x.block < W.heap.size := by obtain ⟨m, hm⟩ := k0; exact DataW.trod_lt m _ _ _ hm
  obtain ⟨cs0, rfl, ok0⟩ := open_plain (P := Try.prog) (T := 25) (hval 0 25 v0 rfl rfl) h0
  have k1 := h1
  have lt1 : ∀ x ∈ p1, x.block < W.heap.size := by obtain ⟨m, hm⟩ := k1; exact DataW.trod_lt m _ _ _ hm
  obtain ⟨cs1, rfl⟩ := okWide_agg (P := Try.prog) (T := 30) (m := 6) inferInstance (hval 1 30 v1 rfl rfl)
  obtain ⟨k, id, tg, mb, sd, ty, pr, q, pk, rfl, _⟩ := okw_cmd ok0
  obtain ⟨cap, meet, A1, c1, A2, c2, high, seq, bs, ss, rfl, _, _, _, _, r1, r2, ho, dc, e1, e2, dh, dq, rfl, n1, n2⟩ := read_book (TC.of h1 (cs := cs1) rfl)
  have hsz2 := sized_agg hsz (j := 1) rfl rfl Try.underlying30
  have hb : Try.prog.bytesOf 53 = 56 := by kernel_rfl
  have b1 : bs.length ≤ 2513169434843 := by
    have := sized_len hsz2 (j := 1) rfl rfl Try.underlying28 n1
    rw [hb] at this; simp only [reachBytes] at this; omega
  have b2 : ss.length ≤ 2513169434843 := by
    have := sized_len hsz2 (j := 2) rfl rfl Try.underlying28 n2
    rw [hb] at this; simp only [reachBytes] at this; omega
  clear hA0 hval0
  refine (RulesChecks_ok W k id tg mb sd ty pr q pk cap meet high seq A1 A2 c1 c2 bs ss r1 r2 (fun o h => (ho o h).wf) b1 b2).calls.mono fun e W' ⟨⟨v, hs, he, hv, _⟩, bel⟩ => ?_
  subst he
  subst hv
  exact ⟨_, rfl, _, _, _, [], _, [], hW', trodAll_mk1 (shut_bool Try.underlying4 _), (trodAll_cons_mk (Below.trod laidOut (by kernel_rfl) (of_decide_eq_true (by kernel_rfl)) k0 bel lt0) (trodAll_cons_mk (Below.trod laidOut (by kernel_rfl) (of_decide_eq_true (by kernel_rfl)) k1 bel lt1) trodAll_mk0)), rfl, bel.frame _, fun h => by cases h⟩

theorem over : Rows.rulesChecksRow.holds Try.pinned (OpenSpec.ofChange Rows.rulesChecksSpec) :=
  OpenClaim.holds_of_wide 3 Try.f3 rfl rfl rfl rfl rfl rfl rfl ⟨rfl, rfl, rfl, rfl, rfl⟩ rfl rfl rfl rfl rfl (by kernel_rfl) Try.func3 (by kernel_rfl)
    (of_decide_eq_true (by kernel_rfl)) (by unfold Func.isWrapper; first | (rw [if_pos (by decide +kernel)]; kernel_rfl) | (rw [if_neg (by decide +kernel)]; exact ⟨rfl, rfl⟩))
    (fun os started H enc _ => lifted os started H enc)

/-- THE STATEMENT -/
theorem proved : Rows.RulesChecksSaid := over
end Go.Proofs.Ytmfobfamdaajmaa.rulesChecks

