/- slices.Clone of a side. -/
import Derived.Test.YtmfobfamdaajmaaQRValid
import Derived.Test.YtmfobfamdaajmaaVS
namespace Go.Proofs.Ytmfobfamdaajmaa
open Go.V
set_option linter.unusedVariables false
set_option linter.unusedSimpArgs false

set_option maxRecDepth 10000 in
theorem clone_ok (w : World) (A : Option Addr) (len cap : Nat) (l : List Ord) (hx : Rd w [] A (rows l)) (hl : len = l.length) (hb : len ≤ 2513169434843) :
    Does Try.prog 50 [.slice A len cap] [] w (fun v hs => OwnS 53 7 v l.length (rows l) hs) := by
  refine Does.less (Does.of (n := 8) Try.func50 rfl rfl rfl rfl ?_)
  refine .seq ((.region (.v (.assign rfl) (.nil ?_))))
  refine .seq (.seq ((.region (.v (.move rfl) (.v (.eql_slice_nil rfl rfl) (.nil ?_))))))
  refine .cond rfl (fun h1 => ?_) (fun h1 => .skip ?_)
  · have hA : A = none := by simpa using h1
    subst hA
    have h0 : l.length = 0 := by
      have := congrArg List.length hx.empty
      rw [rows_length] at this
      simp only [List.length_nil] at this; omega
    have hl0 : l = [] := List.eq_nil_of_length_eq_zero h0
    subst hl0
    refine .seq ((.region (.v (.assign rfl) (.nil ?_))))
    exact .ret ⟨[_], ⟨rfl, trivial⟩, [], fun _ s => s, OwnS.nil _ _⟩
  · refine .seq ((.region (.ef (.buildSlice (out := []) rfl (by decide) rfl rfl) ?_)))
    rintro _ _ ⟨b6, rfl, rfl⟩
    refine .v (.move rfl) ?_
    refine .ef (.append (c := 0) (k := len) (vs := []) (news := rows l) (h := [(b6, .cells [] 53)]) (fr := []) rfl rfl ⟨rfl, .inr ⟨b6, 0, 0, [], rfl, rfl, by omega, by simp, by simp⟩⟩ (by exact List.Perm.refl _)
      (fun w' s => (hx.keep0 s).src (by rw [rows_length, hl]) (by omega)) (by rw [rows_length, hl]) (rows_ones _) (by omega) (by omega)) ?_
    rintro v _ ⟨h', k', rfl⟩
    refine .v (.assign rfl) (.nil ?_)
    refine .ret ⟨[_], ⟨rfl, trivial⟩, h', fun _ s => by simpa using s, ?_⟩
    rw [Nat.zero_add, hl] at k'
    exact k'
end Go.Proofs.Ytmfobfamdaajmaa
