/- WireSums: the walk. -/
import Derived.Test.YtcgnbdgagkhehaaWHand
namespace Go.Proofs.Ytcgnbdgagkhehaa
open Go.V
set_option linter.unusedVariables false

theorem WireSums_ok (w : World) (A : Option Addr) (len cap : Nat) (xs : List (BitVec 8)) (hx : Rd w [] A (byts xs)) (hl : len = xs.length) (hb : len ≤ 140737488351232) :
    Does Try.prog 3 [.slice A len cap] [] w (fun v hs => v = .bool true ∧ hs = []) := by
  refine Does.of (n := 19) Try.func3 rfl rfl rfl rfl ?_
  refine .seq ((.region (.v (.assign rfl) (.nil ?_))))
  refine .seq ((.region (.v (.move rfl) (.ef (.call0 rfl rfl fun w s => hand_ok w A len cap xs (Rd.keep0 (own := bl []) hx s) hl (by omega)) ?_))))
  rintro _ _ ⟨h, ho, rfl⟩
  obtain ⟨b, o, c1, l, rfl, rfl, hc, hlen, htk, hvl⟩ := ho.pos (by omega)
  have hcells : ∀ (j : Nat) (v : Value), (byts (xs ++ marks))[j]? = some v → l[o + j]? = some v := by
    intro j v hv
    rw [← htk, List.getElem?_take] at hv
    split at hv
    · rw [List.getElem?_drop] at hv; exact hv
    · cases hv
  have hcx : ∀ (j : Nat) (v : Value), (byts xs)[j]? = some v → l[o + j]? = some v := by
    intro j v hv
    refine hcells j v ?_
    rw [byts_append, List.getElem?_append_left (List.getElem?_eq_some_iff.1 hv).1]; exact hv
  refine .v (.assign rfl) (.nil ?_)
  refine .seq ((.region (.v (.move rfl) (.v (.move rfl) (.v (.len rfl) (.v (.slHi rfl rfl (by omega) (by omega)) (.ef (.call0 rfl rfl fun w s => Sum_ok w _ _ c1 xs (Rd.chunk s (by simp) hcx) (by simpa using hl) (by simp; omega)) ?_)))))))
  rintro _ _ ⟨_, ⟨rfl, rfl⟩, rfl⟩
  refine .v (.move rfl) (.ef (.call0 rfl rfl fun w s => refSum_ok w _ _ cap xs (Rd.keep0 (own := bl []) hx s) hl (by omega)) ?_)
  rintro _ _ ⟨_, ⟨rfl, rfl⟩, rfl⟩
  refine .v (.eqi rfl rfl) (.v (.move rfl) (.split (t := 14) rfl (fun _ => ?_) (fun h => absurd rfl h)))
  refine .v (.move rfl) (.v (.move rfl) (.ef (.call (pre := [(b, .cells l 5)]) (fr := []) rfl rfl (List.Perm.refl _) fun w' s => left_ok w' b o c1 len cap A l (xs ++ marks) xs 5 (len + 5) (by simp [marks, hl]) (by simpa using htk) (by omega) (by omega) (Rd.keep (own := bl []) hx s ?_) hl (by omega) (by omega)) ?_))
  · intro b' hb'
    simp at hb'
    subst hb'
    exact s.mine _ (by simp [bl])
  rintro _ _ ⟨_, ⟨rfl, rfl⟩, rfl⟩
  refine .v (.pick rfl rfl rfl) (.v (.assign rfl) (.nil ?_))
  refine .ret ?_
  exact ⟨[_], ⟨rfl, trivial⟩, by simp [tup], rfl⟩
end Go.Proofs.Ytcgnbdgagkhehaa
