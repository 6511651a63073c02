/- Pieces of bytes: as they come in. -/
import Derived.Test.YtcgnbdgagkhehaaLLeft
import Derived.Test.YtcgnbdgagkhehaaBReaders
namespace Go.Proofs.Ytcgnbdgagkhehaa
open Go.V Go.ChangeShapes Go.WideShapes Go.ChangeAt
set_option linter.unusedVariables false
set_option linter.unusedSimpArgs false

theorem read_pieces {H : Type} {enc : TypeId × Value → H} {base : Nat} {spare : Nat → Bool} {held : Bool} {W : World} {A : Option Addr} {len cap : Nat} {d : DataW H} {p : List MemPlace}
    (h : DataW.Trod enc Try.prog W base spare held 65 (.slice A len cap) d p) (hk : Rows.uptoBulk d ≤ 1048576) :
    ∃ l : List PcD, len = l.length ∧ (∀ (i : Nat) (d : PcD), l[i]? = some d → ∃ b o, A = some ⟨b, o, none⟩ ∧ W.cell? ⟨b, o + i, none⟩ = some (.slice d.B d.ys.length d.c)) ∧
      (∀ (i : Nat) (d : PcD), l[i]? = some d → Rd W [] d.B (byts d.ys)) ∧ ptot l ≤ 1048576 ∧ len ≤ 1048576 := by
  obtain ⟨A', len', cap', css, ds, e0, h2, h3, h4, h5, h6, h7⟩ := (TC.of h (cs := [.slice A len cap]) rfl).slice Try.underlying65 (m := 1) (by kernel_rfl) (by omega)
  cases e0
  obtain ⟨l, hl1, hl2⟩ := list_of (Q := fun i (x : PcD) => css[i]? = some [.slice x.B x.ys.length x.c] ∧ Rd W [] x.B (byts x.ys) ∧ ∀ di, ds[i]? = some di → x.ys.length ≤ Rows.uptoBulk di) len (fun i hi => by
    have hc := List.getElem?_eq_getElem (show i < css.length by omega)
    have hd := List.getElem?_eq_getElem (show i < ds.length by omega)
    obtain ⟨B, cB, ys, f2, f3, f4⟩ := (h7 i _ _ hc hd).bytes Try.underlying22 Try.underlying5 (by kernel_rfl)
    refine ⟨⟨B, cB, ys⟩, by rw [hc, f2], f3, fun di hdi => ?_⟩
    rw [hd] at hdi
    cases hdi
    exact bulk_bytes (by rcases f4 with ⟨a, b⟩ | f4; exact .inl ⟨a, by simp [b]⟩; exact .inr f4))
  have hbulk : ptot l ≤ 1048576 ∧ len ≤ 1048576 := by
    rcases h6 with ⟨_, e2⟩ | ⟨sp, e1⟩
    · subst e2
      have : l = [] := List.eq_nil_of_length_eq_zero hl1
      subst this
      simp [ptot]
    · rw [e1] at hk
      simp only [Rows.uptoBulk] at hk
      have := bulk_sum (fun x : PcD => x.ys.length) (ds := ds) (l := l) (by omega) (fun i x di hx hdi => (hl2 i x hx).2.2 di hdi)
      have h8 := bulk_len ds
      refine ⟨by unfold ptot; omega, by omega⟩
  refine ⟨l, hl1.symm, fun i x hx => ?_, fun i x hx => (hl2 i x hx).2.1, hbulk.1, hbulk.2⟩
  obtain ⟨b, o, e1, e2⟩ := h5 i _ (hl2 i x hx).1 0 _ rfl
  exact ⟨b, o, e1, by simpa using e2⟩
end Go.Proofs.Ytcgnbdgagkhehaa
