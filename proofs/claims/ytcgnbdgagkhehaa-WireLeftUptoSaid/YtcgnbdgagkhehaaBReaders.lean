/- Scripts for readers: as they come in. -/
import Derived.Test.YtcgnbdgagkhehaaLReaders
import Derived.Test.YtcgnbdgagkhehaaVN
import Derived.Test.YtcgnbdgagkhehaaRows
namespace Go.Proofs.Ytcgnbdgagkhehaa
open Go.V Go.ChangeShapes Go.WideShapes Go.ChangeAt
set_option linter.unusedVariables false
set_option linter.unusedSimpArgs false

theorem bulk_pos {H : Type} (d : DataW H) : 1 ≤ Rows.uptoBulk d := by
  cases d with
  | lit l => cases l <;> simp [Rows.uptoBulk]
  | _ => simp [Rows.uptoBulk]
theorem bulk_len {H : Type} : ∀ (ds : List (DataW H)), ds.length ≤ Rows.uptoBulkAll ds
  | [] => by simp
  | d :: ds => by
    have h1 := bulk_pos d
    have h2 := bulk_len ds
    simp only [Rows.uptoBulkAll, List.length_cons]
    omega
theorem bulk_get {H : Type} : ∀ {ds : List (DataW H)} {i : Nat} {d : DataW H}, ds[i]? = some d → Rows.uptoBulk d ≤ Rows.uptoBulkAll ds
  | d' :: ds, 0, d, h => by simp at h; subst h; simp [Rows.uptoBulkAll]
  | d' :: ds, i + 1, d, h => by
    have := bulk_get (ds := ds) (i := i) (by simpa using h)
    simp only [Rows.uptoBulkAll]
    omega
  | [], i, d, h => by simp at h
theorem bulk_sum {H α : Type} (f : α → Nat) : ∀ {ds : List (DataW H)} {l : List α}, l.length = ds.length → (∀ (i : Nat) (x : α) (d : DataW H), l[i]? = some x → ds[i]? = some d → f x ≤ Rows.uptoBulk d) → (l.map f).sum ≤ Rows.uptoBulkAll ds
  | [], [], _, _ => by simp
  | d :: ds, x :: l, h, k => by
    have h1 := k 0 x d rfl rfl
    have h2 := bulk_sum f (ds := ds) (l := l) (by simpa using h) (fun i x d hx hd => k (i + 1) x d (by simpa using hx) (by simpa using hd))
    simp only [List.map_cons, List.sum_cons, Rows.uptoBulkAll]
    omega
  | [], _ :: _, h, _ => by simp at h
  | _ :: _, [], h, _ => by simp at h
theorem bulk_bytes {H : Type} {d : DataW H} {n : Nat} (h : d = .nil ∧ n = 0 ∨ ∃ ds sp, d = .slice ds sp ∧ ds.length = n) : n ≤ Rows.uptoBulk d := by
  rcases h with ⟨_, rfl⟩ | ⟨ds, sp, rfl, rfl⟩
  · omega
  · have := bulk_len ds
    simp only [Rows.uptoBulk]
    omega
theorem read_ops {H : Type} {enc : TypeId × Value → H} {base : Nat} {spare : Nat → Bool} {held : Bool} {W : World} {A : Option Addr} {len cap : Nat} {d : DataW H} {p : List MemPlace}
    (h : DataW.Trod enc Try.prog W base spare held 54 (.slice A len cap) d p) (hk : Rows.uptoBulk d ≤ 1048576) :
    ∃ l : List OpD, len = l.length ∧ (∀ (i : Nat) (d : OpD), l[i]? = some d → ∀ (j : Nat) (v : Value), d.cells[j]? = some v → ∃ b o, A = some ⟨b, o, none⟩ ∧ W.cell? ⟨b, o + (i * 3 + j), none⟩ = some v) ∧
      (∀ (i : Nat) (d : OpD), l[i]? = some d → Rd W [] d.B (byts d.ys)) ∧ tot l ≤ 1048576 ∧ len ≤ 1048576 := by
  obtain ⟨A', len', cap', css, ds, e0, h2, h3, h4, h5, h6, h7⟩ := (TC.of h (cs := [.slice A len cap]) rfl).slice Try.underlying54 (m := 3) (by kernel_rfl) (by omega)
  cases e0
  obtain ⟨l, hl1, hl2⟩ := list_of (Q := fun i (x : OpD) => css[i]? = some x.cells ∧ Rd W [] x.B (byts x.ys) ∧ ∀ di, ds[i]? = some di → x.ys.length ≤ Rows.uptoBulk di) len (fun i hi => by
    have hc := List.getElem?_eq_getElem (show i < css.length by omega)
    have hd := List.getElem?_eq_getElem (show i < ds.length by omega)
    have hlen := h4 css[i] (List.getElem_mem _)
    obtain ⟨es, he1, he2, -, he3⟩ := (h7 i _ _ hc hd).struct Try.underlying61
    generalize css[i] = c at *
    match c, hlen with
    | [c0, c1, c2], _ =>
    match es, he2 with
    | [e0, e1, e2], _ =>
    obtain ⟨k, f0, _⟩ := (he3 0 _ e0 rfl rfl).int Try.underlying3
    obtain ⟨o, f1⟩ := (he3 1 _ e1 rfl rfl).bool Try.underlying4
    obtain ⟨B, cB, ys, f2, f3, f4⟩ := (he3 2 _ e2 rfl rfl).bytes Try.underlying22 Try.underlying5 (by kernel_rfl)
    have z3 : Try.prog.cellsOf 3 = 1 := by kernel_rfl
    have z4 : Try.prog.cellsOf 4 = 1 := by kernel_rfl
    have z22 : Try.prog.cellsOf 22 = 1 := by kernel_rfl
    have g0 : c0 = .int .i64 k := by simpa [z3] using f0
    have g1 : c1 = .bool o := by simpa [z4] using f1
    have g2 : c2 = .slice B ys.length cB := by simpa [z22] using f2
    refine ⟨⟨k, o, B, cB, ys⟩, by rw [hc, g0, g1, g2]; rfl, f3, fun di hdi => ?_⟩
    rw [hd] at hdi
    cases hdi
    rw [he1]
    have hb := bulk_bytes (d := e2) (n := ys.length) (by rcases f4 with ⟨a, b⟩ | f4; exact .inl ⟨a, by simp [b]⟩; exact .inr f4)
    simp only [Rows.uptoBulk, Rows.uptoBulkAll]
    omega)
  have hbulk : tot l ≤ 1048576 ∧ len ≤ 1048576 := by
    rcases h6 with ⟨_, e2⟩ | ⟨sp, e1⟩
    · subst e2
      have : l = [] := List.eq_nil_of_length_eq_zero hl1
      subst this
      simp [tot]
    · rw [e1] at hk
      simp only [Rows.uptoBulk] at hk
      have := bulk_sum (fun x : OpD => x.ys.length) (ds := ds) (l := l) (by omega) (fun i x di hx hdi => (hl2 i x hx).2.2 di hdi)
      have h8 := bulk_len ds
      refine ⟨by unfold tot; omega, by omega⟩
  refine ⟨l, hl1.symm, fun i x hx j v hv => h5 i _ (hl2 i x hx).1 j v hv, fun i x hx => (hl2 i x hx).2.1, hbulk.1, hbulk.2⟩
end Go.Proofs.Ytcgnbdgagkhehaa
