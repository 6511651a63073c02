/- VT: lists of plain records that come in; what their lengths are held to. -/
import Derived.Test.YtmfobfamdaajmaaVN
import Derived.SizedLaws
namespace Go
namespace V
open Go.RowKit Go.ChangeShapes Go.WideShapes Go.ChangeAt
set_option linter.unusedVariables false

theorem flatten_get {m : Nat} : ∀ (rs : List (List Value)), (∀ r ∈ rs, r.length = m) → ∀ (k : Nat) (v : Value), rs.flatten[k]? = some v → ∃ i j r, rs[i]? = some r ∧ r[j]? = some v ∧ k = i * m + j
  | [], _, k, v, h => by simp at h
  | r :: rs, hm, k, v, h => by
    rw [List.flatten_cons] at h
    by_cases hk : k < r.length
    · rw [List.getElem?_append_left hk] at h
      exact ⟨0, k, r, rfl, h, by simp⟩
    · rw [List.getElem?_append_right (by omega)] at h
      obtain ⟨i, j, r', h1, h2, h3⟩ := flatten_get rs (fun r hr => hm r (List.mem_cons_of_mem _ hr)) _ v h
      have := hm r List.mem_cons_self
      exact ⟨i + 1, j, r', by simpa using h1, h2, by rw [Nat.succ_mul]; omega⟩
theorem map_of {α β : Type} {f : α → β} {Q : α → Prop} : ∀ (rs : List β), (∀ r ∈ rs, ∃ x, r = f x ∧ Q x) → ∃ l : List α, rs = l.map f ∧ ∀ x ∈ l, Q x
  | [], _ => ⟨[], rfl, by simp⟩
  | r :: rs, h => by
    obtain ⟨x, h1, h2⟩ := h r List.mem_cons_self
    obtain ⟨l, h3, h4⟩ := map_of rs fun r hr => h r (List.mem_cons_of_mem _ hr)
    exact ⟨x :: l, by simp [h1, h3], fun y hy => by rcases List.mem_cons.1 hy with rfl | hy; exact h2; exact h4 y hy⟩
theorem okw_length : ∀ {ls : List Lf} {cs : List Value}, okw ls cs → cs.length = ls.length
  | [], [], _ => rfl
  | l :: ls, c :: cs, h => by have := okw_length h.2; simp [this]
  | [], _ :: _, h => h.elim
  | _ :: _, [], h => h.elim
section
variable {H : Type} {enc : TypeId × Value → H} {P : Program} {w : World} {base : Nat} {spare : Nat → Bool} {held : Bool}
/-- a slice of plain records -/
theorem TC.recs {t e : Nat} {ls : List Lf} {cs : List Value} {d : DataW H} (ht : P.underlying t = some (.slice e)) (hl : leaves P 8 e = some ls) (hs : P.cellsOf e = ls.length) (h0 : 0 < ls.length) (h : TC enc P w base spare held t cs d) :
    ∃ A cap, ∃ rs : List (List Value), cs = [.slice A rs.length cap] ∧ (∀ r ∈ rs, okw ls r) ∧ Rd w [] A rs.flatten ∧ (d = .nil ∧ rs = [] ∨ ∃ ds sp, d = .slice ds sp ∧ ds.length = rs.length) := by
  obtain ⟨A, len, cap, css, ds, h1, h2, h3, h4, h5, h6, h7⟩ := h.slice ht hs h0
  refine ⟨A, cap, css, by rw [h1, h2], fun r hr => ?_, fun k v hv => ?_, ?_⟩
  · obtain ⟨i, hi, rfl⟩ := List.mem_iff_getElem.1 hr
    exact (h7 i _ _ (List.getElem?_eq_getElem hi) (List.getElem?_eq_getElem (by omega))).plain hl hs
  · obtain ⟨i, j, r, e1, e2, rfl⟩ := flatten_get css h4 k v hv
    obtain ⟨b, o, e3, e4⟩ := h5 i r e1 j v e2
    exact ⟨b, o, e3, by simp, e4⟩
  · rcases h6 with ⟨e1, e2⟩ | ⟨sp, e1⟩
    · exact .inl ⟨e1, List.eq_nil_of_length_eq_zero (by omega)⟩
    · exact .inr ⟨ds, sp, e1, by omega⟩
/-- the weights of a struct's parts -/
theorem sized_agg {ts : List TypeId} {ds : List (DataW H)} (h : (DataW.weightsEach P ts ds).all (· ≤ reachBytes) = true) {j : Nat} {t : TypeId} {fs : Array Field} {parts : List (DataW H)} (ht : ts[j]? = some t) (hd : ds[j]? = some (.agg parts)) (hu : P.underlying t = some (.struct fs)) :
    (DataW.weightsEach P (fs.toList.map (·.type)) parts).all (· ≤ reachBytes) = true := by
  rw [List.all_eq_true]
  intro x hx
  exact List.all_eq_true.1 h _ (DataW.weights_mem_each ht hd x (by simp only [DataW.weights, hu]; exact hx))
theorem sized_len {ts : List TypeId} {ds : List (DataW H)} (h : (DataW.weightsEach P ts ds).all (· ≤ reachBytes) = true) {j n : Nat} {t e : TypeId} {d : DataW H} (ht : ts[j]? = some t) (hd : ds[j]? = some d) (hu : P.underlying t = some (.slice e))
    (hk : d = .nil ∧ n = 0 ∨ ∃ es sp, d = .slice es sp ∧ es.length = n) : n * P.bytesOf e ≤ reachBytes := by
  rcases hk with ⟨_, rfl⟩ | ⟨es, sp, rfl, rfl⟩
  · simp
  · have := sized_slice h ht hd hu
    have h2 : es.length * P.bytesOf e ≤ (es.length + sp.length) * P.bytesOf e := Nat.mul_le_mul_right _ (by omega)
    omega
end
end V
end Go
