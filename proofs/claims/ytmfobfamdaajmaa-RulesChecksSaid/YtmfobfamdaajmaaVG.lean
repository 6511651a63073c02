/- VG: plain values (numbers, bools, strings, structs and arrays of these) that come in. -/
import Derived.Test.YtmfobfamdaajmaaVF
namespace Go
namespace V
open Go.RowKit Go.ChangeShapes Go.WideShapes Go.ChangeAt
set_option linter.unusedVariables false

def Lf.okw : Lf → Value → Prop
  | .i k, .int k' n => k' = k ∧ (Lit.int k n).wf = true
  | .b, .bool _ => True
  | .s, .string x => x.size ≤ maxLen
  | _, _ => False
def okw : List Lf → List Value → Prop
  | [], [] => True
  | l :: ls, v :: vs => l.okw v ∧ okw ls vs
  | _, _ => False
theorem Lf.okw.ok {l : Lf} {v : Value} (h : l.okw v) : l.ok v := by
  cases l <;> cases v <;> simp only [Lf.okw] at h <;> simp only [Lf.ok]
  exact h.1
theorem okw.oks : ∀ {ls : List Lf} {vs : List Value}, okw ls vs → V.oks ls vs
  | [], [], _ => trivial
  | l :: ls, v :: vs, h => ⟨h.1.ok, okw.oks h.2⟩
  | [], _ :: _, h => h.elim
  | _ :: _, [], h => h.elim
theorem okw_append : ∀ {l1 l2 : List Lf} {v1 v2 : List Value}, okw l1 v1 → okw l2 v2 → okw (l1 ++ l2) (v1 ++ v2)
  | [], l2, [], v2, _, h => h
  | l :: l1, l2, v :: v1, v2, h, k => ⟨h.1, okw_append h.2 k⟩
  | [], _, _ :: _, _, h, _ => h.elim
  | _ :: _, _, [], _, h, _ => h.elim
theorem okw_replicate {le : List Lf} {k : Nat} : ∀ {vs : List Value}, vs.length = k * le.length → (∀ i, i < k → okw le ((vs.drop (i * le.length)).take le.length)) → okw (List.replicate k le).flatten vs := by
  induction k with
  | zero => intro vs h _; have : vs = [] := by simpa using h
            subst this; exact trivial
  | succ k ih =>
    intro vs h hi
    rw [Nat.succ_mul] at h
    have h0 := hi 0 (by omega)
    simp only [Nat.zero_mul, List.drop_zero] at h0
    have hr := ih (vs := vs.drop le.length) (by simp; omega) (fun i hik => by
      have := hi (i + 1) (by omega)
      rw [List.drop_drop, show le.length + i * le.length = (i + 1) * le.length from by rw [Nat.succ_mul]; omega]
      exact this)
    have := okw_append h0 hr
    rw [List.take_append_drop] at this
    rw [List.replicate_succ, List.flatten_cons]
    exact this

section
variable {H : Type} {enc : TypeId × Value → H} {P : Program} {w : World} {base : Nat} {spare : Nat → Bool} {held : Bool}

theorem cellsOf_info {T : Nat} {i : TypeInfo} (h : P.info? T = some i) : P.cellsOf T = i.size := by simp [Program.cellsOf, h]

theorem trod_plain : ∀ (n T : Nat) (ls : List Lf) (fuel : Nat) (cs : List Value) (x : DataW H × List MemPlace), leaves P n T = some ls → P.cellsOf T = ls.length → DataW.trod enc P w base spare held fuel T cs = some x → okw ls cs := by
  intro n
  induction n with
  | zero => intro T ls fuel cs x h; simp [leaves] at h
  | succ n ih =>
    intro T ls fuel cs x h hsz ht
    unfold leaves at h
    split at h
    · rename_i hu; simp at h; subst h
      obtain ⟨b, rfl, _⟩ := DataW.trod_bool hu ht
      exact ⟨trivial, trivial⟩
    · rename_i hu; simp at h; subst h
      obtain ⟨s, rfl, _, hs⟩ := DataW.trod_string hu ht
      exact ⟨hs, trivial⟩
    · rename_i k hu; simp at h; subst h
      obtain ⟨m, rfl, _, hw⟩ := DataW.trod_int hu ht
      exact ⟨⟨rfl, hw⟩, trivial⟩
    · rename_i fs hu
      split at h
      · cases h
      · obtain ⟨xs, m, _, _, hlen, hxl, hf⟩ := DataW.trod_struct hu ht
        have hall : ∀ f ∈ fs.toList, ∃ y, DataW.trod enc P w base spare held m f.type ((cs.drop f.offset).take (P.cellsOf f.type)) = some y := by
          intro f hfm
          obtain ⟨i, hi, rfl⟩ := List.mem_iff_getElem.1 hfm
          have hi' : i < fs.size := by simpa using hi
          have := hf i fs[i] (by simp [hi'])
          refine ⟨xs[i]'(by omega), ?_⟩
          rw [Array.getElem_toList, this]
          simp [List.getElem?_eq_getElem (show i < xs.length by omega)]
        have key : ∀ (l : List Field) (acc : List Lf), l.foldl (fun acc f => match acc, leaves P n f.type, P.info? f.type with
            | some ls, some lf, some i => if f.name == "_" || f.offset != ls.length || i.size != lf.length then none else some (ls ++ lf)
            | _, _, _ => none) (some acc) = some ls →
            (∀ f ∈ l, ∃ y, DataW.trod enc P w base spare held m f.type ((cs.drop f.offset).take (P.cellsOf f.type)) = some y) → ∃ tl, ls = acc ++ tl ∧ okw tl (cs.drop acc.length) := by
          intro l
          induction l with
          | nil =>
            intro acc hacc _
            simp at hacc
            subst hacc
            refine ⟨[], by simp, ?_⟩
            rw [List.drop_of_length_le (by omega)]; exact trivial
          | cons f l ihl =>
            intro acc hacc hl
            simp only [List.foldl_cons] at hacc
            cases hlf : leaves P n f.type with
            | none => rw [hlf] at hacc; simp only at hacc; rw [foldl_none _ _ (fun x => rfl)] at hacc; cases hacc
            | some lf =>
              cases hif : P.info? f.type with
              | none => rw [hlf, hif] at hacc; simp only at hacc; rw [foldl_none _ _ (fun x => rfl)] at hacc; cases hacc
              | some i =>
                rw [hlf, hif] at hacc
                simp only at hacc
                split at hacc
                · rw [foldl_none _ _ (fun x => rfl)] at hacc; cases hacc
                · rename_i hcond
                  simp at hcond
                  obtain ⟨⟨c1, c2⟩, c3⟩ := hcond
                  have hcell : P.cellsOf f.type = lf.length := by rw [cellsOf_info hif, c3]
                  obtain ⟨y, hy⟩ := hl f (by simp)
                  have h1 := ih f.type lf m _ y hlf hcell hy
                  obtain ⟨tl, htl, hok⟩ := ihl (acc ++ lf) hacc (fun g hg => hl g (by simp [hg]))
                  refine ⟨lf ++ tl, by rw [htl, List.append_assoc], ?_⟩
                  rw [c2, hcell] at h1
                  rw [List.length_append] at hok
                  have := okw_append h1 hok
                  rw [← List.drop_drop, List.take_append_drop] at this
                  exact this
        obtain ⟨tl, htl, hok⟩ := key fs.toList [] h hall
        simp only [List.nil_append] at htl
        subst htl
        simpa using hok
    · rename_i k E hu
      split at h
      · rename_i le i hle hie
        split at h
        · cases h
        · rename_i hsz2
          simp at hsz2
          simp at h
          obtain ⟨xs, m, _, _, hlen, hxl, hf⟩ := DataW.trod_array hu ht
          have hcell : P.cellsOf E = le.length := by rw [cellsOf_info hie, hsz2]
          rw [hsz, ← h] at hlen
          rw [← h]
          refine okw_replicate (by simpa using hlen) fun j hj => ?_
          have := hf j hj
          rw [hcell] at this
          exact ih E le m _ (xs[j]'(by omega)) hle hcell (by rw [this]; simp [List.getElem?_eq_getElem (show j < xs.length by omega)])
      · cases h
    · cases h
theorem okWide_agg {T m base : Nat} {v : Value} (hT : Ag P T m) (h : Value.okWide P w .any base T v) : ∃ cs, v = .agg ⟨cs⟩ := by
  obtain ⟨d, i, hd, h1, _⟩ := hT.out
  unfold Value.okWide at h
  rw [hd] at h
  rcases h1 with ⟨f, rfl⟩ | ⟨k, e, rfl⟩ <;> (obtain ⟨cs, rfl, _⟩ := h; exact ⟨cs.toList, rfl⟩)
/-- a struct or an array of plain cells that came in by value -/
theorem open_plain {T m base2 : Nat} {ls : List Lf} {v : Value} {d : DataW H} {p : List MemPlace} [hT : Ag P T m] [hE : EqT P T ls] (hv : Value.okWide P w .any base2 T v) (h : DataW.Trod enc P w base spare held T v d p) :
    ∃ cs, v = .agg ⟨cs⟩ ∧ okw ls cs := by
  obtain ⟨cs, rfl⟩ := okWide_agg hT hv
  obtain ⟨fuel, hf⟩ := h
  refine ⟨cs, rfl, ?_⟩
  obtain ⟨h1, h2, _⟩ := hE.out
  obtain ⟨_, i, _, _, hi, hs⟩ := (Ag.of h2).out
  exact trod_plain 8 T ls fuel cs _ h1 (by rw [cellsOf_info hi, hs]) (by simpa [Value.cells] using hf)
end
end V
end Go
