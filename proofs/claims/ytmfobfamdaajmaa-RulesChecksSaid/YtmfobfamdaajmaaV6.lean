/- V6: '==' of structs and arrays of numbers, bools, strings. -/
import Derived.Test.YtmfobfamdaajmaaV5
import Derived.Laws.StructEq
namespace Go
namespace V
open Go.RowKit
set_option linter.unusedVariables false
set_option linter.unusedSimpArgs false

inductive Lf where
  | i (k : IntKind)
  | b
  | s
def Lf.ok : Lf → Value → Prop
  | .i k, .int k' _ => k' = k
  | .b, .bool _ => True
  | .s, .string _ => True
  | _, _ => False
def oks : List Lf → List Value → Prop
  | [], [] => True
  | l :: ls, v :: vs => l.ok v ∧ oks ls vs
  | _, _ => False
def cellEq : Value → Value → Bool
  | .int _ a, .int _ b => a == b
  | .bool a, .bool b => a == b
  | .string a, .string b => a.toList == b.toList
  | _, _ => false
def cellsEq : List Value → List Value → Bool
  | [], [] => true
  | x :: xs, y :: ys => cellEq x y && cellsEq xs ys
  | _, _ => false
theorem oks_length : ∀ {ls : List Lf} {vs : List Value}, oks ls vs → vs.length = ls.length
  | [], [], _ => rfl
  | l :: ls, v :: vs, h => by simp [oks_length h.2]
  | [], _ :: _, h => h.elim
  | _ :: _, [], h => h.elim
theorem oks_append : ∀ {l1 l2 : List Lf} {v1 v2 : List Value}, oks l1 v1 → oks l2 v2 → oks (l1 ++ l2) (v1 ++ v2)
  | [], l2, [], v2, _, h => h
  | l :: l1, l2, v :: v1, v2, h, k => ⟨h.1, oks_append h.2 k⟩
  | [], _, _ :: _, _, h, _ => h.elim
  | _ :: _, _, [], _, h, _ => h.elim
theorem oks_split : ∀ {l1 l2 : List Lf} {vs : List Value}, oks (l1 ++ l2) vs → oks l1 (vs.take l1.length) ∧ oks l2 (vs.drop l1.length)
  | [], l2, vs, h => ⟨by simp [oks], by simpa using h⟩
  | l :: l1, l2, [], h => by simp [oks] at h
  | l :: l1, l2, v :: vs, h => by
    obtain ⟨h1, h2⟩ := h
    obtain ⟨h3, h4⟩ := oks_split h2
    exact ⟨⟨h1, h3⟩, by simpa using h4⟩
theorem bytesList_eq {a b : ByteArray} : a.toList = b.toList ↔ a = b := by
  rw [ByteArray.toList_eq, ByteArray.toList_eq]
  obtain ⟨⟨x⟩⟩ := a
  obtain ⟨⟨y⟩⟩ := b
  simp
theorem cellEq_iff {l : Lf} {x y : Value} (hx : l.ok x) (hy : l.ok y) : cellEq x y = true ↔ x = y := by
  cases l <;> cases x <;> simp only [Lf.ok] at hx <;> cases y <;> simp only [Lf.ok] at hy
  · subst hx; subst hy; simp [cellEq]
  · simp [cellEq]
  · simp [cellEq, bytesList_eq]
theorem cellsEq_iff : ∀ {ls : List Lf} {xs ys : List Value}, oks ls xs → oks ls ys → (cellsEq xs ys = true ↔ xs = ys)
  | [], [], [], _, _ => by simp [cellsEq]
  | l :: ls, x :: xs, y :: ys, h, k => by simp [cellsEq, cellEq_iff h.1 k.1, cellsEq_iff h.2 k.2]
  | [], _ :: _, _, h, _ => h.elim
  | [], [], _ :: _, _, k => k.elim
  | _ :: _, [], _, h, _ => h.elim
  | _ :: _, _ :: _, [], _, k => k.elim
theorem cellsEq_append : ∀ {a b c d : List Value}, a.length = b.length → cellsEq (a ++ c) (b ++ d) = (cellsEq a b && cellsEq c d)
  | [], [], c, d, _ => by simp [cellsEq]
  | x :: a, y :: b, c, d, h => by simp [cellsEq, cellsEq_append (a := a) (b := b) (by simpa using h), Bool.and_assoc]
  | [], _ :: _, _, _, h => by simp at h
  | _ :: _, [], _, _, h => by simp at h

/-- the leaves of a type whose parts are numbers, bools, strings alone, without a gap -/
def leaves (P : Program) : Nat → Nat → Option (List Lf)
  | 0, _ => none
  | n + 1, T => match P.underlying T with
    | some .bool => some [.b]
    | some .string => some [.s]
    | some (.int k) => some [.i k]
    | some (.struct fs) => if P.stoodInHeld T then none else
      fs.toList.foldl (fun acc f => match acc, leaves P n f.type, P.info? f.type with
        | some ls, some lf, some i => if f.name == "_" || f.offset != ls.length || i.size != lf.length then none else some (ls ++ lf)
        | _, _, _ => none) (some [])
    | some (.array k E) => match leaves P n E, P.info? E with
      | some le, some i => if i.size != le.length then none else some (List.replicate k le).flatten
      | _, _ => none
    | _ => none
/-- a value of cells -/
def valOf (P : Program) (T : Nat) (vs : List Value) : Value := match P.underlying T with
  | some (.struct _) | some (.array _ _) => .agg ⟨vs⟩
  | _ => vs.headD undef

section
variable {P : Program}

theorem run_part {T : Nat} {i : TypeInfo} {ls : List Lf} {n : Nat} (hl : leaves P n T = some ls) (hi : P.info? T = some i) (hs : i.size = ls.length) (w : World) (vs : List Value) (o : Nat) (ho : o + ls.length ≤ vs.length) :
    (part T ⟨vs⟩ o).run P w = .ok (valOf P T ((vs.drop o).take ls.length)) w := by
  cases n with
  | zero => simp [leaves] at hl
  | succ n =>
    unfold leaves at hl
    have scalar : ∀ d, P.underlying T = some d → (∀ f, d ≠ .struct f) → (∀ k e, d ≠ .array k e) → ls.length = 1 → (part T ⟨vs⟩ o).run P w = .ok (valOf P T ((vs.drop o).take ls.length)) w := by
      intro d hd h1 h2 h3
      have hlt : o < vs.length := by omega
      have e1 : valOf P T ((vs.drop o).take ls.length) = vs[o] := by
        unfold valOf
        rw [hd, h3]
        cases d <;> first | exact absurd rfl (h1 _) | exact absurd rfl (h2 _ _) | simp [List.take_one, List.head?_drop, hlt]
      rw [e1]
      unfold part
      rw [Sem.run_bind, run_isAgg_sc ⟨d, hd, h1, h2⟩]
      simp [hlt]
    have agg : ∀ d, P.underlying T = some d → ((∃ f, d = .struct f) ∨ ∃ k e, d = .array k e) → (part T ⟨vs⟩ o).run P w = .ok (valOf P T ((vs.drop o).take ls.length)) w := by
      intro d hd h1
      have hA : Ag P T ls.length := ⟨d, i, hd, h1, hi, hs⟩
      unfold part
      rw [Sem.run_bind, run_isAgg_ag hA]
      have e1 : valOf P T ((vs.drop o).take ls.length) = .agg ⟨(vs.drop o).take ls.length⟩ := by
        unfold valOf; rw [hd]; rcases h1 with ⟨f, rfl⟩ | ⟨k, e, rfl⟩ <;> rfl
      rw [e1]
      simp [sizeOf, typeInfo, hi, hs]
    split at hl
    · rename_i hd; simp at hl; subst hl; exact scalar _ hd (by simp) (by simp) rfl
    · rename_i hd; simp at hl; subst hl; exact scalar _ hd (by simp) (by simp) rfl
    · rename_i k hd; simp at hl; subst hl; exact scalar _ hd (by simp) (by simp) rfl
    · rename_i fs hd; exact agg _ hd (.inl ⟨_, rfl⟩)
    · rename_i k E hd; exact agg _ hd (.inr ⟨_, _, rfl⟩)
    · cases hl

theorem foldl_none (fs : List Field) (f : Option (List Lf) → Field → Option (List Lf)) (h : ∀ x, f none x = none) : fs.foldl f none = none := by
  induction fs with
  | nil => rfl
  | cons x fs ih => simp only [List.foldl_cons, h]; exact ih

theorem run_equalIn_leaves : ∀ (n : Nat) (T : Nat) (ls : List Lf) (d : Nat), leaves P n T = some ls → n ≤ d → ∀ (w : World) (xs ys : List Value), oks ls xs → oks ls ys →
    (Op.equalIn d T (valOf P T xs) (valOf P T ys)).run P w = .ok (cellsEq xs ys) w := by
  intro n
  induction n with
  | zero => intro T ls d h; simp [leaves] at h
  | succ n ih =>
    intro T ls d h hd w xs ys hx hy
    obtain ⟨d, rfl⟩ : ∃ d', d = d' + 1 := ⟨d - 1, by omega⟩
    have h0 := h
    unfold leaves at h
    split at h
    · rename_i hu; simp at h; subst h
      match xs, ys, hx, hy with
      | [.bool a], [.bool b], _, _ => simp [valOf, hu, cellsEq, cellEq, run_equalIn_bool' w d T a b hu]
      | [x], [], _, hy => exact hy.elim
    · rename_i hu; simp at h; subst h
      match xs, ys, hx, hy with
      | [.string a], [.string b], _, _ => simp [valOf, hu, cellsEq, cellEq, run_equalIn_string w d T a b hu]
    · rename_i k hu; simp at h; subst h
      match xs, ys, hx, hy with
      | [.int k1 a], [.int k2 b], h1, h2 =>
        obtain ⟨rfl, _⟩ := h1
        obtain ⟨rfl, _⟩ := h2
        simp [valOf, hu, cellsEq, cellEq, run_equalIn_int w d T _ _ a b hu]
    · rename_i fs hu
      split at h
      · cases h
      · rename_i hst
        have hst : P.stoodInHeld T = false := by simpa using hst
        have hF : P.fieldsOf T = fs := by simp [Program.fieldsOf, hu]
        simp only [valOf, hu]
        rw [run_equalIn_struct w d T ⟨xs⟩ ⟨ys⟩ (by rw [hF]; exact hu) hst, hF]
        -- field by field
        have key : ∀ (l : List Field) (acc : List Lf), l.foldl (fun acc f => match acc, leaves P n f.type, P.info? f.type with
            | some ls, some lf, some i => if f.name == "_" || f.offset != ls.length || i.size != lf.length then none else some (ls ++ lf)
            | _, _, _ => none) (some acc) = some ls →
            (Op.eqFields d ⟨xs⟩ ⟨ys⟩ l).run P w = .ok (cellsEq (xs.drop acc.length) (ys.drop acc.length)) w := by
          intro l
          induction l with
          | nil =>
            intro acc hacc
            simp at hacc
            subst hacc
            have e1 := oks_length hx
            have e2 := oks_length hy
            simp [Op.eqFields, List.drop_of_length_le (Nat.le_of_eq e1), List.drop_of_length_le (Nat.le_of_eq e2), cellsEq]
          | cons f l ihl =>
            intro acc hacc
            simp only [List.foldl_cons] at hacc
            cases hlf : leaves P n f.type with
            | none => rw [hlf] at hacc; simp only at hacc; rw [foldl_none _ _ (fun x => rfl)] at hacc; cases hacc
            | some lf =>
              cases hif : P.info? f.type with
              | none => rw [hlf, hif] at hacc; simp only at hacc; rw [foldl_none _ _ (fun x => rfl)] at hacc; cases hacc
              | some i =>
                rw [hlf, hif] at hacc
                simp only at hacc
                split at hacc
                · rw [foldl_none _ _ (fun x => rfl)] at hacc; cases hacc
                · rename_i hcond
                  simp at hcond
                  obtain ⟨⟨c1, c2⟩, c3⟩ := hcond
                  have hpre : ∃ tl, ls = (acc ++ lf) ++ tl := by
                    have : ∀ (l : List Field) (a ls : List Lf), l.foldl (fun acc f => match acc, leaves P n f.type, P.info? f.type with
                        | some ls, some lf, some i => if f.name == "_" || f.offset != ls.length || i.size != lf.length then none else some (ls ++ lf)
                        | _, _, _ => none) (some a) = some ls → ∃ tl, ls = a ++ tl := by
                      intro l
                      induction l with
                      | nil => intro a ls h; simp at h; exact ⟨[], by simp [h]⟩
                      | cons g l ih2 =>
                        intro a ls h
                        simp only [List.foldl_cons] at h
                        split at h
                        · rename_i ls' lg ig h1 h2 h3
                          simp at h1
                          subst h1
                          split at h
                          · rw [foldl_none _ _ (fun x => rfl)] at h; cases h
                          · obtain ⟨tl, rfl⟩ := ih2 _ _ h
                            exact ⟨lg ++ tl, by simp⟩
                        · rw [foldl_none _ _ (fun x => rfl)] at h; cases h
                    exact this l _ ls hacc
                  obtain ⟨tl, htl⟩ := hpre
                  have lx := oks_length hx
                  have ly := oks_length hy
                  have hlen : ls.length = acc.length + lf.length + tl.length := by rw [htl]; simp [Nat.add_assoc]
                  have px := run_part hlf hif c3 w xs acc.length (by omega)
                  have py := run_part hlf hif c3 w ys acc.length (by omega)
                  have hx2 := hx
                  have hy2 := hy
                  rw [htl, List.append_assoc] at hx2 hy2
                  have ox := (oks_split (oks_split hx2).2).1
                  have oy := (oks_split (oks_split hy2).2).1
                  have hr := ih f.type lf d hlf (by omega) w _ _ ox oy
                  have hrest := ihl (acc ++ lf) hacc
                  have ex : xs.drop acc.length = (xs.drop acc.length).take lf.length ++ xs.drop (acc ++ lf).length := by
                    rw [List.length_append, ← List.drop_drop, List.take_append_drop]
                  have ey : ys.drop acc.length = (ys.drop acc.length).take lf.length ++ ys.drop (acc ++ lf).length := by
                    rw [List.length_append, ← List.drop_drop, List.take_append_drop]
                  rw [ex, ey, cellsEq_append (by simp; omega)]
                  unfold Op.eqFields
                  rw [if_pos (by simpa using c1), c2]
                  simp only [Sem.run_bind, px, py, Result.andThen_ok, hr]
                  cases hc : cellsEq ((xs.drop acc.length).take lf.length) ((ys.drop acc.length).take lf.length)
                  · simp
                  · simp [hrest]
        have := key fs.toList [] h
        simpa using this
    · rename_i k E hu
      split at h
      · rename_i le i hle hie
        split at h
        · cases h
        · rename_i hsz
          simp at hsz
          simp at h
          simp only [valOf, hu]
          simp only [Op.equalIn, Sem.run_bind, run_underlying hu, Result.andThen_ok]
          simp [sizeOf, typeInfo, hie, hsz]
          have hL : ls.length = k * le.length := by rw [← h]; simp
          have lx := oks_length hx
          have ly := oks_length hy
          have hblk : ∀ j, j < k → oks le ((xs.drop (j * le.length)).take le.length) ∧ oks le ((ys.drop (j * le.length)).take le.length) := by
            intro j hj
            have hspl : ls = (List.replicate j le).flatten ++ (le ++ (List.replicate (k - j - 1) le).flatten) := by
              rw [← h]
              have : k = j + (1 + (k - j - 1)) := by omega
              conv => lhs; rw [this, ← List.replicate_append_replicate, List.flatten_append, ← List.replicate_append_replicate, List.flatten_append]
              simp
            have hx2 := hx
            have hy2 := hy
            rw [hspl] at hx2 hy2
            have hjl : (List.replicate j le).flatten.length = j * le.length := by simp
            have ox := (oks_split (oks_split hx2).2).1
            have oy := (oks_split (oks_split hy2).2).1
            rw [hjl] at ox oy
            exact ⟨ox, oy⟩
          have hall : ∀ (m j : Nat), j + m = k → cellsEq (xs.drop (j * le.length)) (ys.drop (j * le.length)) = (List.range' j m).all fun i => cellsEq ((xs.drop (i * le.length)).take le.length) ((ys.drop (i * le.length)).take le.length) := by
            intro m
            induction m with
            | zero =>
              intro j hj
              simp only [Nat.add_zero] at hj
              subst hj
              rw [List.drop_of_length_le (by omega), List.drop_of_length_le (by omega)]
              simp [cellsEq]
            | succ m ihm =>
              intro j hj
              have hjk : (j + 1) * le.length ≤ k * le.length := Nat.mul_le_mul_right _ (by omega)
              have hjs : (j + 1) * le.length = j * le.length + le.length := Nat.succ_mul _ _
              have ex : xs.drop (j * le.length) = (xs.drop (j * le.length)).take le.length ++ xs.drop ((j + 1) * le.length) := by
                rw [hjs, ← List.drop_drop, List.take_append_drop]
              have ey : ys.drop (j * le.length) = (ys.drop (j * le.length)).take le.length ++ ys.drop ((j + 1) * le.length) := by
                rw [hjs, ← List.drop_drop, List.take_append_drop]
              rw [List.range'_succ, List.all_cons, ← ihm (j + 1) (by omega)]
              conv => lhs; rw [ex, ey]
              rw [cellsEq_append (by simp; omega)]
          have h00 := hall k 0 (by omega)
          simp only [Nat.zero_mul, List.drop_zero] at h00
          rw [h00]
          have hb : ∀ i ∈ List.range' 0 k, i < k := by simp
          generalize List.range' 0 k = l at hb ⊢
          induction l with
          | nil => simp
          | cons j l ihl =>
            have hjk : j < k := hb j (by simp)
            have hjs : (j + 1) * le.length = j * le.length + le.length := Nat.succ_mul _ _
            have hjm : (j + 1) * le.length ≤ k * le.length := Nat.mul_le_mul_right _ (by omega)
            have px := run_part hle hie hsz w xs (j * le.length) (by omega)
            have py := run_part hle hie hsz w ys (j * le.length) (by omega)
            obtain ⟨ox, oy⟩ := hblk j hjk
            have hr := ih E le d hle (by omega) w _ _ ox oy
            have hrest := ihl (fun i hi => hb i (by simp [hi]))
            simp only [List.forIn_cons, Sem.run_bind, px, py, Result.andThen_ok, hr, List.all_cons]
            cases hc : cellsEq ((xs.drop (j * le.length)).take le.length) ((ys.drop (j * le.length)).take le.length)
            · simp
            · simp only [Bool.true_eq_false, if_false, Sem.run_pure, Result.andThen_ok, Bool.true_and]
              exact hrest
      · cases h
    · cases h
end
end V
end Go
