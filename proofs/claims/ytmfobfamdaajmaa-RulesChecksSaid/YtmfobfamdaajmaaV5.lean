/- V5: slices that a call makes and lets grow: append, make, copy, cutting. -/
import Derived.Test.YtmfobfamdaajmaaV4
import Derived.Laws.AppendOwn
namespace Go
namespace V
open Go.RowKit
set_option linter.unusedVariables false
set_option linter.unusedSimpArgs false

/-- an element type: so many cells, so many bytes -/
class El (P : Program) (E : Nat) (m : outParam Nat) (by_ : outParam Nat) (z : outParam (List Value)) : Prop where
  out : ∃ i v, P.info? E = some i ∧ i.size = m ∧ i.bytes = by_ ∧ i.zero = some v ∧ v.cells = ⟨z⟩ ∧ z.length = m
def elB (P : Program) (E m by_ : Nat) : Bool := match P.info? E with | some i => Nat.beq i.size m && Nat.beq i.bytes by_ | none => false
theorem El.of {P : Program} {E m by_ : Nat} {z : List Value} {v : Value} (h : elB P E m by_ = true) (hz : zrO P E = some v) (hv : v.cells = ⟨z⟩) (hl : Nat.beq z.length m = true) : El P E m by_ z := by
  unfold elB at h
  unfold zrO at hz
  cases hi : P.info? E with
  | none => rw [hi] at h; cases h
  | some i =>
    rw [hi] at h hz
    rw [Bool.and_eq_true] at h
    exact ⟨i, v, hi, Nat.eq_of_beq_eq_true h.1, Nat.eq_of_beq_eq_true h.2, hz, hv, Nat.eq_of_beq_eq_true hl⟩

/-- a slice that owns its block: n elements, whose cells are 'vs' -/
def OwnS (E m : Nat) (v : Value) (n : Nat) (vs : List Value) (h : Hp) : Prop :=
  vs.length = n * m ∧ ((v = .slice none 0 0 ∧ n = 0 ∧ h = []) ∨
    ∃ b o cap l, v = .slice (some ⟨b, o, none⟩) n cap ∧ h = [(b, .cells l E)] ∧ n ≤ cap ∧ o + cap * m ≤ l.length ∧ (l.drop o).take (n * m) = vs)
theorem OwnS.nil (E m : Nat) : OwnS E m (.slice none 0 0) 0 [] [] := ⟨by simp, .inl ⟨rfl, rfl, rfl⟩⟩
theorem OwnS.slice {E m n : Nat} {v : Value} {vs : List Value} {h : Hp} (k : OwnS E m v n vs h) : ∃ A c, v = .slice A n c := by
  rcases k.2 with ⟨rfl, rfl, _⟩ | ⟨b, o, cap, l, rfl, _⟩
  · exact ⟨_, _, rfl⟩
  · exact ⟨_, _, rfl⟩

/-- what an operand of append holds: k elements, whose cells are 'news' -/
def Src (P : Program) (w : World) (m : Nat) (x : Value) (k : Nat) (news : List Value) : Prop :=
  (Builtin.lenOf x).run P w = .ok k w ∧ ∀ w', (∀ a : Addr, w'.cell? a = w.cell? a) → (Builtin.firstCells m k x).run P w' = .ok ⟨news⟩ w'
theorem Src.nil {P : Program} {w : World} {m c : Nat} : Src P w m (.slice none 0 c) 0 [] := ⟨by simp [Builtin.lenOf], fun w' _ => by simp [Builtin.firstCells]⟩
theorem Src.cells {P : Program} {w : World} {m k c : Nat} {a : Addr} {news : List Value} (hl : news.length = k * m) (h : ∀ j v, news[j]? = some v → w.cell? (a.add j) = some v) :
    Src P w m (.slice (some a) k c) k news :=
  ⟨by simp [Builtin.lenOf], fun w' hw => run_firstCells_some (P := P) w' m k a k c news hl (fun j v hv => by rw [hw]; exact h j v hv)⟩
theorem Src.of_at {P : Program} {w0 w : World} {own : List Nat} {hs : Hp} {m k c : Nat} {a : Addr} {news : List Value} (s : Sat w0 own hs w) (h : At w0 own hs a news) (hl : news.length = k * m) : Src P w m (.slice (some a) k c) k news :=
  .cells hl (h w s)

theorem splice_app (l vs news : List Value) (o n m k cap : Nat) (hv : vs.length = n * m) (hk : news.length = k * m) (hc : n + k ≤ cap) (hl : o + cap * m ≤ l.length) (h : (l.drop o).take (n * m) = vs) :
    ((splice l (o + n * m) news).drop o).take ((n + k) * m) = vs ++ news := by
  have h1 : (n + k) * m = n * m + k * m := Nat.add_mul _ _ _
  have h2 : (n + k) * m ≤ cap * m := Nat.mul_le_mul_right _ hc
  have e : (splice l (o + n * m) news).drop o = vs ++ (news ++ l.drop (o + n * m + news.length)) := by
    unfold splice
    rw [List.append_assoc, List.drop_append_of_le_length (by rw [List.length_take]; omega), List.drop_take, ← h]
    congr 2; omega
  rw [e, h1, ← List.append_assoc, List.take_append_of_le_length (by simp [hv, hk]), List.take_of_length_le (by simp [hv, hk])]

theorem app_mk (l : List Value) (a : Array Value) : (⟨l⟩ : Array Value) ++ a = ⟨l ++ a.toList⟩ := by
  apply Array.ext'; simp

section
variable {P : Program} {n : Nat} {w0 : World} {own : List Nat} {e : Env} {hs : Hp} {ops : Array Oper} {rest : List Oper} {K : Env → Hp → Prop}

set_option maxHeartbeats 1000000 in
theorem run_append_any {w : World} {t u E m by_ : Nat} {z : List Value} (ht : P.underlying t = some (.slice E)) (hu : (∃ E', P.underlying u = some (.slice E')) ∨ P.underlying u = some .string) (hE : El P E m by_ z)
    {fr h : Hp} {v x : Value} {c k : Nat} {vs news : List Value} (s : Sat w0 own (h ++ fr) w) (ho : OwnS E m v c vs h) (hx : Src P w m x k news) (hn : news.length = k * m) (h1 : ones news = true)
    (hb : (c + k) * by_ ≤ 140737488355328) (h63 : c + k ≤ 4611686018427387904) (ty : TypeId) :
    ∃ v' w' h', (Builtin.append_ #[t, u] ty #[v, x]).run P w = .ok v' w' ∧ OwnS E m v' (c + k) (vs ++ news) h' ∧ Sat w0 own (h' ++ fr) w' := by
  obtain ⟨i, zv, hi, hm, hby, hz, hzv, hzl⟩ := hE.out
  obtain ⟨hlen, ho⟩ := ho
  rcases ho with ⟨rfl, rfl, rfl⟩ | ⟨b, o, cap, l, rfl, rfl, hc, hl, hv⟩
  · -- nil
    have hvs : vs = [] := by simpa using hlen
    subst hvs
    by_cases h0 : k = 0
    · subst h0
      have hnews : news = [] := by simpa using hn
      subst hnews
      refine ⟨.slice none 0 0, w, [], ?_, OwnS.nil E m, s⟩
      have := hx.2 w (fun _ => rfl)
      simp only [Builtin.append_, Sem.run_bind]
      rcases hu with ⟨E', hd⟩ | hd <;> simp [run_underlying ht, run_underlying hd, sizeOf, typeInfo, hi, hm, hx.1, this]
    · have h63' : ¬ (9223372036854775807 < (k : Int)) := by omega
      have hcap : Builtin.nextslicecap k 0 * by_ ≤ 281474976710656 := growslice_fits (by omega) (by simpa using hb)
      have h48' : ¬ (281474976710656 < Builtin.nextslicecap k 0 * by_) := by omega
      have hf := hx.2 w.drew (fun a => rfl)
      have hge := grownCap_ge w k 0 E
      refine ⟨.slice (some ⟨w.heap.size, 0, none⟩) k (grownCap w k 0 E), w.drew.alloc (.cells (⟨news⟩ ++ Builtin.zeroCells zv.cells (grownCap w k 0 E - k)) E),
        [(w.heap.size, .cells (news ++ (Builtin.zeroCells zv.cells (grownCap w k 0 E - k)).toList) E)], ?_, ⟨by simp [hn], .inr ⟨_, 0, grownCap w k 0 E, _, by simp, rfl, by simpa using hge, ?_, ?_⟩⟩, ?_⟩
      · simp only [Builtin.append_, Sem.run_bind]
        rcases hu with ⟨E', hd⟩ | hd <;> simp [run_underlying ht, run_underlying hd, sizeOf, typeInfo, zeroValue, hi, hm, hz, hby, hx.1, h0, h63', h48', Question.forced, run_firstCells_none, hf, newRow, grownCap]
      · have : (grownCap w k 0 E) * m = k * m + (grownCap w k 0 E - k) * m := by rw [← Nat.add_mul]; congr 1; omega
        simp [hn, size_zeroCells, hzv, hzl]; omega
      · simp [hn]
      · have := s.drew.new (.cells (news ++ (Builtin.zeroCells zv.cells (grownCap w k 0 E - k)).toList) E)
        rw [app_mk]
        exact this
  · by_cases hr : c + k ≤ cap
    · have hck : (c + k) * m ≤ cap * m := Nat.mul_le_mul_right _ hr
      have hadd : (c + k) * m = c * m + k * m := Nat.add_mul _ _ _
      obtain ⟨w', r1, r2⟩ := s.splice (P := P) (b := b) (T := E) (o := o + c * m) (l := l) (vs := news) (hs' := [(b, .cells (splice l (o + c * m) news) E)] ++ fr) .head (by simp) (by omega) h1
      refine ⟨.slice (some ⟨b, o, none⟩) (c + k) cap, w', _, ?_, ⟨by simp [hlen, hn, hadd], .inr ⟨b, o, cap, _, rfl, rfl, hr, ?_, ?_⟩⟩, r2⟩
      · have := hx.2 w (fun _ => rfl)
        simp only [Builtin.append_, Sem.run_bind]
        rcases hu with ⟨E', hd⟩ | hd <;> simp [run_underlying ht, run_underlying hd, sizeOf, typeInfo, hi, hm, hx.1, this, hr, add_none, r1]
      · rw [splice_length _ _ _ (by omega)]; exact hl
      · exact splice_app l vs news o c m k cap hlen hn hr hl hv
    · have h63' : ¬ (9223372036854775807 < ((c : Int) + (k : Int))) := by omega
      have h48' : ¬ (281474976710656 < Builtin.nextslicecap (c + k) cap * by_) := by
        have := growslice_fits (need := c + k) (old := cap) (bytes := by_) (by omega) hb
        omega
      have hcm : c * m ≤ cap * m := Nat.mul_le_mul_right _ hc
      have hfo := run_firstCells_some (P := P) w.drew m c ⟨b, o, none⟩ c cap vs hlen (fun j u hj => by
        have hh := s.cell (b := b) (T := E) (l := l) (by simp) (o + j)
        rw [add_none]
        show w.cell? _ = _
        rw [hh, ← hj, ← hv, List.getElem?_take, List.getElem?_drop]
        have := (List.getElem?_eq_some_iff.1 hj).1
        rw [if_pos (by omega)])
      have hf := hx.2 w.drew (fun a => rfl)
      have hge := grownCap_ge w (c + k) cap E
      have hadd : (c + k) * m = c * m + k * m := Nat.add_mul _ _ _
      refine ⟨.slice (some ⟨w.heap.size, 0, none⟩) (c + k) (grownCap w (c + k) cap E), w.drew.alloc (.cells (⟨vs⟩ ++ ⟨news⟩ ++ Builtin.zeroCells zv.cells (grownCap w (c + k) cap E - (c + k))) E),
        [(w.heap.size, .cells (vs ++ news ++ (Builtin.zeroCells zv.cells (grownCap w (c + k) cap E - (c + k))).toList) E)], ?_, ⟨by simp [hlen, hn, hadd], .inr ⟨_, 0, grownCap w (c + k) cap E, _, by simp, rfl, by simpa using hge, ?_, ?_⟩⟩, ?_⟩
      · simp only [Builtin.append_, Sem.run_bind]
        rcases hu with ⟨E', hd⟩ | hd <;> simp [run_underlying ht, run_underlying hd, sizeOf, typeInfo, zeroValue, hi, hm, hz, hby, hx.1, hr, h63', h48', Question.forced, hfo, hf, newRow, grownCap]
        all_goals (congr 2; apply Array.ext'; simp [List.append_assoc])
      · have : (grownCap w (c + k) cap E) * m = (c + k) * m + (grownCap w (c + k) cap E - (c + k)) * m := by rw [← Nat.add_mul]; congr 1; omega
        simp [hlen, hn, size_zeroCells, hzv, hzl]; omega
      · rw [List.drop_zero, List.take_append_of_le_length (by simp [hlen, hn]; omega), List.take_of_length_le (by simp [hlen, hn]; omega)]
      · have s2 : Sat w0 own fr w := s.sub (List.sublist_append_right _ _)
        have := s2.drew.new (.cells (vs ++ news ++ (Builtin.zeroCells zv.cells (grownCap w (c + k) cap E - (c + k))).toList) E)
        rw [show (⟨vs⟩ : Array Value) ++ ⟨news⟩ = ⟨vs ++ news⟩ from by apply Array.ext'; simp, app_mk]
        exact this

/-- append -/
theorem Eff.append {s x : Operand} {t u E m by_ c k : Nat} {z vs news : List Value} {v xv : Value} {h fr : Hp} (hs_ : ev e s = some v) (hx : ev e x = some xv) [ht : SliceT P t E] [hu : SliceT P u E] [hE : El P E m by_ z]
    (ho : OwnS E m v c vs h) (hp : hs.Perm (h ++ fr)) (hsrc : ∀ w, Sat w0 own hs w → Src P w m xv k news) (hn : news.length = k * m) (h1 : ones news = true)
    (hb : (c + k) * by_ ≤ 140737488355328) (h63 : c + k ≤ 4611686018427387904) :
    Eff P n w0 own e hs (.call { callee := .builtin .append, args := #[s, x], argTypes := #[t, u] }) (fun v' hs' => ∃ h', OwnS E m v' (c + k) (vs ++ news) h' ∧ hs' = h' ++ fr) :=
  Eff.of_run fun a w ty pos aft g d hr s' => by
    obtain ⟨v', w', h', r1, r2, r3⟩ := run_append_any (ty := ty) ht.out (.inl ⟨_, hu.out⟩) hE (s'.perm hp) ho (hsrc w s') hn h1 hb h63
    refine ⟨v', h' ++ fr, w', ?_, ⟨h', r2, rfl⟩, r3⟩
    simp [execOp, hr.eval hs_, hr.eval hx, resolve, invoke, builtin, r1]
end
end V
end Go
