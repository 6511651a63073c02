/- V0: a small program logic over the kit's 'Code.wp': environments as lists, heaps as lists of blocks. Proved here: the rules of control, of value operations, of calls and returns. -/
import Derived.WalkKit
import Derived.LoopTactic
import Derived.KernelRfl
import Derived.Below
import Derived.Deep.LoopGhost
import Derived.Scope
namespace Go
namespace V
open Go.RowKit
set_option linter.unusedVariables false

/-! ### Environments -/
abbrev Env := List (Nat × Value)
def get : Env → Nat → Option Value
  | [], _ => none
  | (s, v) :: e, t => bif Nat.beq s t then some v else get e t
def ev (e : Env) : Operand → Option Value
  | .tmp t => get e t
  | .const v => some v
  | .global g => some (.pointer (some ⟨g, 0, none⟩))
  | .func f => some (.func (.func f) #[] #[])
def evs (e : Env) : List Operand → Option (List Value)
  | [] => some []
  | x :: xs => match ev e x, evs e xs with
    | some v, some vs => some (v :: vs)
    | _, _ => none

structure Rep (n : Nat) (a : Act) (e : Env) : Prop where
  nd : a.defers = []
  sz : a.tmps.size = n
  at_ : ∀ t v, get e t = some v → a.tmps[t]? = some v

theorem Rep.eval {n : Nat} {a : Act} {e : Env} (h : Rep n a e) {x : Operand} {v : Value} (hx : ev e x = some v) : a.eval x = v := by
  cases x with
  | tmp t => have := h.at_ t v hx; simp [Act.eval, this]
  | const u => simpa [ev, Act.eval] using hx
  | global g => simpa [ev, Act.eval] using hx
  | func f => simpa [ev, Act.eval] using hx
theorem Rep.evals {n : Nat} {a : Act} {e : Env} (h : Rep n a e) : ∀ {xs : List Operand} {vs : List Value}, evs e xs = some vs → xs.map a.eval = vs
  | [], vs, hx => by simp [evs] at hx; simp [hx]
  | x :: xs, vs, hx => by
    simp only [evs] at hx
    split at hx
    · rename_i v vs' h1 h2
      simp at hx
      subst hx
      simp [h.eval h1, h.evals h2]
    · simp at hx
theorem Rep.lt {n : Nat} {a : Act} {e : Env} (h : Rep n a e) {t : Nat} {v : Value} (ht : get e t = some v) : t < n := by
  have := h.at_ t v ht
  rw [← h.sz]
  exact (Array.getElem?_eq_some_iff.1 this).1
theorem Rep.put {n : Nat} {a : Act} {e : Env} (h : Rep n a e) {d : Nat} (hd : d < n) (v : Value) : Rep n (a.put (some d) v) ((d, v) :: e) := by
  refine ⟨by simpa [Act.put] using h.nd, by simpa [Act.put] using h.sz, fun t u ht => ?_⟩
  simp only [get] at ht
  cases hb : Nat.beq d t with
  | true =>
    rw [hb] at ht
    simp at ht
    have := Nat.eq_of_beq_eq_true hb
    subst this; subst ht
    have : d < a.tmps.size := by rw [h.sz]; exact hd
    simp [Act.put, this]
  | false =>
    rw [hb] at ht
    simp at ht
    have hne : d ≠ t := Nat.ne_of_beq_eq_false hb
    have := h.at_ t u ht
    simp only [Act.put, Array.getElem?_setIfInBounds_ne hne]
    exact this
theorem Rep.put_none {n : Nat} {a : Act} {e : Env} (h : Rep n a e) (v : Value) : Rep n (a.put none v) e := h

def Sub (e' e : Env) : Prop := ∀ t v, get e' t = some v → get e t = some v
theorem Sub.refl (e : Env) : Sub e e := fun _ _ h => h
theorem Sub.trans {a b c : Env} (h : Sub a b) (k : Sub b c) : Sub a c := fun t v x => k t v (h t v x)
theorem Sub.nil (e : Env) : Sub [] e := fun _ _ h => by simp [get] at h
theorem Sub.cons {e' e : Env} {t : Nat} {v : Value} (h : get e t = some v) (k : Sub e' e) : Sub ((t, v) :: e') e := fun s u hs => by
  simp only [get] at hs
  cases hb : Nat.beq t s with
  | true =>
    rw [hb] at hs
    simp at hs
    have := Nat.eq_of_beq_eq_true hb
    subst this; subst hs; exact h
  | false => rw [hb] at hs; exact k s u hs
theorem Rep.sub {n : Nat} {a : Act} {e e' : Env} (h : Rep n a e) (k : Sub e' e) : Rep n a e' := ⟨h.nd, h.sz, fun t v x => h.at_ t v (k t v x)⟩

/-! ### Heaps -/
inductive Ch where
  | cells (l : List Value) (T : Nat)
  | obj (o : Obj)
def Ch.toObj : Ch → Obj
  | .cells l T => .cells ⟨l⟩ T (0, 0)
  | .obj o => o
abbrev Hp := List (Nat × Ch)
def bl (hs : Hp) : List Nat := hs.map (·.1)

def Holds (hs : Hp) (w : World) : Prop := ∀ b c, (b, c) ∈ hs → w.heap[b]? = some c.toObj

/-- the world 'w', reached from 'w0', of whose blocks those of 'own' may have been turned: it holds 'hs'. -/
structure Sat (w0 : World) (own : List Nat) (hs : Hp) (w : World) : Prop where
  size : w0.heap.size ≤ w.heap.size
  old : ∀ b, b < w0.heap.size → b ∉ own → w.heap[b]? = w0.heap[b]?
  has : Holds hs w
  nd : (bl hs).Nodup
  mine : ∀ b ∈ bl hs, b ∈ own ∨ w0.heap.size ≤ b
  os : w.os = w0.os
  tape : w.tape = w0.tape
  out : w.output = w0.output

theorem Sat.begin {w : World} {hs : Hp} (h : Holds hs w) (nd : (bl hs).Nodup) : Sat w (bl hs) hs w :=
  ⟨Nat.le_refl _, fun _ _ _ => rfl, h, nd, fun b hb => .inl hb, rfl, rfl, rfl⟩
theorem Sat.begin0 (w : World) : Sat w [] [] w := Sat.begin (hs := []) (fun _ _ h => (List.not_mem_nil h).elim) (by simp [bl])
theorem Holds.lt {hs : Hp} {w : World} (h : Holds hs w) {b : Nat} (hb : b ∈ bl hs) : b < w.heap.size := by
  obtain ⟨p, hp, rfl⟩ := List.mem_map.1 hb
  exact (Array.getElem?_eq_some_iff.1 (h p.1 p.2 hp)).1
theorem Sat.drew {w0 w : World} {own : List Nat} {hs : Hp} (h : Sat w0 own hs w) : Sat w0 own hs { w with drawn := w.drawn + 1 } :=
  ⟨h.size, h.old, h.has, h.nd, h.mine, h.os, h.tape, h.out⟩
theorem Sat.below {w0 w : World} {hs : Hp} (h : Sat w0 [] hs w) : Below w0.heap.size w0 w := by
  refine ⟨h.os, h.tape, h.out, h.size, fun b hb => h.old b hb (by simp)⟩
theorem Sat.sub {w0 w : World} {own : List Nat} {hs hs' : Hp} (h : Sat w0 own hs w) (k : hs'.Sublist hs) : Sat w0 own hs' w :=
  ⟨h.size, h.old, fun b c hb => h.has b c (k.subset hb), h.nd.sublist (k.map _), fun b hb => h.mine b ((k.map _).subset hb), h.os, h.tape, h.out⟩
theorem Sat.perm {w0 w : World} {own : List Nat} {hs hs' : Hp} (h : Sat w0 own hs w) (k : hs.Perm hs') : Sat w0 own hs' w :=
  ⟨h.size, h.old, fun b c hb => h.has b c (k.mem_iff.2 hb), (k.map _).nodup_iff.1 h.nd, fun b hb => h.mine b ((k.map (·.1)).mem_iff.2 hb), h.os, h.tape, h.out⟩
/-- what a call leaves, in the caller's frame -/
theorem Sat.call {w0 w w' : World} {own : List Nat} {pre fr hs' : Hp} (h : Sat w0 own (pre ++ fr) w) (k : Sat w (bl pre) hs' w') : Sat w0 own (hs' ++ fr) w' := by
  have nd := h.nd
  simp only [bl, List.map_append, List.nodup_append] at nd
  obtain ⟨n1, n2, n3⟩ := nd
  have frlt : ∀ b ∈ bl fr, b < w.heap.size := fun b hb => h.has.lt (by simp only [bl, List.map_append, List.mem_append]; exact .inr hb)
  have frnot : ∀ b ∈ bl fr, b ∉ bl pre := fun b hb hp => n3 b hp b hb rfl
  refine ⟨Nat.le_trans h.size k.size, fun b hb ho => ?_, fun b c hb => ?_, ?_, fun b hb => ?_, k.os.trans h.os, k.tape.trans h.tape, k.out.trans h.out⟩
  · rw [k.old b (Nat.lt_of_lt_of_le hb h.size) ?_, h.old b hb ho]
    intro hp
    rcases h.mine b (by simp only [bl, List.map_append, List.mem_append]; exact .inl hp) with h1 | h1
    · exact ho h1
    · omega
  · rcases List.mem_append.1 hb with hb | hb
    · exact k.has b c hb
    · have hbb : b ∈ bl fr := List.mem_map.2 ⟨(b, c), hb, rfl⟩
      rw [k.old b (frlt b hbb) (frnot b hbb)]
      exact h.has b c (List.mem_append.2 (.inr hb))
  · simp only [bl, List.map_append, List.nodup_append]
    refine ⟨k.nd, n2, fun x hx y hy e => ?_⟩
    subst e
    rcases k.mine x hx with h1 | h1
    · exact frnot x hy h1
    · have := frlt x hy; omega
  · simp only [bl, List.map_append, List.mem_append] at hb
    rcases hb with hb | hb
    · rcases k.mine b hb with h1 | h1
      · exact h.mine b (by simp only [bl, List.map_append, List.mem_append]; exact .inl h1)
      · exact .inr (Nat.le_trans h.size h1)
    · exact h.mine b (by simp only [bl, List.map_append, List.mem_append]; exact .inr hb)

theorem heap_new (w : World) (o : Obj) : (w.alloc o).heap = w.heap.push o := rfl
/-- a new block -/
theorem Sat.new {w0 w : World} {own : List Nat} {hs : Hp} (h : Sat w0 own hs w) (c : Ch) : Sat w0 own ((w.heap.size, c) :: hs) (w.alloc c.toObj) := by
  refine ⟨by rw [heap_new, Array.size_push]; exact Nat.le_succ_of_le h.size, fun b hb ho => ?_, fun b c' hb => ?_, ?_, fun b hb => ?_, h.os, h.tape, h.out⟩
  · have hlt := Nat.lt_of_lt_of_le hb h.size
    rw [← h.old b hb ho, heap_new, Array.getElem?_push_lt hlt, Array.getElem?_eq_getElem hlt]
  · rcases List.mem_cons.1 hb with e | hb
    · cases e; rw [heap_new]; simp
    · have hlt := h.has.lt (List.mem_map.2 ⟨(b, c'), hb, rfl⟩ : b ∈ bl hs)
      rw [heap_new, Array.getElem?_push_lt hlt, ← Array.getElem?_eq_getElem hlt]
      exact h.has b c' hb
  · simp only [bl, List.map_cons, List.nodup_cons]
    exact ⟨fun hb => Nat.lt_irrefl _ (h.has.lt hb), h.nd⟩
  · simp only [bl, List.map_cons, List.mem_cons] at hb
    rcases hb with rfl | hb
    · exact .inr h.size
    · exact h.mine b hb

/-- 'hs'' is 'hs', but at block 'b' there is 'c' -/
inductive Upd (b : Nat) (c : Ch) : Hp → Hp → Prop
  | head {c0 : Ch} {hs : Hp} : Upd b c ((b, c0) :: hs) ((b, c) :: hs)
  | tail {p : Nat × Ch} {hs hs' : Hp} : Upd b c hs hs' → Upd b c (p :: hs) (p :: hs')
theorem Upd.bl {b : Nat} {c : Ch} {hs hs' : Hp} (h : Upd b c hs hs') : bl hs' = bl hs := by
  induction h with
  | head => rfl
  | tail _ ih => simp only [V.bl, List.map_cons] at *; rw [ih]
theorem Upd.mem {b : Nat} {c : Ch} {hs hs' : Hp} (h : Upd b c hs hs') : b ∈ V.bl hs := by
  induction h with
  | head => simp [V.bl]
  | tail _ ih => simp only [V.bl, List.map_cons, List.mem_cons] at *; exact .inr ih
theorem Upd.cases_ {b : Nat} {c : Ch} {hs hs' : Hp} (h : Upd b c hs hs') (nd : (V.bl hs).Nodup) : ∀ b' c', (b', c') ∈ hs' → (b' = b ∧ c' = c) ∨ (b' ≠ b ∧ (b', c') ∈ hs) := by
  induction h with
  | @head c0 hs =>
    intro b' c' hm
    simp only [V.bl, List.map_cons, List.nodup_cons] at nd
    rcases List.mem_cons.1 hm with e | hm
    · cases e; exact .inl ⟨rfl, rfl⟩
    · exact .inr ⟨fun e => nd.1 (e ▸ List.mem_map.2 ⟨(b', c'), hm, rfl⟩), List.mem_cons_of_mem _ hm⟩
  | @tail p hs hs' hu ih =>
    intro b' c' hm
    simp only [V.bl, List.map_cons, List.nodup_cons] at nd
    rcases List.mem_cons.1 hm with e | hm
    · subst e
      exact .inr ⟨fun e => nd.1 (e ▸ hu.mem), List.mem_cons_self⟩
    · rcases ih nd.2 b' c' hm with h | h
      · exact .inl h
      · exact .inr ⟨h.1, List.mem_cons_of_mem _ h.2⟩
theorem Sat.upd {w0 w w' : World} {own : List Nat} {hs hs' : Hp} {b : Nat} {c : Ch} (h : Sat w0 own hs w) (u : Upd b c hs hs')
    (hsz : w'.heap.size = w.heap.size) (hne : ∀ i, i ≠ b → w'.heap[i]? = w.heap[i]?) (hb : w'.heap[b]? = some c.toObj)
    (ho : w'.os = w.os) (ht : w'.tape = w.tape) (hu : w'.output = w.output) : Sat w0 own hs' w' := by
  refine ⟨by rw [hsz]; exact h.size, fun i hi hio => ?_, fun b' c' hm => ?_, by rw [u.bl]; exact h.nd, by rw [u.bl]; exact h.mine, ho.trans h.os, ht.trans h.tape, hu.trans h.out⟩
  · rw [hne i ?_, h.old i hi hio]
    intro e
    subst e
    rcases h.mine i u.mem with h1 | h1
    · exact hio h1
    · omega
  · rcases u.cases_ h.nd b' c' hm with ⟨rfl, rfl⟩ | ⟨hn, hm⟩
    · exact hb
    · rw [hne b' hn]; exact h.has b' c' hm

/-! ### The judgements -/
abbrev Post := Exit → Env → Hp → Prop
def lift (n : Nat) (w0 : World) (own : List Nat) (Q : Post) : Exit → Act → World → Prop :=
  fun x a w => ∃ e hs, Rep n a e ∧ Sat w0 own hs w ∧ Q x e hs

/-- the code, begun in 'e', 'hs', comes to an end that 'Q' lets -/
def JC (P : Program) (n : Nat) (w0 : World) (own : List Nat) (c : Code) (e : Env) (hs : Hp) (Q : Post) : Prop :=
  ∀ a w, Rep n a e → Sat w0 own hs w → c.wp P (lift n w0 own Q) a w
/-- the operations, begun in 'e', 'hs', all run -/
def JL (P : Program) (n : Nat) (w0 : World) (own : List Nat) (ops : Array Oper) (l : List Oper) (e : Env) (hs : Hp) (K : Env → Hp → Prop) : Prop :=
  ∀ a w, Rep n a e → Sat w0 own hs w → ∀ Q : Exit → Act → World → Prop, (∀ e' hs' a' w', Rep n a' e' → Sat w0 own hs' w' → K e' hs' → Q .normal a' w') → wpList P ops Q l a w

section
variable {P : Program} {n : Nat} {w0 : World} {own : List Nat} {e : Env} {hs : Hp} {Q : Post} {ops : Array Oper} {rest : List Oper} {K : Env → Hp → Prop}

theorem JC.mono {c : Code} {Q' : Post} (h : JC P n w0 own c e hs Q) (k : ∀ x e hs, Q x e hs → Q' x e hs) : JC P n w0 own c e hs Q' :=
  fun a w hr hs => wp_mono (h a w hr hs) fun x a' w' ⟨e', hs', h1, h2, h3⟩ => ⟨e', hs', h1, h2, k _ _ _ h3⟩
theorem JC.sub {c : Code} {e' : Env} (k : Sub e' e) (h : JC P n w0 own c e' hs Q) : JC P n w0 own c e hs Q :=
  fun a w hr hs => h a w (hr.sub k) hs
theorem JC.heap {c : Code} {hs' : Hp} (k : ∀ w, Sat w0 own hs w → Sat w0 own hs' w) (h : JC P n w0 own c e hs' Q) : JC P n w0 own c e hs Q :=
  fun a w hr hs => h a w hr (k w hs)
theorem JC.perm {c : Code} {hs' : Hp} (k : hs.Perm hs') (h : JC P n w0 own c e hs' Q) : JC P n w0 own c e hs Q := JC.heap (fun _ s => s.perm k) h
theorem JC.drop {c : Code} {hs' : Hp} (k : hs'.Sublist hs) (h : JC P n w0 own c e hs' Q) : JC P n w0 own c e hs Q := JC.heap (fun _ s => s.sub k) h

theorem JC.skip (h : Q .normal e hs) : JC P n w0 own .skip e hs Q := fun a w hr hs => wp_skip ⟨e, _, hr, hs, h⟩
theorem JC.label {l : Nat} (h : Q .normal e hs) : JC P n w0 own (.label l) e hs Q := fun a w hr hs => wp_label ⟨e, _, hr, hs, h⟩
theorem JC.exit {id : Nat} (h : Q (.exit id) e hs) : JC P n w0 own (.exit id) e hs Q := fun a w hr hs => wp_exit ⟨e, _, hr, hs, h⟩
theorem JC.ret (h : Q .ret e hs) : JC P n w0 own .ret e hs Q := fun a w hr hs => wp_ret ⟨e, _, hr, hs, h⟩

def thenQ (K : Env → Hp → Prop) (Q : Post) : Post
  | .normal, e, hs => K e hs
  | x, e, hs => Q x e hs
theorem JC.seq {x y : Code} (h : JC P n w0 own x e hs (thenQ (fun e hs => JC P n w0 own y e hs Q) Q)) : JC P n w0 own (.seq x y) e hs Q := by
  intro a w hr hs
  refine wp_seq (wp_mono (h a w hr hs) ?_)
  rintro x a' w' ⟨e', hs', h1, h2, h3⟩
  cases x with
  | normal => exact h3 a' w' h1 h2
  | _ => exact ⟨e', hs', h1, h2, h3⟩
theorem JC.cond {c : Operand} {x y : Code} {b : Bool} (hc : ev e c = some (.bool b)) (ht : b = true → JC P n w0 own x e hs Q) (hf : b = false → JC P n w0 own y e hs Q) :
    JC P n w0 own (.cond c x y) e hs Q := fun a w hr hs => wp_cond_split (hr.eval hc) (fun h => ht h a w hr hs) (fun h => hf h a w hr hs)
theorem JC.cond_dec {c : Operand} {x y : Code} {p : Prop} [Decidable p] (hc : ev e c = some (.bool (decide p))) (ht : p → JC P n w0 own x e hs Q) (hf : ¬ p → JC P n w0 own y e hs Q) :
    JC P n w0 own (.cond c x y) e hs Q := JC.cond hc (fun h => ht (of_decide_eq_true h)) (fun h => hf (of_decide_eq_false h))
theorem JC.cond_true {c : Operand} {x y : Code} (hc : ev e c = some (.bool true)) (ht : JC P n w0 own x e hs Q) :
    JC P n w0 own (.cond c x y) e hs Q := JC.cond hc (fun _ => ht) (fun h => by cases h)
theorem JC.cond_false {c : Operand} {x y : Code} (hc : ev e c = some (.bool false)) (hf : JC P n w0 own y e hs Q) :
    JC P n w0 own (.cond c x y) e hs Q := JC.cond hc (fun h => by cases h) (fun _ => hf)
def blockQ (id : Nat) (Q : Post) : Post
  | .exit id', e, hs => bif Nat.beq id' id then Q .normal e hs else Q (.exit id') e hs
  | x, e, hs => Q x e hs
theorem JC.block {id : Nat} {c : Code} (h : JC P n w0 own c e hs (blockQ id Q)) : JC P n w0 own (.block id c) e hs Q := by
  intro a w hr hs
  refine wp_block (wp_mono (h a w hr hs) ?_)
  rintro x a' w' ⟨e', hs', h1, h2, h3⟩
  cases x with
  | exit id' =>
    simp only [blockQ] at h3
    simp only [Exit.inBlock]
    cases hb : Nat.beq id' id with
    | true => rw [hb] at h3; rw [if_pos (Nat.eq_of_beq_eq_true hb)]; exact ⟨e', hs', h1, h2, h3⟩
    | false => rw [hb] at h3; rw [if_neg (Nat.ne_of_beq_eq_false hb)]; exact ⟨e', hs', h1, h2, h3⟩
  | _ => exact ⟨e', hs', h1, h2, h3⟩
theorem JC.scope_ {c : Code} (h : JC P n w0 own c e hs fun x e hs => (∀ l, x ≠ .goto l) ∧ Q x e hs) : JC P n w0 own (.scope c) e hs Q := by
  intro a w hr hs
  refine wp_scope_straight (wp_mono (h a w hr hs) ?_)
  rintro x a' w' ⟨e', hs', h1, h2, h3, h4⟩
  cases x with
  | goto l => exact absurd rfl (h3 l)
  | _ => exact ⟨e', hs', h1, h2, h4⟩
theorem JC.loop {X : Type} {c : Code} (I : X → Env) (H : X → Hp) (inv : X → Prop) (μ : X → Nat) (x0 : X) (h0 : inv x0) (hE : Sub (I x0) e) (hH : ∀ w, Sat w0 own hs w → Sat w0 own (H x0) w)
    (round : ∀ x, inv x → JC P n w0 own c (I x) (H x) (thenQ (fun e' hs' => ∃ x', inv x' ∧ μ x' < μ x ∧ Sub (I x') e' ∧ ∀ w, Sat w0 own hs' w → Sat w0 own (H x') w) Q)) :
    JC P n w0 own (.loop c) e hs Q := by
  intro a w hr hs
  refine wp_loop_ghost (fun m a w => ∃ y, inv y ∧ μ y = m ∧ Rep n a (I y) ∧ Sat w0 own (H y) w) (μ x0) ⟨x0, h0, rfl, hr.sub hE, hH w hs⟩ ?_
  rintro m a w ⟨y, hy, rfl, hr, hs⟩
  refine wp_mono (round y hy a w hr hs) ?_
  rintro x a' w' ⟨e', hs', h1, h2, h3⟩
  cases x with
  | normal =>
    obtain ⟨y', i1, i2, i3, i4⟩ := h3
    exact ⟨μ y', i2, y', i1, rfl, h1.sub i3, i4 w' h2⟩
  | _ => exact ⟨e', hs', h1, h2, h3⟩
end
end V
end Go
