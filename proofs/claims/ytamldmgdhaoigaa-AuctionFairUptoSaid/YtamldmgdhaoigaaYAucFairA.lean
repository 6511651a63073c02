/- Texts that the row RAucFair stands on: V0, V1, V2, V3, V4, V5, V6, V7, V8, V9, VH, VI, VJ, VK, VL, VM, VO, VP, VQ, VR, VS, VU. -/
import Derived.WalkKit
import Derived.LoopTactic
import Derived.KernelRfl
import Derived.Below
import Derived.Deep.LoopGhost
import Derived.Scope
import Derived.Laws.CopyRow
import Derived.Laws.Rows
import Derived.OrdersHeld
import Derived.Laws.AppendOwn
import Derived.Laws.StructEq
import Derived.Laws.BytesArg
import Derived.WalkSpells
import Derived.StillTail
import Derived.MapKept
import Derived.Lib.Overlaps
/- V0: a small program logic over the kit's 'Code.wp': environments as lists, heaps as lists of blocks. Proved here: the rules of control, of value operations, of calls and returns. -/
namespace Go
namespace V
open Go.RowKit
set_option linter.unusedVariables false

/-! ### Environments -/
abbrev Env := List (Nat × Value)
def get : Env → Nat → Option Value
  | [], _ => none
  | (s, v) :: e, t => bif Nat.beq s t then some v else get e t
def ev (e : Env) : Operand → Option Value
  | .tmp t => get e t
  | .const v => some v
  | .global g => some (.pointer (some ⟨g, 0, none⟩))
  | .func f => some (.func (.func f) #[] #[])
def evs (e : Env) : List Operand → Option (List Value)
  | [] => some []
  | x :: xs => match ev e x, evs e xs with
    | some v, some vs => some (v :: vs)
    | _, _ => none

structure Rep (n : Nat) (a : Act) (e : Env) : Prop where
  nd : a.defers = []
  sz : a.tmps.size = n
  at_ : ∀ t v, get e t = some v → a.tmps[t]? = some v

theorem Rep.eval {n : Nat} {a : Act} {e : Env} (h : Rep n a e) {x : Operand} {v : Value} (hx : ev e x = some v) : a.eval x = v := by
  cases x with
  | tmp t => have := h.at_ t v hx; simp [Act.eval, this]
  | const u => simpa [ev, Act.eval] using hx
  | global g => simpa [ev, Act.eval] using hx
  | func f => simpa [ev, Act.eval] using hx
theorem Rep.evals {n : Nat} {a : Act} {e : Env} (h : Rep n a e) : ∀ {xs : List Operand} {vs : List Value}, evs e xs = some vs → xs.map a.eval = vs
  | [], vs, hx => by simp [evs] at hx; simp [hx]
  | x :: xs, vs, hx => by
    simp only [evs] at hx
    split at hx
    · rename_i v vs' h1 h2
      simp at hx
      subst hx
      simp [h.eval h1, h.evals h2]
    · simp at hx
theorem Rep.lt {n : Nat} {a : Act} {e : Env} (h : Rep n a e) {t : Nat} {v : Value} (ht : get e t = some v) : t < n := by
  have := h.at_ t v ht
  rw [← h.sz]
  exact (Array.getElem?_eq_some_iff.1 this).1
theorem Rep.put {n : Nat} {a : Act} {e : Env} (h : Rep n a e) {d : Nat} (hd : d < n) (v : Value) : Rep n (a.put (some d) v) ((d, v) :: e) := by
  refine ⟨by simpa [Act.put] using h.nd, by simpa [Act.put] using h.sz, fun t u ht => ?_⟩
  simp only [get] at ht
  cases hb : Nat.beq d t with
  | true =>
    rw [hb] at ht
    simp at ht
    have := Nat.eq_of_beq_eq_true hb
    subst this; subst ht
    have : d < a.tmps.size := by rw [h.sz]; exact hd
    simp [Act.put, this]
  | false =>
    rw [hb] at ht
    simp at ht
    have hne : d ≠ t := Nat.ne_of_beq_eq_false hb
    have := h.at_ t u ht
    simp only [Act.put, Array.getElem?_setIfInBounds_ne hne]
    exact this
theorem Rep.put_none {n : Nat} {a : Act} {e : Env} (h : Rep n a e) (v : Value) : Rep n (a.put none v) e := h

def Sub (e' e : Env) : Prop := ∀ t v, get e' t = some v → get e t = some v
theorem Sub.refl (e : Env) : Sub e e := fun _ _ h => h
theorem Sub.trans {a b c : Env} (h : Sub a b) (k : Sub b c) : Sub a c := fun t v x => k t v (h t v x)
theorem Sub.nil (e : Env) : Sub [] e := fun _ _ h => by simp [get] at h
theorem Sub.cons {e' e : Env} {t : Nat} {v : Value} (h : get e t = some v) (k : Sub e' e) : Sub ((t, v) :: e') e := fun s u hs => by
  simp only [get] at hs
  cases hb : Nat.beq t s with
  | true =>
    rw [hb] at hs
    simp at hs
    have := Nat.eq_of_beq_eq_true hb
    subst this; subst hs; exact h
  | false => rw [hb] at hs; exact k s u hs
theorem Rep.sub {n : Nat} {a : Act} {e e' : Env} (h : Rep n a e) (k : Sub e' e) : Rep n a e' := ⟨h.nd, h.sz, fun t v x => h.at_ t v (k t v x)⟩

/-! ### Heaps -/
inductive Ch where
  | cells (l : List Value) (T : Nat)
  | obj (o : Obj)
def Ch.toObj : Ch → Obj
  | .cells l T => .cells ⟨l⟩ T (0, 0)
  | .obj o => o
abbrev Hp := List (Nat × Ch)
def bl (hs : Hp) : List Nat := hs.map (·.1)

def Holds (hs : Hp) (w : World) : Prop := ∀ b c, (b, c) ∈ hs → w.heap[b]? = some c.toObj

/-- the world 'w', reached from 'w0', of whose blocks those of 'own' may have been turned: it holds 'hs'. -/
structure Sat (w0 : World) (own : List Nat) (hs : Hp) (w : World) : Prop where
  size : w0.heap.size ≤ w.heap.size
  old : ∀ b, b < w0.heap.size → b ∉ own → w.heap[b]? = w0.heap[b]?
  has : Holds hs w
  nd : (bl hs).Nodup
  mine : ∀ b ∈ bl hs, b ∈ own ∨ w0.heap.size ≤ b
  os : w.os = w0.os
  tape : w.tape = w0.tape
  out : w.output = w0.output

theorem Sat.begin {w : World} {hs : Hp} (h : Holds hs w) (nd : (bl hs).Nodup) : Sat w (bl hs) hs w :=
  ⟨Nat.le_refl _, fun _ _ _ => rfl, h, nd, fun b hb => .inl hb, rfl, rfl, rfl⟩
theorem Sat.begin0 (w : World) : Sat w [] [] w := Sat.begin (hs := []) (fun _ _ h => (List.not_mem_nil h).elim) (by simp [bl])
theorem Holds.lt {hs : Hp} {w : World} (h : Holds hs w) {b : Nat} (hb : b ∈ bl hs) : b < w.heap.size := by
  obtain ⟨p, hp, rfl⟩ := List.mem_map.1 hb
  exact (Array.getElem?_eq_some_iff.1 (h p.1 p.2 hp)).1
theorem Sat.drew {w0 w : World} {own : List Nat} {hs : Hp} (h : Sat w0 own hs w) : Sat w0 own hs { w with drawn := w.drawn + 1 } :=
  ⟨h.size, h.old, h.has, h.nd, h.mine, h.os, h.tape, h.out⟩
theorem Sat.below {w0 w : World} {hs : Hp} (h : Sat w0 [] hs w) : Below w0.heap.size w0 w := by
  refine ⟨h.os, h.tape, h.out, h.size, fun b hb => h.old b hb (by simp)⟩
theorem Sat.sub {w0 w : World} {own : List Nat} {hs hs' : Hp} (h : Sat w0 own hs w) (k : hs'.Sublist hs) : Sat w0 own hs' w :=
  ⟨h.size, h.old, fun b c hb => h.has b c (k.subset hb), h.nd.sublist (k.map _), fun b hb => h.mine b ((k.map _).subset hb), h.os, h.tape, h.out⟩
theorem Sat.perm {w0 w : World} {own : List Nat} {hs hs' : Hp} (h : Sat w0 own hs w) (k : hs.Perm hs') : Sat w0 own hs' w :=
  ⟨h.size, h.old, fun b c hb => h.has b c (k.mem_iff.2 hb), (k.map _).nodup_iff.1 h.nd, fun b hb => h.mine b ((k.map (·.1)).mem_iff.2 hb), h.os, h.tape, h.out⟩
/-- what a call leaves, in the caller's frame -/
theorem Sat.call {w0 w w' : World} {own : List Nat} {pre fr hs' : Hp} (h : Sat w0 own (pre ++ fr) w) (k : Sat w (bl pre) hs' w') : Sat w0 own (hs' ++ fr) w' := by
  have nd := h.nd
  simp only [bl, List.map_append, List.nodup_append] at nd
  obtain ⟨n1, n2, n3⟩ := nd
  have frlt : ∀ b ∈ bl fr, b < w.heap.size := fun b hb => h.has.lt (by simp only [bl, List.map_append, List.mem_append]; exact .inr hb)
  have frnot : ∀ b ∈ bl fr, b ∉ bl pre := fun b hb hp => n3 b hp b hb rfl
  refine ⟨Nat.le_trans h.size k.size, fun b hb ho => ?_, fun b c hb => ?_, ?_, fun b hb => ?_, k.os.trans h.os, k.tape.trans h.tape, k.out.trans h.out⟩
  · rw [k.old b (Nat.lt_of_lt_of_le hb h.size) ?_, h.old b hb ho]
    intro hp
    rcases h.mine b (by simp only [bl, List.map_append, List.mem_append]; exact .inl hp) with h1 | h1
    · exact ho h1
    · omega
  · rcases List.mem_append.1 hb with hb | hb
    · exact k.has b c hb
    · have hbb : b ∈ bl fr := List.mem_map.2 ⟨(b, c), hb, rfl⟩
      rw [k.old b (frlt b hbb) (frnot b hbb)]
      exact h.has b c (List.mem_append.2 (.inr hb))
  · simp only [bl, List.map_append, List.nodup_append]
    refine ⟨k.nd, n2, fun x hx y hy e => ?_⟩
    subst e
    rcases k.mine x hx with h1 | h1
    · exact frnot x hy h1
    · have := frlt x hy; omega
  · simp only [bl, List.map_append, List.mem_append] at hb
    rcases hb with hb | hb
    · rcases k.mine b hb with h1 | h1
      · exact h.mine b (by simp only [bl, List.map_append, List.mem_append]; exact .inl h1)
      · exact .inr (Nat.le_trans h.size h1)
    · exact h.mine b (by simp only [bl, List.map_append, List.mem_append]; exact .inr hb)

theorem heap_new (w : World) (o : Obj) : (w.alloc o).heap = w.heap.push o := rfl
/-- a new block -/
theorem Sat.new {w0 w : World} {own : List Nat} {hs : Hp} (h : Sat w0 own hs w) (c : Ch) : Sat w0 own ((w.heap.size, c) :: hs) (w.alloc c.toObj) := by
  refine ⟨by rw [heap_new, Array.size_push]; exact Nat.le_succ_of_le h.size, fun b hb ho => ?_, fun b c' hb => ?_, ?_, fun b hb => ?_, h.os, h.tape, h.out⟩
  · have hlt := Nat.lt_of_lt_of_le hb h.size
    rw [← h.old b hb ho, heap_new, Array.getElem?_push_lt hlt, Array.getElem?_eq_getElem hlt]
  · rcases List.mem_cons.1 hb with e | hb
    · cases e; rw [heap_new]; simp
    · have hlt := h.has.lt (List.mem_map.2 ⟨(b, c'), hb, rfl⟩ : b ∈ bl hs)
      rw [heap_new, Array.getElem?_push_lt hlt, ← Array.getElem?_eq_getElem hlt]
      exact h.has b c' hb
  · simp only [bl, List.map_cons, List.nodup_cons]
    exact ⟨fun hb => Nat.lt_irrefl _ (h.has.lt hb), h.nd⟩
  · simp only [bl, List.map_cons, List.mem_cons] at hb
    rcases hb with rfl | hb
    · exact .inr h.size
    · exact h.mine b hb

/-- 'hs'' is 'hs', but at block 'b' there is 'c' -/
inductive Upd (b : Nat) (c : Ch) : Hp → Hp → Prop
  | head {c0 : Ch} {hs : Hp} : Upd b c ((b, c0) :: hs) ((b, c) :: hs)
  | tail {p : Nat × Ch} {hs hs' : Hp} : Upd b c hs hs' → Upd b c (p :: hs) (p :: hs')
theorem Upd.bl {b : Nat} {c : Ch} {hs hs' : Hp} (h : Upd b c hs hs') : bl hs' = bl hs := by
  induction h with
  | head => rfl
  | tail _ ih => simp only [V.bl, List.map_cons] at *; rw [ih]
theorem Upd.mem {b : Nat} {c : Ch} {hs hs' : Hp} (h : Upd b c hs hs') : b ∈ V.bl hs := by
  induction h with
  | head => simp [V.bl]
  | tail _ ih => simp only [V.bl, List.map_cons, List.mem_cons] at *; exact .inr ih
theorem Upd.cases_ {b : Nat} {c : Ch} {hs hs' : Hp} (h : Upd b c hs hs') (nd : (V.bl hs).Nodup) : ∀ b' c', (b', c') ∈ hs' → (b' = b ∧ c' = c) ∨ (b' ≠ b ∧ (b', c') ∈ hs) := by
  induction h with
  | @head c0 hs =>
    intro b' c' hm
    simp only [V.bl, List.map_cons, List.nodup_cons] at nd
    rcases List.mem_cons.1 hm with e | hm
    · cases e; exact .inl ⟨rfl, rfl⟩
    · exact .inr ⟨fun e => nd.1 (e ▸ List.mem_map.2 ⟨(b', c'), hm, rfl⟩), List.mem_cons_of_mem _ hm⟩
  | @tail p hs hs' hu ih =>
    intro b' c' hm
    simp only [V.bl, List.map_cons, List.nodup_cons] at nd
    rcases List.mem_cons.1 hm with e | hm
    · subst e
      exact .inr ⟨fun e => nd.1 (e ▸ hu.mem), List.mem_cons_self⟩
    · rcases ih nd.2 b' c' hm with h | h
      · exact .inl h
      · exact .inr ⟨h.1, List.mem_cons_of_mem _ h.2⟩
theorem Sat.upd {w0 w w' : World} {own : List Nat} {hs hs' : Hp} {b : Nat} {c : Ch} (h : Sat w0 own hs w) (u : Upd b c hs hs')
    (hsz : w'.heap.size = w.heap.size) (hne : ∀ i, i ≠ b → w'.heap[i]? = w.heap[i]?) (hb : w'.heap[b]? = some c.toObj)
    (ho : w'.os = w.os) (ht : w'.tape = w.tape) (hu : w'.output = w.output) : Sat w0 own hs' w' := by
  refine ⟨by rw [hsz]; exact h.size, fun i hi hio => ?_, fun b' c' hm => ?_, by rw [u.bl]; exact h.nd, by rw [u.bl]; exact h.mine, ho.trans h.os, ht.trans h.tape, hu.trans h.out⟩
  · rw [hne i ?_, h.old i hi hio]
    intro e
    subst e
    rcases h.mine i u.mem with h1 | h1
    · exact hio h1
    · omega
  · rcases u.cases_ h.nd b' c' hm with ⟨rfl, rfl⟩ | ⟨hn, hm⟩
    · exact hb
    · rw [hne b' hn]; exact h.has b' c' hm

/-! ### The judgements -/
abbrev Post := Exit → Env → Hp → Prop
def lift (n : Nat) (w0 : World) (own : List Nat) (Q : Post) : Exit → Act → World → Prop :=
  fun x a w => ∃ e hs, Rep n a e ∧ Sat w0 own hs w ∧ Q x e hs

/-- the code, begun in 'e', 'hs', comes to an end that 'Q' lets -/
def JC (P : Program) (n : Nat) (w0 : World) (own : List Nat) (c : Code) (e : Env) (hs : Hp) (Q : Post) : Prop :=
  ∀ a w, Rep n a e → Sat w0 own hs w → c.wp P (lift n w0 own Q) a w
/-- the operations, begun in 'e', 'hs', all run -/
def JL (P : Program) (n : Nat) (w0 : World) (own : List Nat) (ops : Array Oper) (l : List Oper) (e : Env) (hs : Hp) (K : Env → Hp → Prop) : Prop :=
  ∀ a w, Rep n a e → Sat w0 own hs w → ∀ Q : Exit → Act → World → Prop, (∀ e' hs' a' w', Rep n a' e' → Sat w0 own hs' w' → K e' hs' → Q .normal a' w') → wpList P ops Q l a w

section
variable {P : Program} {n : Nat} {w0 : World} {own : List Nat} {e : Env} {hs : Hp} {Q : Post} {ops : Array Oper} {rest : List Oper} {K : Env → Hp → Prop}

theorem JC.mono {c : Code} {Q' : Post} (h : JC P n w0 own c e hs Q) (k : ∀ x e hs, Q x e hs → Q' x e hs) : JC P n w0 own c e hs Q' :=
  fun a w hr hs => wp_mono (h a w hr hs) fun x a' w' ⟨e', hs', h1, h2, h3⟩ => ⟨e', hs', h1, h2, k _ _ _ h3⟩
theorem JC.sub {c : Code} {e' : Env} (k : Sub e' e) (h : JC P n w0 own c e' hs Q) : JC P n w0 own c e hs Q :=
  fun a w hr hs => h a w (hr.sub k) hs
theorem JC.heap {c : Code} {hs' : Hp} (k : ∀ w, Sat w0 own hs w → Sat w0 own hs' w) (h : JC P n w0 own c e hs' Q) : JC P n w0 own c e hs Q :=
  fun a w hr hs => h a w hr (k w hs)
theorem JC.perm {c : Code} {hs' : Hp} (k : hs.Perm hs') (h : JC P n w0 own c e hs' Q) : JC P n w0 own c e hs Q := JC.heap (fun _ s => s.perm k) h
theorem JC.drop {c : Code} {hs' : Hp} (k : hs'.Sublist hs) (h : JC P n w0 own c e hs' Q) : JC P n w0 own c e hs Q := JC.heap (fun _ s => s.sub k) h

theorem JC.skip (h : Q .normal e hs) : JC P n w0 own .skip e hs Q := fun a w hr hs => wp_skip ⟨e, _, hr, hs, h⟩
theorem JC.label {l : Nat} (h : Q .normal e hs) : JC P n w0 own (.label l) e hs Q := fun a w hr hs => wp_label ⟨e, _, hr, hs, h⟩
theorem JC.exit {id : Nat} (h : Q (.exit id) e hs) : JC P n w0 own (.exit id) e hs Q := fun a w hr hs => wp_exit ⟨e, _, hr, hs, h⟩
theorem JC.ret (h : Q .ret e hs) : JC P n w0 own .ret e hs Q := fun a w hr hs => wp_ret ⟨e, _, hr, hs, h⟩

def thenQ (K : Env → Hp → Prop) (Q : Post) : Post
  | .normal, e, hs => K e hs
  | x, e, hs => Q x e hs
theorem JC.seq {x y : Code} (h : JC P n w0 own x e hs (thenQ (fun e hs => JC P n w0 own y e hs Q) Q)) : JC P n w0 own (.seq x y) e hs Q := by
  intro a w hr hs
  refine wp_seq (wp_mono (h a w hr hs) ?_)
  rintro x a' w' ⟨e', hs', h1, h2, h3⟩
  cases x with
  | normal => exact h3 a' w' h1 h2
  | _ => exact ⟨e', hs', h1, h2, h3⟩
theorem JC.cond {c : Operand} {x y : Code} {b : Bool} (hc : ev e c = some (.bool b)) (ht : b = true → JC P n w0 own x e hs Q) (hf : b = false → JC P n w0 own y e hs Q) :
    JC P n w0 own (.cond c x y) e hs Q := fun a w hr hs => wp_cond_split (hr.eval hc) (fun h => ht h a w hr hs) (fun h => hf h a w hr hs)
theorem JC.cond_dec {c : Operand} {x y : Code} {p : Prop} [Decidable p] (hc : ev e c = some (.bool (decide p))) (ht : p → JC P n w0 own x e hs Q) (hf : ¬ p → JC P n w0 own y e hs Q) :
    JC P n w0 own (.cond c x y) e hs Q := JC.cond hc (fun h => ht (of_decide_eq_true h)) (fun h => hf (of_decide_eq_false h))
theorem JC.cond_true {c : Operand} {x y : Code} (hc : ev e c = some (.bool true)) (ht : JC P n w0 own x e hs Q) :
    JC P n w0 own (.cond c x y) e hs Q := JC.cond hc (fun _ => ht) (fun h => by cases h)
theorem JC.cond_false {c : Operand} {x y : Code} (hc : ev e c = some (.bool false)) (hf : JC P n w0 own y e hs Q) :
    JC P n w0 own (.cond c x y) e hs Q := JC.cond hc (fun h => by cases h) (fun _ => hf)
def blockQ (id : Nat) (Q : Post) : Post
  | .exit id', e, hs => bif Nat.beq id' id then Q .normal e hs else Q (.exit id') e hs
  | x, e, hs => Q x e hs
theorem JC.block {id : Nat} {c : Code} (h : JC P n w0 own c e hs (blockQ id Q)) : JC P n w0 own (.block id c) e hs Q := by
  intro a w hr hs
  refine wp_block (wp_mono (h a w hr hs) ?_)
  rintro x a' w' ⟨e', hs', h1, h2, h3⟩
  cases x with
  | exit id' =>
    simp only [blockQ] at h3
    simp only [Exit.inBlock]
    cases hb : Nat.beq id' id with
    | true => rw [hb] at h3; rw [if_pos (Nat.eq_of_beq_eq_true hb)]; exact ⟨e', hs', h1, h2, h3⟩
    | false => rw [hb] at h3; rw [if_neg (Nat.ne_of_beq_eq_false hb)]; exact ⟨e', hs', h1, h2, h3⟩
  | _ => exact ⟨e', hs', h1, h2, h3⟩
theorem JC.scope_ {c : Code} (h : JC P n w0 own c e hs fun x e hs => (∀ l, x ≠ .goto l) ∧ Q x e hs) : JC P n w0 own (.scope c) e hs Q := by
  intro a w hr hs
  refine wp_scope_straight (wp_mono (h a w hr hs) ?_)
  rintro x a' w' ⟨e', hs', h1, h2, h3, h4⟩
  cases x with
  | goto l => exact absurd rfl (h3 l)
  | _ => exact ⟨e', hs', h1, h2, h4⟩
theorem JC.loop {X : Type} {c : Code} (I : X → Env) (H : X → Hp) (inv : X → Prop) (μ : X → Nat) (x0 : X) (h0 : inv x0) (hE : Sub (I x0) e) (hH : ∀ w, Sat w0 own hs w → Sat w0 own (H x0) w)
    (round : ∀ x, inv x → JC P n w0 own c (I x) (H x) (thenQ (fun e' hs' => ∃ x', inv x' ∧ μ x' < μ x ∧ Sub (I x') e' ∧ ∀ w, Sat w0 own hs' w → Sat w0 own (H x') w) Q)) :
    JC P n w0 own (.loop c) e hs Q := by
  intro a w hr hs
  refine wp_loop_ghost (fun m a w => ∃ y, inv y ∧ μ y = m ∧ Rep n a (I y) ∧ Sat w0 own (H y) w) (μ x0) ⟨x0, h0, rfl, hr.sub hE, hH w hs⟩ ?_
  rintro m a w ⟨y, hy, rfl, hr, hs⟩
  refine wp_mono (round y hy a w hr hs) ?_
  rintro x a' w' ⟨e', hs', h1, h2, h3⟩
  cases x with
  | normal =>
    obtain ⟨y', i1, i2, i3, i4⟩ := h3
    exact ⟨μ y', i2, y', i1, rfl, h1.sub i3, i4 w' h2⟩
  | _ => exact ⟨e', hs', h1, h2, h3⟩
end
end V
end Go

/- V1: the rules of single operations: values, arithmetic, loads, stores, new blocks. -/
namespace Go
namespace V
open Go.RowKit
set_option linter.unusedVariables false
set_option linter.unusedSimpArgs false

/-! ### Facts on types, found by number -/
class Sc (P : Program) (T : Nat) : Prop where
  out : ∃ d, P.underlying T = some d ∧ (∀ f, d ≠ .struct f) ∧ ∀ k e, d ≠ .array k e
class Ag (P : Program) (T : Nat) (m : outParam Nat) : Prop where
  out : ∃ d i, P.underlying T = some d ∧ ((∃ f, d = .struct f) ∨ ∃ k e, d = .array k e) ∧ P.info? T = some i ∧ i.size = m
class Zr (P : Program) (T : Nat) (z : outParam (List Value)) : Prop where
  out : ∃ i v, P.info? T = some i ∧ i.zero = some v ∧ v.cells = ⟨z⟩
class ZrV (P : Program) (T : Nat) (z : outParam Value) : Prop where
  out : ∃ i, P.info? T = some i ∧ i.zero = some z
class Sz (P : Program) (T : Nat) (m : outParam Nat) : Prop where
  out : ∃ i, P.info? T = some i ∧ i.size = m
class SliceT (P : Program) (T : Nat) (E : outParam Nat) : Prop where
  out : P.underlying T = some (.slice E)
class ArrT (P : Program) (T : Nat) (k : outParam Nat) (E : outParam Nat) : Prop where
  out : P.underlying T = some (.array k E)
class PtrT (P : Program) (T : Nat) (E : outParam Nat) : Prop where
  out : P.underlying T = some (.pointer E)
class FldT (P : Program) (T i : Nat) (off : outParam Nat) : Prop where
  out : ∃ fs f j, P.underlying T = some (.struct fs) ∧ fs[i]? = some f ∧ f.offset = off ∧ P.info? f.type = some j ∧ j.size ≠ 0
class MapT (P : Program) (T : Nat) (k : outParam Nat) (E : outParam Nat) : Prop where
  out : P.underlying T = some (.map k E)
class BoolT (P : Program) (T : Nat) : Prop where
  out : P.underlying T = some .bool
class StrT (P : Program) (T : Nat) : Prop where
  out : P.underlying T = some .string
class IntT (P : Program) (T : Nat) (k : outParam IntKind) : Prop where
  out : P.underlying T = some (.int k)

def scB (P : Program) (T : Nat) : Bool := match P.underlying T with
  | some (.struct _) | some (.array _ _) | none => false
  | _ => true
theorem Sc.of {P : Program} {T : Nat} (h : scB P T = true) : Sc P T := by
  unfold scB at h
  cases hd : P.underlying T with
  | none => rw [hd] at h; cases h
  | some d => refine ⟨d, hd, fun f e => ?_, fun k e' e => ?_⟩ <;> (subst e; rw [hd] at h; cases h)
def agB (P : Program) (T m : Nat) : Bool := (match P.underlying T with
  | some (.struct _) | some (.array _ _) => true
  | _ => false) && (match P.info? T with | some i => Nat.beq i.size m | none => false)
theorem Ag.of {P : Program} {T m : Nat} (h : agB P T m = true) : Ag P T m := by
  unfold agB at h
  rw [Bool.and_eq_true] at h
  obtain ⟨h1, h2⟩ := h
  cases hd : P.underlying T with
  | none => rw [hd] at h1; cases h1
  | some d =>
    cases hi : P.info? T with
    | none => rw [hi] at h2; cases h2
    | some i =>
      rw [hi] at h2
      refine ⟨d, i, hd, ?_, hi, Nat.eq_of_beq_eq_true h2⟩
      rw [hd] at h1
      cases d <;> first | exact .inl ⟨_, rfl⟩ | exact .inr ⟨_, _, rfl⟩ | cases h1
def szB (P : Program) (T m : Nat) : Bool := match P.info? T with | some i => Nat.beq i.size m | none => false
theorem Sz.of {P : Program} {T m : Nat} (h : szB P T m = true) : Sz P T m := by
  unfold szB at h
  cases hi : P.info? T with
  | none => rw [hi] at h; cases h
  | some i => rw [hi] at h; exact ⟨i, hi, Nat.eq_of_beq_eq_true h⟩
def zrO (P : Program) (T : Nat) : Option Value := (P.info? T).bind (·.zero)
theorem ZrV.of {P : Program} {T : Nat} {z : Value} (h : zrO P T = some z) : ZrV P T z := by
  unfold zrO at h
  cases hi : P.info? T with
  | none => rw [hi] at h; cases h
  | some i => rw [hi] at h; exact ⟨i, hi, h⟩
theorem Zr.of {P : Program} {T : Nat} {z : List Value} {v : Value} (h : zrO P T = some v) (hv : v.cells = ⟨z⟩) : Zr P T z := by
  obtain ⟨i, hi, hz⟩ := (ZrV.of h).out
  exact ⟨i, v, hi, hz, hv⟩
def fldB (P : Program) (T i off : Nat) : Bool := match P.underlying T with
  | some (.struct fs) => match fs[i]? with
    | some f => Nat.beq f.offset off && match P.info? f.type with | some j => !Nat.beq j.size 0 | none => false
    | none => false
  | _ => false
theorem FldT.of {P : Program} {T i off : Nat} (h : fldB P T i off = true) : FldT P T i off := by
  unfold fldB at h
  split at h
  · rename_i fs hd
    split at h
    · rename_i f hf
      rw [Bool.and_eq_true] at h
      obtain ⟨h1, h2⟩ := h
      split at h2
      · rename_i j hj
        exact ⟨fs, f, j, hd, hf, Nat.eq_of_beq_eq_true h1, hj, Nat.ne_of_beq_eq_false (by simpa using h2)⟩
      · cases h2
    · cases h
  · cases h

section
variable {P : Program} {n : Nat} {w0 : World} {own : List Nat} {e : Env} {hs : Hp} {ops : Array Oper} {rest : List Oper} {K : Env → Hp → Prop}
variable {d : Nat} {ty : TypeId} {pos : String} {aft : Array Edge}

theorem JL.nil (h : K e hs) : JL P n w0 own ops [] e hs K := fun a w hr hs Q hq => wpList_nil (hq _ _ _ _ hr hs h)
theorem JL.mono {l : List Oper} {K' : Env → Hp → Prop} (h : JL P n w0 own ops l e hs K) (k : ∀ e hs, K e hs → K' e hs) : JL P n w0 own ops l e hs K' :=
  fun a w hr hs Q hq => h a w hr hs Q fun e' hs' a' w' r s kk => hq e' hs' a' w' r s (k _ _ kk)
theorem JC.region {id : Nat} {l : List Oper} {Q : Post} (h : JL P n w0 own l.toArray l e hs (fun e hs => Q .normal e hs)) : JC P n w0 own (.region id l.toArray false) e hs Q :=
  fun a w hr hs => wp_region_lit (h a w hr hs _ fun e' hs' a' w' r s k => ⟨e', hs', r, s, k⟩)

/-- is the operation carried out? (its guard) -/
def wantB (ops : Array Oper) (e : Env) : Option (Nat × Bool) → Option Bool
  | none => some true
  | some (j, want) => match (ops[j]?).bind (·.dst) with
    | some t => match get e t with
      | some (.bool b) => some (b == want)
      | _ => none
    | none => none
theorem wanted_of {a : Act} (hr : Rep n a e) {o : Oper} {b : Bool} (h : wantB ops e o.guard = some b) : Region.wanted o (yielded ops a.tmps) = b := by
  unfold wantB at h
  unfold Region.wanted
  cases hg : o.guard with
  | none => rw [hg] at h; simpa using h
  | some jw =>
    obtain ⟨j, want⟩ := jw
    rw [hg] at h
    simp only at h ⊢
    cases hd : (ops[j]?).bind (·.dst) with
    | none => rw [hd] at h; cases h
    | some t =>
      rw [hd] at h
      simp only at h
      cases ht : get e t with
      | none => rw [ht] at h; cases h
      | some v =>
        rw [ht] at h
        have := hr.at_ t v ht
        cases v with
        | bool b' =>
          simp only [Option.some.injEq] at h
          subst h
          unfold yielded
          rw [hd]
          simp only [Option.bind_some, this]
          cases b' <;> cases want <;> rfl
        | _ => cases h

/-- THE OPERATION LEAVES A VALUE AND NOTHING ELSE. -/
def Val (P : Program) (n : Nat) (w0 : World) (own : List Nat) (e : Env) (hs : Hp) (op : Op) (v : Value) : Prop :=
  ∀ (a : Act) (w : World) (ty : TypeId) (pos : String) (aft : Array Edge) (g : Option (Nat × Bool)) (d : Option Tmp), Rep n a e → Sat w0 own hs w → (execOp a.eval ⟨d, op, ty, pos, aft, g⟩).run P w = .ok (.value v) w
/-- THE OPERATION LEAVES A VALUE, AND A HEAP, OF WHICH 'R' TELLS. -/
def Eff (P : Program) (n : Nat) (w0 : World) (own : List Nat) (e : Env) (hs : Hp) (op : Op) (R : Value → Hp → Prop) : Prop :=
  ∀ (a : Act) (w : World) (ty : TypeId) (pos : String) (aft : Array Edge) (g : Option (Nat × Bool)) (d : Option Tmp) (K : Act → World → Prop) (Q : Exit → Act → World → Prop), Rep n a e → Sat w0 own hs w →
    (∀ v hs' w', R v hs' → Sat w0 own hs' w' → K (a.put d v) w') → (⟨d, op, ty, pos, aft, g⟩ : Oper).wp P a w K Q
theorem Eff.mono {op : Op} {R R' : Value → Hp → Prop} (h : Eff P n w0 own e hs op R) (k : ∀ v hs, R v hs → R' v hs) : Eff P n w0 own e hs op R' :=
  fun a w ty pos aft g d K Q hr s hk => h a w ty pos aft g d K Q hr s fun v hs' w' r s' => hk v hs' w' (k _ _ r) s'
theorem Val.eff {op : Op} {v : Value} (h : Val P n w0 own e hs op v) : Eff P n w0 own e hs op (fun v' hs' => v' = v ∧ hs' = hs) := by
  intro a w ty pos aft g d K Q hr s hk
  simp only [Oper.wp, h a w ty pos aft g d hr s, Oper.upon_value]
  exact hk v hs w ⟨rfl, rfl⟩ s
/-- of a run in one world that one 'Sat' tells -/
theorem Eff.of_run {op : Op} {R : Value → Hp → Prop}
    (h : ∀ a w ty pos aft g d, Rep n a e → Sat w0 own hs w → ∃ v hs' w', (execOp a.eval ⟨d, op, ty, pos, aft, g⟩).run P w = .ok (.value v) w' ∧ R v hs' ∧ Sat w0 own hs' w') : Eff P n w0 own e hs op R := by
  intro a w ty pos aft g d K Q hr s hk
  obtain ⟨v, hs', w', h1, h2, h3⟩ := h a w ty pos aft g d hr s
  simp only [Oper.wp, h1, Oper.upon_value]
  exact hk v hs' w' h2 h3
theorem Eff.of_skip {op : Op} {hs' : Hp}
    (h : ∀ a w ty pos aft g d, Rep n a e → Sat w0 own hs w → ∃ w', (execOp a.eval ⟨d, op, ty, pos, aft, g⟩).run P w = .ok .skip w' ∧ Sat w0 own hs' w') : Eff P n w0 own e hs op (fun v h => v = undef ∧ h = hs') := by
  intro a w ty pos aft g d K Q hr s hk
  obtain ⟨w', h1, h2⟩ := h a w ty pos aft g d hr s
  simp only [Oper.wp, h1, Oper.upon_skip]
  exact hk undef hs' w' ⟨rfl, rfl⟩ h2

theorem JL.ef {g : Option (Nat × Bool)} {op : Op} {R : Value → Hp → Prop} (h : Eff P n w0 own e hs op R)
    (k : ∀ v hs', R v hs' → JL P n w0 own ops rest ((d, v) :: e) hs' K) (hdn : Nat.blt d n = true := by rfl) (hg : wantB ops e g = some true := by rfl) :
    JL P n w0 own ops (⟨some d, op, ty, pos, aft, g⟩ :: rest) e hs K := by
  intro a w hr s Q hq
  unfold wpList
  rw [if_pos (wanted_of hr hg)]
  exact .inl (h a w ty pos aft g (some d) _ _ hr s fun v hs' w' r s' => k v hs' r _ _ (hr.put (Nat.le_of_ble_eq_true hdn) v) s' Q hq)
theorem JL.ef0 {g : Option (Nat × Bool)} {op : Op} {R : Value → Hp → Prop} (h : Eff P n w0 own e hs op R)
    (k : ∀ v hs', R v hs' → JL P n w0 own ops rest e hs' K) (hg : wantB ops e g = some true := by rfl) :
    JL P n w0 own ops (⟨none, op, ty, pos, aft, g⟩ :: rest) e hs K := by
  intro a w hr s Q hq
  unfold wpList
  rw [if_pos (wanted_of hr hg)]
  exact .inl (h a w ty pos aft g none _ _ hr s fun v hs' w' r s' => k v hs' r _ _ (hr.put_none v) s' Q hq)
theorem JL.v {g : Option (Nat × Bool)} {op : Op} {v : Value} (h : Val P n w0 own e hs op v) (k : JL P n w0 own ops rest ((d, v) :: e) hs K) (hdn : Nat.blt d n = true := by rfl) (hg : wantB ops e g = some true := by rfl) :
    JL P n w0 own ops (⟨some d, op, ty, pos, aft, g⟩ :: rest) e hs K :=
  JL.ef h.eff (fun v' hs' ⟨h1, h2⟩ => by subst h1; subst h2; exact k) hdn hg
/-- an operation that is passed over -/
theorem JL.sk {g : Option (Nat × Bool)} {op : Op} (k : JL P n w0 own ops rest ((d, undef) :: e) hs K) (hdn : Nat.blt d n = true := by rfl) (hg : wantB ops e g = some false := by rfl) :
    JL P n w0 own ops (⟨some d, op, ty, pos, aft, g⟩ :: rest) e hs K := by
  intro a w hr s Q hq
  unfold wpList
  rw [if_neg (by rw [wanted_of hr hg]; simp)]
  exact k _ _ (hr.put (Nat.le_of_ble_eq_true hdn) undef) s Q hq
theorem JL.sk0 {g : Option (Nat × Bool)} {op : Op} (k : JL P n w0 own ops rest e hs K) (hg : wantB ops e g = some false := by rfl) :
    JL P n w0 own ops (⟨none, op, ty, pos, aft, g⟩ :: rest) e hs K := by
  intro a w hr s Q hq
  unfold wpList
  rw [if_neg (by rw [wanted_of hr hg]; simp)]
  exact k _ _ (hr.put_none undef) s Q hq
/-- a bool is one of two -/
theorem Rep.same {a : Act} (hr : Rep n a e) {t : Nat} {v : Value} (h : get e t = some v) : Rep n a ((t, v) :: e) :=
  ⟨hr.nd, hr.sz, fun s u hu => by
    simp only [get] at hu
    cases hb : Nat.beq t s with
    | true =>
      rw [hb] at hu
      simp at hu
      have := Nat.eq_of_beq_eq_true hb
      subst this; subst hu
      exact hr.at_ t v h
    | false => rw [hb] at hu; exact hr.at_ s u hu⟩
theorem JL.split {l : List Oper} {t : Nat} {p : Prop} [Decidable p] (ht : get e t = some (.bool (decide p))) (h1 : p → JL P n w0 own ops l ((t, .bool true) :: e) hs K)
    (h0 : ¬ p → JL P n w0 own ops l ((t, .bool false) :: e) hs K) : JL P n w0 own ops l e hs K := by
  by_cases hp : p
  · rw [decide_eq_true hp] at ht
    exact fun a w hr s => h1 hp a w (hr.same ht) s
  · rw [decide_eq_false hp] at ht
    exact fun a w hr s => h0 hp a w (hr.same ht) s
theorem JL.splitB {l : List Oper} {t : Nat} {b : Bool} (ht : get e t = some (.bool b)) (h1 : b = true → JL P n w0 own ops l ((t, .bool true) :: e) hs K)
    (h0 : b = false → JL P n w0 own ops l ((t, .bool false) :: e) hs K) : JL P n w0 own ops l e hs K := by
  cases b
  · exact fun a w hr s => h0 rfl a w (hr.same ht) s
  · exact fun a w hr s => h1 rfl a w (hr.same ht) s

theorem Val.move {x : Operand} {v : Value} (hx : ev e x = some v) :
    Val P n w0 own e hs (.move x) (v) :=
  fun a w ty pos aft g d hr hs => by simp [execOp, hr.eval hx]
theorem Val.assign {x : Operand} {v : Value} (hx : ev e x = some v) :
    Val P n w0 own e hs (.assign x) (v) :=
  fun a w ty pos aft g d hr hs => by simp [execOp, hr.eval hx]
theorem Val.pick {c x y : Operand} {b : Bool} {u v : Value} (hc : ev e c = some (.bool b)) (hx : ev e x = some u) (hy : ev e y = some v) :
    Val P n w0 own e hs (.pick c x y) (if b then u else v) :=
  fun a w ty pos aft g d hr hs => by simp [execOp, hr.eval hc, hr.eval hx, hr.eval hy, asBool]

/-! integers -/
theorem Val.add {T U : Nat} {x y : Operand} {q : IntKind} {i j : Int} (hx : ev e x = some (.int q i)) (hy : ev e y = some (.int q j)) :
    Val P n w0 own e hs (.binOp .add T x y U) (.int q (q.wrap (i + j))) :=
  fun a w ty pos aft g d hr hs => by simp [execOp, hr.eval hx, hr.eval hy, eqGuard, binOp, Op.intArith]
theorem Val.sub_ {T U : Nat} {x y : Operand} {q : IntKind} {i j : Int} (hx : ev e x = some (.int q i)) (hy : ev e y = some (.int q j)) :
    Val P n w0 own e hs (.binOp .sub T x y U) (.int q (q.wrap (i - j))) :=
  fun a w ty pos aft g d hr hs => by simp [execOp, hr.eval hx, hr.eval hy, eqGuard, binOp, Op.intArith]
theorem Val.mul {T U : Nat} {x y : Operand} {q : IntKind} {i j : Int} (hx : ev e x = some (.int q i)) (hy : ev e y = some (.int q j)) :
    Val P n w0 own e hs (.binOp .mul T x y U) (.int q (q.wrap (i * j))) :=
  fun a w ty pos aft g d hr hs => by simp [execOp, hr.eval hx, hr.eval hy, eqGuard, binOp, Op.intArith]
theorem wrap_i64 {z : Int} (h : -9223372036854775808 ≤ z ∧ z ≤ 9223372036854775807) : IntKind.i64.wrap z = z := IntWalk.i64_in z h
theorem Val.addi {T U : Nat} {x y : Operand} {i j : Int} (hx : ev e x = some (.int .i64 i)) (hy : ev e y = some (.int .i64 j))
    (hb : -9223372036854775808 ≤ i + j ∧ i + j ≤ 9223372036854775807) :
    Val P n w0 own e hs (.binOp .add T x y U) (.int .i64 (i + j)) := by
  have h := Val.add (P := P) (n := n) (w0 := w0) (own := own) (hs := hs) (T := T) (U := U) hx hy
  rw [wrap_i64 hb] at h; exact h
theorem Val.subi {T U : Nat} {x y : Operand} {i j : Int} (hx : ev e x = some (.int .i64 i)) (hy : ev e y = some (.int .i64 j))
    (hb : -9223372036854775808 ≤ i - j ∧ i - j ≤ 9223372036854775807) :
    Val P n w0 own e hs (.binOp .sub T x y U) (.int .i64 (i - j)) := by
  have h := Val.sub_ (P := P) (n := n) (w0 := w0) (own := own) (hs := hs) (T := T) (U := U) hx hy
  rw [wrap_i64 hb] at h; exact h
theorem Val.muli {T U : Nat} {x y : Operand} {i j : Int} (hx : ev e x = some (.int .i64 i)) (hy : ev e y = some (.int .i64 j))
    (hb : -9223372036854775808 ≤ i * j ∧ i * j ≤ 9223372036854775807) :
    Val P n w0 own e hs (.binOp .mul T x y U) (.int .i64 (i * j)) := by
  have h := Val.mul (P := P) (n := n) (w0 := w0) (own := own) (hs := hs) (T := T) (U := U) hx hy
  rw [wrap_i64 hb] at h; exact h
theorem Val.quo {T U : Nat} {x y : Operand} {q : IntKind} {i j : Int} (hx : ev e x = some (.int q i)) (hy : ev e y = some (.int q j)) (h0 : j ≠ 0) :
    Val P n w0 own e hs (.binOp .quo T x y U) (.int q (q.wrap (i.tdiv j))) :=
  fun a w ty pos aft g d hr hs => by simp [execOp, hr.eval hx, hr.eval hy, eqGuard, binOp, Op.intDiv, h0]
theorem Val.rem {T U : Nat} {x y : Operand} {q : IntKind} {i j : Int} (hx : ev e x = some (.int q i)) (hy : ev e y = some (.int q j)) (h0 : j ≠ 0) :
    Val P n w0 own e hs (.binOp .rem T x y U) (.int q (i.tmod j)) :=
  fun a w ty pos aft g d hr hs => by simp [execOp, hr.eval hx, hr.eval hy, eqGuard, binOp, Op.intDiv, h0]
/-- whatever the bits operation -/
def bop (op : BinOp) (q : IntKind) (i j : Int) : Int :=
  match op with
  | .and => q.wrap (BitVec.ofInt q.bits i &&& BitVec.ofInt q.bits j).toNat
  | .or => q.wrap (BitVec.ofInt q.bits i ||| BitVec.ofInt q.bits j).toNat
  | .xor => q.wrap (BitVec.ofInt q.bits i ^^^ BitVec.ofInt q.bits j).toNat
  | _ => q.wrap (BitVec.ofInt q.bits i &&& ~~~ BitVec.ofInt q.bits j).toNat
theorem Val.and {T U : Nat} {x y : Operand} {q : IntKind} {i j : Int} (hx : ev e x = some (.int q i)) (hy : ev e y = some (.int q j)) :
    Val P n w0 own e hs (.binOp .and T x y U) (.int q (bop .and q i j)) :=
  fun a w ty pos aft g d hr hs => by simp [execOp, hr.eval hx, hr.eval hy, eqGuard, binOp, Op.intBits, bop]
theorem Val.or {T U : Nat} {x y : Operand} {q : IntKind} {i j : Int} (hx : ev e x = some (.int q i)) (hy : ev e y = some (.int q j)) :
    Val P n w0 own e hs (.binOp .or T x y U) (.int q (bop .or q i j)) :=
  fun a w ty pos aft g d hr hs => by simp [execOp, hr.eval hx, hr.eval hy, eqGuard, binOp, Op.intBits, bop]
theorem Val.xor {T U : Nat} {x y : Operand} {q : IntKind} {i j : Int} (hx : ev e x = some (.int q i)) (hy : ev e y = some (.int q j)) :
    Val P n w0 own e hs (.binOp .xor T x y U) (.int q (bop .xor q i j)) :=
  fun a w ty pos aft g d hr hs => by simp [execOp, hr.eval hx, hr.eval hy, eqGuard, binOp, Op.intBits, bop]
theorem Val.not_bits {T : Nat} {x : Operand} {q : IntKind} {i : Int} (hx : ev e x = some (.int q i)) :
    Val P n w0 own e hs (.unOp .xor T x) (.int q (bop .xor q (if q.signed then -1 else q.max) i)) :=
  fun a w ty pos aft g d hr hs => by simp [execOp, hr.eval hx, Op.unary, Op.intBits, bop]
theorem Val.neg {T : Nat} {x : Operand} {q : IntKind} {i : Int} (hx : ev e x = some (.int q i)) :
    Val P n w0 own e hs (.unOp .neg T x) (.int q (q.wrap (0 - i))) :=
  fun a w ty pos aft g d hr hs => by simp [execOp, hr.eval hx, Op.unary, Op.intArith]
theorem Val.not {T : Nat} {x : Operand} {b : Bool} (hx : ev e x = some (.bool b)) :
    Val P n w0 own e hs (.unOp .not T x) (.bool (!b)) :=
  fun a w ty pos aft g d hr hs => by simp [execOp, hr.eval hx, Op.unary]
theorem Val.shr {T U : Nat} {x y : Operand} {q r : IntKind} {i j : Int} (hx : ev e x = some (.int q i)) (hy : ev e y = some (.int r j)) (h0 : 0 ≤ j) :
    Val P n w0 own e hs (.binOp .shr T x y U) (.int q (i.fdiv (2 ^ min j.toNat q.bits))) :=
  fun a w ty pos aft g d hr hs => by simp [execOp, hr.eval hx, hr.eval hy, eqGuard, binOp, Op.shift, Int.not_lt.2 h0]
theorem Val.shl {T U : Nat} {x y : Operand} {q r : IntKind} {i j : Int} (hx : ev e x = some (.int q i)) (hy : ev e y = some (.int r j)) (h0 : 0 ≤ j) :
    Val P n w0 own e hs (.binOp .shl T x y U) (.int q (q.wrap (i * 2 ^ min j.toNat q.bits))) :=
  fun a w ty pos aft g d hr hs => by simp [execOp, hr.eval hx, hr.eval hy, eqGuard, binOp, Op.shift, Int.not_lt.2 h0]
theorem Val.lss {T U : Nat} {x y : Operand} {q : IntKind} {i j : Int} (hx : ev e x = some (.int q i)) (hy : ev e y = some (.int q j)) :
    Val P n w0 own e hs (.binOp .lss T x y U) (.bool (decide (i < j))) :=
  fun a w ty pos aft g d hr hs => by simp [execOp, hr.eval hx, hr.eval hy, eqGuard, binOp, Op.intCmp]
theorem Val.leq {T U : Nat} {x y : Operand} {q : IntKind} {i j : Int} (hx : ev e x = some (.int q i)) (hy : ev e y = some (.int q j)) :
    Val P n w0 own e hs (.binOp .leq T x y U) (.bool (decide (i ≤ j))) :=
  fun a w ty pos aft g d hr hs => by simp [execOp, hr.eval hx, hr.eval hy, eqGuard, binOp, Op.intCmp]
theorem Val.gtr {T U : Nat} {x y : Operand} {q : IntKind} {i j : Int} (hx : ev e x = some (.int q i)) (hy : ev e y = some (.int q j)) :
    Val P n w0 own e hs (.binOp .gtr T x y U) (.bool (decide (j < i))) :=
  fun a w ty pos aft g d hr hs => by simp [execOp, hr.eval hx, hr.eval hy, eqGuard, binOp, Op.intCmp]
theorem Val.geq {T U : Nat} {x y : Operand} {q : IntKind} {i j : Int} (hx : ev e x = some (.int q i)) (hy : ev e y = some (.int q j)) :
    Val P n w0 own e hs (.binOp .geq T x y U) (.bool (decide (j ≤ i))) :=
  fun a w ty pos aft g d hr hs => by simp [execOp, hr.eval hx, hr.eval hy, eqGuard, binOp, Op.intCmp]
theorem beq_dec (i j : Int) : (i == j) = decide (i = j) := by
  by_cases h : i = j <;> simp [h]
theorem Val.eqi {T U : Nat} {x y : Operand} {q : IntKind} {i j : Int} (hx : ev e x = some (.int q i)) (hy : ev e y = some (.int q j)) :
    Val P n w0 own e hs (.binOp .eql T x y U) (.bool (decide (i = j))) :=
  fun a w ty pos aft g d hr hs => by simp [execOp, hr.eval hx, hr.eval hy, eqGuard, binOp, Op.intCmp, beq_dec]
theorem Val.nei {T U : Nat} {x y : Operand} {q : IntKind} {i j : Int} (hx : ev e x = some (.int q i)) (hy : ev e y = some (.int q j)) :
    Val P n w0 own e hs (.binOp .neq T x y U) (.bool (decide (i ≠ j))) :=
  fun a w ty pos aft g d hr hs => by simp [execOp, hr.eval hx, hr.eval hy, eqGuard, binOp, Op.intCmp, bne, beq_dec]
theorem Val.conv {T U : Nat} {x : Operand} {q r : IntKind} {i : Int} (hx : ev e x = some (.int q i)) [hT : IntT P T q] [hU : IntT P U r] :
    Val P n w0 own e hs (.convert T U x) (.int r (r.wrap i)) :=
  fun a w ty pos aft g d hr hs => by
    have h1 := hT.out; have h2 := hU.out
    simp only [execOp, hr.eval hx, convert]; simp [h1, h2, run_underlying, Conv.intToInt]
end
end V
end Go

/- V2: the rules of memory: loads, stores, new blocks, addresses. -/
namespace Go
namespace V
open Go.RowKit
set_option linter.unusedVariables false
set_option linter.unusedSimpArgs false

theorem Sat.row {w0 w : World} {own : List Nat} {hs : Hp} (h : Sat w0 own hs w) {b T : Nat} {l : List Value} (hb : (b, .cells l T) ∈ hs) : w.heap[b]? = some (.cells ⟨l⟩ T (0, 0)) := h.has b _ hb
theorem Sat.cell {w0 w : World} {own : List Nat} {hs : Hp} (h : Sat w0 own hs w) {b T : Nat} {l : List Value} (hb : (b, .cells l T) ∈ hs) (o : Nat) : w.cell? ⟨b, o, none⟩ = l[o]? := by
  simp [World.cell?, h.row hb]
theorem Sat.cell_old {w0 w : World} {own : List Nat} {hs : Hp} (h : Sat w0 own hs w) {a : Addr} {v : Value} (hv : w0.cell? a = some v) (hn : a.block ∉ own) : w.cell? a = some v := by
  rw [← hv]
  have hlt : a.block < w0.heap.size := by
    unfold World.cell? at hv
    split at hv
    · rename_i c T f hc; exact (Array.getElem?_eq_some_iff.1 hc).1
    · cases hv
  simp only [World.cell?, h.old _ hlt hn]

/-! ### finding a block, by instances -/
class Mem (b : Nat) (c : outParam Ch) (hs : Hp) : Prop where
  out : (b, c) ∈ hs
instance (priority := high) Mem.head {b : Nat} {c : Ch} {hs : Hp} : Mem b c ((b, c) :: hs) := ⟨List.mem_cons_self⟩
instance Mem.tail {b : Nat} {c : Ch} {p : Nat × Ch} {hs : Hp} [h : Mem b c hs] : Mem b c (p :: hs) := ⟨List.mem_cons_of_mem _ h.out⟩
class UpdI (b : Nat) (c : Ch) (hs : Hp) (hs' : outParam Hp) : Prop where
  out : Upd b c hs hs'
instance (priority := high) UpdI.head {b : Nat} {c c0 : Ch} {hs : Hp} : UpdI b c ((b, c0) :: hs) ((b, c) :: hs) := ⟨.head⟩
instance UpdI.tail {b : Nat} {c : Ch} {p : Nat × Ch} {hs hs' : Hp} [h : UpdI b c hs hs'] : UpdI b c (p :: hs) (p :: hs') := ⟨.tail h.out⟩
instance Mem.app_cons {b : Nat} {c : Ch} {p : Nat × Ch} {h fr : Hp} [k : Mem b c (p :: (h ++ fr))] : Mem b c ((p :: h) ++ fr) := ⟨k.out⟩
instance Mem.app_nil {b : Nat} {c : Ch} {fr : Hp} [k : Mem b c fr] : Mem b c ([] ++ fr) := ⟨k.out⟩
instance UpdI.app_cons {b : Nat} {c : Ch} {p : Nat × Ch} {h fr hs' : Hp} [k : UpdI b c (p :: (h ++ fr)) hs'] : UpdI b c ((p :: h) ++ fr) hs' := ⟨k.out⟩
instance UpdI.app_nil {b : Nat} {c : Ch} {fr hs' : Hp} [k : UpdI b c fr hs'] : UpdI b c ([] ++ fr) hs' := ⟨k.out⟩
class SetL (l : List Value) (o : Nat) (v : Value) (l' : outParam (List Value)) : Prop where
  out : o < l.length ∧ l.set o v = l'
instance (priority := high) SetL.head {u v : Value} {l : List Value} : SetL (u :: l) 0 v (v :: l) := ⟨by simp, rfl⟩
instance SetL.tail {u v : Value} {o : Nat} {l l' : List Value} [h : SetL l o v l'] : SetL (u :: l) (o + 1) v (u :: l') := ⟨by have := h.out.1; simp; omega, by have := h.out.2; simp [this]⟩

/-! ### what a load gives -/
/-- the cells at an address, as they stand in every such world -/
def At (w0 : World) (own : List Nat) (hs : Hp) (a : Addr) (vs : List Value) : Prop := ∀ w, Sat w0 own hs w → ∀ j v, vs[j]? = some v → w.cell? (a.add j) = some v
theorem add_none (b o j : Nat) : (⟨b, o, none⟩ : Addr).add j = ⟨b, o + j, none⟩ := by unfold Addr.add; split <;> simp_all
theorem At.chunk {w0 : World} {own : List Nat} {hs : Hp} {b o T : Nat} {l vs : List Value} [hb : Mem b (.cells l T) hs] (h : ∀ j v, vs[j]? = some v → l[o + j]? = some v) : At w0 own hs ⟨b, o, none⟩ vs :=
  fun w s j v hv => by rw [add_none, s.cell hb.out]; exact h j v hv
theorem At.one {w0 : World} {own : List Nat} {hs : Hp} {b o T : Nat} {l : List Value} {v : Value} [hb : Mem b (.cells l T) hs] (h : l[o]? = some v) : At w0 own hs ⟨b, o, none⟩ [v] :=
  At.chunk fun j u hu => by
    match j, hu with
    | 0, hu => simp at hu; subst hu; simpa using h
theorem At.whole {w0 : World} {own : List Nat} {hs : Hp} {b T : Nat} {l : List Value} [hb : Mem b (.cells l T) hs] : At w0 own hs ⟨b, 0, none⟩ l :=
  At.chunk fun j u hu => by simpa using hu
theorem At.old {w0 : World} {own : List Nat} {hs : Hp} {a : Addr} {vs : List Value} (h : ∀ j v, vs[j]? = some v → w0.cell? (a.add j) = some v) (hn : a.block ∉ own) : At w0 own hs a vs :=
  fun w s j v hv => s.cell_old (h j v hv) (by unfold Addr.add; split <;> exact hn)

theorem At.old1 {w0 : World} {own : List Nat} {hs : Hp} {b o : Nat} {v : Value} (h : w0.cell? ⟨b, o, none⟩ = some v) (hn : b ∉ own) : At w0 own hs ⟨b, o, none⟩ [v] :=
  At.old (fun j u hj => by
    match j, hj with
    | 0, hj => simp at hj; subst hj; simpa [add_none] using h) hn

section
variable {P : Program} {n : Nat} {w0 : World} {own : List Nat} {e : Env} {hs : Hp} {ops : Array Oper} {rest : List Oper} {K : Env → Hp → Prop}
variable {d : Nat} {ty : TypeId} {pos : String} {aft : Array Edge}

theorem run_isAgg_sc {T : Nat} (h : Sc P T) (w : World) : (isAgg T).run P w = .ok false w := by
  obtain ⟨dd, hd, h1, h2⟩ := h.out
  unfold isAgg
  rw [Sem.run_bind, run_underlying hd w]
  cases dd <;> simp_all
theorem run_isAgg_ag {T m : Nat} (h : Ag P T m) (w : World) : (isAgg T).run P w = .ok true w := by
  obtain ⟨dd, i, hd, h1, _⟩ := h.out
  unfold isAgg
  rw [Sem.run_bind, run_underlying hd w]
  rcases h1 with ⟨f, rfl⟩ | ⟨k, e, rfl⟩ <;> simp
theorem run_loadVar_sc {T : Nat} (h : Sc P T) {w : World} {a : Addr} {v : Value} (hc : w.cell? a = some v) : (loadVar T a).run P w = .ok v w := by
  simp [loadVar, Sem.run_bind, run_isAgg_sc h, hc]
theorem run_loadVar_ag {T m : Nat} (h : Ag P T m) {w : World} {a : Addr} {vs : List Value} (hl : vs.length = m) (hc : ∀ j v, vs[j]? = some v → w.cell? (a.add j) = some v) :
    (loadVar T a).run P w = .ok (.agg vs.toArray) w := by
  have h1 := run_loadCells_list (P := P) w a vs hc
  obtain ⟨dd, i, hd, _, hi, hs⟩ := h.out
  rw [hl] at h1
  simp [loadVar, Sem.run_bind, run_isAgg_ag h, sizeOf, typeInfo, hi, hs, h1]

theorem Val.load {T : Nat} {x : Operand} {a : Addr} {v : Value} (hx : ev e x = some (.pointer (some a))) [hT : Sc P T] (hc : At w0 own hs a [v]) :
    Val P n w0 own e hs (.load T x) (v) :=
  fun b w ty pos aft g d hr s => by
    have h1 : w.cell? a = some v := by have := hc w s 0 v (by simp); simpa [Addr.add] using this
    simp [execOp, hr.eval hx, Instr.loadAt, Instr.sureAddr, run_loadVar_sc hT h1]
theorem Val.loadA {T m : Nat} {x : Operand} {a : Addr} {vs : List Value} (hx : ev e x = some (.pointer (some a))) [hT : Ag P T m] (hc : At w0 own hs a vs) (hl : vs.length = m) :
    Val P n w0 own e hs (.load T x) (.agg ⟨vs⟩) :=
  fun b w ty pos aft g d hr s => by
    simp [execOp, hr.eval hx, Instr.loadAt, Instr.sureAddr, run_loadVar_ag hT hl (hc w s)]

/-! ### stores -/
def ones (vs : List Value) : Bool := vs.all Value.oneCell'
theorem ones_mem {vs : List Value} (h : ones vs = true) : ∀ v ∈ vs, v.oneCell' = true := by simpa [ones] using h
/-- 'l' with 'vs' from place 'o' on -/
def splice (l : List Value) (o : Nat) (vs : List Value) : List Value := l.take o ++ vs ++ l.drop (o + vs.length)
theorem splice_one (l : List Value) (o : Nat) (v : Value) (h : o < l.length) : splice l o [v] = l.set o v := by
  simp [splice, List.set_eq_take_append_cons_drop, h]
theorem splice_whole (l vs : List Value) (h : vs.length = l.length) : splice l 0 vs = vs := by
  simp [splice, h]
theorem splice_length (l : List Value) (o : Nat) (vs : List Value) (h : o + vs.length ≤ l.length) : (splice l o vs).length = l.length := by
  simp [splice]; omega
theorem Sat.splice {w0 w : World} {hs' : Hp} (h : Sat w0 own hs w) {b T o : Nat} {l vs : List Value} (u : Upd b (.cells (splice l o vs) T) hs hs') (hb : (b, .cells l T) ∈ hs) (hl : o + vs.length ≤ l.length) (h1 : ones vs = true) :
    ∃ w', (storeCells ⟨b, o, none⟩ vs).run P w = .ok () w' ∧ Sat w0 own hs' w' := by
  have hrow := h.row hb
  refine ⟨_, run_storeCells_at P b o T vs 0 ⟨l⟩ w hrow (by simpa using hl) (ones_mem h1), ?_⟩
  have hlt : b < w.heap.size := (Array.getElem?_eq_some_iff.1 hrow).1
  refine h.upd u ?_ ?_ ?_ rfl rfl rfl
  · simp [World.setRow]
  · intro i hi
    simp [World.setRow, Array.getElem?_modify, Ne.symm hi]
  · simp [World.setRow, Array.getElem?_modify, hrow, Ch.toObj, V.splice]

theorem run_storeVar_sz {T m : Nat} (h : Sz P T m) {w w' : World} {a : Addr} {v : Value} (hv : v.cells.size = m) (hs : (storeCells a v.cells.toList).run P w = .ok () w') : (storeVar T a v).run P w = .ok () w' := by
  obtain ⟨i, hi, hsz⟩ := h.out
  simp [storeVar, Sem.run_bind, sizeOf, typeInfo, hi, hsz, hv, hs]
/-- a store of one cell -/
theorem Eff.store {T b o U : Nat} {x y : Operand} {v : Value} {l : List Value} {hs' : Hp} (hx : ev e x = some (.pointer (some ⟨b, o, none⟩))) (hy : ev e y = some v) [hT : Sz P T 1] [hb : Mem b (.cells l U) hs]
    (h1 : v.oneCell' = true) (ho : o < l.length) [u : UpdI b (.cells (l.set o v) U) hs hs'] : Eff P n w0 own e hs (.store T x y) (fun v h => v = undef ∧ h = hs') :=
  Eff.of_skip fun a w ty pos aft g d hr s => by
    have hcs : v.cells = #[v] := by cases v <;> first | rfl | (simp [Value.oneCell'] at h1)
    have u := u.out
    rw [← splice_one l o v ho] at u
    obtain ⟨w', r1, r2⟩ := s.splice (P := P) u hb.out (by simp; omega) (by simpa [ones] using h1)
    refine ⟨w', ?_, r2⟩
    simp [execOp, hr.eval hx, hr.eval hy, Instr.storeAt, Instr.sureAddr, run_storeVar_sz hT (w := w) (w' := w') (a := ⟨b, o, none⟩) (v := v) (by simp [hcs]) (by simpa [hcs] using r1)]
/-- .. into a block that is written out -/
theorem Eff.storeL {T b o U : Nat} {x y : Operand} {v : Value} {l l' : List Value} {hs' : Hp} (hx : ev e x = some (.pointer (some ⟨b, o, none⟩))) (hy : ev e y = some v) [hT : Sz P T 1] [hb : Mem b (.cells l U) hs]
    (h1 : v.oneCell' = true) [ho : SetL l o v l'] [u : UpdI b (.cells l' U) hs hs'] : Eff P n w0 own e hs (.store T x y) (fun v h => v = undef ∧ h = hs') := by
  obtain ⟨h2, h3⟩ := ho.out
  subst h3
  exact Eff.store hx hy h1 h2
/-- a store of a struct or an array -/
theorem Eff.storeA {T m b o U : Nat} {x y : Operand} {vs l : List Value} {hs' : Hp} (hx : ev e x = some (.pointer (some ⟨b, o, none⟩))) (hy : ev e y = some (.agg ⟨vs⟩)) [hT : Sz P T m] (hm : vs.length = m) [hb : Mem b (.cells l U) hs]
    (h1 : ones vs = true) (ho : o + vs.length ≤ l.length) [u : UpdI b (.cells (splice l o vs) U) hs hs'] : Eff P n w0 own e hs (.store T x y) (fun v h => v = undef ∧ h = hs') :=
  Eff.of_skip fun a w ty pos aft g d hr s => by
    obtain ⟨w', r1, r2⟩ := s.splice (P := P) u.out hb.out ho h1
    refine ⟨w', ?_, r2⟩
    simp [execOp, hr.eval hx, hr.eval hy, Instr.storeAt, Instr.sureAddr, run_storeVar_sz hT (w := w) (w' := w') (a := ⟨b, o, none⟩) (v := .agg ⟨vs⟩) (by simpa [Value.cells] using hm) (by simpa [Value.cells] using r1)]
/-- .. of a whole block -/
theorem Eff.storeW {T m b U : Nat} {x y : Operand} {vs l : List Value} {hs' : Hp} (hx : ev e x = some (.pointer (some ⟨b, 0, none⟩))) (hy : ev e y = some (.agg ⟨vs⟩)) [hT : Sz P T m] (hm : vs.length = m) [hb : Mem b (.cells l U) hs]
    (h1 : ones vs = true) (ho : l.length = m) [u : UpdI b (.cells vs U) hs hs'] : Eff P n w0 own e hs (.store T x y) (fun v h => v = undef ∧ h = hs') :=
  Eff.storeA (u := ⟨by rw [splice_whole l vs (by omega)]; exact u.out⟩) hx hy hm h1 (by omega)
/-- a store, then the rest -/
theorem JL.st {g : Option (Nat × Bool)} {op : Op} {hs' : Hp} (h : Eff P n w0 own e hs op (fun v h => v = undef ∧ h = hs')) (k : JL P n w0 own ops rest e hs' K) (hg : wantB ops e g = some true := by rfl) :
    JL P n w0 own ops (⟨none, op, ty, pos, aft, g⟩ :: rest) e hs K :=
  JL.ef0 h (fun v hs' ⟨_, h2⟩ => by subst h2; exact k) hg

/-! ### new blocks -/
def NewP (hs : Hp) (c : Ch) (v : Value) (h : Hp) : Prop := ∃ b, v = .pointer (some ⟨b, 0, none⟩) ∧ h = (b, c) :: hs
theorem Eff.alloc {T : Nat} {z : List Value} [hT : Zr P T z] : Eff P n w0 own e hs (.alloc T) (NewP hs (.cells z T)) :=
  Eff.of_run fun a w ty pos aft g d hr s => by
    obtain ⟨i, v, hi, hz, hv⟩ := hT.out
    refine ⟨.pointer (some ⟨w.heap.size, 0, none⟩), _, w.alloc (Ch.cells z T).toObj, ?_, ⟨w.heap.size, rfl, rfl⟩, s.new _⟩
    simp [execOp, Instr.alloc, zeroValue, typeInfo, hi, hz, newVar, newRow, hv, Ch.toObj]
theorem Eff.box {T : Nat} {x : Operand} {v : Value} {l : List Value} (hx : ev e x = some v) (hv : v.cells = ⟨l⟩) : Eff P n w0 own e hs (.box T x) (NewP hs (.cells l T)) :=
  Eff.of_run fun a w ty pos aft g d hr s => by
    refine ⟨.pointer (some ⟨w.heap.size, 0, none⟩), _, w.alloc (Ch.cells l T).toObj, ?_, ⟨w.heap.size, rfl, rfl⟩, s.new _⟩
    simp [execOp, hr.eval hx, Instr.box, newVar, newRow, hv, Ch.toObj]
/-- a new block, then the rest -/
theorem JL.nw {g : Option (Nat × Bool)} {op : Op} {c : Ch} (h : Eff P n w0 own e hs op (NewP hs c)) (k : ∀ b, JL P n w0 own ops rest ((d, .pointer (some ⟨b, 0, none⟩)) :: e) ((b, c) :: hs) K)
    (hdn : Nat.blt d n = true := by rfl) (hg : wantB ops e g = some true := by rfl) : JL P n w0 own ops (⟨some d, op, ty, pos, aft, g⟩ :: rest) e hs K :=
  JL.ef h (fun v hs' ⟨b, h1, h2⟩ => by subst h1; subst h2; exact k b) hdn hg

/-! ### addresses -/
theorem Val.fieldAddr {T i off b o : Nat} {x : Operand} (hx : ev e x = some (.pointer (some ⟨b, o, none⟩))) [hT : FldT P T i off] :
    Val P n w0 own e hs (.fieldAddr T x i) (.pointer (some ⟨b, o + off, none⟩)) :=
  fun a w ty pos aft g d hr s => by
    obtain ⟨fs, f, j, hu, hf, ho, hj, hz⟩ := hT.out
    simp [execOp, hr.eval hx, Instr.fieldAt, Instr.sureAddr, run_underlying hu, hf, fieldPlace, sizeOf, typeInfo, hj, hz, ho, add_none]
theorem Val.indexAddr {T E m b o len cap : Nat} {x y : Operand} {i : Int} {q : IntKind} (hx : ev e x = some (.slice (some ⟨b, o, none⟩) len cap)) (hy : ev e y = some (.int q i)) [hT : SliceT P T E] [hE : Sz P E m]
    (h0 : 0 ≤ i) (h1 : i < len) :
    Val P n w0 own e hs (.indexAddr T x y) (.pointer (some ⟨b, o + i.toNat * m, none⟩)) :=
  fun a w ty pos aft g d hr s => by
    obtain ⟨j, hj, hz⟩ := hE.out
    have hu := hT.out
    simp [execOp, hr.eval hx, hr.eval hy, Instr.indexAt, asIntOf, run_underlying hu, sizeOf, typeInfo, hj, hz, h0, h1, add_none]
theorem Val.indexAddr1 {T E b o len cap : Nat} {x y : Operand} {i : Int} {q : IntKind} (hx : ev e x = some (.slice (some ⟨b, o, none⟩) len cap)) (hy : ev e y = some (.int q i)) [hT : SliceT P T E] [hE : Sz P E 1]
    (h0 : 0 ≤ i) (h1 : i < len) : Val P n w0 own e hs (.indexAddr T x y) (.pointer (some ⟨b, o + i.toNat, none⟩)) := by
  have h := Val.indexAddr (P := P) (n := n) (w0 := w0) (own := own) (hs := hs) (T := T) hx hy h0 h1
  rw [Nat.mul_one] at h; exact h
theorem Val.indexAddrA {T N E m b o : Nat} {x y : Operand} {i : Int} {q : IntKind} (hx : ev e x = some (.pointer (some ⟨b, o, none⟩))) (hy : ev e y = some (.int q i)) [hT : ArrT P T N E] [hE : Sz P E m]
    (h0 : 0 ≤ i) (h1 : i < N) :
    Val P n w0 own e hs (.indexAddr T x y) (.pointer (some ⟨b, o + i.toNat * m, none⟩)) :=
  fun a w ty pos aft g d hr s => by
    obtain ⟨j, hj, hz⟩ := hE.out
    have hu := hT.out
    simp [execOp, hr.eval hx, hr.eval hy, Instr.indexAt, Instr.sureAddr, asIntOf, run_underlying hu, sizeOf, typeInfo, hj, hz, h0, h1, add_none]
theorem Val.indexAddrA1 {T N E b o : Nat} {x y : Operand} {i : Int} {q : IntKind} (hx : ev e x = some (.pointer (some ⟨b, o, none⟩))) (hy : ev e y = some (.int q i)) [hT : ArrT P T N E] [hE : Sz P E 1]
    (h0 : 0 ≤ i) (h1 : i < N) : Val P n w0 own e hs (.indexAddr T x y) (.pointer (some ⟨b, o + i.toNat, none⟩)) := by
  have h := Val.indexAddrA (P := P) (n := n) (w0 := w0) (own := own) (hs := hs) (T := T) hx hy h0 h1
  rw [Nat.mul_one] at h; exact h
theorem Val.nilCheck {x : Operand} {a : Addr} (hx : ev e x = some (.pointer (some a))) :
    Val P n w0 own e hs (.nilCheck x) (.pointer (some a)) :=
  fun b w ty pos aft g d hr s => by simp [execOp, hr.eval hx]
theorem Val.nilCheckF {x : Operand} {f : FuncId} {u v : Array Value} (hx : ev e x = some (.func (.func f) u v)) :
    Val P n w0 own e hs (.nilCheck x) (.func (.func f) u v) :=
  fun b w ty pos aft g d hr s => by simp [execOp, hr.eval hx]
theorem Val.len {x : Operand} {T E len cap : Nat} {a : Option Addr} (hx : ev e x = some (.slice a len cap)) [hT : SliceT P T E] :
    Val P n w0 own e hs (.call { callee := .builtin .len, args := #[x], argTypes := #[T] }) (.int .i64 len) :=
  fun b w ty pos aft g d hr s => by
    have hu := hT.out
    simp [execOp, hr.eval hx, resolve, invoke, builtin, Builtin.len_, run_underlying hu, goInt]
theorem Val.extract {x : Operand} {i : Nat} {vs : List Value} {v : Value} (hx : ev e x = some (.tuple ⟨vs⟩)) (hv : vs[i]? = some v) :
    Val P n w0 own e hs (.extract x i) (v) :=
  fun b w ty pos aft g d hr s => by simp [execOp, hr.eval hx, Instr.extract, hv]
end
end V
end Go

/- V3: the rules of calls, returns, slices of slices. -/
namespace Go
namespace V
open Go.RowKit
set_option linter.unusedVariables false
set_option linter.unusedSimpArgs false

/-- a function of the program that is entered when it is called -/
class FnT (P : Program) (g : Nat) : Prop where
  out : ∃ fn, P.funcs[g]? = some fn ∧ (fn.name == "runtime.NumGoroutine") = false ∧ fn.body.isNone = false
def fnB (P : Program) (g : Nat) : Bool := match P.funcs[g]? with
  | some fn => !(fn.name == "runtime.NumGoroutine") && !fn.body.isNone
  | none => false
theorem FnT.of {P : Program} {g : Nat} (h : fnB P g = true) : FnT P g := by
  unfold fnB at h
  split at h
  · rename_i fn hf
    rw [Bool.and_eq_true] at h
    exact ⟨fn, hf, by simpa using h.1, by simpa using h.2⟩
  · cases h

/-- WHAT A CALL DOES: begun in a world that holds 'pre', it returns a value and leaves blocks of which 'R' tells; nothing else that lay there is turned. -/
def Does (P : Program) (g : Nat) (vals : List Value) (pre : Hp) (w : World) (R : Value → Hp → Prop) : Prop :=
  Holds pre w → (bl pre).Nodup → Calls P g ⟨vals⟩ w fun x w' => ∃ v hs', x = .returned v ∧ R v hs' ∧ Sat w (bl pre) hs' w'
theorem Does.mono {P : Program} {g : Nat} {vals : List Value} {pre : Hp} {w : World} {R R' : Value → Hp → Prop} (h : Does P g vals pre w R) (k : ∀ v hs, R v hs → R' v hs) : Does P g vals pre w R' :=
  fun a b => (h a b).mono fun x w' ⟨v, hs', h1, h2, h3⟩ => ⟨v, hs', h1, k _ _ h2, h3⟩

def envFrom : Nat → List Value → Env
  | _, [] => []
  | i, v :: vs => (i, v) :: envFrom (i + 1) vs
theorem get_envFrom : ∀ (vs : List Value) (i t : Nat) (v : Value), get (envFrom i vs) t = some v → ∃ j, t = i + j ∧ vs[j]? = some v
  | [], i, t, v, h => by simp [envFrom, get] at h
  | u :: vs, i, t, v, h => by
    simp only [envFrom, get] at h
    cases hb : Nat.beq i t with
    | true => rw [hb] at h; simp at h; exact ⟨0, by have := Nat.eq_of_beq_eq_true hb; omega, by simp [h]⟩
    | false =>
      rw [hb] at h
      obtain ⟨j, h1, h2⟩ := get_envFrom vs (i + 1) t v h
      exact ⟨j + 1, by omega, by simpa using h2⟩

/-- the values of the results -/
def ResV (P : Program) (w0 : World) (own : List Nat) (e : Env) (hs : Hp) : List ResultVar → List Value → Prop
  | [], [] => True
  | .tmp t :: rs, v :: vs => get e t = some v ∧ ResV P w0 own e hs rs vs
  | .cell t T :: rs, v :: vs => (∃ a, get e t = some (.pointer (some a)) ∧ ((Sc P T ∧ At w0 own hs a [v]) ∨ ∃ m l, Ag P T m ∧ l.length = m ∧ v = .agg ⟨l⟩ ∧ At w0 own hs a l)) ∧ ResV P w0 own e hs rs vs
  | _, _ => False
def tup : List Value → Value
  | [v] => v
  | vs => .tuple ⟨vs⟩
def retQ (P : Program) (w0 : World) (own : List Nat) (rs : List ResultVar) (R : Value → Hp → Prop) : Post
  | .normal, e, hs => ∃ vs, ResV P w0 own e hs rs vs ∧ R (tup vs) hs
  | .ret, e, hs => ∃ vs, ResV P w0 own e hs rs vs ∧ R (tup vs) hs
  | _, _, _ => False

def resOne (tmps : Array Value) : ResultVar → Sem Value
  | .tmp t => pure (tmps.getD t undef)
  | .cell b t => do loadVar t (← asAddr (tmps.getD b undef))
theorem ResV.run {P : Program} {w0 w : World} {own : List Nat} {n : Nat} {a : Act} {e : Env} {hs : Hp} (hr : Rep n a e) (s : Sat w0 own hs w) : ∀ {rs : List ResultVar} {vs : List Value}, ResV P w0 own e hs rs vs →
    (rs.mapM (resOne a.tmps)).run P w = .ok vs w := by
  intro rs
  induction rs with
  | nil =>
    intro vs h
    cases vs with
    | nil => simp
    | cons v vs => exact h.elim
  | cons r rs ih =>
    intro vs h
    cases vs with
    | nil => cases r <;> exact h.elim
    | cons v vs =>
      cases r with
      | tmp t =>
        obtain ⟨h1, h2⟩ := h
        have := hr.at_ t v h1
        simp [resOne, this, ih h2]
      | cell t T =>
        obtain ⟨⟨ad, h1, h3⟩, h2⟩ := h
        have := hr.at_ t _ h1
        rcases h3 with ⟨hT, hc⟩ | ⟨m, l, hT, hl, rfl, hc⟩
        · have h4 : w.cell? ad = some v := by have := hc w s 0 v (by simp); simpa [Addr.add] using this
          simp [resOne, this, asAddr, run_loadVar_sc hT h4, ih h2]
        · simp [resOne, this, asAddr, run_loadVar_ag hT hl (hc w s), ih h2]

theorem retQ.results {P : Program} {w0 w : World} {own : List Nat} {n : Nat} {a : Act} {e : Env} {hs : Hp} {fn : Func} {rs : List ResultVar} {vs : List Value} (hrs : fn.results = ⟨rs⟩)
    (hr : Rep n a e) (s : Sat w0 own hs w) (h : ResV P w0 own e hs rs vs) : (Go.results fn a.tmps).run P w = .ok (tup vs) w := by
  have h1 := ResV.run hr s h
  unfold Go.results
  rw [hrs, Sem.run_bind]
  rw [show (⟨rs⟩ : Array ResultVar) = rs.toArray from rfl, List.mapM_toArray]
  have h2 : ∀ (m : Sem (List Value)), m.run P w = .ok vs w → (List.toArray <$> m).run P w = .ok vs.toArray w := by
    intro m hm
    have : (List.toArray <$> m) = (m >>= fun x => pure x.toArray) := by simp
    rw [this, Sem.run_bind, hm]
    simp
  have h4 : ∀ g : ResultVar → Sem Value, (∀ x, g x = resOne a.tmps x) → (List.toArray <$> rs.mapM g).run P w = .ok vs.toArray w := by
    intro g hg
    rw [show g = resOne a.tmps from funext hg]
    exact h2 _ h1
  rw [h4 _ (by intro x; cases x <;> rfl)]
  match vs with
  | [] => simp [tup]
  | [v] => simp [tup]
  | v :: u :: vs => simp [tup]

section
variable {P : Program} {n : Nat} {w0 : World} {own : List Nat} {e : Env} {hs : Hp} {ops : Array Oper} {rest : List Oper} {K : Env → Hp → Prop}
variable {d : Nat} {ty : TypeId} {pos : String} {aft : Array Edge}

theorem Does.of {g : Nat} {fn : Func} {c : Code} {rs : List ResultVar} {vals : List Value} {pre : Hp} {w : World} {R : Value → Hp → Prop} (hf : P.funcs[g]? = some fn) (hb : fn.body = some c) (hrs : fn.results = ⟨rs⟩)
    (hn : fn.ntmps = n) (hv : Nat.ble vals.length n = true) (h : JC P n w (bl pre) c (envFrom 0 vals) pre (retQ P w (bl pre) rs R)) : Does P g vals pre w R := by
  intro hp hd
  have hv := Nat.le_of_ble_eq_true hv
  refine calls_of_wp hf hb (wp_mono (h _ w ?_ (Sat.begin hp hd)) ?_)
  · refine ⟨rfl, by simp [hn]; omega, fun t v ht => ?_⟩
    obtain ⟨j, h1, h2⟩ := get_envFrom vals 0 t v ht
    have hj := (List.getElem?_eq_some_iff.1 h2).1
    have : t = j := by omega
    subst this
    rw [Array.getElem?_append_left (by simpa using hj)]
    simpa using h2
  · rintro x a w' ⟨e', hs', h1, h2, h3⟩
    cases x with
    | normal =>
      obtain ⟨vs, h4, h5⟩ := h3
      exact ⟨h1.nd, _, retQ.results hrs h1 h2 h4, _, hs', rfl, h5, h2⟩
    | ret =>
      obtain ⟨vs, h4, h5⟩ := h3
      exact ⟨h1.nd, _, retQ.results hrs h1 h2 h4, _, hs', rfl, h5, h2⟩
    | _ => exact h3.elim

/-- a call -/
theorem Eff.call {g : Nat} {f : Operand} {args : List Operand} {at_ : Array TypeId} {cap vals : List Value} {pre fr : Hp} {R : Value → Hp → Prop}
    (hf : ev e f = some (.func (.func g) #[] ⟨cap⟩)) (ha : evs e args = some vals) [hg : FnT P g]
    (hp : hs.Perm (pre ++ fr)) (hc : ∀ w, Sat w0 own hs w → Does P g (vals ++ cap) pre w R) :
    Eff P n w0 own e hs (.call { callee := .value f, args := ⟨args⟩, argTypes := at_ }) (fun v hs' => ∃ h, R v h ∧ hs' = h ++ fr) := by
  intro a w ty pos aft gd d K Q hr s hk
  obtain ⟨fn, h1, h2, h3⟩ := hg.out
  have hrun : (execOp a.eval ⟨d, .call { callee := .value f, args := ⟨args⟩, argTypes := at_ }, ty, pos, aft, gd⟩).run P w = .ok (.enter g ⟨vals ++ cap⟩) w := by
    have hargs : (⟨args⟩ : Array Operand).map a.eval = ⟨vals⟩ := by
      have := hr.evals ha
      simp [this]
    have h2' : ¬ fn.name = "runtime.NumGoroutine" := by simpa using h2
    have h3' : ¬ fn.body = none := by intro hh; rw [hh] at h3; cases h3
    simp [execOp, resolve, hr.eval hf, Deferred.ofValue, hargs, invoke, callFunc, h1, h2', h3']
  simp only [Oper.wp, hrun, Oper.upon_enter]
  have s' := s.perm hp
  have hh := hc w s (fun b c hb => s'.has b c (List.mem_append.2 (.inl hb))) (by have := s'.nd; simp only [bl, List.map_append, List.nodup_append] at this; exact this.1)
  refine Calls.mono hh ?_
  rintro x w' ⟨v, hs', rfl, h4, h5⟩
  exact hk v _ w' ⟨hs', h4, rfl⟩ (s'.call h5)
/-- a call that is lent nothing -/
theorem Eff.call0 {g : Nat} {f : Operand} {args : List Operand} {at_ : Array TypeId} {cap vals : List Value} {R : Value → Hp → Prop}
    (hf : ev e f = some (.func (.func g) #[] ⟨cap⟩)) (ha : evs e args = some vals) [hg : FnT P g]
    (hc : ∀ w, Sat w0 own hs w → Does P g (vals ++ cap) [] w R) :
    Eff P n w0 own e hs (.call { callee := .value f, args := ⟨args⟩, argTypes := at_ }) (fun v hs' => ∃ h, R v h ∧ hs' = h ++ hs) :=
  Eff.call (pre := []) hf ha (List.Perm.refl _) hc
end
end V
end Go

/- V4: regions that draw their order. -/
namespace Go
namespace V
open Go.RowKit
set_option linter.unusedVariables false
set_option linter.unusedSimpArgs false

/-- worlds that hold at least 'F' -/
def Keeps (w0 : World) (own : List Nat) (F : Hp) : World → Prop := fun w => ∃ hs, Sat w0 own hs w ∧ F ⊆ hs
def QN (K : Act → World → Prop) : Exit → Act → World → Prop
  | .normal, a, w => K a w
  | _, _, _ => False

/-- the operations that have not come up, in whatever order they may: all run; 'F' is held all the way -/
def JD (P : Program) (n : Nat) (w0 : World) (own : List Nat) (ops : Array Oper) (F : Hp) (m : Nat) (listed : Array Bool) (e : Env) (hs : Hp) (K : Env → Hp → Prop) : Prop :=
  ∀ a w, Rep n a e → Sat w0 own hs w → F ⊆ hs →
    wpAnyH P .any ops (QN fun a' w' => ∃ e' hs', Rep n a' e' ∧ Sat w0 own hs' w' ∧ K e' hs') (Keeps w0 own F) m listed a w

/-- may number i be taken first? -/
def firstB (ops : Array Oper) (listed : Array Bool) (i : Nat) : Bool :=
  Region.noSelect ops && Region.free .any ops listed i && (Region.ready .any ops listed).contains i
def onlyB (ops : Array Oper) (listed : Array Bool) (i : Nat) : Bool := (Region.ready .any ops listed) == [i]
def doneB (ops : Array Oper) (listed : Array Bool) : Bool := (Region.ready .any ops listed).isEmpty

section
variable {P : Program} {n : Nat} {w0 : World} {own : List Nat} {e : Env} {hs F : Hp} {ops : Array Oper} {K : Env → Hp → Prop} {m : Nat} {listed : Array Bool}
variable {d : Nat} {ty : TypeId} {pos : String} {aft : Array Edge} {g : Option (Nat × Bool)}

theorem JC.draw {id : Nat} {Q : Post} (F : Hp) (hF : F ⊆ hs) (hm : P.follows .mixedOrders = true) (h : JD P n w0 own ops F ops.size (Array.replicate ops.size false) e hs (fun e hs => Q .normal e hs)) :
    JC P n w0 own (.region id ops true) e hs Q := by
  intro a w hr s
  refine wp_mono (wp_region_held (S := Keeps w0 own F) hm (h a { w with drawn := w.drawn + 1 } hr s.drew hF)) ?_
  intro x a' w' hq
  cases x with
  | normal => exact hq
  | _ => exact hq.elim

theorem JD.done (hd : doneB ops listed = true) (h : K e hs) : JD P n w0 own ops F m listed e hs K :=
  fun a w hr s hF => wpAnyH_done (by simpa [doneB] using hd) ⟨e, hs, hr, s, h⟩ m

/-- a value, whichever time: it is taken first -/
theorem JD.v {op : Op} {v : Value} (i : Nat) (hi : ops[i]? = some ⟨some d, op, ty, pos, aft, g⟩) (hf : firstB ops listed i = true)
    (h : ∀ hs', F ⊆ hs' → Val P n w0 own e hs' op v) (k : JD P n w0 own ops F m (listed.setIfInBounds i true) ((d, v) :: e) hs K)
    (hdn : Nat.blt d n = true := by rfl) (hg : wantB ops e g = some true := by rfl) : JD P n w0 own ops F (m + 1) listed e hs K := by
  intro a w hr s hF
  unfold firstB at hf
  rw [Bool.and_eq_true, Bool.and_eq_true] at hf
  exact wpAnyH_take hi hf.1.1 hf.1.2 hf.2 (fun _ _ _ h => h)
    (.inl ⟨wanted_of hr hg, fun w' ⟨hs', s', f'⟩ => h hs' f' a w' _ _ _ _ _ hr s'⟩) ⟨hs, s, hF⟩
    (k _ _ (hr.put (Nat.le_of_ble_eq_true hdn) v) s hF)
/-- an operation that is passed over -/
theorem JD.sk {op : Op} {o : Option Nat} (i : Nat) (hi : ops[i]? = some ⟨some d, op, ty, pos, aft, g⟩) (hf : firstB ops listed i = true)
    (k : JD P n w0 own ops F m (listed.setIfInBounds i true) ((d, undef) :: e) hs K)
    (hdn : Nat.blt d n = true := by rfl) (hg : wantB ops e g = some false := by rfl) : JD P n w0 own ops F (m + 1) listed e hs K := by
  intro a w hr s hF
  unfold firstB at hf
  rw [Bool.and_eq_true, Bool.and_eq_true] at hf
  exact wpAnyH_take hi hf.1.1 hf.1.2 hf.2 (fun _ _ _ h => h)
    (.inr ⟨wanted_of hr hg, rfl⟩) ⟨hs, s, hF⟩
    (k _ _ (hr.put (Nat.le_of_ble_eq_true hdn) undef) s hF)
/-- the one operation that may come up now -/
theorem JD.ef {op : Op} {R : Value → Hp → Prop} (i : Nat) (hi : ops[i]? = some ⟨some d, op, ty, pos, aft, g⟩) (ho : onlyB ops listed i = true)
    (h : Eff P n w0 own e hs op R) (k : ∀ v hs', R v hs' → JD P n w0 own ops F m (listed.setIfInBounds i true) ((d, v) :: e) hs' K) (hF : ∀ v hs', R v hs' → F ⊆ hs → F ⊆ hs')
    (hdn : Nat.blt d n = true := by rfl) (hg : wantB ops e g = some true := by rfl) : JD P n w0 own ops F (m + 1) listed e hs K := by
  intro a w hr s hf
  refine wpAnyH_all (rs := [i]) (by simpa [onlyB] using ho) (by simp) ?_
  intro j hj
  simp only [List.mem_singleton] at hj
  subst hj
  unfold wpOp
  simp only [hi]
  rw [if_pos (wanted_of hr hg)]
  exact .inl (h a w _ _ _ _ _ _ _ hr s fun v hs' w' r s' => ⟨⟨hs', s', hF v hs' r hf⟩, k v hs' r _ _ (hr.put (Nat.le_of_ble_eq_true hdn) v) s' (hF v hs' r hf)⟩)
theorem JD.ef0 {op : Op} {R : Value → Hp → Prop} (i : Nat) (hi : ops[i]? = some ⟨none, op, ty, pos, aft, g⟩) (ho : onlyB ops listed i = true)
    (h : Eff P n w0 own e hs op R) (k : ∀ v hs', R v hs' → JD P n w0 own ops F m (listed.setIfInBounds i true) e hs' K) (hF : ∀ v hs', R v hs' → F ⊆ hs → F ⊆ hs')
    (hg : wantB ops e g = some true := by rfl) : JD P n w0 own ops F (m + 1) listed e hs K := by
  intro a w hr s hf
  refine wpAnyH_all (rs := [i]) (by simpa [onlyB] using ho) (by simp) ?_
  intro j hj
  simp only [List.mem_singleton] at hj
  subst hj
  unfold wpOp
  simp only [hi]
  rw [if_pos (wanted_of hr hg)]
  exact .inl (h a w _ _ _ _ _ _ _ hr s fun v hs' w' r s' => ⟨⟨hs', s', hF v hs' r hf⟩, k v hs' r _ _ (hr.put_none v) s' (hF v hs' r hf)⟩)
theorem JD.split {t : Nat} {p : Prop} [Decidable p] (ht : get e t = some (.bool (decide p))) (h1 : p → JD P n w0 own ops F m listed ((t, .bool true) :: e) hs K)
    (h0 : ¬ p → JD P n w0 own ops F m listed ((t, .bool false) :: e) hs K) : JD P n w0 own ops F m listed e hs K := by
  by_cases hp : p
  · rw [decide_eq_true hp] at ht
    exact fun a w hr s => h1 hp a w (hr.same ht) s
  · rw [decide_eq_false hp] at ht
    exact fun a w hr s => h0 hp a w (hr.same ht) s
theorem JD.splitB {t : Nat} {b : Bool} (ht : get e t = some (.bool b)) (h1 : b = true → JD P n w0 own ops F m listed ((t, .bool true) :: e) hs K)
    (h0 : b = false → JD P n w0 own ops F m listed ((t, .bool false) :: e) hs K) : JD P n w0 own ops F m listed e hs K := by
  cases b
  · exact fun a w hr s => h0 rfl a w (hr.same ht) s
  · exact fun a w hr s => h1 rfl a w (hr.same ht) s
/-- a last store -/
theorem JD.st {op : Op} {hs' : Hp} (i : Nat) (hi : ops[i]? = some ⟨none, op, ty, pos, aft, g⟩) (ho : onlyB ops listed i = true)
    (h : Eff P n w0 own e hs op (fun v h => v = undef ∧ h = hs')) (k : JD P n w0 own ops F m (listed.setIfInBounds i true) e hs' K) (hF : F ⊆ hs → F ⊆ hs')
    (hg : wantB ops e g = some true := by rfl) : JD P n w0 own ops F (m + 1) listed e hs K :=
  JD.ef0 i hi ho h (fun v h' ⟨_, e2⟩ => by subst e2; exact k) (fun v h' ⟨_, e2⟩ => by subst e2; exact hF) hg
end
end V
end Go

/- V5: slices that a call makes and lets grow: append, make, copy, cutting. -/
namespace Go
namespace V
open Go.RowKit
set_option linter.unusedVariables false
set_option linter.unusedSimpArgs false

/-- an element type: so many cells, so many bytes -/
class El (P : Program) (E : Nat) (m : outParam Nat) (by_ : outParam Nat) (z : outParam (List Value)) : Prop where
  out : ∃ i v, P.info? E = some i ∧ i.size = m ∧ i.bytes = by_ ∧ i.zero = some v ∧ v.cells = ⟨z⟩ ∧ z.length = m
def elB (P : Program) (E m by_ : Nat) : Bool := match P.info? E with | some i => Nat.beq i.size m && Nat.beq i.bytes by_ | none => false
theorem El.of {P : Program} {E m by_ : Nat} {z : List Value} {v : Value} (h : elB P E m by_ = true) (hz : zrO P E = some v) (hv : v.cells = ⟨z⟩) (hl : Nat.beq z.length m = true) : El P E m by_ z := by
  unfold elB at h
  unfold zrO at hz
  cases hi : P.info? E with
  | none => rw [hi] at h; cases h
  | some i =>
    rw [hi] at h hz
    rw [Bool.and_eq_true] at h
    exact ⟨i, v, hi, Nat.eq_of_beq_eq_true h.1, Nat.eq_of_beq_eq_true h.2, hz, hv, Nat.eq_of_beq_eq_true hl⟩

/-- a slice that owns its block: n elements, whose cells are 'vs' -/
def OwnS (E m : Nat) (v : Value) (n : Nat) (vs : List Value) (h : Hp) : Prop :=
  vs.length = n * m ∧ ((v = .slice none 0 0 ∧ n = 0 ∧ h = []) ∨
    ∃ b o cap l, v = .slice (some ⟨b, o, none⟩) n cap ∧ h = [(b, .cells l E)] ∧ n ≤ cap ∧ o + cap * m ≤ l.length ∧ (l.drop o).take (n * m) = vs)
theorem OwnS.nil (E m : Nat) : OwnS E m (.slice none 0 0) 0 [] [] := ⟨by simp, .inl ⟨rfl, rfl, rfl⟩⟩
theorem OwnS.slice {E m n : Nat} {v : Value} {vs : List Value} {h : Hp} (k : OwnS E m v n vs h) : ∃ A c, v = .slice A n c := by
  rcases k.2 with ⟨rfl, rfl, _⟩ | ⟨b, o, cap, l, rfl, _⟩
  · exact ⟨_, _, rfl⟩
  · exact ⟨_, _, rfl⟩

/-- what an operand of append holds: k elements, whose cells are 'news' -/
def Src (P : Program) (w : World) (m : Nat) (x : Value) (k : Nat) (news : List Value) : Prop :=
  (Builtin.lenOf x).run P w = .ok k w ∧ ∀ w', (∀ a : Addr, w'.cell? a = w.cell? a) → (Builtin.firstCells m k x).run P w' = .ok ⟨news⟩ w'
theorem Src.nil {P : Program} {w : World} {m c : Nat} : Src P w m (.slice none 0 c) 0 [] := ⟨by simp [Builtin.lenOf], fun w' _ => by simp [Builtin.firstCells]⟩
theorem Src.cells {P : Program} {w : World} {m k c : Nat} {a : Addr} {news : List Value} (hl : news.length = k * m) (h : ∀ j v, news[j]? = some v → w.cell? (a.add j) = some v) :
    Src P w m (.slice (some a) k c) k news :=
  ⟨by simp [Builtin.lenOf], fun w' hw => run_firstCells_some (P := P) w' m k a k c news hl (fun j v hv => by rw [hw]; exact h j v hv)⟩
theorem Src.of_at {P : Program} {w0 w : World} {own : List Nat} {hs : Hp} {m k c : Nat} {a : Addr} {news : List Value} (s : Sat w0 own hs w) (h : At w0 own hs a news) (hl : news.length = k * m) : Src P w m (.slice (some a) k c) k news :=
  .cells hl (h w s)

theorem splice_app (l vs news : List Value) (o n m k cap : Nat) (hv : vs.length = n * m) (hk : news.length = k * m) (hc : n + k ≤ cap) (hl : o + cap * m ≤ l.length) (h : (l.drop o).take (n * m) = vs) :
    ((splice l (o + n * m) news).drop o).take ((n + k) * m) = vs ++ news := by
  have h1 : (n + k) * m = n * m + k * m := Nat.add_mul _ _ _
  have h2 : (n + k) * m ≤ cap * m := Nat.mul_le_mul_right _ hc
  have e : (splice l (o + n * m) news).drop o = vs ++ (news ++ l.drop (o + n * m + news.length)) := by
    unfold splice
    rw [List.append_assoc, List.drop_append_of_le_length (by rw [List.length_take]; omega), List.drop_take, ← h]
    congr 2; omega
  rw [e, h1, ← List.append_assoc, List.take_append_of_le_length (by simp [hv, hk]), List.take_of_length_le (by simp [hv, hk])]

theorem app_mk (l : List Value) (a : Array Value) : (⟨l⟩ : Array Value) ++ a = ⟨l ++ a.toList⟩ := by
  apply Array.ext'; simp

section
variable {P : Program} {n : Nat} {w0 : World} {own : List Nat} {e : Env} {hs : Hp} {ops : Array Oper} {rest : List Oper} {K : Env → Hp → Prop}

set_option maxHeartbeats 1000000 in
theorem run_append_any {w : World} {t u E m by_ : Nat} {z : List Value} (ht : P.underlying t = some (.slice E)) (hu : (∃ E', P.underlying u = some (.slice E')) ∨ P.underlying u = some .string) (hE : El P E m by_ z)
    {fr h : Hp} {v x : Value} {c k : Nat} {vs news : List Value} (s : Sat w0 own (h ++ fr) w) (ho : OwnS E m v c vs h) (hx : Src P w m x k news) (hn : news.length = k * m) (h1 : ones news = true)
    (hb : (c + k) * by_ ≤ 140737488355328) (h63 : c + k ≤ 4611686018427387904) (ty : TypeId) :
    ∃ v' w' h', (Builtin.append_ #[t, u] ty #[v, x]).run P w = .ok v' w' ∧ OwnS E m v' (c + k) (vs ++ news) h' ∧ Sat w0 own (h' ++ fr) w' := by
  obtain ⟨i, zv, hi, hm, hby, hz, hzv, hzl⟩ := hE.out
  obtain ⟨hlen, ho⟩ := ho
  rcases ho with ⟨rfl, rfl, rfl⟩ | ⟨b, o, cap, l, rfl, rfl, hc, hl, hv⟩
  · -- nil
    have hvs : vs = [] := by simpa using hlen
    subst hvs
    by_cases h0 : k = 0
    · subst h0
      have hnews : news = [] := by simpa using hn
      subst hnews
      refine ⟨.slice none 0 0, w, [], ?_, OwnS.nil E m, s⟩
      have := hx.2 w (fun _ => rfl)
      simp only [Builtin.append_, Sem.run_bind]
      rcases hu with ⟨E', hd⟩ | hd <;> simp [run_underlying ht, run_underlying hd, sizeOf, typeInfo, hi, hm, hx.1, this]
    · have h63' : ¬ (9223372036854775807 < (k : Int)) := by omega
      have hcap : Builtin.nextslicecap k 0 * by_ ≤ 281474976710656 := growslice_fits (by omega) (by simpa using hb)
      have h48' : ¬ (281474976710656 < Builtin.nextslicecap k 0 * by_) := by omega
      have hf := hx.2 w.drew (fun a => rfl)
      have hge := grownCap_ge w k 0 E
      refine ⟨.slice (some ⟨w.heap.size, 0, none⟩) k (grownCap w k 0 E), w.drew.alloc (.cells (⟨news⟩ ++ Builtin.zeroCells zv.cells (grownCap w k 0 E - k)) E),
        [(w.heap.size, .cells (news ++ (Builtin.zeroCells zv.cells (grownCap w k 0 E - k)).toList) E)], ?_, ⟨by simp [hn], .inr ⟨_, 0, grownCap w k 0 E, _, by simp, rfl, by simpa using hge, ?_, ?_⟩⟩, ?_⟩
      · simp only [Builtin.append_, Sem.run_bind]
        rcases hu with ⟨E', hd⟩ | hd <;> simp [run_underlying ht, run_underlying hd, sizeOf, typeInfo, zeroValue, hi, hm, hz, hby, hx.1, h0, h63', h48', Question.forced, run_firstCells_none, hf, newRow, grownCap]
      · have : (grownCap w k 0 E) * m = k * m + (grownCap w k 0 E - k) * m := by rw [← Nat.add_mul]; congr 1; omega
        simp [hn, size_zeroCells, hzv, hzl]; omega
      · simp [hn]
      · have := s.drew.new (.cells (news ++ (Builtin.zeroCells zv.cells (grownCap w k 0 E - k)).toList) E)
        rw [app_mk]
        exact this
  · by_cases hr : c + k ≤ cap
    · have hck : (c + k) * m ≤ cap * m := Nat.mul_le_mul_right _ hr
      have hadd : (c + k) * m = c * m + k * m := Nat.add_mul _ _ _
      obtain ⟨w', r1, r2⟩ := s.splice (P := P) (b := b) (T := E) (o := o + c * m) (l := l) (vs := news) (hs' := [(b, .cells (splice l (o + c * m) news) E)] ++ fr) .head (by simp) (by omega) h1
      refine ⟨.slice (some ⟨b, o, none⟩) (c + k) cap, w', _, ?_, ⟨by simp [hlen, hn, hadd], .inr ⟨b, o, cap, _, rfl, rfl, hr, ?_, ?_⟩⟩, r2⟩
      · have := hx.2 w (fun _ => rfl)
        simp only [Builtin.append_, Sem.run_bind]
        rcases hu with ⟨E', hd⟩ | hd <;> simp [run_underlying ht, run_underlying hd, sizeOf, typeInfo, hi, hm, hx.1, this, hr, add_none, r1]
      · rw [splice_length _ _ _ (by omega)]; exact hl
      · exact splice_app l vs news o c m k cap hlen hn hr hl hv
    · have h63' : ¬ (9223372036854775807 < ((c : Int) + (k : Int))) := by omega
      have h48' : ¬ (281474976710656 < Builtin.nextslicecap (c + k) cap * by_) := by
        have := growslice_fits (need := c + k) (old := cap) (bytes := by_) (by omega) hb
        omega
      have hcm : c * m ≤ cap * m := Nat.mul_le_mul_right _ hc
      have hfo := run_firstCells_some (P := P) w.drew m c ⟨b, o, none⟩ c cap vs hlen (fun j u hj => by
        have hh := s.cell (b := b) (T := E) (l := l) (by simp) (o + j)
        rw [add_none]
        show w.cell? _ = _
        rw [hh, ← hj, ← hv, List.getElem?_take, List.getElem?_drop]
        have := (List.getElem?_eq_some_iff.1 hj).1
        rw [if_pos (by omega)])
      have hf := hx.2 w.drew (fun a => rfl)
      have hge := grownCap_ge w (c + k) cap E
      have hadd : (c + k) * m = c * m + k * m := Nat.add_mul _ _ _
      refine ⟨.slice (some ⟨w.heap.size, 0, none⟩) (c + k) (grownCap w (c + k) cap E), w.drew.alloc (.cells (⟨vs⟩ ++ ⟨news⟩ ++ Builtin.zeroCells zv.cells (grownCap w (c + k) cap E - (c + k))) E),
        [(w.heap.size, .cells (vs ++ news ++ (Builtin.zeroCells zv.cells (grownCap w (c + k) cap E - (c + k))).toList) E)], ?_, ⟨by simp [hlen, hn, hadd], .inr ⟨_, 0, grownCap w (c + k) cap E, _, by simp, rfl, by simpa using hge, ?_, ?_⟩⟩, ?_⟩
      · simp only [Builtin.append_, Sem.run_bind]
        rcases hu with ⟨E', hd⟩ | hd <;> simp [run_underlying ht, run_underlying hd, sizeOf, typeInfo, zeroValue, hi, hm, hz, hby, hx.1, hr, h63', h48', Question.forced, hfo, hf, newRow, grownCap]
        all_goals (congr 2; apply Array.ext'; simp [List.append_assoc])
      · have : (grownCap w (c + k) cap E) * m = (c + k) * m + (grownCap w (c + k) cap E - (c + k)) * m := by rw [← Nat.add_mul]; congr 1; omega
        simp [hlen, hn, size_zeroCells, hzv, hzl]; omega
      · rw [List.drop_zero, List.take_append_of_le_length (by simp [hlen, hn]; omega), List.take_of_length_le (by simp [hlen, hn]; omega)]
      · have s2 : Sat w0 own fr w := s.sub (List.sublist_append_right _ _)
        have := s2.drew.new (.cells (vs ++ news ++ (Builtin.zeroCells zv.cells (grownCap w (c + k) cap E - (c + k))).toList) E)
        rw [show (⟨vs⟩ : Array Value) ++ ⟨news⟩ = ⟨vs ++ news⟩ from by apply Array.ext'; simp, app_mk]
        exact this

/-- append -/
theorem Eff.append {s x : Operand} {t u E m by_ c k : Nat} {z vs news : List Value} {v xv : Value} {h fr : Hp} (hs_ : ev e s = some v) (hx : ev e x = some xv) [ht : SliceT P t E] [hu : SliceT P u E] [hE : El P E m by_ z]
    (ho : OwnS E m v c vs h) (hp : hs.Perm (h ++ fr)) (hsrc : ∀ w, Sat w0 own hs w → Src P w m xv k news) (hn : news.length = k * m) (h1 : ones news = true)
    (hb : (c + k) * by_ ≤ 140737488355328) (h63 : c + k ≤ 4611686018427387904) :
    Eff P n w0 own e hs (.call { callee := .builtin .append, args := #[s, x], argTypes := #[t, u] }) (fun v' hs' => ∃ h', OwnS E m v' (c + k) (vs ++ news) h' ∧ hs' = h' ++ fr) :=
  Eff.of_run fun a w ty pos aft g d hr s' => by
    obtain ⟨v', w', h', r1, r2, r3⟩ := run_append_any (ty := ty) ht.out (.inl ⟨_, hu.out⟩) hE (s'.perm hp) ho (hsrc w s') hn h1 hb h63
    refine ⟨v', h' ++ fr, w', ?_, ⟨h', r2, rfl⟩, r3⟩
    simp [execOp, hr.eval hs_, hr.eval hx, resolve, invoke, builtin, r1]
end
end V
end Go

/- V6: '==' of structs and arrays of numbers, bools, strings. -/
namespace Go
namespace V
open Go.RowKit
set_option linter.unusedVariables false
set_option linter.unusedSimpArgs false

inductive Lf where
  | i (k : IntKind)
  | b
  | s
def Lf.ok : Lf → Value → Prop
  | .i k, .int k' _ => k' = k
  | .b, .bool _ => True
  | .s, .string _ => True
  | _, _ => False
def oks : List Lf → List Value → Prop
  | [], [] => True
  | l :: ls, v :: vs => l.ok v ∧ oks ls vs
  | _, _ => False
def cellEq : Value → Value → Bool
  | .int _ a, .int _ b => a == b
  | .bool a, .bool b => a == b
  | .string a, .string b => a.toList == b.toList
  | _, _ => false
def cellsEq : List Value → List Value → Bool
  | [], [] => true
  | x :: xs, y :: ys => cellEq x y && cellsEq xs ys
  | _, _ => false
theorem oks_length : ∀ {ls : List Lf} {vs : List Value}, oks ls vs → vs.length = ls.length
  | [], [], _ => rfl
  | l :: ls, v :: vs, h => by simp [oks_length h.2]
  | [], _ :: _, h => h.elim
  | _ :: _, [], h => h.elim
theorem oks_append : ∀ {l1 l2 : List Lf} {v1 v2 : List Value}, oks l1 v1 → oks l2 v2 → oks (l1 ++ l2) (v1 ++ v2)
  | [], l2, [], v2, _, h => h
  | l :: l1, l2, v :: v1, v2, h, k => ⟨h.1, oks_append h.2 k⟩
  | [], _, _ :: _, _, h, _ => h.elim
  | _ :: _, _, [], _, h, _ => h.elim
theorem oks_split : ∀ {l1 l2 : List Lf} {vs : List Value}, oks (l1 ++ l2) vs → oks l1 (vs.take l1.length) ∧ oks l2 (vs.drop l1.length)
  | [], l2, vs, h => ⟨by simp [oks], by simpa using h⟩
  | l :: l1, l2, [], h => by simp [oks] at h
  | l :: l1, l2, v :: vs, h => by
    obtain ⟨h1, h2⟩ := h
    obtain ⟨h3, h4⟩ := oks_split h2
    exact ⟨⟨h1, h3⟩, by simpa using h4⟩
theorem bytesList_eq {a b : ByteArray} : a.toList = b.toList ↔ a = b := by
  rw [ByteArray.toList_eq, ByteArray.toList_eq]
  obtain ⟨⟨x⟩⟩ := a
  obtain ⟨⟨y⟩⟩ := b
  simp
theorem cellEq_iff {l : Lf} {x y : Value} (hx : l.ok x) (hy : l.ok y) : cellEq x y = true ↔ x = y := by
  cases l <;> cases x <;> simp only [Lf.ok] at hx <;> cases y <;> simp only [Lf.ok] at hy
  · subst hx; subst hy; simp [cellEq]
  · simp [cellEq]
  · simp [cellEq, bytesList_eq]
theorem cellsEq_iff : ∀ {ls : List Lf} {xs ys : List Value}, oks ls xs → oks ls ys → (cellsEq xs ys = true ↔ xs = ys)
  | [], [], [], _, _ => by simp [cellsEq]
  | l :: ls, x :: xs, y :: ys, h, k => by simp [cellsEq, cellEq_iff h.1 k.1, cellsEq_iff h.2 k.2]
  | [], _ :: _, _, h, _ => h.elim
  | [], [], _ :: _, _, k => k.elim
  | _ :: _, [], _, h, _ => h.elim
  | _ :: _, _ :: _, [], _, k => k.elim
theorem cellsEq_append : ∀ {a b c d : List Value}, a.length = b.length → cellsEq (a ++ c) (b ++ d) = (cellsEq a b && cellsEq c d)
  | [], [], c, d, _ => by simp [cellsEq]
  | x :: a, y :: b, c, d, h => by simp [cellsEq, cellsEq_append (a := a) (b := b) (by simpa using h), Bool.and_assoc]
  | [], _ :: _, _, _, h => by simp at h
  | _ :: _, [], _, _, h => by simp at h

/-- the leaves of a type whose parts are numbers, bools, strings alone, without a gap -/
def leaves (P : Program) : Nat → Nat → Option (List Lf)
  | 0, _ => none
  | n + 1, T => match P.underlying T with
    | some .bool => some [.b]
    | some .string => some [.s]
    | some (.int k) => some [.i k]
    | some (.struct fs) => if P.stoodInHeld T then none else
      fs.toList.foldl (fun acc f => match acc, leaves P n f.type, P.info? f.type with
        | some ls, some lf, some i => if f.name == "_" || f.offset != ls.length || i.size != lf.length then none else some (ls ++ lf)
        | _, _, _ => none) (some [])
    | some (.array k E) => match leaves P n E, P.info? E with
      | some le, some i => if i.size != le.length then none else some (List.replicate k le).flatten
      | _, _ => none
    | _ => none
/-- a value of cells -/
def valOf (P : Program) (T : Nat) (vs : List Value) : Value := match P.underlying T with
  | some (.struct _) | some (.array _ _) => .agg ⟨vs⟩
  | _ => vs.headD undef

section
variable {P : Program}

theorem run_part {T : Nat} {i : TypeInfo} {ls : List Lf} {n : Nat} (hl : leaves P n T = some ls) (hi : P.info? T = some i) (hs : i.size = ls.length) (w : World) (vs : List Value) (o : Nat) (ho : o + ls.length ≤ vs.length) :
    (part T ⟨vs⟩ o).run P w = .ok (valOf P T ((vs.drop o).take ls.length)) w := by
  cases n with
  | zero => simp [leaves] at hl
  | succ n =>
    unfold leaves at hl
    have scalar : ∀ d, P.underlying T = some d → (∀ f, d ≠ .struct f) → (∀ k e, d ≠ .array k e) → ls.length = 1 → (part T ⟨vs⟩ o).run P w = .ok (valOf P T ((vs.drop o).take ls.length)) w := by
      intro d hd h1 h2 h3
      have hlt : o < vs.length := by omega
      have e1 : valOf P T ((vs.drop o).take ls.length) = vs[o] := by
        unfold valOf
        rw [hd, h3]
        cases d <;> first | exact absurd rfl (h1 _) | exact absurd rfl (h2 _ _) | simp [List.take_one, List.head?_drop, hlt]
      rw [e1]
      unfold part
      rw [Sem.run_bind, run_isAgg_sc ⟨d, hd, h1, h2⟩]
      simp [hlt]
    have agg : ∀ d, P.underlying T = some d → ((∃ f, d = .struct f) ∨ ∃ k e, d = .array k e) → (part T ⟨vs⟩ o).run P w = .ok (valOf P T ((vs.drop o).take ls.length)) w := by
      intro d hd h1
      have hA : Ag P T ls.length := ⟨d, i, hd, h1, hi, hs⟩
      unfold part
      rw [Sem.run_bind, run_isAgg_ag hA]
      have e1 : valOf P T ((vs.drop o).take ls.length) = .agg ⟨(vs.drop o).take ls.length⟩ := by
        unfold valOf; rw [hd]; rcases h1 with ⟨f, rfl⟩ | ⟨k, e, rfl⟩ <;> rfl
      rw [e1]
      simp [sizeOf, typeInfo, hi, hs]
    split at hl
    · rename_i hd; simp at hl; subst hl; exact scalar _ hd (by simp) (by simp) rfl
    · rename_i hd; simp at hl; subst hl; exact scalar _ hd (by simp) (by simp) rfl
    · rename_i k hd; simp at hl; subst hl; exact scalar _ hd (by simp) (by simp) rfl
    · rename_i fs hd; exact agg _ hd (.inl ⟨_, rfl⟩)
    · rename_i k E hd; exact agg _ hd (.inr ⟨_, _, rfl⟩)
    · cases hl

theorem foldl_none (fs : List Field) (f : Option (List Lf) → Field → Option (List Lf)) (h : ∀ x, f none x = none) : fs.foldl f none = none := by
  induction fs with
  | nil => rfl
  | cons x fs ih => simp only [List.foldl_cons, h]; exact ih

theorem run_equalIn_leaves : ∀ (n : Nat) (T : Nat) (ls : List Lf) (d : Nat), leaves P n T = some ls → n ≤ d → ∀ (w : World) (xs ys : List Value), oks ls xs → oks ls ys →
    (Op.equalIn d T (valOf P T xs) (valOf P T ys)).run P w = .ok (cellsEq xs ys) w := by
  intro n
  induction n with
  | zero => intro T ls d h; simp [leaves] at h
  | succ n ih =>
    intro T ls d h hd w xs ys hx hy
    obtain ⟨d, rfl⟩ : ∃ d', d = d' + 1 := ⟨d - 1, by omega⟩
    have h0 := h
    unfold leaves at h
    split at h
    · rename_i hu; simp at h; subst h
      match xs, ys, hx, hy with
      | [.bool a], [.bool b], _, _ => simp [valOf, hu, cellsEq, cellEq, run_equalIn_bool' w d T a b hu]
      | [x], [], _, hy => exact hy.elim
    · rename_i hu; simp at h; subst h
      match xs, ys, hx, hy with
      | [.string a], [.string b], _, _ => simp [valOf, hu, cellsEq, cellEq, run_equalIn_string w d T a b hu]
    · rename_i k hu; simp at h; subst h
      match xs, ys, hx, hy with
      | [.int k1 a], [.int k2 b], h1, h2 =>
        obtain ⟨rfl, _⟩ := h1
        obtain ⟨rfl, _⟩ := h2
        simp [valOf, hu, cellsEq, cellEq, run_equalIn_int w d T _ _ a b hu]
    · rename_i fs hu
      split at h
      · cases h
      · rename_i hst
        have hst : P.stoodInHeld T = false := by simpa using hst
        have hF : P.fieldsOf T = fs := by simp [Program.fieldsOf, hu]
        simp only [valOf, hu]
        rw [run_equalIn_struct w d T ⟨xs⟩ ⟨ys⟩ (by rw [hF]; exact hu) hst, hF]
        -- field by field
        have key : ∀ (l : List Field) (acc : List Lf), l.foldl (fun acc f => match acc, leaves P n f.type, P.info? f.type with
            | some ls, some lf, some i => if f.name == "_" || f.offset != ls.length || i.size != lf.length then none else some (ls ++ lf)
            | _, _, _ => none) (some acc) = some ls →
            (Op.eqFields d ⟨xs⟩ ⟨ys⟩ l).run P w = .ok (cellsEq (xs.drop acc.length) (ys.drop acc.length)) w := by
          intro l
          induction l with
          | nil =>
            intro acc hacc
            simp at hacc
            subst hacc
            have e1 := oks_length hx
            have e2 := oks_length hy
            simp [Op.eqFields, List.drop_of_length_le (Nat.le_of_eq e1), List.drop_of_length_le (Nat.le_of_eq e2), cellsEq]
          | cons f l ihl =>
            intro acc hacc
            simp only [List.foldl_cons] at hacc
            cases hlf : leaves P n f.type with
            | none => rw [hlf] at hacc; simp only at hacc; rw [foldl_none _ _ (fun x => rfl)] at hacc; cases hacc
            | some lf =>
              cases hif : P.info? f.type with
              | none => rw [hlf, hif] at hacc; simp only at hacc; rw [foldl_none _ _ (fun x => rfl)] at hacc; cases hacc
              | some i =>
                rw [hlf, hif] at hacc
                simp only at hacc
                split at hacc
                · rw [foldl_none _ _ (fun x => rfl)] at hacc; cases hacc
                · rename_i hcond
                  simp at hcond
                  obtain ⟨⟨c1, c2⟩, c3⟩ := hcond
                  have hpre : ∃ tl, ls = (acc ++ lf) ++ tl := by
                    have : ∀ (l : List Field) (a ls : List Lf), l.foldl (fun acc f => match acc, leaves P n f.type, P.info? f.type with
                        | some ls, some lf, some i => if f.name == "_" || f.offset != ls.length || i.size != lf.length then none else some (ls ++ lf)
                        | _, _, _ => none) (some a) = some ls → ∃ tl, ls = a ++ tl := by
                      intro l
                      induction l with
                      | nil => intro a ls h; simp at h; exact ⟨[], by simp [h]⟩
                      | cons g l ih2 =>
                        intro a ls h
                        simp only [List.foldl_cons] at h
                        split at h
                        · rename_i ls' lg ig h1 h2 h3
                          simp at h1
                          subst h1
                          split at h
                          · rw [foldl_none _ _ (fun x => rfl)] at h; cases h
                          · obtain ⟨tl, rfl⟩ := ih2 _ _ h
                            exact ⟨lg ++ tl, by simp⟩
                        · rw [foldl_none _ _ (fun x => rfl)] at h; cases h
                    exact this l _ ls hacc
                  obtain ⟨tl, htl⟩ := hpre
                  have lx := oks_length hx
                  have ly := oks_length hy
                  have hlen : ls.length = acc.length + lf.length + tl.length := by rw [htl]; simp [Nat.add_assoc]
                  have px := run_part hlf hif c3 w xs acc.length (by omega)
                  have py := run_part hlf hif c3 w ys acc.length (by omega)
                  have hx2 := hx
                  have hy2 := hy
                  rw [htl, List.append_assoc] at hx2 hy2
                  have ox := (oks_split (oks_split hx2).2).1
                  have oy := (oks_split (oks_split hy2).2).1
                  have hr := ih f.type lf d hlf (by omega) w _ _ ox oy
                  have hrest := ihl (acc ++ lf) hacc
                  have ex : xs.drop acc.length = (xs.drop acc.length).take lf.length ++ xs.drop (acc ++ lf).length := by
                    rw [List.length_append, ← List.drop_drop, List.take_append_drop]
                  have ey : ys.drop acc.length = (ys.drop acc.length).take lf.length ++ ys.drop (acc ++ lf).length := by
                    rw [List.length_append, ← List.drop_drop, List.take_append_drop]
                  rw [ex, ey, cellsEq_append (by simp; omega)]
                  unfold Op.eqFields
                  rw [if_pos (by simpa using c1), c2]
                  simp only [Sem.run_bind, px, py, Result.andThen_ok, hr]
                  cases hc : cellsEq ((xs.drop acc.length).take lf.length) ((ys.drop acc.length).take lf.length)
                  · simp
                  · simp [hrest]
        have := key fs.toList [] h
        simpa using this
    · rename_i k E hu
      split at h
      · rename_i le i hle hie
        split at h
        · cases h
        · rename_i hsz
          simp at hsz
          simp at h
          simp only [valOf, hu]
          simp only [Op.equalIn, Sem.run_bind, run_underlying hu, Result.andThen_ok]
          simp [sizeOf, typeInfo, hie, hsz]
          have hL : ls.length = k * le.length := by rw [← h]; simp
          have lx := oks_length hx
          have ly := oks_length hy
          have hblk : ∀ j, j < k → oks le ((xs.drop (j * le.length)).take le.length) ∧ oks le ((ys.drop (j * le.length)).take le.length) := by
            intro j hj
            have hspl : ls = (List.replicate j le).flatten ++ (le ++ (List.replicate (k - j - 1) le).flatten) := by
              rw [← h]
              have : k = j + (1 + (k - j - 1)) := by omega
              conv => lhs; rw [this, ← List.replicate_append_replicate, List.flatten_append, ← List.replicate_append_replicate, List.flatten_append]
              simp
            have hx2 := hx
            have hy2 := hy
            rw [hspl] at hx2 hy2
            have hjl : (List.replicate j le).flatten.length = j * le.length := by simp
            have ox := (oks_split (oks_split hx2).2).1
            have oy := (oks_split (oks_split hy2).2).1
            rw [hjl] at ox oy
            exact ⟨ox, oy⟩
          have hall : ∀ (m j : Nat), j + m = k → cellsEq (xs.drop (j * le.length)) (ys.drop (j * le.length)) = (List.range' j m).all fun i => cellsEq ((xs.drop (i * le.length)).take le.length) ((ys.drop (i * le.length)).take le.length) := by
            intro m
            induction m with
            | zero =>
              intro j hj
              simp only [Nat.add_zero] at hj
              subst hj
              rw [List.drop_of_length_le (by omega), List.drop_of_length_le (by omega)]
              simp [cellsEq]
            | succ m ihm =>
              intro j hj
              have hjk : (j + 1) * le.length ≤ k * le.length := Nat.mul_le_mul_right _ (by omega)
              have hjs : (j + 1) * le.length = j * le.length + le.length := Nat.succ_mul _ _
              have ex : xs.drop (j * le.length) = (xs.drop (j * le.length)).take le.length ++ xs.drop ((j + 1) * le.length) := by
                rw [hjs, ← List.drop_drop, List.take_append_drop]
              have ey : ys.drop (j * le.length) = (ys.drop (j * le.length)).take le.length ++ ys.drop ((j + 1) * le.length) := by
                rw [hjs, ← List.drop_drop, List.take_append_drop]
              rw [List.range'_succ, List.all_cons, ← ihm (j + 1) (by omega)]
              conv => lhs; rw [ex, ey]
              rw [cellsEq_append (by simp; omega)]
          have h00 := hall k 0 (by omega)
          simp only [Nat.zero_mul, List.drop_zero] at h00
          rw [h00]
          have hb : ∀ i ∈ List.range' 0 k, i < k := by simp
          generalize List.range' 0 k = l at hb ⊢
          induction l with
          | nil => simp
          | cons j l ihl =>
            have hjk : j < k := hb j (by simp)
            have hjs : (j + 1) * le.length = j * le.length + le.length := Nat.succ_mul _ _
            have hjm : (j + 1) * le.length ≤ k * le.length := Nat.mul_le_mul_right _ (by omega)
            have px := run_part hle hie hsz w xs (j * le.length) (by omega)
            have py := run_part hle hie hsz w ys (j * le.length) (by omega)
            obtain ⟨ox, oy⟩ := hblk j hjk
            have hr := ih E le d hle (by omega) w _ _ ox oy
            have hrest := ihl (fun i hi => hb i (by simp [hi]))
            simp only [List.forIn_cons, Sem.run_bind, px, py, Result.andThen_ok, hr, List.all_cons]
            cases hc : cellsEq ((xs.drop (j * le.length)).take le.length) ((ys.drop (j * le.length)).take le.length)
            · simp
            · simp only [Bool.true_eq_false, if_false, Sem.run_pure, Result.andThen_ok, Bool.true_and]
              exact hrest
      · cases h
    · cases h
end
end V
end Go

/- V7: comparisons, parts of aggregates, cutting slices, literals. -/
namespace Go
namespace V
open Go.RowKit
set_option linter.unusedVariables false
set_option linter.unusedSimpArgs false

class EqT (P : Program) (T : Nat) (ls : outParam (List Lf)) : Prop where
  out : leaves P 8 T = some ls ∧ agB P T ls.length = true ∧ P.eqGuardType P.depth T = false

section
variable {P : Program} {n : Nat} {w0 : World} {own : List Nat} {e : Env} {hs : Hp}

theorem EqT.agg {T : Nat} {ls : List Lf} (h : EqT P T ls) (vs : List Value) : valOf P T vs = .agg ⟨vs⟩ := by
  obtain ⟨_, h2, _⟩ := h.out
  obtain ⟨d, i, hd, h1, _⟩ := (Ag.of h2).out
  unfold valOf; rw [hd]
  rcases h1 with ⟨f, rfl⟩ | ⟨k, e, rfl⟩ <;> rfl
theorem run_equal {T : Nat} {ls : List Lf} (h : EqT P T ls) (w : World) {xs ys : List Value} (hx : oks ls xs) (hy : oks ls ys) : (Op.equal T (.agg ⟨xs⟩) (.agg ⟨ys⟩)).run P w = .ok (cellsEq xs ys) w := by
  have := run_equalIn_leaves 8 T ls Op.maxDepth h.out.1 (by decide) w xs ys hx hy
  rw [h.agg, h.agg] at this
  exact this
theorem Val.eqA {T U : Nat} {x y : Operand} {xs ys : List Value} {ls : List Lf} (hx : ev e x = some (.agg ⟨xs⟩)) (hy : ev e y = some (.agg ⟨ys⟩)) [hT : EqT P T ls] (h1 : oks ls xs) (h2 : oks ls ys) :
    Val P n w0 own e hs (.binOp .eql T x y U) (.bool (cellsEq xs ys)) := fun a w ty pos aft g d hr s => by
  have hg := hT.out.2.2
  simp [execOp, hr.eval hx, hr.eval hy, eqGuard, binOp, hg, run_equal hT w h1 h2]
theorem Val.neA {T U : Nat} {x y : Operand} {xs ys : List Value} {ls : List Lf} (hx : ev e x = some (.agg ⟨xs⟩)) (hy : ev e y = some (.agg ⟨ys⟩)) [hT : EqT P T ls] (h1 : oks ls xs) (h2 : oks ls ys) :
    Val P n w0 own e hs (.binOp .neq T x y U) (.bool (!cellsEq xs ys)) := fun a w ty pos aft g d hr s => by
  have hg := hT.out.2.2
  simp [execOp, hr.eval hx, hr.eval hy, eqGuard, binOp, hg, run_equal hT w h1 h2]
theorem Val.eqb {T U : Nat} {x y : Operand} {a b : Bool} (hx : ev e x = some (.bool a)) (hy : ev e y = some (.bool b)) [hT : BoolT P T] :
    Val P n w0 own e hs (.binOp .eql T x y U) (.bool (a == b)) := fun _ w ty pos aft g d hr s => by
  have h := run_equalIn_bool' (P := P) w 9999 T a b hT.out
  simp [execOp, hr.eval hx, hr.eval hy, eqGuard, binOp, Op.equal, Op.maxDepth, h]
theorem Val.neb {T U : Nat} {x y : Operand} {a b : Bool} (hx : ev e x = some (.bool a)) (hy : ev e y = some (.bool b)) [hT : BoolT P T] :
    Val P n w0 own e hs (.binOp .neq T x y U) (.bool (a != b)) := fun _ w ty pos aft g d hr s => by
  have h := run_equalIn_bool' (P := P) w 9999 T a b hT.out
  simp [execOp, hr.eval hx, hr.eval hy, eqGuard, binOp, Op.equal, Op.maxDepth, h]; cases a <;> cases b <;> rfl
theorem Val.eql_string {T U : Nat} {x y : Operand} {a b : ByteArray} (hx : ev e x = some (.string a)) (hy : ev e y = some (.string b)) :
    Val P n w0 own e hs (.binOp .eql T x y U) (.bool (a.toList == b.toList)) := fun _ w ty pos aft g d hr s => by
  simp [execOp, hr.eval hx, hr.eval hy, eqGuard, binOp, Op.stringOp, beq_toListBytes]
theorem Val.neq_string {T U : Nat} {x y : Operand} {a b : ByteArray} (hx : ev e x = some (.string a)) (hy : ev e y = some (.string b)) :
    Val P n w0 own e hs (.binOp .neq T x y U) (.bool (a.toList != b.toList)) := fun _ w ty pos aft g d hr s => by
  simp [execOp, hr.eval hx, hr.eval hy, eqGuard, binOp, Op.stringOp, bne, beq_toListBytes]
/-- pointers held against nil -/
theorem Val.eql_ptr_nil {T U E : Nat} {x y : Operand} {a : Option Addr} (hx : ev e x = some (.pointer a)) (hy : ev e y = some (.pointer none)) [hT : PtrT P T E] :
    Val P n w0 own e hs (.binOp .eql T x y U) (.bool a.isNone) := fun _ w ty pos aft g d hr s => by
  have h : (Op.equalIn (9999 + 1) T (.pointer a) (.pointer none)).run P w = .ok a.isNone w := by
    cases a <;> (rw [Op.equalIn]; simp [run_underlying hT.out])
  simp only [execOp, hr.eval hx, hr.eval hy, eqGuard, binOp, Op.equal, Op.maxDepth]
  simp [h]
theorem Val.neq_ptr_nil {T U E : Nat} {x y : Operand} {a : Option Addr} (hx : ev e x = some (.pointer a)) (hy : ev e y = some (.pointer none)) [hT : PtrT P T E] :
    Val P n w0 own e hs (.binOp .neq T x y U) (.bool a.isSome) := fun _ w ty pos aft g d hr s => by
  have h : (Op.equalIn (9999 + 1) T (.pointer a) (.pointer none)).run P w = .ok a.isNone w := by
    cases a <;> (rw [Op.equalIn]; simp [run_underlying hT.out])
  simp only [execOp, hr.eval hx, hr.eval hy, eqGuard, binOp, Op.equal, Op.maxDepth]
  simp [h]

/-! ### parts of a value -/
theorem Val.index {T N E m : Nat} {x y : Operand} {i : Int} {q : IntKind} {cs : List Value} {v : Value} (hx : ev e x = some (.agg ⟨cs⟩)) (hy : ev e y = some (.int q i)) [hT : ArrT P T N E] [hS : Sc P E] [hE : Sz P E m]
    (h0 : 0 ≤ i) (h1 : i < N) (hv : cs[i.toNat * m]? = some v) : Val P n w0 own e hs (.index T x y) v := fun a w ty pos aft g d hr s => by
  obtain ⟨j, hj, hz⟩ := hE.out
  simp [execOp, hr.eval hx, hr.eval hy, Instr.index, asIntOf, run_underlying hT.out, h0, h1, sizeOf, typeInfo, hj, hz, part, Sem.run_bind, run_isAgg_sc hS, hv]
class FldV (P : Program) (T i : Nat) (off F : outParam Nat) : Prop where
  out : ∃ fs f, P.underlying T = some (.struct fs) ∧ fs[i]? = some f ∧ f.offset = off ∧ f.type = F
def fldvB (P : Program) (T i off F : Nat) : Bool := match P.underlying T with
  | some (.struct fs) => match fs[i]? with
    | some f => Nat.beq f.offset off && Nat.beq f.type F
    | none => false
  | _ => false
theorem FldV.of {P : Program} {T i off F : Nat} (h : fldvB P T i off F = true) : FldV P T i off F := by
  unfold fldvB at h
  split at h
  · rename_i fs hd
    split at h
    · rename_i f hf
      rw [Bool.and_eq_true] at h
      exact ⟨fs, f, hd, hf, Nat.eq_of_beq_eq_true h.1, Nat.eq_of_beq_eq_true h.2⟩
    · cases h
  · cases h
theorem Val.field {T i off F : Nat} {x : Operand} {cs : List Value} {v : Value} (hx : ev e x = some (.agg ⟨cs⟩)) [hT : FldV P T i off F] [hS : Sc P F] (hv : cs[off]? = some v) :
    Val P n w0 own e hs (.field T x i) v := fun a w ty pos aft g d hr s => by
  obtain ⟨fs, f, h1, h2, h3, h4⟩ := hT.out
  subst h4
  simp [execOp, hr.eval hx, Instr.field, run_underlying h1, h2, asAgg, part, Sem.run_bind, run_isAgg_sc hS, h3, hv]
theorem Val.fieldA {T i off F m : Nat} {x : Operand} {cs vs : List Value} (hx : ev e x = some (.agg ⟨cs⟩)) [hT : FldV P T i off F] [hS : Ag P F m] (hv : (cs.drop off).take m = vs) :
    Val P n w0 own e hs (.field T x i) (.agg ⟨vs⟩) := fun a w ty pos aft g d hr s => by
  obtain ⟨fs, f, h1, h2, h3, h4⟩ := hT.out
  subst h4
  obtain ⟨_, j, _, _, hj, hz⟩ := hS.out
  subst hv
  simp [execOp, hr.eval hx, Instr.field, run_underlying h1, h2, asAgg, part, Sem.run_bind, run_isAgg_ag hS, h3, sizeOf, typeInfo, hj, hz]

/-! ### cutting -/
/-- where a slice that was cut at place l begins: at its end the address stays -/
def cutA (A : Option Addr) (cap l m : Nat) : Option Addr := if cap = l then A else A.map (·.add (l * m))
theorem cutA_zero (A : Option Addr) (cap m : Nat) : cutA A cap 0 m = A := by
  unfold cutA; split
  · rfl
  · cases A <;> simp [Addr.add]
theorem cutA_some {b o cap l m : Nat} (h : l < cap) : cutA (some ⟨b, o, none⟩) cap l m = some ⟨b, o + l * m, none⟩ := by
  unfold cutA; rw [if_neg (by omega)]; simp [add_none]
theorem Val.slLo {T E m len cap : Nat} {x y : Operand} {A : Option Addr} {i : Int} {q : IntKind} (hx : ev e x = some (.slice A len cap)) (hy : ev e y = some (.int q i)) [hT : SliceT P T E] [hE : Sz P E m]
    (h0 : 0 ≤ i) (h1 : i ≤ len) : Val P n w0 own e hs (.slice T x (some y) none none) (.slice (cutA A cap i.toNat m) (len - i.toNat) (cap - i.toNat)) := fun a w ty pos aft g d hr s => by
  obtain ⟨j, hj, hz⟩ := hE.out
  simp [execOp, hr.eval hx, hr.eval hy, Instr.sliceAt, run_underlying hT.out, Instr.slice, Instr.sliceBounds, Instr.sliceBound, asIntOf, h0, h1, sizeOf, typeInfo, hj, hz, cutA]
theorem Val.slHi {T E m len cap : Nat} {x y : Operand} {A : Option Addr} {i : Int} {q : IntKind} (hx : ev e x = some (.slice A len cap)) (hy : ev e y = some (.int q i)) [hT : SliceT P T E] [hE : Sz P E m]
    (h0 : 0 ≤ i) (h1 : i ≤ cap) : Val P n w0 own e hs (.slice T x none (some y) none) (.slice A i.toNat cap) := fun a w ty pos aft g d hr s => by
  obtain ⟨j, hj, hz⟩ := hE.out
  have h9 : Option.map (fun x : Addr => x.add 0) A = A := by cases A <;> simp [Addr.add]
  simp [h9, execOp, hr.eval hx, hr.eval hy, Instr.sliceAt, run_underlying hT.out, Instr.slice, Instr.sliceBounds, Instr.sliceBound, asIntOf, h0, h1, sizeOf, typeInfo, hj, hz]
theorem Val.slLoHi {T E m len cap : Nat} {x y z : Operand} {A : Option Addr} {i k : Int} {q r : IntKind} (hx : ev e x = some (.slice A len cap)) (hy : ev e y = some (.int q i)) (hz_ : ev e z = some (.int r k)) [hT : SliceT P T E] [hE : Sz P E m]
    (h0 : 0 ≤ i) (h1 : i ≤ k) (h2 : k ≤ cap) : Val P n w0 own e hs (.slice T x (some y) (some z) none) (.slice (cutA A cap i.toNat m) (k.toNat - i.toNat) (cap - i.toNat)) := fun a w ty pos aft g d hr s => by
  obtain ⟨j, hj, hz⟩ := hE.out
  have h3 : 0 ≤ k := by omega
  have h4 : max k 0 = k := by omega
  simp [execOp, hr.eval hx, hr.eval hy, hr.eval hz_, Instr.sliceAt, run_underlying hT.out, Instr.slice, Instr.sliceBounds, Instr.sliceBound, asIntOf, h0, h1, h2, h3, h4, sizeOf, typeInfo, hj, hz, cutA]
theorem Val.slHiMax {T E m len cap : Nat} {x y z : Operand} {A : Option Addr} {i k : Int} {q r : IntKind} (hx : ev e x = some (.slice A len cap)) (hy : ev e y = some (.int q i)) (hz_ : ev e z = some (.int r k)) [hT : SliceT P T E] [hE : Sz P E m]
    (h0 : 0 ≤ i) (h1 : i ≤ k) (h2 : k ≤ cap) : Val P n w0 own e hs (.slice T x none (some y) (some z)) (.slice A i.toNat k.toNat) := fun a w ty pos aft g d hr s => by
  obtain ⟨j, hj, hz⟩ := hE.out
  have h3 : 0 ≤ k := by omega
  have h4 : max k 0 = k := by omega
  have h9 : Option.map (fun x : Addr => x.add 0) A = A := by cases A <;> simp [Addr.add]
  simp [h9, execOp, hr.eval hx, hr.eval hy, hr.eval hz_, Instr.sliceAt, run_underlying hT.out, Instr.slice, Instr.sliceBounds, Instr.sliceBound, asIntOf, h0, h1, h2, h3, h4, sizeOf, typeInfo, hj, hz]
/-- a whole array, or its head, as a slice -/
theorem Val.slArr {T N E m : Nat} {x : Operand} {ad : Addr} (hx : ev e x = some (.pointer (some ad))) [hT : ArrT P T N E] [hE : Sz P E m] :
    Val P n w0 own e hs (.slice T x none none none) (.slice (some ad) N N) := fun a w ty pos aft g d hr s => by
  obtain ⟨j, hj, hz⟩ := hE.out
  have h9 : ad.add 0 = ad := by simp [Addr.add]
  simp [h9, execOp, hr.eval hx, Instr.sliceAt, Instr.sureAddr, run_underlying hT.out, Instr.sliceBounds, sizeOf, typeInfo, hj, hz]
theorem Val.slArrHi {T N E m : Nat} {x y : Operand} {ad : Addr} {i : Int} {q : IntKind} (hx : ev e x = some (.pointer (some ad))) (hy : ev e y = some (.int q i)) [hT : ArrT P T N E] [hE : Sz P E m] (h0 : 0 ≤ i) (h1 : i ≤ N) :
    Val P n w0 own e hs (.slice T x none (some y) none) (.slice (some ad) i.toNat N) := fun a w ty pos aft g d hr s => by
  obtain ⟨j, hj, hz⟩ := hE.out
  have h9 : ad.add 0 = ad := by simp [Addr.add]
  simp [h9, execOp, hr.eval hx, hr.eval hy, Instr.sliceAt, Instr.sureAddr, run_underlying hT.out, Instr.sliceBounds, Instr.sliceBound, asIntOf, h0, h1, sizeOf, typeInfo, hj, hz]
theorem Val.toArr {T N E len cap : Nat} {x : Operand} {A : Option Addr} (hx : ev e x = some (.slice A len cap)) [hT : ArrT P T N E] (h : N ≤ len) :
    Val P n w0 own e hs (.sliceToArrayPointer T x) (.pointer A) := fun a w ty pos aft g d hr s => by
  simp [execOp, hr.eval hx, Instr.arrayAt, run_underlying hT.out, Nat.not_lt.2 h]
theorem Val.makeFunc {g : FuncId} {fv cv : List Operand} {us vs : List Value} (h1 : evs e fv = some us) (h2 : evs e cv = some vs) :
    Val P n w0 own e hs (.makeFunc (.func g) ⟨fv⟩ ⟨cv⟩) (.func (.func g) ⟨us⟩ ⟨vs⟩) := fun a w ty pos aft gg d hr s => by
  have e1 := hr.evals h1
  have e2 := hr.evals h2
  simp [execOp, Instr.makeFunc, e1, e2]
theorem Val.len_string {T : Nat} {x : Operand} {b : ByteArray} (hx : ev e x = some (.string b)) [hT : StrT P T] :
    Val P n w0 own e hs (.call { callee := .builtin .len, args := #[x], argTypes := #[T] }) (.int .i64 b.size) := fun a w ty pos aft g d hr s => by
  simp [execOp, hr.eval hx, resolve, invoke, builtin, Builtin.len_, run_underlying hT.out, goInt]

/-! ### bytes as a string -/
def strOf (xs : List (BitVec 8)) : ByteArray := ⟨(xs.map fun x => UInt8.ofBitVec x).toArray⟩
theorem Val.bytesStr {T U E len cap : Nat} {x : Operand} {b o : Nat} {xs : List (BitVec 8)} (hx : ev e x = some (.slice (some ⟨b, o, none⟩) len cap)) [hT : SliceT P T E] [hE : IntT P E .u8] [hU : StrT P U]
    (hl : xs.length = len) (hc : At w0 own hs ⟨b, o, none⟩ (xs.map fun x => .int .u8 x.toNat)) : Val P n w0 own e hs (.convert T U x) (.string (strOf xs)) := fun a w ty pos aft g d hr s => by
  have h := run_convert_bytes_arg (P := P) w T E hT.out hE.out b o len cap (xs.map fun x => (x.toNat : Int)) (by simpa using hl) (fun i hi => by
    have := hc w s i (.int .u8 ((xs.map fun x => (x.toNat : Int)).getD i 0)) (by simp [List.getElem?_eq_getElem (show i < xs.length by omega)])
    rw [add_none] at this
    exact this) U hU.out
  simp only [execOp, hr.eval hx, Sem.run_bind, h, Result.andThen_ok, Sem.run_pure]
  congr 3
  unfold strOfNums strOf
  congr 2
  rw [List.map_map]
  apply List.map_congr_left
  intro x _
  simp only [Function.comp, Int.toNat_natCast]
  apply UInt8.toNat_inj.1
  have := x.isLt
  simp
theorem Val.bytesStrNil {T U E len cap : Nat} {x : Operand} (hx : ev e x = some (.slice none len cap)) [hT : SliceT P T E] [hE : IntT P E .u8] [hU : StrT P U] :
    Val P n w0 own e hs (.convert T U x) (.string ByteArray.empty) := fun a w ty pos aft g d hr s => by
  have h := run_convert_bytes_nil (P := P) w T E hT.out hE.out len cap U hU.out
  simp only [execOp, hr.eval hx, Sem.run_bind, h, Result.andThen_ok, Sem.run_pure]
end
end V
end Go

/- V8: literals, make, copy. -/
namespace Go
namespace V
open Go.RowKit
set_option linter.unusedVariables false
set_option linter.unusedSimpArgs false

/-- struct types: where each field lies, and its cells -/
class StT (P : Program) (T : Nat) (pl : outParam (List (Nat × Nat))) (z : outParam (List Value)) : Prop where
  out : ∃ fs, P.underlying T = some (.struct fs) ∧ fs.toList.map (fun f => (f.offset, P.cellsOf f.type)) = pl ∧ (∀ f ∈ fs.toList, (P.info? f.type).isSome = true) ∧ zrO P T = some (.agg ⟨z⟩)
def stB (P : Program) (T : Nat) (pl : List (Nat × Nat)) : Bool := match P.underlying T with
  | some (.struct fs) => fs.toList.map (fun f => (f.offset, P.cellsOf f.type)) == pl && fs.toList.all fun f => (P.info? f.type).isSome
  | _ => false
theorem StT.of {P : Program} {T : Nat} {pl : List (Nat × Nat)} {z : List Value} (h : stB P T pl = true) (hz : zrO P T = some (.agg ⟨z⟩)) : StT P T pl z := by
  unfold stB at h
  split at h
  · rename_i fs hd
    rw [Bool.and_eq_true] at h
    exact ⟨fs, hd, by simpa using h.1, List.all_eq_true.1 h.2, hz⟩
  · cases h

/-- the parts laid into the cells -/
def fillL (pl : List (Nat × Nat)) : List Value → List (Nat × List Value) → Option (List Value)
  | cs, [] => some cs
  | cs, (i, vs) :: rest => match pl[i]? with
    | some (off, size) => if vs.length = size ∧ off + vs.length ≤ cs.length then fillL pl (splice cs off vs) rest else none
    | none => none
theorem foldl_set (vs : List Value) : ∀ (cs : List Value) (off k : Nat), off + k + vs.length ≤ cs.length →
    (vs.zipIdx k).foldl (fun (cs : Array Value) (p : Value × Nat) => cs.setIfInBounds (off + p.2) p.1) ⟨cs⟩ = ⟨splice cs (off + k) vs⟩ := by
  induction vs with
  | nil => intro cs off k h; simp [splice]
  | cons v vs ih =>
    intro cs off k h
    simp only [List.zipIdx_cons, List.foldl_cons]
    simp only [List.length_cons] at h
    have e1 : (⟨cs⟩ : Array Value).setIfInBounds (off + k) v = ⟨cs.set (off + k) v⟩ := by
      apply Array.ext'; simp
    rw [e1, ih _ off (k + 1) (by simp; omega)]
    congr 1
    have := list_seg_step cs (off + k) v vs (by omega)
    unfold splice
    rw [show off + (k + 1) = off + k + 1 from by omega]
    exact this
theorem fill_eq (place : Nat → Option (Nat × Nat)) (pl : List (Nat × Nat)) (hp : ∀ i os, pl[i]? = some os → place i = some os) : ∀ (parts : List (Nat × Value)) (cs out : List Value), fillL pl cs (parts.map fun p => (p.1, p.2.cells.toList)) = some out →
    Instr.fill place ⟨cs⟩ parts = some ⟨out⟩
  | [], cs, out, h => by simp [fillL] at h; simp [Instr.fill, h]
  | (i, v) :: rest, cs, out, h => by
    simp only [List.map_cons, fillL] at h
    unfold Instr.fill
    cases hpl : pl[i]? with
    | none => rw [hpl] at h; cases h
    | some os =>
      obtain ⟨off, size⟩ := os
      rw [hp i _ hpl]
      rw [hpl] at h
      simp only at h ⊢
      split at h
      · rename_i hc
        obtain ⟨h1, h2⟩ := hc
        simp only [Array.length_toList] at h1 h2
        have hcond : ¬ ((v.cells.size ≠ size || off + v.cells.size > (⟨cs⟩ : Array Value).size) = true) := by
          simp [h1]; omega
        rw [if_neg hcond]
        have := foldl_set v.cells.toList cs off 0 (by simp; omega)
        simp only [Nat.add_zero] at this
        have e2 : v.cells.zipIdx.foldl (fun cs (x : Value × Nat) => match x with | (c, j) => cs.setIfInBounds (off + j) c) (⟨cs⟩ : Array Value) = ⟨splice cs off v.cells.toList⟩ := by
          rw [← this, ← Array.foldl_toList, Array.toList_zipIdx]
        rw [e2]
        exact fill_eq place pl hp rest _ _ h
      · cases h

section
variable {P : Program} {n : Nat} {w0 : World} {own : List Nat} {e : Env} {hs : Hp}

def evp (e : Env) : List (Nat × Operand) → Option (List (Nat × Value))
  | [] => some []
  | (i, x) :: xs => match ev e x, evp e xs with
    | some v, some vs => some ((i, v) :: vs)
    | _, _ => none
theorem Rep.evps {a : Act} (h : Rep n a e) : ∀ {xs : List (Nat × Operand)} {vs : List (Nat × Value)}, evp e xs = some vs → xs.map (fun p => (p.1, a.eval p.2)) = vs
  | [], vs, hx => by simp [evp] at hx; simp [hx]
  | (i, x) :: xs, vs, hx => by
    simp only [evp] at hx
    split at hx
    · rename_i v vs' h1 h2
      simp at hx
      subst hx
      simp [h.eval h1, h.evps h2]
    · simp at hx
theorem mapM_fields (fs : List Field) (w : World) (h : ∀ f ∈ fs, (P.info? f.type).isSome = true) : (fs.mapM fun f => (do pure (f.offset, ← sizeOf f.type) : Sem (Nat × Nat))).run P w = .ok (fs.map fun f => (f.offset, P.cellsOf f.type)) w := by
  induction fs with
  | nil => simp
  | cons f fs ih =>
    have hf := h f (by simp)
    cases hi : P.info? f.type with
    | none => rw [hi] at hf; cases hf
    | some i =>
      have hs := run_sizeOf (P := P) (w := w) hi
      rw [List.mapM_cons]
      simp only [Sem.run_bind, hs, Result.andThen_ok, Sem.run_pure, ih (fun g hg => h g (by simp [hg])), List.map_cons]
theorem Val.build {T : Nat} {parts : List (Nat × Operand)} {vs : List (Nat × Value)} {pl : List (Nat × Nat)} {z out : List Value} (hv : evp e parts = some vs) [hT : StT P T pl z]
    (hf : fillL pl z (vs.map fun p => (p.1, p.2.cells.toList)) = some out) : Val P n w0 own e hs (.build T ⟨parts⟩) (.agg ⟨out⟩) := fun a w ty pos aft g d hr s => by
  obtain ⟨fs, h1, h2, h3, h4⟩ := hT.out
  have hps := hr.evps hv
  obtain ⟨i, hi, hz⟩ := (ZrV.of h4).out
  have hm := mapM_fields (P := P) fs.toList w h3
  have hfill := fill_eq (fun i => (fs.toList.map fun f => (f.offset, P.cellsOf f.type))[i]?) pl (by intro i os h; simp only [h2, h]) vs z out hf
  have hmA : (fs.mapM fun f => (do pure (f.offset, ← sizeOf f.type) : Sem (Nat × Nat))).run P w = .ok (fs.toList.map fun f => (f.offset, P.cellsOf f.type)).toArray w := by
    have e1 : fs = fs.toList.toArray := by simp
    rw [e1, List.mapM_toArray]
    have : ∀ (m : Sem (List (Nat × Nat))) l, m.run P w = .ok l w → (List.toArray <$> m).run P w = .ok l.toArray w := by
      intro m l hm
      have : (List.toArray <$> m) = (m >>= fun x => pure x.toArray) := by simp
      rw [this, Sem.run_bind, hm]; simp
    exact this _ _ (by simpa using hm)
  have hparts : (⟨parts⟩ : Array (Nat × Operand)).map (fun (i, x) => (i, a.eval x)) = ⟨vs⟩ := by
    apply Array.ext'
    simp only [Array.toList_map]
    exact hps
  simp only [execOp, hparts, Instr.build, Sem.run_bind, zeroValue, typeInfo, run_program, hi, hz, Sem.run_pure, Result.andThen_ok, run_underlying h1, hmA]
  have e3 : (fun x : Nat => (fs.toList.map fun f => (f.offset, P.cellsOf f.type)).toArray[x]?) = fun i => (fs.toList.map fun f => (f.offset, P.cellsOf f.type))[i]? := by
    funext x; simp
  simp only [Value.cells, e3, hfill, Sem.run_pure, Result.andThen_ok]
theorem Val.buildArr {T N E m : Nat} {parts : List (Nat × Operand)} {vs : List (Nat × Value)} {z out : List Value} (hv : evp e parts = some vs) [hT : ArrT P T N E] [hE : Sz P E m] [hz : ZrV P T (.agg ⟨z⟩)]
    (hf : fillL ((List.range N).map fun i => (i * m, m)) z (vs.map fun p => (p.1, p.2.cells.toList)) = some out) : Val P n w0 own e hs (.build T ⟨parts⟩) (.agg ⟨out⟩) := fun a w ty pos aft g d hr s => by
  have hps := hr.evps hv
  obtain ⟨i, hi, hzz⟩ := hz.out
  obtain ⟨j, hj, hm⟩ := hE.out
  have hfill := fill_eq (fun i => some (i * m, m)) _ (by
    intro i os h
    rw [List.getElem?_map] at h
    cases hr2 : (List.range N)[i]? with
    | none => rw [hr2] at h; cases h
    | some k =>
      rw [hr2] at h
      have := List.getElem?_eq_some_iff.1 hr2
      obtain ⟨h1, h2⟩ := this
      simp at h2
      subst h2
      simpa using h) vs z out hf
  have hparts : (⟨parts⟩ : Array (Nat × Operand)).map (fun (i, x) => (i, a.eval x)) = ⟨vs⟩ := by
    apply Array.ext'
    simp only [Array.toList_map]
    exact hps
  simp only [execOp, hparts, Instr.build, Sem.run_bind, zeroValue, sizeOf, typeInfo, run_program, hi, hzz, hj, hm, Sem.run_pure, Result.andThen_ok, run_underlying hT.out]
  simp only [Value.cells, hfill, Sem.run_pure, Result.andThen_ok]
/-- a slice written out -/
theorem Eff.buildSlice {T E m by_ len : Nat} {parts : List (Nat × Operand)} {vs : List (Nat × Value)} {z cs0 out : List Value} (hv : evp e parts = some vs) [hT : SliceT P T E] [hE : El P E m by_ z]
    (hb : len * m ≤ 16777216) (h0 : ((List.range (len * m)).map fun i => z[i % m]!) = cs0)
    (hf : fillL ((List.range len).map fun i => (i * m, m)) cs0 (vs.map fun p => (p.1, p.2.cells.toList)) = some out) :
    Eff P n w0 own e hs (.buildSlice T len ⟨parts⟩) (fun v hs' => ∃ b, v = .slice (some ⟨b, 0, none⟩) len len ∧ hs' = (b, .cells out E) :: hs) :=
  Eff.of_run fun a w ty pos aft g d hr s => by
    have hps := hr.evps hv
    obtain ⟨i, v, hi, hm, hby, hz, hvz, hzl⟩ := hE.out
    have hfill := fill_eq (fun i => some (i * m, m)) _ (by
      intro i os h
      rw [List.getElem?_map] at h
      cases hr2 : (List.range len)[i]? with
      | none => rw [hr2] at h; cases h
      | some k =>
        rw [hr2] at h
        have := List.getElem?_eq_some_iff.1 hr2
        obtain ⟨h1, h2⟩ := this
        simp at h2
        subst h2
        simpa using h) vs cs0 out hf
    have hparts : (⟨parts⟩ : Array (Nat × Operand)).map (fun (i, x) => (i, a.eval x)) = ⟨vs⟩ := by
      apply Array.ext'
      simp only [Array.toList_map]
      exact hps
    refine ⟨.slice (some ⟨w.heap.size, 0, none⟩) len len, _, w.alloc (Ch.cells out E).toObj, ?_, ⟨w.heap.size, rfl, rfl⟩, s.new _⟩
    have hne : ¬ (len * m > 2 ^ 24) := by omega
    by_cases hzero : len * m = 0
    · have e4 : (Array.range (len * m)).map (fun x => (#[] : Array Value)[x % (#[] : Array Value).size]!) = ⟨cs0⟩ := by
        subst h0; rw [hzero]; apply Array.ext'; simp
      simp only [execOp, hparts, Instr.buildSlice, Sem.run_bind, sizeOf, typeInfo, run_program, hi, hm, Sem.run_pure, Result.andThen_ok, run_underlying hT.out, if_neg hne, if_pos hzero, e4, hfill]
      simp [newRow, Ch.toObj]
    · have e4 : (Array.range (len * m)).map (fun x => (⟨z⟩ : Array Value)[x % (⟨z⟩ : Array Value).size]!) = ⟨cs0⟩ := by
        subst h0
        apply Array.ext'
        simp [hzl]
      simp only [execOp, hparts, Instr.buildSlice, Sem.run_bind, sizeOf, zeroValue, typeInfo, run_program, hi, hm, hz, hvz, Sem.run_pure, Result.andThen_ok, run_underlying hT.out, if_neg hne, if_neg hzero, e4, hfill]
      simp [newRow, Ch.toObj]
end
end V
end Go

/- V9: slices that are read, wherever they lie; byts and strings. -/
namespace Go
namespace V
open Go.RowKit
set_option linter.unusedVariables false
set_option linter.unusedSimpArgs false

/-- cells that are read at a slice's base, outside the blocks of 'no' -/
def Rd (w : World) (no : List Nat) (A : Option Addr) (vs : List Value) : Prop :=
  ∀ j v, vs[j]? = some v → ∃ b o, A = some ⟨b, o, none⟩ ∧ b ∉ no ∧ w.cell? ⟨b, o + j, none⟩ = some v
theorem Rd.nil (w : World) (no : List Nat) (A : Option Addr) : Rd w no A [] := fun j v h => by simp at h
theorem Rd.empty {w : World} {no : List Nat} {vs : List Value} (h : Rd w no none vs) : vs = [] := by
  cases vs with
  | nil => rfl
  | cons v vs => obtain ⟨b, o, h1, _⟩ := h 0 v (by simp); cases h1
theorem Rd.at_ {w0 : World} {own : List Nat} {hs : Hp} {A : Option Addr} {vs : List Value} (h : Rd w0 own A vs) {j : Nat} {v : Value} (hv : vs[j]? = some v) :
    ∃ b o, A = some ⟨b, o, none⟩ ∧ At w0 own hs ⟨b, o + j, none⟩ [v] := by
  obtain ⟨b, o, h1, h2, h3⟩ := h j v hv
  exact ⟨b, o, h1, At.old1 h3 h2⟩
theorem Rd.lt {w : World} {no : List Nat} {A : Option Addr} {vs : List Value} (h : Rd w no A vs) {j : Nat} {v : Value} (hv : vs[j]? = some v) : ∃ b o, A = some ⟨b, o, none⟩ ∧ b < w.heap.size := by
  obtain ⟨b, o, h1, h2, h3⟩ := h j v hv
  refine ⟨b, o, h1, ?_⟩
  unfold World.cell? at h3
  split at h3
  · rename_i c T f hc; exact (Array.getElem?_eq_some_iff.1 hc).1
  · cases h3
/-- what was read at the start is read in each world that follows, and does not lie in a new block -/
theorem Rd.keep {w0 w : World} {own no : List Nat} {hs : Hp} {A : Option Addr} {vs : List Value} (h : Rd w0 own A vs) (s : Sat w0 own hs w) (hn : ∀ b ∈ no, b ∈ own ∨ w0.heap.size ≤ b) : Rd w no A vs := by
  intro j v hv
  obtain ⟨b, o, h1, h2, h3⟩ := h j v hv
  obtain ⟨b', o', h1', hlt⟩ := h.lt hv
  rw [h1] at h1'
  cases h1'
  refine ⟨b, o, h1, fun hb => ?_, s.cell_old h3 h2⟩
  rcases hn b hb with h4 | h4
  · exact h2 h4
  · omega
theorem Rd.keep0 {w0 w : World} {own : List Nat} {hs : Hp} {A : Option Addr} {vs : List Value} (h : Rd w0 own A vs) (s : Sat w0 own hs w) : Rd w [] A vs := h.keep s (by simp)
/-- what a block holds is read -/
theorem Rd.chunk {w0 w : World} {own no : List Nat} {hs : Hp} (s : Sat w0 own hs w) {b o T : Nat} {l vs : List Value} [hb : Mem b (.cells l T) hs] (hn : b ∉ no) (h : ∀ j v, vs[j]? = some v → l[o + j]? = some v) : Rd w no (some ⟨b, o, none⟩) vs :=
  fun j v hv => ⟨b, o, rfl, hn, by rw [s.cell hb.out]; exact h j v hv⟩
theorem Rd.mono {w : World} {no : List Nat} {A : Option Addr} {vs vs' : List Value} (h : Rd w no A vs) (k : ∀ (j : Nat) (v : Value), vs'[j]? = some v → vs[j]? = some v) : Rd w no A vs' := fun j v hv => h j v (k j v hv)
theorem Rd.src {P : Program} {w : World} {no : List Nat} {A : Option Addr} {vs : List Value} {m k c : Nat} (h : Rd w no A vs) (hl : vs.length = k * m) (hm : 0 < m) : Src P w m (.slice A k c) k vs := by
  cases A with
  | none =>
    have := h.empty
    subst this
    have : k = 0 := by
      rcases Nat.mul_eq_zero.1 hl.symm with h1 | h1 <;> omega
    subst this
    exact .nil
  | some a =>
    refine .cells hl fun j v hv => ?_
    obtain ⟨b, o, h1, _, h3⟩ := h j v hv
    cases h1
    rw [add_none]; exact h3

theorem OwnS.pos {E m n : Nat} {v : Value} {vs : List Value} {h : Hp} (k : OwnS E m v n vs h) (hn : 0 < n) :
    ∃ b o cap l, v = .slice (some ⟨b, o, none⟩) n cap ∧ h = [(b, .cells l E)] ∧ n ≤ cap ∧ o + cap * m ≤ l.length ∧ (l.drop o).take (n * m) = vs ∧ vs.length = n * m := by
  rcases k.2 with ⟨_, h0, _⟩ | ⟨b, o, cap, l, h1, h2, h3, h4, h5⟩
  · omega
  · exact ⟨b, o, cap, l, h1, h2, h3, h4, h5, k.1⟩

theorem Mem.sub {b : Nat} {c : Ch} {F hs : Hp} (f : F ⊆ hs) [h : Mem b c F] : Mem b c hs := ⟨f h.out⟩
/-- what is left in memory is let go -/
theorem Does.pure {P : Program} {g : Nat} {vals : List Value} {pre : Hp} {w : World} {Φ : Value → Prop} (h : Does P g vals pre w (fun v _ => Φ v)) : Does P g vals pre w (fun v hs => Φ v ∧ hs = []) :=
  fun a b => (h a b).mono fun x w' ⟨v, hs', h1, h2, h3⟩ => ⟨v, [], h1, ⟨h2, rfl⟩, h3.sub (List.nil_sublist _)⟩
def byts (xs : List (BitVec 8)) : List Value := xs.map fun x => .int .u8 x.toNat
theorem byts_length (xs : List (BitVec 8)) : (byts xs).length = xs.length := by simp [byts]
theorem byts_append (xs ys : List (BitVec 8)) : byts (xs ++ ys) = byts xs ++ byts ys := by simp [byts]
theorem byts_ones (xs : List (BitVec 8)) : ones (byts xs) = true := by simp [ones, byts, Value.oneCell']
theorem byts_get {xs : List (BitVec 8)} {j : Nat} (h : j < xs.length) : (byts xs)[j]? = some (.int .u8 (xs[j]).toNat) := by simp [byts, h]
theorem strOf_toList (xs : List (BitVec 8)) : (strOf xs).toList = xs.map UInt8.ofBitVec := by
  rw [ByteArray.toList_eq]; simp [strOf]
theorem strOf_size (xs : List (BitVec 8)) : (strOf xs).size = xs.length := by simp [strOf, ByteArray.size]
theorem strOf_append (xs ys : List (BitVec 8)) : strOf xs ++ strOf ys = strOf (xs ++ ys) := by
  simp only [strOf, ByteArray.mk_append_mk, List.map_append]
theorem strOf_inj {xs ys : List (BitVec 8)} : (strOf xs).toList = (strOf ys).toList ↔ xs = ys := by
  rw [strOf_toList, strOf_toList]
  constructor
  · intro h
    have := congrArg (List.map UInt8.toBitVec) h
    have e1 : ∀ l : List (BitVec 8), (l.map UInt8.ofBitVec).map UInt8.toBitVec = l := fun l => by
      induction l with
      | nil => rfl
      | cons x l ih => simp only [List.map_cons, ih]
    rw [e1, e1] at this; exact this
  · rintro rfl; rfl

section
variable {P : Program} {n : Nat} {w0 : World} {own : List Nat} {e : Env} {hs : Hp}
theorem Val.bytesStrR {T U E len cap : Nat} {x : Operand} {A : Option Addr} {xs : List (BitVec 8)} (hx : ev e x = some (.slice A len cap)) [hT : SliceT P T E] [hE : IntT P E .u8] [hU : StrT P U]
    (hl : xs.length = len) (hc : ∀ w, Sat w0 own hs w → Rd w [] A (byts xs)) : Val P n w0 own e hs (.convert T U x) (.string (strOf xs)) := fun a w ty pos aft g d hr s => by
  have hr2 := hc w s
  have key : (convert T U (.slice A len cap)).run P w = .ok (.string (strOf xs)) w := by
    cases A with
    | none =>
      have h0 := hr2.empty
      have : xs = [] := by simpa [byts] using h0
      subst this
      exact run_convert_bytes_nil (P := P) w T E hT.out hE.out len cap U hU.out
    | some ad =>
      have hload : (loadCells ad len).run P w = .ok ((xs.map fun x => (x.toNat : Int)).map (Value.int .u8)).toArray w := by
        have := run_loadCells_list (P := P) w ad (byts xs) (fun j v hv => by
          obtain ⟨b, o, h1, _, h3⟩ := hr2 j v hv
          cases h1
          rw [add_none]; exact h3)
        simpa [byts, hl, Function.comp_def] using this
      rw [run_convert_bytes_string w T U E _ len cap hT.out hE.out hU.out, run_bytesToString w _ len cap _ hload, foldl_push_bytes]
      congr 3
      simp [ByteArray.empty, ByteArray.emptyWithCapacity]
      show List.map _ xs = _
      apply List.map_congr_left
      intro x _
      simp only [Function.comp, Int.toNat_natCast]
      apply UInt8.toNat_inj.1
      have := x.isLt
      simp
  simp only [execOp, hr.eval hx, Sem.run_bind, key, Result.andThen_ok, Sem.run_pure]
theorem Val.add_string {T U : Nat} {x y : Operand} {a b : ByteArray} (hx : ev e x = some (.string a)) (hy : ev e y = some (.string b)) (h : a.size + b.size ≤ 9223372036854775807) :
    Val P n w0 own e hs (.binOp .add T x y U) (.string (a ++ b)) := fun _ w ty pos aft g d hr s => by
  have h1 := run_string_add_sum (P := P) w a b h
  simp [execOp, hr.eval hx, hr.eval hy, eqGuard, binOp, h1]
end
end V
end Go

/- VH: regions that draw their order, whose head turns nothing and whose tail is a chain: they run as they are written. -/
namespace Go
namespace V
open Go.RowKit
set_option linter.unusedVariables false
set_option linter.unusedSimpArgs false

/-- the operations, none of which turns the world -/
def JH (P : Program) (n : Nat) (w0 : World) (own : List Nat) (ops : Array Oper) (l : List Oper) (e : Env) (hs : Hp) (K : Env → Prop) : Prop :=
  ∀ a w, Rep n a e → Sat w0 own hs w → ∀ L : Act → Prop, (∀ e' a', Rep n a' e' → K e' → L a') → wpStill P ops w L l a

section
variable {P : Program} {n : Nat} {w0 : World} {own : List Nat} {e : Env} {hs : Hp} {ops : Array Oper} {rest : List Oper} {K : Env → Prop}
variable {d : Nat} {ty : TypeId} {pos : String} {aft : Array Edge} {g : Option (Nat × Bool)}

theorem JC.drawT {id : Nat} {l : List Oper} {Q : Post} (k : Nat) (hm : P.follows .mixedOrders = true) (hB : Region.lexTailB .any l.toArray k = true)
    (h : JH P n w0 own l.toArray (l.take k) e hs (fun e' => JL P n w0 own l.toArray (l.drop k) e' hs (fun e hs => Q .normal e hs))) : JC P n w0 own (.region id l.toArray true) e hs Q := by
  intro a w hr s
  refine wp_region_still_tail k hm hB (h a _ hr s.drew _ fun e' a' hr' hk => ?_)
  exact hk a' _ hr' s.drew _ fun e2 hs2 a2 w2 r2 s2 k2 => ⟨e2, hs2, r2, s2, k2⟩
theorem JC.drawS {id : Nat} {l : List Oper} {Q : Post} (hm : P.follows .mixedOrders = true) (hB : Region.lexB .any l.toArray = true)
    (h : JH P n w0 own l.toArray l e hs (fun e' => Q .normal e' hs)) : JC P n w0 own (.region id l.toArray true) e hs Q := by
  intro a w hr s
  refine wp_region_still_lit hm hB (h a _ hr s.drew _ fun e' a' hr' hk => ?_)
  exact ⟨e', hs, hr', s.drew, hk⟩
theorem JH.nil (h : K e) : JH P n w0 own ops [] e hs K := fun a w hr s L hL => hL _ _ hr h
theorem JH.v {op : Op} {v : Value} (h : Val P n w0 own e hs op v) (k : JH P n w0 own ops rest ((d, v) :: e) hs K) (hdn : Nat.blt d n = true := by rfl) (hg : wantB ops e g = some true := by rfl) :
    JH P n w0 own ops (⟨some d, op, ty, pos, aft, g⟩ :: rest) e hs K := by
  intro a w hr s L hL
  unfold wpStill
  rw [if_pos (wanted_of hr hg), Oper.still, h a w ty pos aft g (some d) hr s, Oper.stillUpon_value]
  exact k _ _ (hr.put (Nat.le_of_ble_eq_true hdn) v) s L hL
theorem JH.sk {op : Op} (k : JH P n w0 own ops rest ((d, undef) :: e) hs K) (hdn : Nat.blt d n = true := by rfl) (hg : wantB ops e g = some false := by rfl) :
    JH P n w0 own ops (⟨some d, op, ty, pos, aft, g⟩ :: rest) e hs K := by
  intro a w hr s L hL
  unfold wpStill
  rw [if_neg (by rw [wanted_of hr hg]; simp)]
  exact k _ _ (hr.put (Nat.le_of_ble_eq_true hdn) undef) s L hL
theorem JH.split {l : List Oper} {t : Nat} {p : Prop} [Decidable p] (ht : get e t = some (.bool (decide p))) (h1 : p → JH P n w0 own ops l ((t, .bool true) :: e) hs K)
    (h0 : ¬ p → JH P n w0 own ops l ((t, .bool false) :: e) hs K) : JH P n w0 own ops l e hs K := by
  by_cases hp : p
  · rw [decide_eq_true hp] at ht
    exact fun a w hr s => h1 hp a w (hr.same ht) s
  · rw [decide_eq_false hp] at ht
    exact fun a w hr s => h0 hp a w (hr.same ht) s
theorem JH.splitB {l : List Oper} {t : Nat} {b : Bool} (ht : get e t = some (.bool b)) (h1 : b = true → JH P n w0 own ops l ((t, .bool true) :: e) hs K)
    (h0 : b = false → JH P n w0 own ops l ((t, .bool false) :: e) hs K) : JH P n w0 own ops l e hs K := by
  cases b
  · exact fun a w hr s => h0 rfl a w (hr.same ht) s
  · exact fun a w hr s => h1 rfl a w (hr.same ht) s
end

theorem Rd.base {w : World} {no : List Nat} {A : Option Addr} {vs : List Value} (h : Rd w no A vs) (hn : 0 < vs.length) :
    ∃ b o, A = some ⟨b, o, none⟩ ∧ b ∉ no ∧ ∀ j v, vs[j]? = some v → w.cell? ⟨b, o + j, none⟩ = some v := by
  obtain ⟨b, o, h1, h2, h3⟩ := h 0 vs[0] (by simp)
  refine ⟨b, o, h1, h2, fun j v hv => ?_⟩
  obtain ⟨b', o', h1', h2', h3'⟩ := h j v hv
  rw [h1] at h1'; cases h1'; exact h3'

/-! ### bits of 64 -/
theorem ofInt_nat' (m : Nat) (b : BitVec m) : BitVec.ofInt m (b.toNat : Int) = b := by
  apply BitVec.eq_of_toNat_eq; simp
theorem wrap_u64 (b : BitVec 64) : IntKind.u64.wrap (b.toNat : Int) = b.toNat := by
  have := b.isLt
  simp [IntKind.wrap, IntKind.bits, IntKind.signed]; omega
theorem or64 (a b : BitVec 64) : bop .or .u64 (a.toNat : Int) (b.toNat : Int) = (a ||| b).toNat := by
  have h := wrap_u64 (a ||| b)
  simp only [bop, IntKind.bits, ofInt_nat'] at *; exact h
theorem conv8_64 (a : BitVec 8) : IntKind.u64.wrap (a.toNat : Int) = (a.setWidth 64).toNat := by
  have := a.isLt
  simp [IntKind.wrap, IntKind.bits, IntKind.signed]
theorem shl64 (a : BitVec 64) (s : Nat) (hs : s ≤ 64) : IntKind.u64.wrap ((a.toNat : Int) * 2 ^ min s IntKind.u64.bits) = (a <<< s).toNat := by
  rw [show min s IntKind.u64.bits = s from by simp [IntKind.bits]; omega]
  rw [BitVec.toNat_shiftLeft, Nat.shiftLeft_eq]
  simp [IntKind.wrap, IntKind.bits, IntKind.signed]
theorem add64 (a b : BitVec 64) : IntKind.u64.wrap ((a.toNat : Int) + (b.toNat : Int)) = (a + b).toNat := by
  rw [BitVec.toNat_add]
  simp [IntKind.wrap, IntKind.bits, IntKind.signed]
end V
end Go

/- VI: bytes of a constant text: their row gets a mark. -/
namespace Go
namespace V
open Go.RowKit
set_option linter.unusedVariables false
set_option linter.unusedSimpArgs false

/-- a row with its mark behind the last cell -/
def marked (l : List Value) (T : Nat) : Obj := .cells ⟨l⟩ T (l.length, l.length + 1)
theorem Rd.marked {w0 w : World} {own no : List Nat} {hs : Hp} (s : Sat w0 own hs w) {b o T : Nat} {l vs : List Value} [hb : Mem b (.obj (marked l T)) hs] (hn : b ∉ no) (h : ∀ j v, vs[j]? = some v → l[o + j]? = some v) : Rd w no (some ⟨b, o, none⟩) vs :=
  fun j v hv => ⟨b, o, rfl, hn, by
    have h1 : w.heap[b]? = some (.cells ⟨l⟩ T (l.length, l.length + 1)) := s.has b _ hb.out
    simp [World.cell?, h1, h j v hv]⟩
section
variable {P : Program} {n : Nat} {w0 : World} {own : List Nat} {e : Env} {hs : Hp}
theorem Eff.convMark {T E b o k c U : Nat} {x : Operand} {l : List Value} {hs' : Hp} (hx : ev e x = some (.slice (some ⟨b, o, none⟩) k c)) [hT : SliceT P T E] [hE : IntT P E .u8] [hb : Mem b (.cells l U) hs]
    [u : UpdI b (.obj (marked l U)) hs hs'] : Eff P n w0 own e hs (.convert T T x) (fun v h => v = .slice (some ⟨b, o, none⟩) k c ∧ h = hs') :=
  Eff.of_run fun a w ty pos aft g d hr s => by
    have hrow := s.row hb.out
    have hlt : b < w.heap.size := (Array.getElem?_eq_some_iff.1 hrow).1
    have hsh : w.shape? b = some (U, l.length) := by unfold World.shape?; rw [hrow]; rfl
    refine ⟨_, hs', w.freeze ⟨b, l.length, none⟩ 1, ?_, ⟨rfl, rfl⟩, ?_⟩
    · have key : (convert T T (.slice (some ⟨b, o, none⟩) k c)).run P w = .ok (.slice (some ⟨b, o, none⟩) k c) (w.freeze ⟨b, l.length, none⟩ 1) := by
        simp [convert, run_underlying hT.out, run_underlying hE.out, markStringish, hsh]
      simp [execOp, hr.eval hx, key]
    · refine s.upd u.out ?_ ?_ ?_ rfl rfl rfl
      · unfold World.freeze; rw [if_neg (by decide)]; simp
      · intro i hi
        unfold World.freeze; rw [if_neg (by decide)]
        simp [Array.getElem?_modify, Ne.symm hi]
      · unfold World.freeze; rw [if_neg (by decide)]
        simp [Array.getElem?_modify, hrow, Ch.toObj, V.marked]
end
end V
end Go

/- VJ: '&&' and '||' inside a region: the guarded operations are walked once, their results forgotten behind the pick. -/
namespace Go
namespace V
open Go.RowKit
set_option linter.unusedVariables false
set_option linter.unusedSimpArgs false

/-- 'e'' is 'e', with k things laid on it, in slots that 'e' does not speak of -/
def Pop (k : Nat) (e' e : Env) : Prop := e'.drop k = e ∧ ((e'.take k).all fun p => (get e p.1).isNone) = true
theorem sub_app : ∀ (x e : Env), (x.all fun p => (get e p.1).isNone) = true → Sub e (x ++ e)
  | [], e, _ => Sub.refl e
  | p :: x, e, h => by
    simp only [List.all_cons, Bool.and_eq_true] at h
    intro t v hv
    show get (p :: (x ++ e)) t = some v
    unfold get
    cases hb : Nat.beq p.1 t with
    | true =>
      have := Nat.eq_of_beq_eq_true hb
      rw [this, hv] at h
      simp at h
    | false => exact sub_app x e h.2 t v hv
theorem Pop.sub {k : Nat} {e' e : Env} (h : Pop k e' e) : Sub e e' := by
  obtain ⟨h1, h2⟩ := h
  have := sub_app (e'.take k) e h2
  rw [← h1] at this ⊢
  rwa [List.take_append_drop] at this

def skOne (ops : Array Oper) (e : Env) (o : Oper) : Bool := match o.guard with
  | none => false
  | some (j, want) => match (ops[j]?).bind (·.dst) with
    | some t => match get e t with
      | some (.bool b) => !(b == want)
      | some (.tuple ⟨[]⟩) => true
      | _ => false
    | none => false
/-- all of these are passed over -/
def skB (ops : Array Oper) (n : Nat) : List Oper → Env → Option Env
  | [], e => some e
  | o :: l, e => match o.dst with
    | some d => if Nat.blt d n && (get e d).isNone && skOne ops e o then skB ops n l ((d, undef) :: e) else none
    | none => none

section
variable {P : Program} {n : Nat} {w0 : World} {own : List Nat} {e : Env} {hs : Hp} {ops : Array Oper} {rest l : List Oper} {K : Env → Hp → Prop}
variable {d : Nat} {ty : TypeId} {pos : String} {aft : Array Edge} {g : Option (Nat × Bool)}

theorem skip_step {o : Oper} {dd : Nat} {a : Act} (hr : Rep n a e) (ho : o.dst = some dd) (h : skOne ops e o = true) : Region.wanted o (yielded ops a.tmps) = false := by
  unfold Region.wanted
  unfold skOne at h
  cases hg : o.guard with
  | none => rw [hg] at h; cases h
  | some jw =>
    obtain ⟨j, want⟩ := jw
    rw [hg] at h
    simp only at h ⊢
    cases hd : (ops[j]?).bind (·.dst) with
    | none => rw [hd] at h; cases h
    | some t =>
      rw [hd] at h
      simp only at h
      cases ht : get e t with
      | none => rw [ht] at h; cases h
      | some v =>
        rw [ht] at h
        have hat := hr.at_ t v ht
        unfold yielded
        rw [hd]
        simp only [Option.bind_some, hat]
        split at h
        · rename_i b hb
          cases hb
          cases b <;> cases want <;> simp_all
        · rename_i hb
          cases hb
          cases want <;> rfl
        · cases h
theorem JL.skips : ∀ {l : List Oper} {e e1 : Env}, skB ops n l e = some e1 → (∀ e1', Sub e e1' → JL P n w0 own ops [] e1' hs K) → JL P n w0 own ops l e hs K
  | [], e, e1, h, k => k e (Sub.refl e)
  | o :: l, e, e1, h, k => by
    unfold skB at h
    cases ho : o.dst with
    | none => rw [ho] at h; cases h
    | some dd =>
      rw [ho] at h
      simp only at h
      split at h
      · rename_i hc
        rw [Bool.and_eq_true, Bool.and_eq_true] at hc
        obtain ⟨⟨c1, c2⟩, c3⟩ := hc
        intro a w hr s Q hq
        unfold wpList
        rw [if_neg (by rw [skip_step hr ho c3]; simp), ho]
        refine JL.skips h (fun e1' hs' => k e1' (Sub.trans ?_ hs')) _ _ (hr.put (Nat.le_of_ble_eq_true c1) undef) s Q hq
        exact sub_app [(dd, undef)] e (by simp [c2])
      · cases h
theorem JL.app {l1 l2 : List Oper} (h : JL P n w0 own ops l1 e hs (fun e' hs' => JL P n w0 own ops l2 e' hs' K)) : JL P n w0 own ops (l1 ++ l2) e hs K := by
  intro a w hr s Q hq
  have key : ∀ (l1 : List Oper) (a : Act) (w : World), wpList P ops (fun x a w => match x with | .normal => wpList P ops Q l2 a w | x => Q x a w) l1 a w → wpList P ops Q (l1 ++ l2) a w := by
    intro l1
    induction l1 with
    | nil => intro a w h; exact h
    | cons o l1 ih =>
      intro a w h
      unfold wpList at h
      rw [List.cons_append]
      unfold wpList
      split
      · rename_i hw
        rw [if_pos hw] at h
        rcases h with h | ⟨h1, h2⟩
        · refine .inl ?_
          unfold Oper.wp at *
          generalize (execOp a.eval o).run P w = r at *
          cases r with
          | ok nx w' =>
            cases nx with
            | value v => exact ih _ _ h
            | skip => exact ih _ _ h
            | defer d => exact ih _ _ h
            | enter f args =>
              refine Calls.mono h ?_
              rintro x w'' hx
              cases x with
              | returned v => exact ih _ _ hx
              | panicked c => exact hx
              | outgrown => exact hx
            | row r args => exact Rows.mono h fun v w'' hx => ih _ _ hx
            | _ => exact h
          | halt x w' => cases x <;> exact h
        · exact .inr ⟨h1, h2⟩
      · rename_i hw
        rw [if_neg hw] at h
        exact ih _ _ h
  exact key l1 a w (h a w hr s _ fun e' hs' a' w' r s' kk => kk a' w' r s' Q hq)

/-- '&&' -/
theorem JL.and {b1 b2 : Bool} (t y m k : Nat) (hl : l.drop m = ⟨some d, .pick (.tmp t) (.tmp y) (.const (.bool false)), ty, pos, aft, g⟩ :: rest) (ht : get e t = some (.bool b1))
    (h : b1 = true → JL P n w0 own ops (l.take m) ((t, .bool true) :: e) hs (fun e' hs' => hs' = hs ∧ get e' y = some (.bool b2) ∧ Pop k e' ((t, .bool true) :: e)))
    (kk : JL P n w0 own ops rest ((d, .bool (b1 && b2)) :: e) hs K)
    (hsk : (skB ops n (l.take m) ((t, .bool false) :: e)).isSome = true := by rfl)
    (hdn : Nat.blt d n = true := by rfl) (hg : wantB ops e g = some true := by rfl) : JL P n w0 own ops l e hs K := by
  rw [← List.take_append_drop m l, hl]
  refine JL.app ?_
  have fin : ∀ (e1 : Env) (c : Value), Sub e e1 → get e1 y = some c ∨ b1 = false → (b1 = true → c = .bool b2) → JL P n w0 own ops (⟨some d, .pick (.tmp t) (.tmp y) (.const (.bool false)), ty, pos, aft, g⟩ :: rest) e1 hs K := by
    intro e1 c hsub hy hc a w hr s Q hq
    have hr' := hr.sub hsub
    unfold wpList
    rw [if_pos (wanted_of hr' hg)]
    refine .inl ?_
    have e1t := hr.eval (x := .tmp t) (hsub t _ ht)
    have hrun : (execOp a.eval ⟨some d, .pick (.tmp t) (.tmp y) (.const (.bool false)), ty, pos, aft, g⟩).run P w = .ok (.value (.bool (b1 && b2))) w := by
      cases hb : b1 with
      | false =>
        rw [hb] at e1t
        have e3 : ∀ v, a.eval (.const v) = v := fun _ => rfl
        simp [execOp, e1t, asBool, e3]
      | true =>
        rw [hb] at e1t
        rcases hy with hy | hy
        · rw [hc hb] at hy
          have e2 := hr.eval (x := .tmp y) hy
          simp [execOp, e1t, e2, asBool]
        · rw [hb] at hy; cases hy
    simp only [Oper.wp, hrun, Oper.upon_value]
    exact kk _ _ (hr'.put (Nat.le_of_ble_eq_true hdn) _) s Q hq
  cases hb : b1 with
  | true =>
    rw [hb] at ht
    have hsub : Sub e ((t, .bool true) :: e) := fun s v hv => by
      unfold get
      cases hb : Nat.beq t s with
      | true => have := Nat.eq_of_beq_eq_true hb; subst this; rw [ht] at hv; simpa using hv
      | false => exact hv
    intro a w hr s
    refine (h hb).mono (fun e' hs' ⟨h1, h2, h3⟩ => ?_) a w (hr.same ht) s
    subst h1
    exact fin e' (.bool b2) (hsub.trans h3.sub) (.inl h2) (fun _ => rfl)
  | false =>
    rw [hb] at ht
    have hsub : Sub e ((t, .bool false) :: e) := fun s v hv => by
      unfold get
      cases hb : Nat.beq t s with
      | true => have := Nat.eq_of_beq_eq_true hb; subst this; rw [ht] at hv; simpa using hv
      | false => exact hv
    obtain ⟨e1, he1⟩ := Option.isSome_iff_exists.1 hsk
    intro a w hr s
    exact JL.skips he1 (fun e1' hs' => JL.nil (fin e1' (.bool b2) (hsub.trans hs') (.inr hb) (fun _ => rfl))) a w (hr.same ht) s
/-- '||' -/
theorem JL.or {b1 b2 : Bool} (t y m k : Nat) (hl : l.drop m = ⟨some d, .pick (.tmp t) (.const (.bool true)) (.tmp y), ty, pos, aft, g⟩ :: rest) (ht : get e t = some (.bool b1))
    (h : b1 = false → JL P n w0 own ops (l.take m) ((t, .bool false) :: e) hs (fun e' hs' => hs' = hs ∧ get e' y = some (.bool b2) ∧ Pop k e' ((t, .bool false) :: e)))
    (kk : JL P n w0 own ops rest ((d, .bool (b1 || b2)) :: e) hs K)
    (hsk : (skB ops n (l.take m) ((t, .bool true) :: e)).isSome = true := by rfl)
    (hdn : Nat.blt d n = true := by rfl) (hg : wantB ops e g = some true := by rfl) : JL P n w0 own ops l e hs K := by
  rw [← List.take_append_drop m l, hl]
  refine JL.app ?_
  have fin : ∀ (e1 : Env) (c : Value), Sub e e1 → get e1 y = some c ∨ b1 = true → (b1 = false → c = .bool b2) → JL P n w0 own ops (⟨some d, .pick (.tmp t) (.const (.bool true)) (.tmp y), ty, pos, aft, g⟩ :: rest) e1 hs K := by
    intro e1 c hsub hy hc a w hr s Q hq
    have hr' := hr.sub hsub
    unfold wpList
    rw [if_pos (wanted_of hr' hg)]
    refine .inl ?_
    have e1t := hr.eval (x := .tmp t) (hsub t _ ht)
    have hrun : (execOp a.eval ⟨some d, .pick (.tmp t) (.const (.bool true)) (.tmp y), ty, pos, aft, g⟩).run P w = .ok (.value (.bool (b1 || b2))) w := by
      cases hb : b1 with
      | true =>
        rw [hb] at e1t
        have e3 : ∀ v, a.eval (.const v) = v := fun _ => rfl
        simp [execOp, e1t, asBool, e3]
      | false =>
        rw [hb] at e1t
        rcases hy with hy | hy
        · rw [hc hb] at hy
          have e2 := hr.eval (x := .tmp y) hy
          simp [execOp, e1t, e2, asBool]
        · rw [hb] at hy; cases hy
    simp only [Oper.wp, hrun, Oper.upon_value]
    exact kk _ _ (hr'.put (Nat.le_of_ble_eq_true hdn) _) s Q hq
  cases hb : b1 with
  | false =>
    rw [hb] at ht
    have hsub : Sub e ((t, .bool false) :: e) := fun s v hv => by
      unfold get
      cases hb : Nat.beq t s with
      | true => have := Nat.eq_of_beq_eq_true hb; subst this; rw [ht] at hv; simpa using hv
      | false => exact hv
    intro a w hr s
    refine (h hb).mono (fun e' hs' ⟨h1, h2, h3⟩ => ?_) a w (hr.same ht) s
    subst h1
    exact fin e' (.bool b2) (hsub.trans h3.sub) (.inl h2) (fun _ => rfl)
  | true =>
    rw [hb] at ht
    have hsub : Sub e ((t, .bool true) :: e) := fun s v hv => by
      unfold get
      cases hb : Nat.beq t s with
      | true => have := Nat.eq_of_beq_eq_true hb; subst this; rw [ht] at hv; simpa using hv
      | false => exact hv
    obtain ⟨e1, he1⟩ := Option.isSome_iff_exists.1 hsk
    intro a w hr s
    exact JL.skips he1 (fun e1' hs' => JL.nil (fin e1' (.bool b2) (hsub.trans hs') (.inr hb) (fun _ => rfl))) a w (hr.same ht) s
end
end V
end Go

/- VK: calls that leave a value and nothing else. -/
namespace Go
namespace V
open Go.RowKit
set_option linter.unusedVariables false
set_option linter.unusedSimpArgs false

/-- the call returns 'v', whatever it is lent -/
abbrev Is (P : Program) (g : Nat) (vals : List Value) (w : World) (v : Value) : Prop := Does P g vals [] w (fun u hs => u = v ∧ hs = [])
theorem vb {a b : Bool} (h : a = true ↔ b = true) : Value.bool a = Value.bool b := congrArg Value.bool (Bool.eq_iff_iff.2 h)
section
variable {P : Program} {n : Nat} {w0 : World} {own : List Nat} {e : Env} {hs F : Hp} {ops : Array Oper} {rest l : List Oper} {K : Env → Hp → Prop}
variable {d : Nat} {ty : TypeId} {pos : String} {aft : Array Edge} {gd : Option (Nat × Bool)} {m : Nat} {listed : Array Bool}

/-- a store of a whole block -/
theorem Eff.sw {T m b U : Nat} {x y : Operand} {vs l : List Value} {hs' : Hp} (hx : ev e x = some (.pointer (some ⟨b, 0, none⟩))) (hy : ev e y = some (.agg ⟨vs⟩)) [hT : Sz P T m] [hb : Mem b (.cells l U) hs]
    [u : UpdI b (.cells vs U) hs hs'] (hm : vs.length = m := by rfl) (h1 : ones vs = true := by rfl) (ho : l.length = m := by rfl) : Eff P n w0 own e hs (.store T x y) (fun v h => v = undef ∧ h = hs') :=
  Eff.storeW hx hy hm h1 ho
theorem JL.pc {g : Nat} {f : Operand} {args : List Operand} {at_ : Array TypeId} {cap vals : List Value} {v : Value}
    (hf : ev e f = some (.func (.func g) #[] ⟨cap⟩)) (ha : evs e args = some vals) (hc : ∀ w, Sat w0 own hs w → Is P g (vals ++ cap) w v) (k : JL P n w0 own ops rest ((d, v) :: e) hs K) [hg : FnT P g]
    (hdn : Nat.blt d n = true := by rfl) (hw : wantB ops e gd = some true := by rfl) :
    JL P n w0 own ops (⟨some d, .call { callee := .value f, args := ⟨args⟩, argTypes := at_ }, ty, pos, aft, gd⟩ :: rest) e hs K :=
  JL.ef (.call0 hf ha hc) (fun _ _ ⟨_, ⟨h1, h2⟩, h3⟩ => by subst h1; subst h2; subst h3; exact k) hdn hw
theorem JD.pc {g : Nat} {f : Operand} {args : List Operand} {at_ : Array TypeId} {cap vals : List Value} {v : Value} (i : Nat)
    (hi : ops[i]? = some ⟨some d, .call { callee := .value f, args := ⟨args⟩, argTypes := at_ }, ty, pos, aft, gd⟩) (ho : onlyB ops listed i = true)
    (hf : ev e f = some (.func (.func g) #[] ⟨cap⟩)) (ha : evs e args = some vals) (hc : ∀ w, Sat w0 own hs w → Is P g (vals ++ cap) w v) (k : JD P n w0 own ops F m (listed.setIfInBounds i true) ((d, v) :: e) hs K) [hg : FnT P g]
    (hdn : Nat.blt d n = true := by rfl) (hw : wantB ops e gd = some true := by rfl) :
    JD P n w0 own ops F (m + 1) listed e hs K :=
  JD.ef i hi ho (.call0 hf ha hc) (fun _ _ ⟨_, ⟨h1, h2⟩, h3⟩ => by subst h1; subst h2; subst h3; exact k) (fun _ _ ⟨_, ⟨_, h2⟩, h3⟩ f => by subst h2; subst h3; exact f) hdn hw
end
end V
end Go

/- VL: regions that draw their order and end with one store: what is held is held up to that store. -/
namespace Go
namespace V
open Go.RowKit
set_option linter.unusedVariables false
set_option linter.unusedSimpArgs false

section
variable {P : Program} {ops : Array Oper} {Q : Exit → Act → World → Prop} {S : World → Prop} {z : Nat}

/-- whatever comes up next, to the end; up to number z S is shown behind each -/
def Upto (P : Program) (ops : Array Oper) (Q : Exit → Act → World → Prop) (S : World → Prop) (z : Nat) : Nat → Array Bool → Act → World → Prop
  | 0, l, a, w => Region.ready .any ops l = [] ∧ Q .normal a w
  | k + 1, l, a, w => (Region.ready .any ops l = [] → Q .normal a w) ∧
      ∀ i ∈ Region.ready .any ops l, wpOp P ops Q i (fun a' w' => ((l.setIfInBounds i true).getD z true = false → S w') ∧ Upto P ops Q S z k (l.setIfInBounds i true) a' w') a w
theorem Upto.any : ∀ (k : Nat) (l : Array Bool) (a : Act) (w : World), Upto P ops Q S z k l a w → wpAny P .any ops Q k l a w
  | 0, _, _, _, h => h
  | k + 1, l, a, w, h => ⟨h.1, fun i hi => wpOp_mono (fun a' w' h' => Upto.any k _ a' w' h'.2) (h.2 i hi)⟩
theorem not_both {i z : Nat} {l : Array Bool} {oz : Oper} (hoz : ops[z]? = some oz) (hw : ∃ e ∈ oz.after, Region.binds .any e = true ∧ e.on = i) (hr : i ∈ Region.ready .any ops l) : z ∉ Region.ready .any ops l := by
  intro hz
  obtain ⟨h0, _, _, _⟩ := mem_ready.1 hr
  obtain ⟨_, o, ho, hall⟩ := mem_ready.1 hz
  have : o = oz := Option.some.inj (ho.symm.trans hoz)
  subst this
  obtain ⟨e, he, hb, hon⟩ := hw
  have h1 := hall e he hb
  rw [hon] at h1
  rcases Nat.lt_or_ge i l.size with h' | h'
  · simp [h'] at h0 h1
    rw [h0] at h1; cases h1
  · simp [Array.getElem?_eq_none h'] at h1
/-- number i may be taken first, if z waits for it -/
theorem Upto.first {i : Nat} {oi oz : Oper} {v : Value} (hi : ops[i]? = some oi) (hsel : ∀ (j : Nat) (o : Oper) cs b, ops[j]? = some o → o.op ≠ .select cs b)
    (hQ : ∀ c a w, Q (.panic c) (a.put oi.dst v) w → Q (.panic c) a w) (hoz : ops[z]? = some oz) (hw : ∃ e ∈ oz.after, Region.binds .any e = true ∧ e.on = i) (hzi : z ≠ i) :
    ∀ (k : Nat) (l : Array Bool) (a : Act) (w : World),
      (∀ j oj, ops[j]? = some oj → j ≠ i → l.getD j true = false → (∀ e ∈ oj.after, Region.binds .any e = true → e.on ≠ i) → oi.apart ops oj = true) →
      i ∈ Region.ready .any ops l → YieldsIf P ops S oi v a → S w → l.getD z true = false →
      Upto P ops Q S z k (l.setIfInBounds i true) (a.put oi.dst v) w → Upto P ops Q S z (k + 1) l a w := by
  intro k
  induction k with
  | zero =>
    intro l a w _ hr hy hS hz H
    refine ⟨fun h => absurd (h ▸ hr) List.not_mem_nil, fun j hj => ?_⟩
    rcases Decidable.em (j = i) with rfl | hji
    · exact hy.wpOp hi hS ⟨fun _ => hS, H⟩
    · exact absurd (H.1 ▸ ready_mono hj hji) List.not_mem_nil
  | succ k ih =>
    intro l a w hfree hr hy hS hz H
    refine ⟨fun h => absurd (h ▸ hr) List.not_mem_nil, fun j hj => ?_⟩
    rcases Decidable.em (j = i) with rfl | hji
    · exact hy.wpOp hi hS ⟨fun _ => hS, H⟩
    have hjz : j ≠ z := fun e => not_both hoz hw hr (e ▸ hj)
    obtain ⟨hun, oj, hoj, hall⟩ := mem_ready.1 hj
    have hno : ∀ e ∈ oj.after, Region.binds .any e = true → e.on ≠ i := by
      intro e he hb hon
      exact not_both (z := j) hoj ⟨e, he, hb, hon⟩ hr hj
    have step := wpOp_putIf hoj (hfree j oj hoj hji hun hno) (fun cs b => hsel i oi cs b hi) (fun cs b => hsel j oj cs b hoj) hQ hy (H.2 j (ready_mono hj hji))
    refine wpOp_mono (fun a' w' ⟨hy', hS', hrest⟩ => ?_) step
    have hz' : (l.setIfInBounds j true).getD z true = false := by rw [getD_set_ne true hjz]; exact hz
    have hz2 : ((l.setIfInBounds i true).setIfInBounds j true).getD z true = false := by
      rw [getD_set_ne true hjz, getD_set_ne true (Ne.symm hzi)]; exact hz
    refine ⟨fun _ => hS' hz2, ih (l.setIfInBounds j true) a' w' (fun m om hm hmi hun' hno' => ?_) (ready_mono hr (Ne.symm hji)) hy' (hS' hz2) hz' ?_⟩
    · refine hfree m om hm hmi ?_ hno'
      rcases Decidable.em (j = m) with rfl | hjm
      · exact hun
      · rw [getD_set_ne true hjm] at hun'; exact hun'
    · rw [Array.setIfInBounds_comm _ _ hji]; exact hrest
end

/-- the operations that have not come up; 'F' is held up to number z -/
def JZ (P : Program) (n : Nat) (w0 : World) (own : List Nat) (ops : Array Oper) (F : Hp) (z : Nat) (m : Nat) (listed : Array Bool) (e : Env) (hs : Hp) (K : Env → Hp → Prop) : Prop :=
  ∀ a w, Rep n a e → Sat w0 own hs w → (listed.getD z true = false → F ⊆ hs) →
    Upto P ops (QN fun a' w' => ∃ e' hs', Rep n a' e' ∧ Sat w0 own hs' w' ∧ K e' hs') (Keeps w0 own F) z m listed a w
/-- z has not come up, and waits for i; i may be taken first -/
def firstZ (ops : Array Oper) (z : Nat) (listed : Array Bool) (i : Nat) : Bool :=
  Region.noSelect ops && Region.free .any ops listed i && (Region.ready .any ops listed).contains i && Region.waitsFor .any ops z i && !Nat.beq z i && !listed.getD z true

section
variable {P : Program} {n : Nat} {w0 : World} {own : List Nat} {e : Env} {hs F : Hp} {ops : Array Oper} {K : Env → Hp → Prop} {z m : Nat} {listed : Array Bool}
variable {d : Nat} {ty : TypeId} {pos : String} {aft : Array Edge} {g : Option (Nat × Bool)}

theorem JC.drawZ {id : Nat} {Q : Post} (z : Nat) (F : Hp) (hF : F ⊆ hs) (hm : P.follows .mixedOrders = true) (h : JZ P n w0 own ops F z ops.size (Array.replicate ops.size false) e hs (fun e hs => Q .normal e hs)) :
    JC P n w0 own (.region id ops true) e hs Q := by
  intro a w hr s
  refine wp_mono (wp_region_any hm (Upto.any _ _ _ _ (h a { w with drawn := w.drawn + 1 } hr s.drew fun _ => hF))) ?_
  intro x a' w' hq
  cases x with
  | normal => exact hq
  | _ => exact hq.elim
theorem JZ.done (hd : doneB ops listed = true) (h : K e hs) : JZ P n w0 own ops F z m listed e hs K := by
  intro a w hr s hF
  have h0 : Region.ready .any ops listed = [] := by simpa [doneB] using hd
  cases m with
  | zero => exact ⟨h0, e, hs, hr, s, h⟩
  | succ m => exact ⟨fun _ => ⟨e, hs, hr, s, h⟩, fun i hi => by rw [h0] at hi; cases hi⟩
theorem JZ.v {op : Op} {v : Value} (i : Nat) (hi : ops[i]? = some ⟨some d, op, ty, pos, aft, g⟩) (hf : firstZ ops z listed i = true)
    (h : ∀ hs', F ⊆ hs' → Val P n w0 own e hs' op v) (k : JZ P n w0 own ops F z m (listed.setIfInBounds i true) ((d, v) :: e) hs K)
    (hdn : Nat.blt d n = true := by rfl) (hg : wantB ops e g = some true := by rfl) : JZ P n w0 own ops F z (m + 1) listed e hs K := by
  intro a w hr s hF
  unfold firstZ at hf
  simp only [Bool.and_eq_true, Bool.not_eq_true'] at hf
  obtain ⟨⟨⟨⟨⟨f1, f2⟩, f3⟩, f4⟩, f5⟩, f6⟩ := hf
  obtain ⟨oz, hoz, ez, hez, hb, hon⟩ := Region.waitsFor_spec f4
  have hzi : z ≠ i := Nat.ne_of_beq_eq_false f5
  have hz2 : (listed.setIfInBounds i true).getD z true = false := by rw [getD_set_ne true (Ne.symm hzi)]; exact f6
  exact Upto.first hi (Region.noSelect_spec f1) (fun _ _ _ h => h) hoz ⟨ez, hez, hb, hon⟩ hzi m listed a w (Region.free_spec hi f2) (by simpa using f3)
    (.inl ⟨wanted_of hr hg, fun w' ⟨hs', s', f'⟩ => h hs' f' a w' _ _ _ _ _ hr s'⟩) ⟨hs, s, hF f6⟩ f6
    (k _ _ (hr.put (Nat.le_of_ble_eq_true hdn) v) s fun _ => hF f6)
theorem JZ.ef {op : Op} {R : Value → Hp → Prop} (i : Nat) (hi : ops[i]? = some ⟨some d, op, ty, pos, aft, g⟩) (ho : onlyB ops listed i = true)
    (h : Eff P n w0 own e hs op R) (k : ∀ v hs', R v hs' → JZ P n w0 own ops F z m (listed.setIfInBounds i true) ((d, v) :: e) hs' K) (hF : ∀ v hs', R v hs' → F ⊆ hs → F ⊆ hs')
    (hz : true = true) (hdn : Nat.blt d n = true := by rfl) (hg : wantB ops e g = some true := by rfl) : JZ P n w0 own ops F z (m + 1) listed e hs K := by
  intro a w hr s hf
  have h1 : Region.ready .any ops listed = [i] := by simpa [onlyB] using ho
  refine ⟨fun h0 => (by rw [h1] at h0; cases h0), fun j hj => ?_⟩
  rw [h1] at hj
  simp only [List.mem_singleton] at hj
  subst hj
  unfold wpOp
  simp only [hi]
  rw [if_pos (wanted_of hr hg)]
  have hsub : ∀ v hs', R v hs' → (listed.setIfInBounds j true).getD z true = false → F ⊆ hs' := by
    intro v hs' r hz'
    have hzj : z ≠ j := by
      intro e
      subst e
      rcases Nat.lt_or_ge z listed.size with h' | h'
      · simp [h'] at hz'
      · simp [h'] at hz'
    rw [getD_set_ne true (Ne.symm hzj)] at hz'
    exact hF v hs' r (hf hz')
  exact .inl (h a w _ _ _ _ _ _ _ hr s fun v hs' w' r s' => ⟨fun hz' => ⟨hs', s', hsub v hs' r hz'⟩, k v hs' r _ _ (hr.put (Nat.le_of_ble_eq_true hdn) v) s' (hsub v hs' r)⟩)
/-- a value that is the one thing that may come up -/
theorem JZ.v1 {op : Op} {v : Value} (i : Nat) (hi : ops[i]? = some ⟨some d, op, ty, pos, aft, g⟩) (ho : onlyB ops listed i = true)
    (h : Val P n w0 own e hs op v) (k : JZ P n w0 own ops F z m (listed.setIfInBounds i true) ((d, v) :: e) hs K) (hz : true = true)
    (hdn : Nat.blt d n = true := by rfl) (hg : wantB ops e g = some true := by rfl) : JZ P n w0 own ops F z (m + 1) listed e hs K :=
  JZ.ef i hi ho h.eff (fun v' hs' ⟨h1, h2⟩ => by subst h1; subst h2; exact k) (fun v' hs' ⟨h1, h2⟩ f => by subst h2; exact f) hz hdn hg
/-- THE STORE -/
theorem JZ.st {op : Op} {hs' : Hp} (hi : ops[z]? = some ⟨none, op, ty, pos, aft, g⟩) (ho : onlyB ops listed z = true) (hsz : Nat.blt z listed.size = true)
    (h : Eff P n w0 own e hs op (fun v h => v = undef ∧ h = hs')) (k : JZ P n w0 own ops F z m (listed.setIfInBounds z true) e hs' K)
    (hg : wantB ops e g = some true := by rfl) : JZ P n w0 own ops F z (m + 1) listed e hs K := by
  intro a w hr s hf
  have h1 : Region.ready .any ops listed = [z] := by simpa [onlyB] using ho
  refine ⟨fun h0 => (by rw [h1] at h0; cases h0), fun j hj => ?_⟩
  rw [h1] at hj
  simp only [List.mem_singleton] at hj
  subst hj
  unfold wpOp
  simp only [hi]
  rw [if_pos (wanted_of hr hg)]
  have hlt : j < listed.size := Nat.le_of_ble_eq_true hsz
  have habs : (listed.setIfInBounds j true).getD j true = false → F ⊆ hs' := by intro h; simp [hlt] at h
  exact .inl (h a w _ _ _ _ _ _ _ hr s fun v h' w' ⟨_, e2⟩ s' => by
    subst e2
    exact ⟨fun hz' => absurd (habs hz') (by simp [hlt] at hz'), k _ _ (hr.put_none v) s' habs⟩)
/-- a store behind z -/
theorem JZ.st2 {op : Op} {hs' : Hp} (i : Nat) (hi : ops[i]? = some ⟨none, op, ty, pos, aft, g⟩) (ho : onlyB ops listed i = true) (hz : listed.getD z true = true) (hsz : Nat.beq z i = false)
    (h : Eff P n w0 own e hs op (fun v h => v = undef ∧ h = hs')) (k : JZ P n w0 own ops F z m (listed.setIfInBounds i true) e hs' K)
    (hg : wantB ops e g = some true := by rfl) : JZ P n w0 own ops F z (m + 1) listed e hs K := by
  intro a w hr s hf
  have h1 : Region.ready .any ops listed = [i] := by simpa [onlyB] using ho
  refine ⟨fun h0 => (by rw [h1] at h0; cases h0), fun j hj => ?_⟩
  rw [h1] at hj
  simp only [List.mem_singleton] at hj
  subst hj
  unfold wpOp
  simp only [hi]
  rw [if_pos (wanted_of hr hg)]
  have hno : (listed.setIfInBounds j true).getD z true = true := by rw [getD_set_ne true (Ne.symm (Nat.ne_of_beq_eq_false hsz))]; exact hz
  have habs : (listed.setIfInBounds j true).getD z true = false → F ⊆ hs' := by intro h; rw [hno] at h; cases h
  exact .inl (h a w _ _ _ _ _ _ _ hr s fun v h' w' ⟨_, e2⟩ s' => by
    subst e2
    exact ⟨fun hz' => (nomatch (hno.symm.trans hz')), k _ _ (hr.put_none v) s' habs⟩)
end
end V
end Go

/- VM: blocks behind an unknown head; own slices that are cut and read. -/
namespace Go
namespace V
open Go.RowKit
set_option linter.unusedVariables false
set_option linter.unusedSimpArgs false

instance (priority := low) Mem.app_right {b : Nat} {c : Ch} {h fr : Hp} [k : Mem b c fr] : Mem b c (h ++ fr) := ⟨List.mem_append_right _ k.out⟩
instance (priority := low - 10) Mem.app_left {b : Nat} {c : Ch} {h fr : Hp} [k : Mem b c h] : Mem b c (h ++ fr) := ⟨List.mem_append_left _ k.out⟩
theorem Upd.app_right {b : Nat} {c : Ch} {h fr fr' : Hp} (k : Upd b c fr fr') : Upd b c (h ++ fr) (h ++ fr') := by
  induction h with
  | nil => exact k
  | cons p h ih => exact .tail ih
instance (priority := low) UpdI.app_right {b : Nat} {c : Ch} {h fr fr' : Hp} [k : UpdI b c fr fr'] : UpdI b c (h ++ fr) (h ++ fr') := ⟨k.out.app_right⟩

/-- some of what is left in memory is let go, or told in another order -/
theorem Does.less {P : Program} {g : Nat} {vals : List Value} {pre : Hp} {w : World} {R : Value → Hp → Prop} (h : Does P g vals pre w (fun v hs => ∃ hs', (∀ w', Sat w (bl pre) hs w' → Sat w (bl pre) hs' w') ∧ R v hs')) : Does P g vals pre w R :=
  fun a b => (h a b).mono fun x w' ⟨v, hs, h1, ⟨hs', h2, h4⟩, h3⟩ => ⟨v, hs', h1, h4, h2 _ h3⟩
theorem Sat.not_in {w0 w : World} {own : List Nat} {b : Nat} {c : Ch} {rest h : Hp} (s : Sat w0 own ((b, c) :: rest) w) (hs : h ⊆ rest) : b ∉ bl h := by
  have nd := s.nd
  simp only [bl, List.map_cons, List.nodup_cons] at nd
  intro hb
  obtain ⟨p, hp, rfl⟩ := List.mem_map.1 hb
  exact nd.1 (List.mem_map.2 ⟨p, hs hp, rfl⟩)
theorem OwnS.len {E m n : Nat} {v : Value} {vs : List Value} {h : Hp} (k : OwnS E m v n vs h) : vs.length = n * m := k.1
theorem OwnS.cap_ {E m n c : Nat} {A : Option Addr} {n' : Nat} {vs : List Value} {h : Hp} (k : OwnS E m (.slice A n' c) n vs h) : n' = n ∧ n ≤ c := by
  rcases k.2 with ⟨h1, h2, _⟩ | ⟨b, o, cap, l, h1, _, h3, _⟩
  · cases h1; subst h2; exact ⟨rfl, by omega⟩
  · cases h1; exact ⟨rfl, h3⟩
/-- the head is cut off -/
theorem OwnS.cut {E m n c : Nat} {A : Option Addr} {vs : List Value} {h : Hp} (k : OwnS E m (.slice A n c) n vs h) {i : Nat} (hi : i ≤ n) (hm : 0 < m) :
    OwnS E m (.slice (cutA A c i m) (n - i) (c - i)) (n - i) (vs.drop (i * m)) h := by
  obtain ⟨hl, k⟩ := k
  refine ⟨by rw [List.length_drop, hl, Nat.sub_mul], ?_⟩
  rcases k with ⟨h1, h2, h3⟩ | ⟨b, o, cap, l, h1, h2, h3, h4, h5⟩
  · cases h1
    obtain rfl : i = 0 := by omega
    exact .inl ⟨by simp [cutA_zero], by simp, h3⟩
  · cases h1
    have hcm : i * m ≤ c * m := Nat.mul_le_mul_right _ (by omega)
    have hsub : (c - i) * m = c * m - i * m := Nat.sub_mul _ _ _
    refine .inr ?_
    by_cases e : c = i
    · have hn : n = i := by omega
      refine ⟨b, o, c - i, l, ?_, h2, by omega, by rw [e]; simp; omega, ?_⟩
      · unfold cutA; rw [if_pos e]
      · rw [hn, Nat.sub_self, Nat.zero_mul, List.take_zero, ← h5, List.drop_take, hn, Nat.sub_self, List.take_zero]
    · refine ⟨b, o + i * m, c - i, l, by rw [cutA_some (by omega)], h2, by omega, by omega, ?_⟩
      rw [← h5, List.drop_take, List.drop_drop, Nat.sub_mul]
/-- what an own slice holds is read -/
theorem OwnS.rd {E m n c : Nat} {A : Option Addr} {vs : List Value} {h hs : Hp} {w0 w : World} {own no : List Nat} (k : OwnS E m (.slice A n c) n vs h) (s : Sat w0 own hs w) (hh : h ⊆ hs) (hn : ∀ b ∈ bl h, b ∉ no) : Rd w no A vs := by
  obtain ⟨hl, k⟩ := k
  rcases k with ⟨h1, h2, h3⟩ | ⟨b, o, cap, l, h1, h2, h3, h4, h5⟩
  · cases h1
    have : vs = [] := by simpa using hl
    subst this
    exact Rd.nil _ _ _
  · cases h1
    subst h2
    intro j v hv
    refine ⟨b, o, rfl, hn b (by simp [bl]), ?_⟩
    have hb : (b, Ch.cells l E) ∈ hs := hh (by simp)
    rw [s.cell hb, ← hv, ← h5, List.getElem?_take, List.getElem?_drop]
    have := (List.getElem?_eq_some_iff.1 hv).1
    rw [if_pos (by omega)]
theorem OwnS.one {E m n n' c : Nat} {A : Option Addr} {vs : List Value} {h : Hp} (k : OwnS E m (.slice A n' c) n vs h) : n' = n := k.cap_.1
theorem Rd.take {w : World} {no : List Nat} {A : Option Addr} {vs : List Value} (h : Rd w no A vs) (k : Nat) : Rd w no A (vs.take k) :=
  h.mono fun j v hv => by
    rw [List.getElem?_take] at hv
    split at hv
    · exact hv
    · cases hv
theorem Sat.disj {w0 w : World} {own : List Nat} {h fr : Hp} (s : Sat w0 own (h ++ fr) w) : ∀ b ∈ bl h, b ∉ bl fr := by
  have nd := s.nd
  simp only [bl, List.map_append, List.nodup_append] at nd
  exact fun b hb hf => nd.2.2 b hb b hf rfl
/-- what is read at an address is loaded there -/
theorem Rd.part {w0 : World} {own : List Nat} {hs : Hp} {b o i : Nat} {vs us : List Value} (h : Rd w0 own (some ⟨b, o, none⟩) vs) (hu : ∀ (j : Nat) (v : Value), us[j]? = some v → vs[i + j]? = some v) : At w0 own hs ⟨b, o + i, none⟩ us := by
  intro w s j v hv
  obtain ⟨b', o', h1, h2, h3⟩ := h _ v (hu j v hv)
  cases h1
  rw [add_none, Nat.add_assoc]
  exact s.cell_old h3 h2
theorem Rd.whole {w0 : World} {own : List Nat} {hs : Hp} {b o : Nat} {vs : List Value} (h : Rd w0 own (some ⟨b, o, none⟩) vs) : At w0 own hs ⟨b, o, none⟩ vs :=
  h.part (i := 0) (fun j v hv => by rwa [Nat.zero_add])
theorem Rd.cell {w0 : World} {own : List Nat} {hs : Hp} {b o : Nat} {vs : List Value} (h : Rd w0 own (some ⟨b, o, none⟩) vs) {i : Nat} {v : Value} (hv : vs[i]? = some v) : At w0 own hs ⟨b, o + i, none⟩ [v] :=
  h.part (fun j u hu => by
    match j, hu with
    | 0, hu => simp at hu; subst hu; simpa using hv)
section
variable {P : Program} {n : Nat} {w0 : World} {own : List Nat} {e : Env} {hs : Hp} {ops : Array Oper} {rest l : List Oper} {K : Env → Hp → Prop}
variable {d : Nat} {ty : TypeId} {pos : String} {aft : Array Edge} {gd : Option (Nat × Bool)}
/-- a call that is lent blocks and gives them back as they were -/
theorem Eff.lend {g : Nat} {f : Operand} {args : List Operand} {at_ : Array TypeId} {cap vals : List Value} {v : Value} {pre fr : Hp}
    (hf : ev e f = some (.func (.func g) #[] ⟨cap⟩)) (ha : evs e args = some vals) [hg : FnT P g] (hp : hs.Perm (pre ++ fr)) (hc : ∀ w, Sat w0 own hs w → Does P g (vals ++ cap) pre w (fun u h => u = v ∧ h = pre)) :
    Eff P n w0 own e hs (.call { callee := .value f, args := ⟨args⟩, argTypes := at_ }) (fun u h => u = v ∧ h = hs) := by
  intro a w ty pos aft gd d K Q hr s hk
  refine Eff.call hf ha hp hc a w ty pos aft gd d K Q hr s ?_
  rintro _ hs' w' ⟨h, ⟨rfl, rfl⟩, rfl⟩ s'
  exact hk _ _ _ ⟨rfl, rfl⟩ (s'.perm hp.symm)
theorem JL.pl {g : Nat} {f : Operand} {args : List Operand} {at_ : Array TypeId} {cap vals : List Value} {v : Value} {pre : Hp} (fr : Hp)
    (hf : ev e f = some (.func (.func g) #[] ⟨cap⟩)) (ha : evs e args = some vals) (hp : hs.Perm (pre ++ fr)) (hc : ∀ w, Sat w0 own hs w → Does P g (vals ++ cap) pre w (fun u h => u = v ∧ h = pre))
    (k : JL P n w0 own ops rest ((d, v) :: e) hs K) [hg : FnT P g] (hdn : Nat.blt d n = true := by rfl) (hw : wantB ops e gd = some true := by rfl) :
    JL P n w0 own ops (⟨some d, .call { callee := .value f, args := ⟨args⟩, argTypes := at_ }, ty, pos, aft, gd⟩ :: rest) e hs K :=
  JL.ef (.lend hf ha hp hc) (fun _ _ ⟨h1, h2⟩ => by subst h1; subst h2; exact k) hdn hw
end
end V
end Go

/- VO: min and max of numbers; wrapped numbers as remainders. -/
namespace Go
namespace V
open Go.RowKit
set_option linter.unusedVariables false
set_option linter.unusedSimpArgs false
section
variable {P : Program} {n : Nat} {w0 : World} {own : List Nat} {e : Env} {hs : Hp}
theorem Val.min2 {x y : Operand} {q : IntKind} {i j : Int} {ts : Array TypeId} (hx : ev e x = some (.int q i)) (hy : ev e y = some (.int q j)) :
    Val P n w0 own e hs (.call { callee := .builtin .min, args := #[x, y], argTypes := ts }) (.int q (min i j)) := fun a w ty pos aft g d hr s => by
  simp [execOp, hr.eval hx, hr.eval hy, resolve, invoke, builtin, Builtin.min_, Builtin.min2]
  by_cases h : j < i
  · simp [h]; omega
  · simp [h]; omega
end
/-- rows of so many cells -/
theorem flatMap_get {α : Type} (f : α → List Value) (m : Nat) (hm : ∀ a, (f a).length = m) : ∀ (l : List α) (i j : Nat) (hi : i < l.length), j < m → (l.flatMap f)[i * m + j]? = (f l[i])[j]?
  | a :: l, 0, j, hi, hj => by
    rw [List.flatMap_cons, List.getElem?_append_left (by rw [hm]; omega)]; simp
  | a :: l, i + 1, j, hi, hj => by
    have e : (i + 1) * m + j = m + (i * m + j) := by rw [Nat.add_mul]; omega
    rw [List.flatMap_cons, List.getElem?_append_right (by rw [hm]; omega), hm, e, Nat.add_sub_cancel_left, flatMap_get f m hm l i j (by simpa using hi) hj]
    simp
  | [], i, j, hi, _ => by simp at hi
theorem flatMap_length {α : Type} (f : α → List Value) (m : Nat) (hm : ∀ a, (f a).length = m) (l : List α) : (l.flatMap f).length = l.length * m := by
  induction l with
  | nil => simp
  | cons a l ih => rw [List.flatMap_cons, List.length_append, hm, ih, List.length_cons, Nat.add_mul]; omega
theorem u64w (z : Int) : IntKind.u64.wrap z = z % 18446744073709551616 := by simp [IntKind.wrap, IntKind.bits, IntKind.signed]
theorem u32w (z : Int) : IntKind.u32.wrap z = z % 4294967296 := by simp [IntKind.wrap, IntKind.bits, IntKind.signed]
end V
end Go

/- VP: '&&' and '||' in regions that draw and turn nothing. -/
namespace Go
namespace V
open Go.RowKit
set_option linter.unusedVariables false
set_option linter.unusedSimpArgs false

section
variable {P : Program} {n : Nat} {w0 : World} {own : List Nat} {e : Env} {hs : Hp} {ops : Array Oper} {rest l : List Oper} {K : Env → Prop}
variable {d : Nat} {ty : TypeId} {pos : String} {aft : Array Edge} {g : Option (Nat × Bool)}

theorem JH.mono {l : List Oper} {K' : Env → Prop} (h : JH P n w0 own ops l e hs K) (k : ∀ e, K e → K' e) : JH P n w0 own ops l e hs K' :=
  fun a w hr s L hL => h a w hr s L fun e' a' r kk => hL e' a' r (k _ kk)
theorem JH.skips : ∀ {l : List Oper} {e e1 : Env}, skB ops n l e = some e1 → (∀ e1', Sub e e1' → JH P n w0 own ops [] e1' hs K) → JH P n w0 own ops l e hs K
  | [], e, e1, h, k => k e (Sub.refl e)
  | o :: l, e, e1, h, k => by
    unfold skB at h
    cases ho : o.dst with
    | none => rw [ho] at h; cases h
    | some dd =>
      rw [ho] at h
      simp only at h
      split at h
      · rename_i hc
        rw [Bool.and_eq_true, Bool.and_eq_true] at hc
        obtain ⟨⟨c1, c2⟩, c3⟩ := hc
        intro a w hr s L hL
        unfold wpStill
        rw [if_neg (by rw [skip_step hr ho c3]; simp), ho]
        refine JH.skips h (fun e1' hs' => k e1' (Sub.trans ?_ hs')) _ _ (hr.put (Nat.le_of_ble_eq_true c1) undef) s L hL
        exact sub_app [(dd, undef)] e (by simp [c2])
      · cases h
theorem JH.app {l1 l2 : List Oper} (h : JH P n w0 own ops l1 e hs (fun e' => JH P n w0 own ops l2 e' hs K)) : JH P n w0 own ops (l1 ++ l2) e hs K := by
  intro a w hr s L hL
  have key : ∀ (l1 : List Oper) (a : Act), wpStill P ops w (fun a => wpStill P ops w L l2 a) l1 a → wpStill P ops w L (l1 ++ l2) a := by
    intro l1
    induction l1 with
    | nil => intro a h; exact h
    | cons o l1 ih =>
      intro a h
      unfold wpStill at h
      rw [List.cons_append]
      unfold wpStill
      split
      · rename_i hw
        rw [if_pos hw] at h
        exact Oper.still_mono ih h
      · rename_i hw
        rw [if_neg hw] at h
        exact ih _ h
  exact key l1 a (h a w hr s _ fun e' a' r' kk => kk a' w r' s L hL)
theorem sub_same {t : Nat} {v : Value} (ht : get e t = some v) : Sub e ((t, v) :: e) := fun s u hu => by
  unfold get
  cases hb : Nat.beq t s with
  | true => have := Nat.eq_of_beq_eq_true hb; subst this; rw [ht] at hu; simpa using hu
  | false => exact hu
/-- '&&' -/
theorem JH.and {b1 b2 : Bool} (t y m k : Nat) (hl : l.drop m = ⟨some d, .pick (.tmp t) (.tmp y) (.const (.bool false)), ty, pos, aft, g⟩ :: rest) (ht : get e t = some (.bool b1))
    (h : b1 = true → JH P n w0 own ops (l.take m) ((t, .bool true) :: e) hs (fun e' => get e' y = some (.bool b2) ∧ Pop k e' ((t, .bool true) :: e)))
    (kk : JH P n w0 own ops rest ((d, .bool (b1 && b2)) :: e) hs K)
    (hsk : (skB ops n (l.take m) ((t, .bool false) :: e)).isSome = true := by rfl)
    (hdn : Nat.blt d n = true := by rfl) (hg : wantB ops e g = some true := by rfl) : JH P n w0 own ops l e hs K := by
  rw [← List.take_append_drop m l, hl]
  refine JH.app ?_
  have fin : ∀ (e1 : Env), Sub e e1 → (b1 = true → get e1 y = some (.bool b2)) → JH P n w0 own ops (⟨some d, .pick (.tmp t) (.tmp y) (.const (.bool false)), ty, pos, aft, g⟩ :: rest) e1 hs K := by
    intro e1 hsub hy a w hr s L hL
    have hr' := hr.sub hsub
    unfold wpStill
    rw [if_pos (wanted_of hr' hg)]
    have e1t := hr.eval (x := .tmp t) (hsub t _ ht)
    have hrun : (execOp a.eval ⟨some d, .pick (.tmp t) (.tmp y) (.const (.bool false)), ty, pos, aft, g⟩).run P w = .ok (.value (.bool (b1 && b2))) w := by
      cases hb : b1 with
      | false =>
        rw [hb] at e1t
        have e3 : ∀ v, a.eval (.const v) = v := fun _ => rfl
        simp [execOp, e1t, asBool, e3]
      | true =>
        rw [hb] at e1t
        have e2 := hr.eval (x := .tmp y) (hy hb)
        simp [execOp, e1t, e2, asBool]
    rw [Oper.still, hrun, Oper.stillUpon_value]
    exact kk _ _ (hr'.put (Nat.le_of_ble_eq_true hdn) _) s L hL
  cases hb : b1 with
  | true =>
    rw [hb] at ht
    intro a w hr s
    exact (h hb).mono (fun e' ⟨h2, h3⟩ => fin e' ((sub_same ht).trans h3.sub) (fun _ => h2)) a w (hr.same ht) s
  | false =>
    rw [hb] at ht
    obtain ⟨e1, he1⟩ := Option.isSome_iff_exists.1 hsk
    intro a w hr s
    exact JH.skips he1 (fun e1' hs' => JH.nil (fin e1' ((sub_same ht).trans hs') (fun h => by rw [hb] at h; cases h))) a w (hr.same ht) s
/-- '||' -/
theorem JH.or {b1 b2 : Bool} (t y m k : Nat) (hl : l.drop m = ⟨some d, .pick (.tmp t) (.const (.bool true)) (.tmp y), ty, pos, aft, g⟩ :: rest) (ht : get e t = some (.bool b1))
    (h : b1 = false → JH P n w0 own ops (l.take m) ((t, .bool false) :: e) hs (fun e' => get e' y = some (.bool b2) ∧ Pop k e' ((t, .bool false) :: e)))
    (kk : JH P n w0 own ops rest ((d, .bool (b1 || b2)) :: e) hs K)
    (hsk : (skB ops n (l.take m) ((t, .bool true) :: e)).isSome = true := by rfl)
    (hdn : Nat.blt d n = true := by rfl) (hg : wantB ops e g = some true := by rfl) : JH P n w0 own ops l e hs K := by
  rw [← List.take_append_drop m l, hl]
  refine JH.app ?_
  have fin : ∀ (e1 : Env), Sub e e1 → (b1 = false → get e1 y = some (.bool b2)) → JH P n w0 own ops (⟨some d, .pick (.tmp t) (.const (.bool true)) (.tmp y), ty, pos, aft, g⟩ :: rest) e1 hs K := by
    intro e1 hsub hy a w hr s L hL
    have hr' := hr.sub hsub
    unfold wpStill
    rw [if_pos (wanted_of hr' hg)]
    have e1t := hr.eval (x := .tmp t) (hsub t _ ht)
    have hrun : (execOp a.eval ⟨some d, .pick (.tmp t) (.const (.bool true)) (.tmp y), ty, pos, aft, g⟩).run P w = .ok (.value (.bool (b1 || b2))) w := by
      cases hb : b1 with
      | true =>
        rw [hb] at e1t
        have e3 : ∀ v, a.eval (.const v) = v := fun _ => rfl
        simp [execOp, e1t, asBool, e3]
      | false =>
        rw [hb] at e1t
        have e2 := hr.eval (x := .tmp y) (hy hb)
        simp [execOp, e1t, e2, asBool]
    rw [Oper.still, hrun, Oper.stillUpon_value]
    exact kk _ _ (hr'.put (Nat.le_of_ble_eq_true hdn) _) s L hL
  cases hb : b1 with
  | false =>
    rw [hb] at ht
    intro a w hr s
    exact (h hb).mono (fun e' ⟨h2, h3⟩ => fin e' ((sub_same ht).trans h3.sub) (fun _ => h2)) a w (hr.same ht) s
  | true =>
    rw [hb] at ht
    obtain ⟨e1, he1⟩ := Option.isSome_iff_exists.1 hsk
    intro a w hr s
    exact JH.skips he1 (fun e1' hs' => JH.nil (fin e1' ((sub_same ht).trans hs') (fun h => by rw [hb] at h; cases h))) a w (hr.same ht) s
end
end V
end Go

/- VQ: maps whose keys are numbers: make, look up, set. -/
namespace Go
namespace V
open Go.RowKit
set_option linter.unusedVariables false
set_option linter.unusedSimpArgs false

abbrev ME := Int × Value × Nat
def mentry (q : IntKind) (x : ME) : MapEntry := { key := .int q x.1, val := x.2.1, born := x.2.2 }
def mapOf (q : IntKind) (es : List ME) (clock : Nat) : Obj := .map ⟨es.map (mentry q)⟩ clock
def mfind (k : Int) : List ME → Nat → Option (Nat × Value)
  | [], _ => none
  | x :: es, i => if k == x.1 then some (i, x.2.1) else mfind k es (i + 1)
def mget (k : Int) (es : List ME) : Option Value := (mfind k es 0).map (·.2)
theorem findNow_int (q : IntKind) (k : Int) : ∀ (es : List ME) (i : Nat), Instr.findNow (.int q) (.int q k) (es.map (mentry q)) i = some (mfind k es i)
  | [], i => rfl
  | x :: es, i => by
    simp only [List.map_cons, Instr.findNow, mentry, Instr.sameNow, if_true]
    unfold mfind
    cases h : k == x.1 with
    | true => simp
    | false => simpa using findNow_int q k es (i + 1)
section
variable {P : Program} {n : Nat} {w0 : World} {own : List Nat} {e : Env} {hs : Hp}
theorem run_checkKey_int {kT : Nat} {q : IntKind} (h : P.underlying kT = some (.int q)) (b : Bool) (k : Int) (w : World) : (Instr.checkKey b 10000 kT (.int q k)).run P w = .ok () w := by
  unfold Instr.checkKey
  simp [run_underlying h]
theorem run_findKey_int {kT : Nat} {q : IntKind} (h : P.underlying kT = some (.int q)) (k : Int) (es : List ME) (w : World) : (Instr.findKey kT (.int q k) (es.map (mentry q))).run P w = .ok (mfind k es 0) w := by
  unfold Instr.findKey
  simp [run_underlying h, findNow_int]
theorem Sat.mrow {w0 w : World} {own : List Nat} {hs : Hp} (h : Sat w0 own hs w) {b : Nat} {o : Obj} (hb : (b, .obj o) ∈ hs) : w.heap[b]? = some o := h.has b _ hb
theorem Eff.makeMap {T : Nat} (q : IntKind) : Eff P n w0 own e hs (.makeMap T none) (fun v h => ∃ b, v = .map (some b) ∧ h = (b, .obj (mapOf q [] 0)) :: hs) :=
  Eff.of_run fun a w ty pos aft g d hr s => by
    refine ⟨.map (some w.heap.size), _, w.alloc (.map #[] 0), ?_, ⟨w.heap.size, rfl, rfl⟩, s.new (.obj (mapOf q [] 0))⟩
    have := run_makeMap (P := P) T w
    simp [execOp, this]
theorem Val.lookup {T kT eT b c : Nat} {q : IntKind} {k : Int} {x y : Operand} {es : List ME} {z : Value} (hx : ev e x = some (.map (some b))) (hy : ev e y = some (.int q k)) [hT : MapT P T kT eT] [hk : IntT P kT q] [hz : ZrV P eT z]
    [hb : Mem b (.obj (mapOf q es c)) hs] : Val P n w0 own e hs (.lookup T x y false) ((mget k es).getD z) := fun a w ty pos aft g d hr s => by
  obtain ⟨i, hi, hzz⟩ := hz.out
  have h1 := s.mrow hb.out
  have h1' : w.heap[b]? = some (.map ⟨es.map (mentry q)⟩ c) := h1
  have key : (Instr.lookup T (.map (some b)) (.int q k) false).run P w = .ok ((mget k es).getD z) w := by
    unfold Instr.lookup
    simp [run_underlying hT.out, MapKept.run_getObj_map h1', run_checkKey_int hk.out, run_findKey_int hk.out]
    unfold mget
    cases mfind k es 0 with
    | none => simp [zeroValue, typeInfo, hi, hzz]
    | some p => simp
  simp [execOp, hr.eval hx, hr.eval hy, key]
theorem Val.lookupE {T kT eT b c : Nat} {q : IntKind} {k : Int} {x y : Operand} {es : List ME} {z v : Value} (hx : ev e x = some (.map (some b))) (hy : ev e y = some (.int q k)) [hT : MapT P T kT eT] [hk : IntT P kT q] [hz : ZrV P eT z]
    [hb : Mem b (.obj (mapOf q es c)) hs] (hv : (mget k es).getD z = v) : Val P n w0 own e hs (.lookup T x y false) v := hv ▸ Val.lookup hx hy
/-- the map behind a setting, and its clock -/
def mset (k : Int) (v : Value) (es : List ME) (c : Nat) : List ME × Nat := match mfind k es 0 with
  | some (i, _) => (es.modify i fun x => (k, v, x.2.2), c)
  | none => (es ++ [(k, v, c)], c + 1)
theorem mfind_key (k : Int) : ∀ (es : List ME) (i j : Nat) (v : Value), mfind k es i = some (j, v) → i ≤ j ∧ ∃ x, es[j - i]? = some x ∧ x.1 = k ∧ x.2.1 = v
  | [], i, j, v, h => by simp [mfind] at h
  | x :: es, i, j, v, h => by
    unfold mfind at h
    cases hk : k == x.1 with
    | true =>
      rw [hk] at h
      simp at h
      obtain ⟨rfl, rfl⟩ := h
      exact ⟨Nat.le_refl _, x, by simp, by simpa using (beq_iff_eq.1 hk).symm, rfl⟩
    | false =>
      rw [hk] at h
      simp at h
      obtain ⟨h1, y, h2, h3⟩ := mfind_key k es (i + 1) j v h
      refine ⟨by omega, y, ?_, h3⟩
      obtain ⟨m, hm⟩ : ∃ m, j - i = m + 1 := ⟨j - i - 1, by omega⟩
      rw [hm, List.getElem?_cons_succ, show m = j - (i + 1) from by omega]
      exact h2
theorem Eff.mapUpdate {T kT eT b c : Nat} {q : IntKind} {k : Int} {x y z : Operand} {v : Value} {es : List ME} {hs' : Hp} (hx : ev e x = some (.map (some b))) (hy : ev e y = some (.int q k)) (hz : ev e z = some v) [hT : MapT P T kT eT] [hk : IntT P kT q]
    [hb : Mem b (.obj (mapOf q es c)) hs] [u : UpdI b (.obj (mapOf q (mset k v es c).1 (mset k v es c).2)) hs hs'] : Eff P n w0 own e hs (.mapUpdate T x y z) (fun u h => u = undef ∧ h = hs') :=
  Eff.of_skip fun a w ty pos aft g d hr s => by
    have h1 := s.mrow hb.out
    have h1' : w.heap[b]? = some (.map ⟨es.map (mentry q)⟩ c) := h1
    have hlt : b < w.heap.size := (Array.getElem?_eq_some_iff.1 h1').1
    have key : (Instr.mapUpdate T (.map (some b)) (.int q k) v).run P w = .ok () { w with heap := w.heap.setIfInBounds b (mapOf q (mset k v es c).1 (mset k v es c).2) } := by
      unfold Instr.mapUpdate
      cases hf : mfind k es 0 with
      | none =>
        simp [run_underlying hT.out, MapKept.run_getObj_map h1', run_checkKey_int hk.out, run_findKey_int hk.out, hf, MapKept.run_setObj_map _ h1', mset, mapOf, mentry]
      | some p =>
        obtain ⟨i, v0⟩ := p
        obtain ⟨_, y0, g1, g2, _⟩ := mfind_key k es 0 i v0 hf
        have hold : ((((⟨es.map (mentry q)⟩ : Array MapEntry)[i]?).map (·.key)).getD (.int q k)) = .int q k := by
          simp at g1
          simp [g1, mentry, g2]
        have hst : (Instr.keyThatStays (.int q k) (.int q k)).run P w = .ok (.int q k) w := by
          simp [Instr.keyThatStays, Instr.sameBits]
        simp [run_underlying hT.out, MapKept.run_getObj_map h1', run_checkKey_int hk.out, run_findKey_int hk.out, hf]
        have hold' : (Option.map ((fun x => x.key) ∘ mentry q) es[i]?).getD (Value.int q k) = Value.int q k := by
          simp at g1
          simp [g1, mentry, g2]
        rw [hold', hst]
        simp only [Result.andThen_ok, MapKept.run_setObj_map _ h1']
        congr 3
        simp only [mset, hf, mapOf]
        congr 2
        apply List.ext_getElem?
        intro m
        simp only [List.getElem?_modify, List.getElem?_map]
        cases es[m]? with
        | none => simp
        | some x => by_cases hm : i = m <;> simp [hm, mentry]
    refine ⟨{ w with heap := w.heap.setIfInBounds b (mapOf q (mset k v es c).1 (mset k v es c).2) }, ?_, ?_⟩
    · simp [execOp, hr.eval hx, hr.eval hy, hr.eval hz, key]
    · refine s.upd u.out ?_ ?_ ?_ rfl rfl rfl
      · simp
      · intro i hi
        simp [Array.getElem?_setIfInBounds, Ne.symm hi]
      · simp [Array.getElem?_setIfInBounds, hlt, Ch.toObj]
end
end V
end Go

/- VR: regions that draw their order: they run in an order of our choice, values first, what works on memory when it is alone. -/
namespace Go
namespace V
open Go.RowKit
set_option linter.unusedVariables false
set_option linter.unusedSimpArgs false

/-- does the operation work on memory? -/
def isEff (o : Oper) : Bool := match o.op with
  | .alloc _ | .box _ _ | .buildSlice _ _ _ | .insert _ _ _ _ | .store _ _ _ | .makeMap _ _ | .makeSlice _ _ _ | .mapUpdate _ _ _ _ | .mapEntry _ _ _ | .entryStore _ _ _ _ | .range _ _ | .next _ _ | .entry _ => true
  | .call { callee := .value _, .. } => true
  | .call { callee := .builtin .append, .. } => true
  | .call { callee := .builtin .copy, .. } => true
  | .call { callee := .builtin .delete, .. } => true
  | .call { callee := .builtin .clear, .. } => true
  | _ => false
/-- the numbers may come up in this order -/
def ordB (ops : Array Oper) : List Oper → List Nat → Array Bool → Bool
  | [], [], _ => true
  | o :: l, i :: is, listed => (onlyB ops listed i || (!isEff o && firstB ops listed i)) && ordB ops l is (listed.setIfInBounds i true)
  | _, _, _ => false
def marks_ : List Nat → Array Bool → Array Bool
  | [], listed => listed
  | i :: is, listed => marks_ is (listed.setIfInBounds i true)
theorem marks_app : ∀ (a b : List Nat) (listed : Array Bool), marks_ (a ++ b) listed = marks_ b (marks_ a listed)
  | [], b, listed => rfl
  | i :: a, b, listed => marks_app a b _
theorem ordB_app (ops : Array Oper) : ∀ (l1 l2 : List Oper) (i1 i2 : List Nat) (listed : Array Bool), l1.length = i1.length → ordB ops (l1 ++ l2) (i1 ++ i2) listed = (ordB ops l1 i1 listed && ordB ops l2 i2 (marks_ i1 listed))
  | [], l2, [], i2, listed, _ => by simp [ordB, marks_]
  | o :: l1, l2, i :: i1, i2, listed, h => by
    simp only [List.cons_append, ordB, ordB_app ops l1 l2 i1 i2 _ (by simpa using h), marks_, Bool.and_assoc]
  | [], _, _ :: _, _, _, h => by simp at h
  | _ :: _, _, [], _, _, h => by simp at h
def Nums (ops : Array Oper) : List Oper → List Nat → Prop
  | [], [] => True
  | o :: l, i :: is => ops[i]? = some o ∧ Nums ops l is
  | _, _ => False
theorem Nums.len {ops : Array Oper} : ∀ {l : List Oper} {is : List Nat}, Nums ops l is → l.length = is.length
  | [], [], _ => rfl
  | o :: l, i :: is, h => by have := Nums.len h.2; simp [this]
  | [], _ :: _, h => h.elim
  | _ :: _, [], h => h.elim
theorem Nums.app {ops : Array Oper} : ∀ {l1 l2 : List Oper} {is : List Nat}, Nums ops (l1 ++ l2) is → Nums ops l1 (is.take l1.length) ∧ Nums ops l2 (is.drop l1.length)
  | [], l2, is, h => ⟨by simp [Nums], by simpa using h⟩
  | o :: l1, l2, i :: is, h => by
    obtain ⟨h1, h2⟩ := h
    obtain ⟨k1, k2⟩ := Nums.app h2
    exact ⟨⟨h1, k1⟩, k2⟩
  | _ :: _, _, [], h => h.elim
theorem Nums.seq {ops : Array Oper} : ∀ (l : List Oper) (k : Nat), (∀ j, j < l.length → ops[k + j]? = l[j]?) → Nums ops l (List.range' k l.length)
  | [], k, _ => trivial
  | o :: l, k, h => by
    rw [List.length_cons, List.range'_succ]
    refine ⟨by simpa using h 0 (by simp), Nums.seq l (k + 1) fun j hj => ?_⟩
    have := h (j + 1) (by simpa using hj)
    rw [List.getElem?_cons_succ] at this
    rw [← this, Nat.add_right_comm, Nat.add_assoc]

/-- the operations, in a drawn region, in their order: 'F' is held -/
def JK (P : Program) (n : Nat) (w0 : World) (own : List Nat) (ops : Array Oper) (F : Hp) (l : List Oper) (e : Env) (hs : Hp) (K : Env → Hp → Prop) : Prop :=
  ∀ (m : Nat) (is : List Nat) (listed : Array Bool) (Z : Env → Hp → Prop), Nums ops l is → ordB ops l is listed = true → F ⊆ hs →
    (∀ e' hs', F ⊆ hs' → K e' hs' → JD P n w0 own ops F m (marks_ is listed) e' hs' Z) → JD P n w0 own ops F (l.length + m) listed e hs Z

section
variable {P : Program} {n : Nat} {w0 : World} {own : List Nat} {e : Env} {hs F : Hp} {ops : Array Oper} {rest l : List Oper} {K : Env → Hp → Prop}
variable {d : Nat} {ty : TypeId} {pos : String} {aft : Array Edge} {g : Option (Nat × Bool)}

theorem JC.drawK {id : Nat} {Q : Post} {l : List Oper} (F : Hp) (hF : F ⊆ hs) (hm : P.follows .mixedOrders = true) (hB : (ordB l.toArray l (List.range' 0 l.length) (Array.replicate l.length false) && doneB l.toArray (marks_ (List.range' 0 l.length) (Array.replicate l.length false))) = true)
    (h : JK P n w0 own l.toArray F l e hs (fun e' hs' => Q .normal e' hs')) : JC P n w0 own (.region id l.toArray true) e hs Q := by
  rw [Bool.and_eq_true] at hB
  refine JC.draw F hF hm ?_
  have := h 0 (List.range' 0 l.length) (Array.replicate l.length false) (fun e hs => Q .normal e hs) (Nums.seq l 0 fun j hj => by simp) hB.1 hF (fun e' hs' _ ke => JD.done hB.2 ke)
  simpa using this
def pickL (l : List Oper) : List Nat → List Oper
  | [] => []
  | i :: is => match l[i]? with
    | some o => o :: pickL l is
    | none => []
theorem pickL_nums {l : List Oper} : ∀ (is : List Nat), ordB l.toArray (pickL l is) is (Array.replicate l.length false) = true → (pickL l is).length = is.length → Nums l.toArray (pickL l is) is
  | [], _, _ => trivial
  | i :: is, h, hl => by
    have key : ∀ (is : List Nat), (pickL l is).length = is.length → Nums l.toArray (pickL l is) is := by
      intro is
      induction is with
      | nil => intro _; trivial
      | cons i is ih =>
        intro hl
        unfold pickL at hl ⊢
        cases ho : l[i]? with
        | none => rw [ho] at hl; simp at hl
        | some o =>
          rw [ho] at hl
          simp only at hl ⊢
          exact ⟨by simpa using ho, ih (by simpa using hl)⟩
    exact key _ hl
/-- in an order of ours -/
theorem JC.drawP {id : Nat} {Q : Post} {l : List Oper} (is : List Nat) (F : Hp) (hF : F ⊆ hs) (hm : P.follows .mixedOrders = true) (hB : (ordB l.toArray (pickL l is) is (Array.replicate l.length false) && doneB l.toArray (marks_ is (Array.replicate l.length false)) && Nat.beq (pickL l is).length l.length && Nat.beq is.length l.length) = true)
    (h : JK P n w0 own l.toArray F (pickL l is) e hs (fun e' hs' => Q .normal e' hs')) : JC P n w0 own (.region id l.toArray true) e hs Q := by
  rw [Bool.and_eq_true, Bool.and_eq_true, Bool.and_eq_true] at hB
  obtain ⟨⟨⟨h1, h2⟩, h3⟩, h4⟩ := hB
  have h3 := Nat.eq_of_beq_eq_true h3
  have h4 := Nat.eq_of_beq_eq_true h4
  refine JC.draw F hF hm ?_
  have := h 0 is (Array.replicate l.length false) (fun e hs => Q .normal e hs) (pickL_nums is h1 (by omega)) h1 hF (fun e' hs' _ ke => JD.done h2 ke)
  rw [h3] at this
  simpa using this
theorem JK.nil (h : K e hs) : JK P n w0 own ops F [] e hs K := fun m is listed Z hn _ hF hz => by
  cases is with
  | nil => rw [List.length_nil, Nat.zero_add]; exact hz e hs hF h
  | cons i is => exact hn.elim
theorem JK.mono {K' : Env → Hp → Prop} (h : JK P n w0 own ops F l e hs K) (kk : ∀ e hs, K e hs → K' e hs) : JK P n w0 own ops F l e hs K' :=
  fun m k listed Z h1 h2 h3 hz => h m k listed Z h1 h2 h3 fun e' hs' f ke => hz e' hs' f (kk e' hs' ke)
theorem JK.sub {e2 : Env} (hs' : Sub e2 e) (h : JK P n w0 own ops F l e2 hs K) : JK P n w0 own ops F l e hs K :=
  fun m k listed Z h1 h2 h3 hz a w hr s hF => h m k listed Z h1 h2 h3 hz a w (hr.sub hs') s hF
/-- a thing that is known already may be laid on top -/
theorem sub_same' {t : Nat} {v : Value} (ht : get e t = some v) : Sub ((t, v) :: e) e := fun s u hu => by
  simp only [get] at hu
  cases hb : Nat.beq t s with
  | true => rw [hb] at hu; have := Nat.eq_of_beq_eq_true hb; subst this; rw [ht]; simpa using hu
  | false => rw [hb] at hu; exact hu
theorem JK.sub' {e2 : Env} (hs' : Sub e2 e) (h : JK P n w0 own ops F l e2 hs K) : JK P n w0 own ops F l e hs K := JK.sub hs' h
theorem JK.splitB {t : Nat} {b : Bool} (ht : get e t = some (.bool b)) (h1 : b = true → JK P n w0 own ops F l ((t, .bool true) :: e) hs K)
    (h0 : b = false → JK P n w0 own ops F l ((t, .bool false) :: e) hs K) : JK P n w0 own ops F l e hs K := by
  cases b
  · exact JK.sub' (sub_same' ht) (h0 rfl)
  · exact JK.sub' (sub_same' ht) (h1 rfl)

theorem JK.v {op : Op} {v : Value} (h : ∀ hs', F ⊆ hs' → Val P n w0 own e hs' op v) (kk : JK P n w0 own ops F rest ((d, v) :: e) hs K) (hdn : Nat.blt d n = true := by rfl) (hg : wantB ops e g = some true := by rfl) :
    JK P n w0 own ops F (⟨some d, op, ty, pos, aft, g⟩ :: rest) e hs K := by
  intro m is listed Z h1 h2 h3 hz
  cases is with
  | nil => exact h1.elim
  | cons k is =>
  obtain ⟨h0, h1⟩ := h1
  unfold ordB at h2
  rw [Bool.and_eq_true, Bool.or_eq_true, Bool.and_eq_true] at h2
  have tail : JD P n w0 own ops F (rest.length + m) (listed.setIfInBounds k true) ((d, v) :: e) hs Z := kk m is _ Z h1 h2.2 h3 hz
  rw [show (⟨some d, op, ty, pos, aft, g⟩ :: rest : List Oper).length + m = (rest.length + m) + 1 from by simp; omega]
  rcases h2.1 with ho | ⟨_, hf⟩
  · exact JD.ef k h0 ho (h hs h3).eff (fun v' hs' ⟨e1, e2⟩ => by subst e1; subst e2; exact tail) (fun v' hs' ⟨e1, e2⟩ f => by subst e2; exact f) hdn hg
  · exact JD.v k h0 hf h tail hdn hg
/-- an operation that is passed over, whichever way it comes up -/
theorem JK.skw {o : Oper} (ho : o.dst = some d) (hw : ∀ a, Rep n a e → Region.wanted o (yielded ops a.tmps) = false) (kk : JK P n w0 own ops F rest ((d, undef) :: e) hs K) (hdn : Nat.blt d n = true) :
    JK P n w0 own ops F (o :: rest) e hs K := by
  intro m is listed Z h1 h2 h3 hz
  cases is with
  | nil => exact h1.elim
  | cons k is =>
  obtain ⟨h0, h1⟩ := h1
  unfold ordB at h2
  rw [Bool.and_eq_true, Bool.or_eq_true, Bool.and_eq_true] at h2
  have tail : JD P n w0 own ops F (rest.length + m) (listed.setIfInBounds k true) ((d, undef) :: e) hs Z := kk m is _ Z h1 h2.2 h3 hz
  rw [show (o :: rest : List Oper).length + m = (rest.length + m) + 1 from by simp; omega]
  intro a w hr s hf
  have hput := hr.put (Nat.le_of_ble_eq_true hdn) undef
  rcases h2.1 with ho2 | ⟨_, hf2⟩
  · refine wpAnyH_all (rs := [k]) (by simpa [onlyB] using ho2) (by simp) ?_
    intro j hj
    simp only [List.mem_singleton] at hj
    subst hj
    unfold wpOp
    simp only [h0]
    rw [if_neg (by rw [hw a hr]; simp), ho]
    exact ⟨⟨hs, s, hf⟩, tail _ _ hput s hf⟩
  · unfold firstB at hf2
    rw [Bool.and_eq_true, Bool.and_eq_true] at hf2
    refine wpAnyH_take h0 hf2.1.1 hf2.1.2 hf2.2 (fun _ _ _ h => h) (.inr ⟨hw a hr, rfl⟩) ⟨hs, s, hf⟩ ?_
    rw [ho]
    exact tail _ _ hput s hf
theorem JK.sk {op : Op} (kk : JK P n w0 own ops F rest ((d, undef) :: e) hs K) (hdn : Nat.blt d n = true := by rfl) (hg : wantB ops e g = some false := by rfl) :
    JK P n w0 own ops F (⟨some d, op, ty, pos, aft, g⟩ :: rest) e hs K := JK.skw rfl (fun a hr => wanted_of hr hg) kk hdn
theorem JK.skips : ∀ {l : List Oper} {e e1 : Env}, skB ops n l e = some e1 → (∀ e1', Sub e e1' → JK P n w0 own ops F [] e1' hs K) → JK P n w0 own ops F l e hs K
  | [], e, e1, h, k => k e (Sub.refl e)
  | o :: l, e, e1, h, k => by
    unfold skB at h
    cases ho : o.dst with
    | none => rw [ho] at h; cases h
    | some dd =>
      rw [ho] at h
      simp only at h
      split at h
      · rename_i hc
        rw [Bool.and_eq_true, Bool.and_eq_true] at hc
        obtain ⟨⟨c1, c2⟩, c3⟩ := hc
        exact JK.skw ho (fun a hr => skip_step hr ho c3) (JK.skips h fun e1' hs' => k e1' (Sub.trans (sub_app [(dd, undef)] e (by simp [c2])) hs')) c1
      · cases h
theorem JK.app {l1 l2 : List Oper} (h : JK P n w0 own ops F l1 e hs (fun e' hs' => JK P n w0 own ops F l2 e' hs' K)) : JK P n w0 own ops F (l1 ++ l2) e hs K := by
  intro m is listed Z h1 h2 h3 hz
  obtain ⟨k1, k2⟩ := h1.app
  have hl1 := k1.len
  rw [← List.take_append_drop l1.length is, ordB_app _ _ _ _ _ _ hl1, Bool.and_eq_true] at h2
  rw [List.length_append, Nat.add_assoc]
  refine h (l2.length + m) _ listed Z k1 h2.1 h3 fun e' hs' f ke => ke m _ _ Z k2 h2.2 f fun e2 hs2 f2 ke2 => ?_
  have := hz e2 hs2 f2 ke2
  rwa [← List.take_append_drop l1.length is, marks_app] at this
/-- what works on memory, when it is alone -/
theorem JK.ef {op : Op} {R : Value → Hp → Prop} (h : Eff P n w0 own e hs op R) (hF : ∀ v hs', R v hs' → F ⊆ hs → F ⊆ hs') (kk : ∀ v hs', R v hs' → JK P n w0 own ops F rest ((d, v) :: e) hs' K)
    (hE : isEff ⟨some d, op, ty, pos, aft, g⟩ = true := by rfl) (hdn : Nat.blt d n = true := by rfl) (hg : wantB ops e g = some true := by rfl) : JK P n w0 own ops F (⟨some d, op, ty, pos, aft, g⟩ :: rest) e hs K := by
  intro m is listed Z h1 h2 h3 hz
  cases is with
  | nil => exact h1.elim
  | cons k is =>
  obtain ⟨h0, h1⟩ := h1
  unfold ordB at h2
  rw [Bool.and_eq_true, Bool.or_eq_true, hE] at h2
  have ho : onlyB ops listed k = true := by
    rcases h2.1 with h | h
    · exact h
    · simp at h
  rw [show (⟨some d, op, ty, pos, aft, g⟩ :: rest : List Oper).length + m = (rest.length + m) + 1 from by simp; omega]
  exact JD.ef k h0 ho h (fun v hs' r => kk v hs' r m is _ Z h1 h2.2 (hF v hs' r h3) hz) hF hdn hg
theorem JK.st {op : Op} {hs' : Hp} (h : Eff P n w0 own e hs op (fun v h => v = undef ∧ h = hs')) (hF : F ⊆ hs → F ⊆ hs') (kk : JK P n w0 own ops F rest e hs' K)
    (hE : isEff ⟨none, op, ty, pos, aft, g⟩ = true := by rfl) (hg : wantB ops e g = some true := by rfl) : JK P n w0 own ops F (⟨none, op, ty, pos, aft, g⟩ :: rest) e hs K := by
  intro m is listed Z h1 h2 h3 hz
  cases is with
  | nil => exact h1.elim
  | cons k is =>
  obtain ⟨h0, h1⟩ := h1
  unfold ordB at h2
  rw [Bool.and_eq_true, Bool.or_eq_true, hE] at h2
  have ho : onlyB ops listed k = true := by
    rcases h2.1 with h | h
    · exact h
    · simp at h
  rw [show (⟨none, op, ty, pos, aft, g⟩ :: rest : List Oper).length + m = (rest.length + m) + 1 from by simp; omega]
  exact JD.st k h0 ho h (kk m is _ Z h1 h2.2 (hF h3) hz) hF hg
/-- a call that leaves a value alone -/
theorem JK.pc {f : Nat} {fo : Operand} {args : List Operand} {at_ : Array TypeId} {cap vals : List Value} {v : Value}
    (hf : ev e fo = some (.func (.func f) #[] ⟨cap⟩)) (ha : evs e args = some vals) (hc : ∀ w, Sat w0 own hs w → Is P f (vals ++ cap) w v) (kk : JK P n w0 own ops F rest ((d, v) :: e) hs K) [hg : FnT P f]
    (hdn : Nat.blt d n = true := by rfl) (hw : wantB ops e g = some true := by rfl) :
    JK P n w0 own ops F (⟨some d, .call { callee := .value fo, args := ⟨args⟩, argTypes := at_ }, ty, pos, aft, g⟩ :: rest) e hs K :=
  JK.ef (.call0 hf ha hc) (fun _ _ ⟨_, ⟨_, h2⟩, h3⟩ f => by subst h2; subst h3; exact f) (fun _ _ ⟨_, ⟨h1, h2⟩, h3⟩ => by subst h1; subst h2; subst h3; exact kk) rfl hdn hw
/-- a call that is lent nothing -/
theorem JK.cl {f : Nat} {fo : Operand} {args : List Operand} {at_ : Array TypeId} {cap vals : List Value} {R : Value → Hp → Prop}
    (hf : ev e fo = some (.func (.func f) #[] ⟨cap⟩)) (ha : evs e args = some vals) (hc : ∀ w, Sat w0 own hs w → Does P f (vals ++ cap) [] w R) (kk : ∀ v h, R v h → JK P n w0 own ops F rest ((d, v) :: e) (h ++ hs) K) [hg : FnT P f]
    (hdn : Nat.blt d n = true := by rfl) (hw : wantB ops e g = some true := by rfl) :
    JK P n w0 own ops F (⟨some d, .call { callee := .value fo, args := ⟨args⟩, argTypes := at_ }, ty, pos, aft, g⟩ :: rest) e hs K :=
  JK.ef (.call0 hf ha hc) (fun _ _ ⟨_, _, h3⟩ f => by subst h3; exact fun p hp => List.mem_append_right _ (f hp)) (fun v _ ⟨h, h1, h3⟩ => by subst h3; exact kk v h h1) rfl hdn hw
/-- '&&' -/
theorem JK.and {b1 b2 : Bool} (t y m k : Nat) (hl : l.drop m = ⟨some d, .pick (.tmp t) (.tmp y) (.const (.bool false)), ty, pos, aft, g⟩ :: rest) (ht : get e t = some (.bool b1))
    (h : b1 = true → JK P n w0 own ops F (l.take m) ((t, .bool true) :: e) hs (fun e' hs' => hs' = hs ∧ get e' y = some (.bool b2) ∧ Pop k e' ((t, .bool true) :: e)))
    (kk : JK P n w0 own ops F rest ((d, .bool (b1 && b2)) :: e) hs K)
    (hsk : (skB ops n (l.take m) ((t, .bool false) :: e)).isSome = true := by rfl)
    (hdn : Nat.blt d n = true := by rfl) (hg : wantB ops e g = some true := by rfl) : JK P n w0 own ops F l e hs K := by
  rw [← List.take_append_drop m l, hl]
  refine JK.app ?_
  have fin : ∀ (e1 : Env), Sub e e1 → (b1 = true → get e1 y = some (.bool b2)) → JK P n w0 own ops F (⟨some d, .pick (.tmp t) (.tmp y) (.const (.bool false)), ty, pos, aft, g⟩ :: rest) e1 hs K := by
    intro e1 hsub hy
    have hg1 : wantB ops e1 g = some true := by
      unfold wantB at hg ⊢
      cases g with
      | none => rfl
      | some jw =>
        obtain ⟨j, want⟩ := jw
        simp only at hg ⊢
        cases hd : (ops[j]?).bind (·.dst) with
        | none => rw [hd] at hg; cases hg
        | some t2 =>
          rw [hd] at hg
          simp only at hg ⊢
          cases hgt : get e t2 with
          | none => rw [hgt] at hg; cases hg
          | some v2 => rw [hgt] at hg; rw [hsub _ _ hgt]; exact hg
    refine JK.v (v := .bool (b1 && b2)) (fun hs' _ => ?_) (JK.sub (e2 := (d, .bool (b1 && b2)) :: e) ?_ kk) hdn hg1
    · intro a w ty pos aft g d hr s
      have e1t := hr.eval (x := .tmp t) (hsub t _ ht)
      cases hb : b1 with
      | false =>
        rw [hb] at e1t
        have e3 : ∀ v, a.eval (.const v) = v := fun _ => rfl
        simp [execOp, e1t, asBool, e3]
      | true =>
        rw [hb] at e1t
        have e2 := hr.eval (x := .tmp y) (hy hb)
        simp [execOp, e1t, e2, asBool]
    · intro s u hu
      simp only [get] at hu ⊢
      cases hb : Nat.beq d s with
      | true => rw [hb] at hu; exact hu
      | false => rw [hb] at hu; exact hsub s u hu
  cases hb : b1 with
  | true =>
    rw [hb] at ht
    refine JK.sub' (sub_same' ht) ((h hb).mono fun e' hs' ⟨h1, h2, h3⟩ => by subst h1; exact fin e' ((sub_same ht).trans h3.sub) (fun _ => h2))
  | false =>
    rw [hb] at ht
    obtain ⟨e1, he1⟩ := Option.isSome_iff_exists.1 hsk
    refine JK.sub' (sub_same' ht) (JK.skips he1 (fun e1' hs' => JK.nil (fin e1' ((sub_same ht).trans hs') (fun h => by rw [hb] at h; cases h))))
/-- '||' -/
theorem JK.or {b1 b2 : Bool} (t y m k : Nat) (hl : l.drop m = ⟨some d, .pick (.tmp t) (.const (.bool true)) (.tmp y), ty, pos, aft, g⟩ :: rest) (ht : get e t = some (.bool b1))
    (h : b1 = false → JK P n w0 own ops F (l.take m) ((t, .bool false) :: e) hs (fun e' hs' => hs' = hs ∧ get e' y = some (.bool b2) ∧ Pop k e' ((t, .bool false) :: e)))
    (kk : JK P n w0 own ops F rest ((d, .bool (b1 || b2)) :: e) hs K)
    (hsk : (skB ops n (l.take m) ((t, .bool true) :: e)).isSome = true := by rfl)
    (hdn : Nat.blt d n = true := by rfl) (hg : wantB ops e g = some true := by rfl) : JK P n w0 own ops F l e hs K := by
  rw [← List.take_append_drop m l, hl]
  refine JK.app ?_
  have fin : ∀ (e1 : Env), Sub e e1 → (b1 = false → get e1 y = some (.bool b2)) → JK P n w0 own ops F (⟨some d, .pick (.tmp t) (.const (.bool true)) (.tmp y), ty, pos, aft, g⟩ :: rest) e1 hs K := by
    intro e1 hsub hy
    have hg1 : wantB ops e1 g = some true := by
      unfold wantB at hg ⊢
      cases g with
      | none => rfl
      | some jw =>
        obtain ⟨j, want⟩ := jw
        simp only at hg ⊢
        cases hd : (ops[j]?).bind (·.dst) with
        | none => rw [hd] at hg; cases hg
        | some t2 =>
          rw [hd] at hg
          simp only at hg ⊢
          cases hgt : get e t2 with
          | none => rw [hgt] at hg; cases hg
          | some v2 => rw [hgt] at hg; rw [hsub _ _ hgt]; exact hg
    refine JK.v (v := .bool (b1 || b2)) (fun hs' _ => ?_) (JK.sub (e2 := (d, .bool (b1 || b2)) :: e) ?_ kk) hdn hg1
    · intro a w ty pos aft g d hr s
      have e1t := hr.eval (x := .tmp t) (hsub t _ ht)
      cases hb : b1 with
      | true =>
        rw [hb] at e1t
        have e3 : ∀ v, a.eval (.const v) = v := fun _ => rfl
        simp [execOp, e1t, asBool, e3]
      | false =>
        rw [hb] at e1t
        have e2 := hr.eval (x := .tmp y) (hy hb)
        simp [execOp, e1t, e2, asBool]
    · intro s u hu
      simp only [get] at hu ⊢
      cases hb : Nat.beq d s with
      | true => rw [hb] at hu; exact hu
      | false => rw [hb] at hu; exact hsub s u hu
  cases hb : b1 with
  | false =>
    rw [hb] at ht
    refine JK.sub' (sub_same' ht) ((h hb).mono fun e' hs' ⟨h1, h2, h3⟩ => by subst h1; exact fin e' ((sub_same ht).trans h3.sub) (fun _ => h2))
  | true =>
    rw [hb] at ht
    obtain ⟨e1, he1⟩ := Option.isSome_iff_exists.1 hsk
    refine JK.sub' (sub_same' ht) (JK.skips he1 (fun e1' hs' => JK.nil (fin e1' ((sub_same ht).trans hs') (fun h => by rw [hb] at h; cases h))))
end
end V
end Go

/- VS: slices held against nil. -/
namespace Go
namespace V
open Go.RowKit
set_option linter.unusedVariables false
set_option linter.unusedSimpArgs false
section
variable {P : Program} {n : Nat} {w0 : World} {own : List Nat} {e : Env} {hs : Hp}
theorem Val.eql_slice_nil {T U E l c : Nat} {x y : Operand} {a : Option Addr} (hx : ev e x = some (.slice a l c)) (hy : ev e y = some (.slice none 0 0)) [hT : SliceT P T E] :
    Val P n w0 own e hs (.binOp .eql T x y U) (.bool a.isNone) := fun _ w ty pos aft g d hr s => by
  have h : (Op.equalIn (9999 + 1) T (.slice a l c) (.slice none 0 0)).run P w = .ok a.isNone w := by
    cases a <;> (rw [Op.equalIn]; simp [run_underlying hT.out])
  simp only [execOp, hr.eval hx, hr.eval hy, eqGuard, binOp, Op.equal, Op.maxDepth]
  simp [h]
end
end V
end Go

/- VU: slices in place: append that has room, copy, clear, append of zeros that grows, cap, cutting with three numbers, slices.overlaps of two blocks. -/
namespace Go
namespace V
open Go.RowKit
set_option linter.unusedVariables false
set_option linter.unusedSimpArgs false

section
variable {P : Program} {n : Nat} {w0 : World} {own : List Nat} {e : Env} {hs : Hp}

theorem Val.cap_ {x : Operand} {T E len cap : Nat} {a : Option Addr} (hx : ev e x = some (.slice a len cap)) [hT : SliceT P T E] :
    Val P n w0 own e hs (.call { callee := .builtin .cap, args := #[x], argTypes := #[T] }) (.int .i64 cap) :=
  fun b w ty pos aft g d hr s => by
    have hu := hT.out
    simp [execOp, hr.eval hx, resolve, invoke, builtin, Builtin.cap_, run_underlying hu, goInt]
theorem Val.sl3 {T E m len cap : Nat} {x y z u : Operand} {A : Option Addr} {i k l : Int} {q r t : IntKind} (hx : ev e x = some (.slice A len cap)) (hy : ev e y = some (.int q i)) (hz_ : ev e z = some (.int r k)) (hu : ev e u = some (.int t l)) [hT : SliceT P T E] [hE : Sz P E m]
    (h0 : 0 ≤ i) (h1 : i ≤ k) (h2 : k ≤ l) (h3 : l ≤ cap) : Val P n w0 own e hs (.slice T x (some y) (some z) (some u)) (.slice (cutA A l.toNat i.toNat m) (k.toNat - i.toNat) (l.toNat - i.toNat)) := fun a w ty pos aft g d hr s => by
  obtain ⟨j, hj, hz⟩ := hE.out
  have h4 : 0 ≤ k := by omega
  have h5 : 0 ≤ l := by omega
  have h6 : max k 0 = k := by omega
  have h7 : max l 0 = l := by omega
  simp [execOp, hr.eval hx, hr.eval hy, hr.eval hz_, hr.eval hu, Instr.sliceAt, run_underlying hT.out, Instr.slice, Instr.sliceBounds, Instr.sliceBound, asIntOf, h0, h1, h2, h3, h4, h5, h6, h7, sizeOf, typeInfo, hj, hz, cutA]

/-- append that has room: in place -/
theorem Eff.appendIn {s x : Operand} {t u E m by_ c k b o cap : Nat} {z news l : List Value} {xv : Value} {hs' : Hp} (hs_ : ev e s = some (.slice (some ⟨b, o, none⟩) c cap)) (hx : ev e x = some xv) [ht : SliceT P t E] [hu : SliceT P u E] [hE : El P E m by_ z]
    [hb : Mem b (.cells l E) hs] [up : UpdI b (.cells (splice l (o + c * m) news) E) hs hs'] (hsrc : ∀ w, Sat w0 own hs w → Src P w m xv k news) (hn : news.length = k * m) (h1 : ones news = true) (hc : c + k ≤ cap) (hl : o + cap * m ≤ l.length) :
    Eff P n w0 own e hs (.call { callee := .builtin .append, args := #[s, x], argTypes := #[t, u] }) (fun v h => v = .slice (some ⟨b, o, none⟩) (c + k) cap ∧ h = hs') :=
  Eff.of_run fun a w ty pos aft g d hr s' => by
    obtain ⟨i, zv, hi, hm, hby, hz, hzv, hzl⟩ := hE.out
    have hck : (c + k) * m ≤ cap * m := Nat.mul_le_mul_right _ hc
    have hadd : (c + k) * m = c * m + k * m := Nat.add_mul _ _ _
    obtain ⟨w', r1, r2⟩ := s'.splice (P := P) (b := b) (T := E) (o := o + c * m) (l := l) (vs := news) up.out hb.out (by omega) h1
    refine ⟨_, hs', w', ?_, ⟨rfl, rfl⟩, r2⟩
    have h2 := (hsrc w s').2 w (fun _ => rfl)
    have hr1 : (Builtin.append_ #[t, u] ty #[.slice (some ⟨b, o, none⟩) c cap, xv]).run P w = .ok (.slice (some ⟨b, o, none⟩) (c + k) cap) w' := by
      simp only [Builtin.append_, Sem.run_bind]
      simp [run_underlying ht.out, run_underlying hu.out, sizeOf, typeInfo, hi, hm, (hsrc w s').1, h2, hc, add_none, r1]
    simp [execOp, hr.eval hs_, hr.eval hx, resolve, invoke, builtin, hr1]
/-- copy: the first k elements of a source -/
theorem Eff.copyIn {s x : Operand} {t u E m by_ k b o dl dc sl : Nat} {z news l : List Value} {xv : Value} {hs' : Hp} (hs_ : ev e s = some (.slice (some ⟨b, o, none⟩) dl dc)) (hx : ev e x = some xv) [ht : SliceT P t E] [hE : El P E m by_ z]
    [hb : Mem b (.cells l E) hs] [up : UpdI b (.cells (splice l o news) E) hs hs'] (hk : min sl dl = k) (hsl : ∀ w, Sat w0 own hs w → (Builtin.lenOf xv).run P w = .ok sl w) (hsrc : ∀ w, Sat w0 own hs w → (Builtin.firstCells m k xv).run P w = .ok ⟨news⟩ w)
    (h1 : ones news = true) (hl : o + news.length ≤ l.length) :
    Eff P n w0 own e hs (.call { callee := .builtin .copy, args := #[s, x], argTypes := #[t, u] }) (fun v h => v = .int .i64 k ∧ h = hs') :=
  Eff.of_run fun a w ty pos aft g d hr s' => by
    obtain ⟨i, zv, hi, hm, hby, hz, hzv, hzl⟩ := hE.out
    obtain ⟨w', r1, r2⟩ := s'.splice (P := P) (b := b) (T := E) (o := o) (l := l) (vs := news) up.out hb.out hl h1
    refine ⟨_, hs', w', ?_, ⟨rfl, rfl⟩, r2⟩
    have h2 := hsrc w s'
    have hk' : Nat.min sl dl = k := hk
    have hr1 : (Builtin.copy_ #[t, u] ty #[.slice (some ⟨b, o, none⟩) dl dc, xv]).run P w = .ok (.int .i64 k) w' := by
      simp only [Builtin.copy_, Sem.run_bind]
      simp [run_underlying ht.out, sizeOf, typeInfo, hi, hm, hsl w s', hk', h2, r1, goInt]
    simp [execOp, hr.eval hs_, hr.eval hx, resolve, invoke, builtin, hr1]
theorem run_lenOf_sl {w : World} {A : Option Addr} {len cap : Nat} : (Builtin.lenOf (.slice A len cap)).run P w = .ok len w := by simp [Builtin.lenOf]
/-- the first elements of a slice in a block that is held -/
theorem Sat.first {w : World} {b o m k sl c T : Nat} {l news : List Value} (s : Sat w0 own hs w) [hb : Mem b (.cells l T) hs] (hn : news.length = k * m) (h : ∀ j v, news[j]? = some v → l[o + j]? = some v) :
    (Builtin.firstCells m k (.slice (some ⟨b, o, none⟩) sl c)).run P w = .ok ⟨news⟩ w :=
  run_firstCells_some (P := P) w m k ⟨b, o, none⟩ sl c news hn (fun j v hv => by rw [add_none, s.cell hb.out]; exact h j v hv)

def zeros (z : List Value) (k : Nat) : List Value := (List.replicate k z).flatten
theorem zeros_length (z : List Value) (k : Nat) : (zeros z k).length = k * z.length := by simp [zeros]
theorem zeros_get (z : List Value) (k i : Nat) (hi : i < k * z.length) : (zeros z k)[i]? = z[i % z.length]? := by
  induction k generalizing i with
  | zero => simp at hi
  | succ k ih =>
    have hz : 0 < z.length := by
      rcases Nat.eq_zero_or_pos z.length with h | h
      · rw [h] at hi; simp at hi
      · exact h
    unfold zeros
    rw [List.replicate_succ, List.flatten_cons]
    by_cases h : i < z.length
    · rw [List.getElem?_append_left h, Nat.mod_eq_of_lt h]
    · rw [List.getElem?_append_right (by omega)]
      have h2 := ih (i - z.length) (by rw [Nat.add_mul, Nat.one_mul] at hi; omega)
      unfold zeros at h2
      rw [h2, ← Nat.mod_eq_sub_mod (by omega)]
theorem zeroCells_eq (z : List Value) (k : Nat) : (Builtin.zeroCells ⟨z⟩ k).toList = zeros z k := by
  apply List.ext_getElem?
  intro i
  have hlen : (Builtin.zeroCells ⟨z⟩ k).toList.length = k * z.length := by simp [Builtin.zeroCells]
  by_cases hi : i < k * z.length
  · have hz : 0 < z.length := by
      rcases Nat.eq_zero_or_pos z.length with h | h
      · rw [h] at hi; simp at hi
      · exact h
    rw [zeros_get z k i hi]
    have hm := Nat.mod_lt i hz
    simp [Builtin.zeroCells, hi, hm]
  · rw [List.getElem?_eq_none (by omega), List.getElem?_eq_none (by rw [zeros_length]; omega)]
theorem ones_zeros {z : List Value} (h : ones z = true) (k : Nat) : ones (zeros z k) = true := by
  simp only [ones, zeros, List.all_eq_true, List.mem_flatten, List.mem_replicate] at *
  rintro x ⟨l, ⟨_, rfl⟩, hx⟩
  exact h x hx
/-- clear of a slice -/
theorem Eff.clearIn {s : Operand} {t E m by_ b o dl dc : Nat} {z l : List Value} {hs' : Hp} (hs_ : ev e s = some (.slice (some ⟨b, o, none⟩) dl dc)) [ht : SliceT P t E] [hE : El P E m by_ z]
    [hb : Mem b (.cells l E) hs] [up : UpdI b (.cells (splice l o (zeros z dl)) E) hs hs'] (h1 : ones z = true) (hl : o + dl * m ≤ l.length) :
    Eff P n w0 own e hs (.call { callee := .builtin .clear, args := #[s], argTypes := #[t] }) (fun v h => v = .tuple #[] ∧ h = hs') :=
  Eff.of_run fun a w ty pos aft g d hr s' => by
    obtain ⟨i, zv, hi, hm, hby, hz, hzv, hzl⟩ := hE.out
    obtain ⟨w', r1, r2⟩ := s'.splice (P := P) (b := b) (T := E) (o := o) (l := l) (vs := zeros z dl) up.out hb.out (by rw [zeros_length, hzl]; exact hl) (ones_zeros h1 dl)
    have hzc : (Builtin.zeroCells zv.cells dl).toList = zeros z dl := by rw [hzv]; exact zeroCells_eq z dl
    cases dl with
    | zero =>
      have e1 : hs' = hs' := rfl
      have e2 : w' = w := by
        have : (storeCells (⟨b, o, none⟩ : Addr) (zeros z 0)).run P w = .ok () w := by simp [zeros, storeCells]
        rw [this] at r1
        simpa using r1.symm
      refine ⟨.tuple #[], hs', w, ?_, ⟨rfl, rfl⟩, e2 ▸ r2⟩
      have hr1 : (Builtin.clear_ #[t] ty #[.slice (some ⟨b, o, none⟩) 0 dc]).run P w = .ok (.tuple #[]) w := by
        simp only [Builtin.clear_, Sem.run_bind]
        simp [run_underlying ht.out]
      simp [execOp, hr.eval hs_, resolve, invoke, builtin, hr1]
    | succ dl =>
      refine ⟨.tuple #[], hs', w', ?_, ⟨rfl, rfl⟩, r2⟩
      have hr1 : (Builtin.clear_ #[t] ty #[.slice (some ⟨b, o, none⟩) (dl + 1) dc]).run P w = .ok (.tuple #[]) w' := by
        simp only [Builtin.clear_, Sem.run_bind]
        simp [run_underlying ht.out, zeroValue, typeInfo, hi, hz, hzc, r1]
      simp [execOp, hr.eval hs_, resolve, invoke, builtin, hr1]
/-- append(s, make([]E, k)...) that has no room: a new block -/
theorem Eff.appendZ {s x : Operand} {t u E m by_ c k b o cap : Nat} {q : IntKind} {z vs l : List Value} (hs_ : ev e s = some (.slice (some ⟨b, o, none⟩) c cap)) (hx : ev e x = some (.int .i64 (k : Int))) [ht : SliceT P t E] [hu : IntT P u q] [hE : El P E m by_ z]
    [hb : Mem b (.cells l E) hs] (hv : (l.drop o).take (c * m) = vs) (hcl : o + cap * m ≤ l.length) (hcc : c ≤ cap) (hg : cap < c + k) (hm0 : 0 < m)
    (hby : (c + k) * by_ ≤ 140737488355328) (h63 : c + k ≤ 4611686018427387904) :
    Eff P n w0 own e hs (.call { callee := .builtin .append, args := #[s, x], argTypes := #[t, u] }) (fun v h => ∃ b' cap' r, v = .slice (some ⟨b', 0, none⟩) (c + k) cap' ∧ h = (b', .cells (vs ++ zeros z k ++ r) E) :: hs ∧ c + k ≤ cap' ∧ (vs ++ zeros z k ++ r).length = cap' * m) :=
  Eff.of_run fun a w ty pos aft g d hr s' => by
    obtain ⟨i, zv, hi, hm, hby2, hz, hzv, hzl⟩ := hE.out
    have hck : c * m ≤ cap * m := Nat.mul_le_mul_right _ hcc
    have hvl : vs.length = c * m := by rw [← hv]; simp; omega
    have hfo := run_firstCells_some (P := P) w.drew m c ⟨b, o, none⟩ c cap vs hvl (fun j u hj => by
        have hh := s'.cell hb.out (o + j)
        rw [add_none]
        show w.cell? _ = _
        rw [hh, ← hj, ← hv, List.getElem?_take, List.getElem?_drop]
        have := (List.getElem?_eq_some_iff.1 hj).1
        rw [if_pos (by omega)])
    have hge := grownCap_ge w (c + k) cap E
    have h63' : ¬ (9223372036854775807 < ((c : Int) + (k : Int))) := by omega
    have h48' : ¬ (281474976710656 < Builtin.nextslicecap (c + k) cap * by_) := by
      have := growslice_fits (need := c + k) (old := cap) (bytes := by_) (by omega) hby
      omega
    have hkb : k * by_ ≤ (c + k) * by_ := Nat.mul_le_mul_right _ (by omega)
    have hw : IntKind.i64.wrap (k : Int) = k := by rw [IntKind.wrap_i64]; omega
    have hneg : ¬ ((k : Int) < 0) := by omega
    have h48i : ¬ (281474976710656 < (k : Int) * (by_ : Int)) := by rw [← Int.natCast_mul]; omega
    have hns : ¬ (k * m = 0) := Nat.mul_ne_zero (by omega) (by omega)
    have hk0 : k ≠ 0 := by omega
    have hm1 : m ≠ 0 := by omega
    have hr' : ¬ (c + k ≤ cap) := by omega
    refine ⟨.slice (some ⟨w.heap.size, 0, none⟩) (c + k) (grownCap w (c + k) cap E), (w.heap.size, .cells (vs ++ zeros z k ++ (Builtin.zeroCells zv.cells (grownCap w (c + k) cap E - (c + k))).toList) E) :: hs,
      w.drew.alloc (.cells (⟨vs⟩ ++ Builtin.zeroCells zv.cells k ++ Builtin.zeroCells zv.cells (grownCap w (c + k) cap E - (c + k))) E), ?_, ⟨_, _, _, rfl, rfl, hge, ?_⟩, ?_⟩
    · have hr1 : (Builtin.append_ #[t, u] ty #[.slice (some ⟨b, o, none⟩) c cap, .int .i64 k]).run P w = .ok (.slice (some ⟨w.heap.size, 0, none⟩) (c + k) (grownCap w (c + k) cap E)) (w.drew.alloc (.cells (⟨vs⟩ ++ Builtin.zeroCells zv.cells k ++ Builtin.zeroCells zv.cells (grownCap w (c + k) cap E - (c + k))) E)) := by
        simp only [Builtin.append_, Sem.run_bind]
        simp [run_underlying ht.out, run_underlying hu.out, sizeOf, typeInfo, zeroValue, hi, hm, hz, hby2, asInt, asIntOf, hw, hneg, h48i, hns, hk0, hm1, hr', h63', h48', Question.forced, hfo, newRow, grownCap]
      simp [execOp, hr.eval hs_, hr.eval hx, resolve, invoke, builtin, hr1]
    · have h2 : (grownCap w (c + k) cap E) * m = (c + k) * m + (grownCap w (c + k) cap E - (c + k)) * m := by rw [← Nat.add_mul]; congr 1; omega
      have h3 : (c + k) * m = c * m + k * m := Nat.add_mul _ _ _
      simp [hvl, zeros_length, size_zeroCells, hzv, hzl]; omega
    · have := s'.drew.new (.cells (vs ++ zeros z k ++ (Builtin.zeroCells zv.cells (grownCap w (c + k) cap E - (c + k))).toList) E)
      have e1 : (⟨vs⟩ ++ Builtin.zeroCells zv.cells k ++ Builtin.zeroCells zv.cells (grownCap w (c + k) cap E - (c + k)) : Array Value) = ⟨vs ++ zeros z k ++ (Builtin.zeroCells zv.cells (grownCap w (c + k) cap E - (c + k))).toList⟩ := by
        apply Array.ext'
        have : (Builtin.zeroCells zv.cells k).toList = zeros z k := by rw [hzv]; exact zeroCells_eq z k
        simp [this]
      rw [e1]
      exact this
/-- slices.overlaps, as the model has it -/
class OvT (P : Program) (g : Nat) (T R : outParam Nat) : Prop where
  out : ∃ fn, P.funcs[g]? = some fn ∧ (fn.name == "runtime.NumGoroutine") = false ∧ fn.body.isNone = true ∧ Extern.findNext fn = none ∧ Extern.find fn = some (Extern.SlicesOverlaps.overlaps #[T, T] #[R])
theorem Val.overlapsNo {g : Nat} {x y : Operand} {at_ : Array TypeId} {T R E m b1 o1 n1 c1 b2 o2 n2 c2 T1 T2 : Nat} {l1 l2 : List Value} (hx : ev e x = some (.slice (some ⟨b1, o1, none⟩) n1 c1)) (hy : ev e y = some (.slice (some ⟨b2, o2, none⟩) n2 c2)) [hg : OvT P g T R] [hT : SliceT P T E] [hE : Sz P E m]
    [h1 : Mem b1 (.cells l1 T1) hs] [h2 : Mem b2 (.cells l2 T2) hs] (hne : b1 ≠ b2) (hl : l2 ≠ []) :
    Val P n w0 own e hs (.call { callee := .value (.func g), args := #[x, y], argTypes := at_ }) (.bool false) := fun a w ty pos aft gd d hr s => by
  obtain ⟨fn, f1, f2, f3, f4, f5⟩ := hg.out
  obtain ⟨i, hi, hz⟩ := hE.out
  have r1 := s.row h1.out
  have r2 := s.row h2.out
  have ho := Lib.run_overlaps_apart (P := P) w T R E hT.out m (fun w => by simp [sizeOf, typeInfo, hi, hz]) ⟨b1, o1, none⟩ ⟨b2, o2, none⟩ n1 c1 n2 c2 hne T1 T2 l1.length l2.length
    (by simp [World.shape?, r1]) (by simp [World.shape?, r2]) (by simpa using hl) (by simp [World.frozen?, r1]) (by simp [World.frozen?, r1])
  have hc := run_callFunc_extern f1 f2 f3 f4 f5 #[.slice (some ⟨b1, o1, none⟩) n1 c1, .slice (some ⟨b2, o2, none⟩) n2 c2] w
  rw [ho] at hc
  have hf : a.eval (.func g) = .func (.func g) #[] #[] := rfl
  simp [execOp, resolve, hf, hr.eval hx, hr.eval hy, Deferred.ofValue, invoke, hc, Result.andThen]
end
theorem splice_keep (l zs : List Value) (o p q : Nat) (h : p ≤ q) (hl : o + q ≤ l.length) : ((splice l (o + q) zs).drop o).take p = (l.drop o).take p := by
  unfold splice
  rw [List.append_assoc, List.drop_append_of_le_length (by rw [List.length_take]; omega), List.take_append_of_le_length (by rw [List.length_drop, List.length_take]; omega), List.drop_take, List.take_take]
  congr 1; omega
theorem OwnS.some_ {E m n c : Nat} {A : Option Addr} {n' : Nat} {vs : List Value} {h : Hp} (k : OwnS E m (.slice A n' c) n vs h) (hn : 0 < n) :
    ∃ b o l, A = some ⟨b, o, none⟩ ∧ n' = n ∧ h = [(b, .cells l E)] ∧ n ≤ c ∧ o + c * m ≤ l.length ∧ (l.drop o).take (n * m) = vs := by
  rcases k.2 with ⟨_, h2, _⟩ | ⟨b, o, cap, l, h1, h2, h3, h4, h5⟩
  · omega
  · cases h1; exact ⟨b, o, l, rfl, rfl, h2, h3, h4, h5⟩
theorem splice_get (l vs : List Value) (o i : Nat) (h : o + vs.length ≤ l.length) : (splice l o vs)[i]? = if i < o then l[i]? else if i < o + vs.length then vs[i - o]? else l[i]? := by
  unfold splice
  by_cases h1 : i < o
  · rw [if_pos h1, List.append_assoc, List.getElem?_append_left (by rw [List.length_take]; omega), List.getElem?_take, if_pos h1]
  · rw [if_neg h1, List.append_assoc, List.getElem?_append_right (by rw [List.length_take]; omega), List.length_take, Nat.min_eq_left (by omega)]
    by_cases h2 : i < o + vs.length
    · rw [if_pos h2, List.getElem?_append_left (by omega)]
    · rw [if_neg h2, List.getElem?_append_right (by omega), List.getElem?_drop]
      congr 1; omega
/-- one element put in by two copies -/
theorem ins_two (l oc D : List Value) (o p q : Nat) (hq : oc.length = q) (hl : o + p + q + D.length ≤ l.length) :
    ((splice (splice l (o + (p + q)) D) (o + p) oc).drop o).take (p + q + D.length) = (l.drop o).take p ++ oc ++ D := by
  apply List.ext_getElem?
  intro i
  have h1 : (splice l (o + (p + q)) D).length = l.length := splice_length _ _ _ (by omega)
  rw [List.getElem?_take, List.getElem?_drop, splice_get _ _ _ _ (by rw [h1]; omega), splice_get _ _ _ _ (by omega)]
  have ht : ((l.drop o).take p).length = p := by rw [List.length_take, List.length_drop]; omega
  by_cases c1 : i < p
  · rw [if_pos (by omega), if_pos (by omega), if_pos (by omega), List.append_assoc, List.getElem?_append_left (by omega), List.getElem?_take, if_pos c1, List.getElem?_drop]
  · by_cases c2 : i < p + q
    · rw [if_pos (by omega), if_neg (by omega), if_pos (by omega), List.append_assoc, List.getElem?_append_right (by omega), List.getElem?_append_left (by omega), ht]
      congr 1; omega
    · by_cases c3 : i < p + q + D.length
      · rw [if_pos c3, if_neg (by omega), if_neg (by omega), if_neg (by omega), if_pos (by omega), List.getElem?_append_right (by rw [List.length_append]; omega), List.length_append, ht]
        congr 1; omega
      · rw [if_neg c3, List.getElem?_eq_none (by simp only [List.length_append]; omega)]
theorem ins_two' (l oc D : List Value) (o p q : Nat) (hq : oc.length = q) (hl : o + p + q + D.length ≤ l.length) :
    ((splice (splice l (o + p) oc) (o + (p + q)) D).drop o).take (p + q + D.length) = (l.drop o).take p ++ oc ++ D := by
  apply List.ext_getElem?
  intro i
  have h1 : (splice l (o + p) oc).length = l.length := splice_length _ _ _ (by omega)
  rw [List.getElem?_take, List.getElem?_drop, splice_get _ _ _ _ (by rw [h1]; omega), splice_get _ _ _ _ (by omega)]
  have ht : ((l.drop o).take p).length = p := by rw [List.length_take, List.length_drop]; omega
  by_cases c1 : i < p
  · rw [if_pos (by omega), if_pos (by omega), if_pos (by omega), List.append_assoc, List.getElem?_append_left (by omega), List.getElem?_take, if_pos c1, List.getElem?_drop]
  · by_cases c2 : i < p + q
    · rw [if_pos (by omega), if_pos (by omega), if_neg (by omega), if_pos (by omega), List.append_assoc, List.getElem?_append_right (by omega), List.getElem?_append_left (by omega), ht]
      congr 1; omega
    · by_cases c3 : i < p + q + D.length
      · rw [if_pos c3, if_neg (by omega), if_pos (by omega), List.getElem?_append_right (by rw [List.length_append]; omega), List.length_append, ht]
        congr 1; omega
      · rw [if_neg c3, List.getElem?_eq_none (by simp only [List.length_append]; omega)]
/-- the blocks are apart -/
theorem JC.nd {P : Program} {n : Nat} {w0 : World} {own : List Nat} {e : Env} {hs : Hp} {c : Code} {Q : Post} (h : (bl hs).Nodup → JC P n w0 own c e hs Q) : JC P n w0 own c e hs Q := fun a w r s => h s.nd a w r s
end V
end Go
