/- Texts that the row RAucFair stands on: AUQuote2, AUQuote3, AUTrade, AUUnc, AUUnc2, AULaw1, AULaw2, AULaw3, AUMost, AUEmp, AUFairP, AUFairW, AUFairF, AUFairL, VG, VN, VT, VB, KBulk. -/
import Derived.Test.YtamldmgdhaoigaaYAucFairC
import Derived.Test.YtamldmgdhaoigaaYAucFairB
import Derived.SizedLaws
import Derived.Test.YtamldmgdhaoigaaRows
/- auction: Compact, ContainsFunc, best at int; Quote. -/
namespace Go.Proofs.Ytamldmgdhaoigaa
open Go.V
set_option linter.unusedVariables false
set_option linter.unusedSimpArgs false
set_option maxRecDepth 20000

theorem bestI_ok (w : World) (A : Option Addr) (n c g : Nat) [hg : FnT Try.prog g] (cap : List Value) (f : Qt → Int) (l : List Qt) (hA : Rd w [] A (qrows l)) (hn : n = l.length) (hb : n ≤ 1000000) (hc : ∀ (hs : Hp) (w' : World), Sat w [] hs w' → ∀ x ∈ l, Is Try.prog g (.agg ⟨x.cells⟩ :: cap) w' (.int .i64 (f x))) :
    Does Try.prog 38 [.slice A n c, .func (.func g) #[] ⟨cap⟩] [] w (fun v hs => OwnQ v (best f l) hs) := by
  subst hn
  refine Does.less (Does.of (n := 48) Try.func38 rfl rfl rfl rfl ?_)
  refine .seq ((.region (.v (.assign rfl) (.nil ?_))))
  refine .seq ((.region (.v (.assign rfl) (.nil ?_))))
  refine .seq (.seq ((.region (.v (.move rfl) (.v (.len rfl) (.v (.move rfl) (.nil ?_)))))))
  refine .block (.loop (X := BeS) (fun x => [(1, .func (.func g) #[] ⟨cap⟩), (5, x.v), (8, .slice A l.length c), (9, .int .i64 l.length), (10, .int .i64 x.i)]) (fun x => x.h) (fun x => x.i ≤ l.length ∧ OwnQ x.v (best f (l.take x.i)) x.h ∧ (best f (l.take x.i)).length ≤ x.i ∧ ∀ y ∈ best f (l.take x.i), y ∈ l) (fun x => l.length - x.i) ⟨0, .slice none 0 0, []⟩ ⟨Nat.zero_le _, OwnS.nil _ _, Nat.le_refl _, fun y hy => by cases hy⟩ (.cons rfl (.cons rfl (.cons rfl (.cons rfl (.cons rfl (.nil _)))))) (fun _ s => s) ?_)
  rintro ⟨i, v, h⟩ ⟨hi, o, hlen, hin⟩
  dsimp only at hi o hlen hin ⊢
  obtain ⟨Ar, cr, rfl⟩ := o.slice
  refine .seq ((.region (.v (.lss rfl rfl) (.nil ?_))))
  refine .seq (.cond_dec rfl (fun h1 => .skip ?_) (fun h1 => .exit ?_))
  case refine_2 =>
    have : i = l.length := by omega
    subst this
    rw [List.take_length] at o hlen ⊢
    refine .seq ((.region (.v (.move rfl) (.v (.assign rfl) (.nil ?_)))))
    exact .ret ⟨[_], ⟨rfl, trivial⟩, h, fun _ s => s, o⟩
  have hil : i < l.length := by omega
  obtain ⟨ba, oa, rfl, hca⟩ := Rd.recs Qt.cells 5 (fun _ => rfl) hA (by omega) (by omega)
  have q1 := fun hs' => recAt Qt.cells 5 (fun _ => rfl) (z := (i : Int)) (hca hs') hil
  have hS := best_snoc f hil
  have hq := hc
  have hmem := List.getElem_mem hil
  generalize l[i] = x at q1 hS hmem
  generalize best f (l.take i) = r at o hlen hin hS
  refine .mid (X := BeS) (fun y => [(1, .func (.func g) #[] ⟨cap⟩), (5, y.v), (8, .slice (some ⟨ba, oa, none⟩) l.length c), (9, .int .i64 l.length), (10, .int .i64 (i : Nat))]) (fun y => y.h) (fun y => OwnQ y.v (bestS f r x) y.h) (.block (.seq ((.region (.v (.indexAddr rfl rfl (by omega) (by omega)) (.v (.loadA (vs := x.cells) rfl (q1 _) rfl) (.nw .alloc fun b7 => (.st (.sw rfl rfl) (.nil ?_))))))))) ?_
  · cases r with
    | nil =>
      refine .seq (.seq ((.drawP [0, 1, 2, 3, 4, 5, 7, 8, 9, 10, 6, 11, 12, 13] [QB b7 x] (by intro y hy; simp at hy ⊢; exact .inl hy) (by kernel_rfl) (by kernel_rfl) ?_)))
      refine .v (fun _ f => .move rfl) (.v (fun _ f => .len rfl) (.v (fun _ f => .no (.gtr rfl rfl) (by simp)) (.v (fun _ f => .move rfl) (.and (b2 := true) 17 26 9 9 rfl rfl (fun g1 => absurd g1 (by simp)) (.nil ?_)))))
      refine .cond_false rfl (.skip ?_)
      refine .seq ((.drawP [0, 1, 2, 3, 4, 5, 7, 8, 9, 10, 6, 11, 12, 13] [QB b7 x] (by intro y hy; simp at hy ⊢; exact .inl hy) (by kernel_rfl) (by kernel_rfl) ?_))
      refine .v (fun _ f => .move rfl) (.v (fun _ f => .len rfl) (.v (fun _ f => .yes (.eqi rfl rfl) (by simp)) (.v (fun _ f => .move rfl) (.or (b2 := true) 31 40 9 9 rfl rfl (fun g1 => absurd g1 (by simp)) (.nil ?_)))))
      refine .cond_true rfl ?_
      refine .region (.v (.move rfl) (.v (.loadA (vs := x.cells) rfl .whole rfl) ?_))
      refine .push (h := h) (oc := x.cells) (c := 0) (vs := []) rfl rfl o rfl rfl rfl (by omega) (by omega) fun bn vn hn on => .v (.assign rfl) (.nil ?_)
      exact ⟨⟨0, vn, hn⟩, on, .cons rfl (.cons rfl (.cons rfl (.cons rfl (.cons rfl (.nil _))))), fun _ s => s.take⟩
    | cons y r =>
      obtain ⟨br, or_, lr, rfl, -, rfl, -, -, -⟩ := OwnS.some_ o (by simp)
      have qy : ∀ own hs', [(br, Ch.cells lr 30)] ⊆ hs' → At w own hs' ⟨br, or_, none⟩ y.cells := fun own hs' hsub => by
        have := recAt (w0 := w) (own := own) (hs := hs') Qt.cells 5 (fun _ => rfl) (z := 0) (OwnS.at0 o hsub) (i := 0) (by simp)
        simpa using this
      have hy := hin y List.mem_cons_self
      have hlr : 0 < (y :: r).length := by simp
      refine .seq (.seq ((.drawP [0, 1, 2, 3, 4, 5, 7, 8, 9, 10, 6, 11, 12, 13] [QB b7 x, (br, .cells lr 30)] (by intro y hy; simp at hy ⊢; exact hy) (by kernel_rfl) (by kernel_rfl) ?_)))
      refine .v (fun _ f => .move rfl) (.v (fun _ f => .len rfl) (.v (fun _ f => .yes (.gtr rfl rfl) (by simp)) (.v (fun _ f => .move rfl) (.and (b2 := decide (f x < f y)) 17 26 9 9 rfl rfl (fun g1 => .v (fun _ f => .move rfl) (.v (fun _ f => .loadA (vs := x.cells) rfl (.whole (hb := .sub f)) rfl) (.v (fun _ f => .move rfl) (.v (fun _ f => .move rfl) (.v (fun _ f => .indexM 0 rfl rfl hlr) (.v (fun _ f => .loadA (vs := y.cells) rfl (by rw [Nat.zero_mul]; exact qy _ _ (fun u hu => f (by simp at hu; subst hu; simp))) rfl) (.pc rfl rfl (fun w s => hc _ w s x hmem) (.pc rfl rfl (fun w s => hc _ w s y hy) (.v (fun _ f => .lss rfl rfl) (.nil ⟨rfl, rfl, rfl, rfl⟩)))))))))) (.nil ?_)))))
      by_cases c1 : f x < f y
      · have e : bestS f (y :: r) x = [x] := if_pos c1
        rw [e]
        refine .cond_true (by show some (Value.bool _) = _; rw [decide_eq_true c1]; rfl) (.region (.v (.assign rfl) (.nil ?_)))
        refine .seq ((.drawP [0, 1, 2, 3, 4, 5, 7, 8, 9, 10, 6, 11, 12, 13] [QB b7 x] (by intro y hy; simp at hy ⊢; exact .inl hy) (by kernel_rfl) (by kernel_rfl) ?_))
        refine .v (fun _ f => .move rfl) (.v (fun _ f => .len rfl) (.v (fun _ f => .yes (.eqi rfl rfl) (by simp)) (.v (fun _ f => .move rfl) (.or (b2 := true) 31 40 9 9 rfl rfl (fun g1 => absurd g1 (by simp)) (.nil ?_)))))
        refine .cond_true rfl ?_
        refine .region (.v (.move rfl) (.v (.loadA (vs := x.cells) rfl .whole rfl) ?_))
        refine .push (h := []) (oc := x.cells) (c := 0) (vs := []) rfl rfl (OwnS.nil _ _) rfl rfl rfl (by omega) (by omega) fun bn vn hn on => .v (.assign rfl) (.nil ?_)
        exact ⟨⟨0, vn, hn⟩, on, .cons rfl (.cons rfl (.cons rfl (.cons rfl (.cons rfl (.nil _))))), fun _ s => s.take⟩
      · refine .cond_false (by show some (Value.bool _) = _; rw [decide_eq_false c1]; rfl) (.skip ?_)
        refine .seq ((.drawP [0, 1, 2, 3, 4, 5, 7, 8, 9, 10, 6, 11, 12, 13] [QB b7 x, (br, .cells lr 30)] (by intro y hy; simp at hy ⊢; exact hy) (by kernel_rfl) (by kernel_rfl) ?_))
        refine .v (fun _ f => .move rfl) (.v (fun _ f => .len rfl) (.v (fun _ f => .no (.eqi rfl rfl) (by simp; omega)) (.v (fun _ f => .move rfl) (.or (b2 := decide (f x = f y)) 31 40 9 9 rfl rfl (fun g1 => .v (fun _ f => .move rfl) (.v (fun _ f => .loadA (vs := x.cells) rfl (.whole (hb := .sub f)) rfl) (.v (fun _ f => .move rfl) (.v (fun _ f => .move rfl) (.v (fun _ f => .indexM 0 rfl rfl hlr) (.v (fun _ f => .loadA (vs := y.cells) rfl (by rw [Nat.zero_mul]; exact qy _ _ (fun u hu => f (by simp at hu; subst hu; simp))) rfl) (.pc rfl rfl (fun w s => hc _ w s x hmem) (.pc rfl rfl (fun w s => hc _ w s y hy) (.v (fun _ f => .eqi rfl rfl) (.nil ⟨rfl, rfl, rfl, rfl⟩)))))))))) (.nil ?_)))))
        by_cases c2 : f x = f y
        · have e : bestS f (y :: r) x = (y :: r) ++ [x] := by rw [bestS_cons, if_neg c1, if_pos c2]
          rw [e]
          refine .cond_true (by show some (Value.bool _) = _; rw [decide_eq_true c2]; rfl) ?_
          refine .region (.v (.move rfl) (.v (.loadA (vs := x.cells) rfl .whole rfl) ?_))
          refine .push (h := [(br, .cells lr 30)]) (oc := x.cells) (c := (y :: r).length) (vs := qrows (y :: r)) rfl rfl o rfl rfl rfl (by omega) (by omega) fun bn vn hn on => .v (.assign rfl) (.nil ?_)
          refine ⟨⟨0, vn, hn⟩, ?_, .cons rfl (.cons rfl (.cons rfl (.cons rfl (.cons rfl (.nil _))))), fun _ s => s.take⟩
          show OwnS 30 5 vn ((y :: r) ++ [x]).length (qrows ((y :: r) ++ [x])) hn
          rw [List.length_append, show qrows ((y :: r) ++ [x]) = qrows (y :: r) ++ x.cells by simp [qrows]]
          exact on
        · have e : bestS f (y :: r) x = y :: r := by rw [bestS_cons, if_neg c1, if_neg c2]
          rw [e]
          refine .cond_false (by show some (Value.bool _) = _; rw [decide_eq_false c2]; rfl) (.skip ?_)
          exact ⟨⟨0, _, [(br, .cells lr 30)]⟩, o, .cons rfl (.cons rfl (.cons rfl (.cons rfl (.cons rfl (.nil _))))), fun _ s => s.take⟩
  rintro ⟨_, v', h'⟩ o'
  dsimp only at o' ⊢
  refine .region (.v (.addi rfl rfl (by omega)) (.v (.move rfl) (.nil ?_)))
  refine ⟨⟨i + 1, v', h'⟩, ⟨by show i + 1 ≤ _; omega, by rw [hS]; exact o', ?_, ?_⟩, by show l.length - (i + 1) < l.length - i; omega, .cons rfl (.cons rfl (.cons rfl (.cons rfl (.cons rfl (.nil _))))), fun _ s => s⟩
  · show (best f (l.take (i + 1))).length ≤ i + 1
    rw [hS]; unfold bestS
    split
    · simp
    · split
      · simp
      · split
        · simp only [List.length_append, List.length_cons, List.length_nil] at hlen ⊢; omega
        · omega
  · show ∀ y ∈ best f (l.take (i + 1)), y ∈ l
    rw [hS]; unfold bestS
    intro y hy
    split at hy
    · rw [List.mem_singleton.1 hy]; exact hmem
    · split at hy
      · rw [List.mem_singleton.1 hy]; exact hmem
      · split at hy
        · rcases List.mem_append.1 hy with hy | hy
          · exact hin y hy
          · rw [List.mem_singleton.1 hy]; exact hmem
        · exact hin y hy
/-! ### how far from the reference -/
theorem nFar_ok (w : World) (bc p : Nat) (rf rm : Int) (v : Value) (q : Qt) (h1 : Rd w [] (some ⟨bc, 0, none⟩) [.pointer (some ⟨p, 0, none⟩)]) (h2 : Rd w [] (some ⟨p, 0, none⟩) (ccells rf rm v)) (hr : tickP rf) (hq : tickP q.pr) :
    Is Try.prog 39 [.agg ⟨q.cells⟩, .pointer (some ⟨bc, 0, none⟩)] w (.int .i64 (nFar rf q)) := by
  obtain ⟨r1, r2⟩ := hr
  obtain ⟨r3, r4⟩ := hq
  refine Does.pure (Does.of (n := 19) Try.func39 rfl rfl rfl rfl ?_)
  refine .seq ((.region (.nw (.box (l := q.cells) rfl rfl) fun b2 => (.v (.assign rfl) (.nil ?_)))))
  refine .seq ((.drawK [QB b2 q] (fun _ h => h) (by kernel_rfl) (by kernel_rfl) ?_))
  refine .v (fun _ f => .fieldAddr rfl) (.v (fun _ f => .load (v := .int .i64 q.pr) rfl (.one (hb := .sub f) rfl)) (.v (fun _ f => .load (v := .pointer (some ⟨p, 0, none⟩)) rfl (h1.cell (i := 0) rfl)) (.v (fun _ f => .nilCheck rfl) (.v (fun _ f => .fieldAddr rfl) (.v (fun _ f => .load (v := .int .i64 rf) rfl (h2.cell (i := 0) rfl)) (.v (fun _ f => .subi rfl rfl (by omega)) (.v (fun _ f => .load (v := .pointer (some ⟨p, 0, none⟩)) rfl (h1.cell (i := 0) rfl)) (.v (fun _ f => .nilCheck rfl) (.v (fun _ f => .fieldAddr rfl) (.v (fun _ f => .load (v := .int .i64 rf) rfl (h2.cell (i := 0) rfl)) (.v (fun _ f => .fieldAddr rfl) (.v (fun _ f => .load (v := .int .i64 q.pr) rfl (.one (hb := .sub f) rfl)) (.v (fun _ f => .subi rfl rfl (by omega)) ?_)))))))))))))
  refine .v (fun _ f => .max2 rfl rfl) (.v (fun _ f => .assign rfl) (.nil ?_))
  exact .ret ⟨[_], ⟨rfl, trivial⟩, rfl⟩
/-! ### is a side everywhere? -/
theorem isSd_ok (w : World) (b : Nat) (s : Int) (q : Qt) (hb : Rd w [] (some ⟨b, 0, none⟩) [.int .i64 s]) : Is Try.prog 37 [.agg ⟨q.cells⟩, .pointer (some ⟨b, 0, none⟩)] w (.bool (decide (q.sd ≠ s))) := by
  refine Does.pure (Does.of (n := 8) Try.func37 rfl rfl rfl rfl ?_)
  refine .seq ((.region (.nw (.box (l := q.cells) rfl rfl) fun b2 => (.v (.assign rfl) (.nil ?_)))))
  refine .seq ((.region (.v (.fieldAddr rfl) (.v (.load (v := .int .i64 q.sd) rfl (.one rfl)) (.v (.load (v := .int .i64 s) rfl (hb.cell (i := 0) rfl)) (.v (.nei rfl rfl) (.v (.assign rfl) (.nil ?_))))))))
  exact .ret ⟨[_], ⟨rfl, trivial⟩, rfl⟩
def ixQ (s : Int) (l : List Qt) : Int := match l.findIdx? (fun q => decide (q.sd ≠ s)) with
  | some i => i
  | none => -1
theorem ixQ_all (s : Int) (l : List Qt) : decide (ixQ s l ≥ 0) = !allSide s l := by
  unfold ixQ
  cases h : l.findIdx? (fun q => decide (q.sd ≠ s)) with
  | none =>
    rw [List.findIdx?_eq_none_iff] at h
    have : allSide s l = true := List.all_eq_true.2 fun x hx => by simpa using h x hx
    rw [this]; rfl
  | some i =>
    rw [List.findIdx?_eq_some_iff_getElem] at h
    obtain ⟨hi, h1, _⟩ := h
    have : allSide s l = false := by
      rw [Bool.eq_false_iff]
      intro hh
      have := List.all_eq_true.1 hh l[i] (List.getElem_mem hi)
      simp at this h1
      exact h1 this
    rw [this]
    show decide ((i : Int) ≥ 0) = !false
    rw [decide_eq_true (by omega)]; rfl
theorem indexQ_ok (w : World) (A : Option Addr) (n c b : Nat) (s : Int) (d : List Qt) (hA : Rd w [] A (qrows d)) (hn : d.length = n) (hb2 : n < 2305843009213693952) (hb : Rd w [] (some ⟨b, 0, none⟩) [.int .i64 s]) :
    Is Try.prog 64 [.slice A n c, .func (.func 37) #[] ⟨[.pointer (some ⟨b, 0, none⟩)]⟩] w (.int .i64 (ixQ s d)) := by
  refine Does.pure (Does.of (n := 19) Try.func64 rfl rfl rfl rfl ?_)
  refine .seq ((.region (.v (.assign rfl) (.nil ?_))))
  refine .seq (.seq ((.region (.v (.move rfl) (.v (.len rfl) (.v (.move rfl) (.nil ?_)))))))
  refine .block (.loop (X := Nat) (fun i => [(0, .slice A n c), (1, .func (.func 37) #[] ⟨[.pointer (some ⟨b, 0, none⟩)]⟩), (7, .int .i64 n), (8, .int .i64 (i : Nat))]) (fun _ => []) (fun i => i ≤ n ∧ ∀ j, (hj : j < d.length) → j < i → decide (d[j].sd ≠ s) = false) (fun i => n - i) 0 ⟨Nat.zero_le _, fun i h h' => absurd h' (by omega)⟩
    (.cons rfl (.cons rfl (.cons rfl (.cons rfl (.nil _))))) (fun _ s => s) ?_)
  rintro i ⟨hi, hf⟩
  try dsimp only at hi hf ⊢
  refine .seq ((.region (.v (.lss rfl rfl) (.nil ?_))))
  refine .seq (.cond_dec rfl (fun h1 => .skip ?_) (fun h1 => .exit ?_))
  · have hin : i < n := by omega
    have hid : i < d.length := by omega
    obtain ⟨ba, oa, rfl, hc⟩ := Rd.recs Qt.cells 5 (fun _ => rfl) hA (by omega) (by omega)
    have q1 := fun hs' => recAt Qt.cells 5 (fun _ => rfl) (z := (i : Int)) (hc hs') hid
    refine .seq (.block (.seq ((.region (.v (.move rfl) (.v (.assign rfl) (.nil ?_)))))))
    refine .seq ((.region (.v (.move rfl) (.v (.move rfl) (.v (.move rfl) (.v (.indexAddr rfl rfl (by omega) (by omega)) (.v (.loadA (vs := (d[i]).cells) rfl (q1 _) rfl) (.pc (v := .bool (decide (d[i].sd ≠ s))) rfl rfl (fun w u => isSd_ok w b s _ (hb.keep0 u)) (.nil ?_)))))))))
    refine .cond rfl (fun h2 => ?_) (fun h2 => .skip ?_)
    · refine .seq ((.region (.v (.move rfl) (.v (.assign rfl) (.nil ?_)))))
      refine .ret ⟨[_], ⟨rfl, trivial⟩, ?_⟩
      have : d.findIdx? (fun q => decide (q.sd ≠ s)) = some i := by
        rw [List.findIdx?_eq_some_iff_getElem]
        exact ⟨hid, h2, fun j hj => by rw [hf j (by omega) hj]; exact Bool.false_ne_true⟩
      rw [ixQ, this]; rfl
    · refine .region (.v (.addE ((i + 1 : Nat) : Int) rfl rfl (by omega) (by omega)) (.v (.move rfl) (.nil ?_)))
      exact ⟨i + 1, ⟨by omega, fun j hj hj' => by rcases Nat.lt_succ_iff_lt_or_eq.1 hj' with h | rfl; exact hf j hj h; exact h2⟩, by omega, .cons rfl (.cons rfl (.cons rfl (.cons rfl (.nil _)))), fun _ s => s⟩
  · refine .seq ((.region (.v (.assign rfl) (.nil ?_))))
    refine .ret ⟨[_], ⟨rfl, trivial⟩, ?_⟩
    have : d.findIdx? (fun q => decide (q.sd ≠ s)) = none := by
      rw [List.findIdx?_eq_none_iff]
      intro x hx
      obtain ⟨j, hj, rfl⟩ := List.getElem_of_mem hx
      exact hf j hj (by omega)
    rw [ixQ, this]; rfl
theorem sides_ok (w : World) (bl_ : Nat) (A : Option Addr) (c : Nat) (d : List Qt) (s : Int) (hl : Rd w [] (some ⟨bl_, 0, none⟩) [.slice A d.length c]) (hA : Rd w [] A (qrows d)) (hb2 : d.length < 2305843009213693952) :
    Is Try.prog 35 [.int .i64 s, .pointer (some ⟨bl_, 0, none⟩)] w (.bool (allSide s d)) := by
  have con : ∀ (w' : World) (b : Nat), Rd w' [] A (qrows d) → Rd w' [] (some ⟨b, 0, none⟩) [.int .i64 s] → Is Try.prog 36 [.slice A d.length c, .func (.func 37) #[] ⟨[.pointer (some ⟨b, 0, none⟩)]⟩] w' (.bool (!allSide s d)) := by
    intro w' b h1 h2
    refine Does.pure (Does.of (n := 9) Try.func36 rfl rfl rfl rfl ?_)
    refine .seq ((.region (.v (.assign rfl) (.nil ?_))))
    refine .seq ((.region (.v (.move rfl) (.v (.move rfl) (.pc rfl rfl (fun w u => indexQ_ok w A d.length c b s d (h1.keep0 u) rfl hb2 (h2.keep0 u)) (.v (.as (.geq rfl rfl) (congrArg Value.bool (ixQ_all s d))) (.v (.assign rfl) (.nil ?_))))))))
    exact .ret ⟨[_], ⟨rfl, trivial⟩, rfl⟩
  refine Does.pure (Does.of (n := 8) Try.func35 rfl rfl rfl rfl ?_)
  refine .seq ((.region (.nw (.box (l := [.int .i64 s]) rfl rfl) fun b2 => (.v (.assign rfl) (.nil ?_)))))
  refine .seq ((.region (.v (.load (v := .slice A d.length c) rfl (hl.cell (i := 0) rfl)) (.v (.makeFunc rfl rfl) (.pc rfl rfl (fun w' u => con w' b2 (hA.keep0 u) (Rd.chunk u (l := [.int .i64 s]) (T := 3) (by simp) (fun j v hv => by rw [Nat.zero_add]; exact hv))) (.v (.not rfl) (.v (.assign rfl) (.nil ?_))))))))
  exact .ret ⟨[_], ⟨rfl, trivial⟩, by rw [Bool.not_not]; rfl⟩
/-! ### each price once -/
theorem compactZ_snoc : ∀ (l : List Int) (y x : Int), compactZ (l ++ [y, x]) = if y = x then compactZ (l ++ [y]) else compactZ (l ++ [y]) ++ [x]
  | [], y, x => by
    by_cases e : y = x <;> simp [compactZ, e]
  | [a], y, x => by
    show compactZ (a :: y :: [x]) = if y = x then compactZ [a, y] else compactZ [a, y] ++ [x]
    have h := compactZ_snoc [] y x
    simp only [List.nil_append] at h
    rw [compactZ, h]
    by_cases e : a = y <;> by_cases e2 : y = x <;> simp [compactZ, e, e2]
  | a :: b :: l, y, x => by
    have h := compactZ_snoc (b :: l) y x
    show compactZ (a :: b :: (l ++ [y, x])) = if y = x then compactZ (a :: b :: (l ++ [y])) else compactZ (a :: b :: (l ++ [y])) ++ [x]
    rw [compactZ, compactZ]
    rw [show b :: (l ++ [y, x]) = (b :: l) ++ [y, x] from rfl, show b :: (l ++ [y]) = (b :: l) ++ [y] from rfl, h]
    by_cases e : a = b <;> by_cases e2 : y = x <;> simp [e, e2]
theorem compactZ_take {z : List Int} {j : Nat} (h0 : 0 < j) (hj : j < z.length) : compactZ (z.take (j + 1)) = if z[j - 1]! = z[j]! then compactZ (z.take j) else compactZ (z.take j) ++ [z[j]!] := by
  rw [getElem!_pos z j hj, getElem!_pos z (j - 1) (by omega)]
  obtain ⟨j, rfl⟩ : ∃ k, j = k + 1 := ⟨j - 1, by omega⟩
  have e1 : z.take (j + 1 + 1) = z.take j ++ [z[j], z[j + 1]] := by
    rw [List.take_succ_eq_append_getElem hj, List.take_succ_eq_append_getElem (show j < z.length by omega)]; simp only [List.append_assoc, List.cons_append, List.nil_append]
  have e2 : z.take (j + 1) = z.take j ++ [z[j]] := List.take_succ_eq_append_getElem (by omega)
  rw [e1, e2, compactZ_snoc]; rfl
theorem compactZ_len : ∀ l : List Int, (compactZ l).length ≤ l.length
  | [] => Nat.le_refl _
  | [_] => Nat.le_refl _
  | a :: b :: l => by
    have := compactZ_len (b :: l)
    unfold compactZ
    split <;> simp only [List.length_cons] at * <;> omega
structure CoI (z : List Int) (d : Array Int) (k j : Nat) : Prop where
  kj : 0 < k ∧ k ≤ j
  jz : j ≤ z.length
  sz : d.size = z.length
  tk : d.toList.take k = compactZ (z.take j)
  rd : ∀ i, j ≤ i + 1 → i < z.length → d[i]! = z[i]!
structure CoS where
  k : Nat
  j : Nat
  d : Array Int
  l : List Value
theorem CoI.go {z : List Int} {d : Array Int} {k j : Nat} (h : CoI z d k j) (hj : j < z.length) (hn : z[j - 1]! ≠ z[j]!) (hkj : k < j) : CoI z (d.setIfInBounds k d[j]!) (k + 1) (j + 1) := by
  obtain ⟨h1, h2⟩ := h.kj
  have hs := h.sz
  refine ⟨⟨by omega, by omega⟩, hj, by rw [Array.size_setIfInBounds]; exact hs, ?_, fun i hi hiz => ?_⟩
  · rw [compactZ_take (by omega) hj, if_neg hn, ← h.tk, h.rd j (by omega) hj]
    rw [Array.toList_setIfInBounds, List.take_succ_eq_append_getElem (by simp [hs]; omega)]
    simp
    exact List.take_set_of_le (Nat.le_refl _)
  · rw [← h.rd i (by omega) hiz]
    have hik : i < d.size := by omega
    rw [getElem!_pos _ i (by rw [Array.size_setIfInBounds]; exact hik), getElem!_pos d i hik, Array.getElem_setIfInBounds_ne _ (by omega)]
theorem CoI.skip {z : List Int} {d : Array Int} {k j : Nat} (h : CoI z d k j) (hj : j < z.length) (hn : z[j - 1]! = z[j]!) : CoI z d k (j + 1) := by
  obtain ⟨h1, h2⟩ := h.kj
  refine ⟨⟨h1, by omega⟩, hj, h.sz, ?_, fun i hi hiz => h.rd i (by omega) hiz⟩
  rw [compactZ_take (by omega) hj, if_pos hn, h.tk]
theorem compact_ok (w : World) {b o c n : Nat} {z : List Int} {l : List Value} (k0 : SoI b o c n z.toArray l) (hn : 1 ≤ n ∧ n ≤ 1000000) :
    Does Try.prog 29 [.slice (some ⟨b, o, none⟩) n c] [(b, .cells l 3)] w (fun v hs => ∃ l', v = .slice (some ⟨b, o, none⟩) (compactZ z).length c ∧ hs = [(b, .cells l' 3)] ∧ OwnS 3 1 v (compactZ z).length (ints .i64 (compactZ z)) hs) := by
  have hzn : z.length = n := by have := k0.sz; simpa using this
  have upto : ∀ {d : Array Int} {l : List Value} {k : Nat}, SoI b o c n d l → d.toList.take k = compactZ z → k ≤ n → OwnS 3 1 (.slice (some ⟨b, o, none⟩) (compactZ z).length c) (compactZ z).length (ints .i64 (compactZ z)) [(b, .cells l 3)] := by
    intro d l k kk e hk
    have hsz := kk.sz
    have hlen : (compactZ z).length = k := by rw [← e, List.length_take]; simp [hsz]; omega
    rw [hlen, ← e]
    obtain ⟨m1, m2⟩ := kk.own
    refine ⟨by simp [ints, hsz]; omega, ?_⟩
    rcases m2 with ⟨_, _, h3⟩ | ⟨b', o', cap', l', e1, e2, e3, e4, e5⟩
    · cases h3
    · cases e1; cases e2
      refine .inr ⟨b, o, c, l, rfl, rfl, by omega, e4, ?_⟩
      have : ints .i64 (d.toList.take k) = (ints .i64 d.toList).take (k * 1) := by rw [Nat.mul_one]; simp [ints]
      rw [this, ← e5, List.take_take, Nat.min_eq_left (by omega)]
  refine Does.of (n := 61) Try.func29 rfl rfl rfl rfl ?_
  refine .seq ((.region (.v (.assign rfl) (.nil ?_))))
  refine .seq (.seq ((.region (.v (.move rfl) (.v (.len rfl) (.v (.lss rfl rfl) (.nil ?_)))))))
  refine .cond_dec rfl (fun h1 => ?_) (fun h1 => .skip ?_)
  · have hz1 : z.length = 1 := by omega
    obtain ⟨x, rfl⟩ := List.length_eq_one_iff.1 hz1
    refine .seq ((.region (.v (.move rfl) (.v (.assign rfl) (.nil ?_)))))
    have : n = 1 := by simpa using hzn.symm
    subst this
    exact .ret ⟨[_], ⟨rfl, trivial⟩, l, rfl, rfl, upto k0 (k := 1) rfl (Nat.le_refl _)⟩
  refine .seq (.seq ((.region (.v (.assign rfl) (.nil ?_)))))
  refine .block (.loop (X := Nat) (fun k => [(0, .slice (some ⟨b, o, none⟩) n c), (3, .int .i64 (k : Nat))]) (fun _ => [(b, .cells l 3)]) (fun k => k ≤ n ∧ CoI z z.toArray k k) (fun k => n - k) 1 ⟨hn.1, ⟨by omega, Nat.le_refl _⟩, by omega, by simp, by
      cases z with
      | nil => simp at hzn; omega
      | cons a z => rfl, fun i _ hi => by simp⟩ (.cons rfl (.cons rfl (.nil _))) (fun _ s => s) ?_)
  rintro k ⟨hk, hI⟩
  try dsimp only at hk hI ⊢
  refine .seq (.seq ((.region (.v (.move rfl) (.v (.move rfl) (.v (.len rfl) (.v (.lss rfl rfl) (.nil ?_))))))))
  refine .cond_dec rfl (fun h2 => .skip ?_) (fun h2 => .exit ?_)
  case refine_2 =>
    have : k = n := by omega
    subst this
    have e := hI.tk
    rw [List.take_of_length_le (Nat.le_of_eq hzn)] at e
    have el : (compactZ z).length = k := by rw [← e]; simp [hzn]
    refine .seq ((.region (.v (.move rfl) (.v (.assign rfl) (.nil ?_)))))
    exact .ret ⟨[_], ⟨rfl, trivial⟩, l, by rw [el]; rfl, rfl, by have := upto k0 (k := k) (by show z.take k = _; rw [List.take_of_length_le (Nat.le_of_eq hzn)]; exact e) (Nat.le_refl _); rw [el] at this ⊢; exact this⟩
  have hkn : k < n := by omega
  have hkz : k < z.length := by omega
  obtain ⟨hk0, -⟩ := hI.kj
  have q1 := fun hs' hsub => k0.at_ (w0 := w) (own := [b]) (hs := hs') (i := k) hkn hsub
  have q2 := fun hs' hsub => k0.at_ (w0 := w) (own := [b]) (hs := hs') (i := k - 1) (by omega) hsub
  rw [hI.rd k (by omega) hkz] at q1
  rw [hI.rd (k - 1) (by omega) (by omega)] at q2
  refine .seq (.block (.seq ((.drawK [(b, .cells l 3)] (fun _ h => h) (by kernel_rfl) (by kernel_rfl) ?_))))
  refine .v (fun _ f => .move rfl) (.v (fun _ f => .move rfl) (.v (fun _ f => .indexN k rfl rfl hkn) (.v (fun _ f => .load (v := .int .i64 z[k]!) rfl (q1 _ f)) (.v (fun _ f => .move rfl) (.v (fun _ f => .move rfl) (.v (fun _ f => .subE ((k - 1 : Nat) : Int) rfl rfl (by omega) (by omega)) (.v (fun _ f => .indexN (k - 1) rfl rfl (by omega)) (.v (fun _ f => .load (v := .int .i64 z[k - 1]!) rfl (q2 _ f)) (.v (fun _ f => .eqi rfl rfl) (.nil ?_))))))))))
  refine .cond_dec rfl (fun h3 => ?_) (fun h3 => .skip ?_)
  case refine_2 =>
    refine .region (.v (.move rfl) (.v (.addE ((k + 1 : Nat) : Int) rfl rfl (by omega) (by omega)) (.v (.assign rfl) (.nil ?_))))
    have hg : CoI z z.toArray (k + 1) (k + 1) := by
      refine ⟨⟨by omega, Nat.le_refl _⟩, hkz, hI.sz, ?_, fun i _ hi => by simp⟩
      rw [compactZ_take (by omega) hkz, if_neg (fun e => h3 e.symm), ← hI.tk, getElem!_pos z k hkz]
      exact List.take_succ_eq_append_getElem (l := z) hkz
    exact ⟨k + 1, ⟨hkn, hg⟩, by omega, .cons rfl (.cons rfl (.nil _)), fun _ s => s⟩
  have hI2 := hI.skip hkz h3.symm
  refine .seq ((.region (.v (.move rfl) (.v (.move rfl) (.v (.slLo rfl rfl (by omega) (by have := k0.own.cap_.2; omega)) (.v (.assign rfl) (.nil ?_)))))))
  simp only [Int.toNat_natCast]
  have hcc : n ≤ c := k0.own.cap_.2
  rw [cutA_some (by omega)]
  refine .seq (.seq ((.region (.v (.assign rfl) (.nil ?_)))))
  refine .block (.loop (X := CoS) (fun x => [(0, .slice (some ⟨b, o, none⟩) n c), (3, .int .i64 x.k), (4, .slice (some ⟨b, o + k * 1, none⟩) (n - k) (c - k)), (5, .int .i64 ((x.j - k : Nat) : Int))]) (fun x => [(b, .cells x.l 3)]) (fun x => k < x.j ∧ CoI z x.d x.k x.j ∧ x.k < x.j ∧ SoI b o c n x.d x.l) (fun x => n - x.j) ⟨k, k + 1, z.toArray, l⟩ ⟨by show k < k + 1; omega, hI2, by show k < k + 1; omega, k0⟩ (.cons rfl (.cons rfl (.cons rfl (.cons (by show _ = some (Value.int .i64 ((k + 1 - k : Nat) : Int)); rw [show k + 1 - k = 1 by omega]; rfl) (.nil _))))) (fun _ s => s) ?_)
  rintro ⟨m, j, d, l1⟩ ⟨hkj, hC, hmj, kd⟩
  dsimp only at hkj hC hmj kd ⊢
  have hjz := hC.jz
  have hsz := hC.sz
  have hcap := kd.own.cap_
  refine .seq (.seq ((.region (.v (.move rfl) (.v (.move rfl) (.v (.len rfl) (.v (.lss rfl rfl) (.nil ?_))))))))
  refine .cond_dec rfl (fun h4 => .skip ?_) (fun h4 => .exit ?_)
  · have hjn : j < n := by omega
    have p1 := fun hs' hsub => kd.at_ (w0 := w) (own := [b]) (hs := hs') (i := j) hjn hsub
    have p2 := fun hs' hsub => kd.at_ (w0 := w) (own := [b]) (hs := hs') (i := j - 1) (by omega) hsub
    have ed : d[j]! = z[j]! := hC.rd j (by omega) (by omega)
    rw [ed] at p1
    rw [hC.rd (j - 1) (by omega) (by omega)] at p2
    have a1 : o + k * 1 + (j - k) = o + j := by omega
    have a2 : o + k * 1 + (j - k - 1) = o + (j - 1) := by omega
    refine .mid (X := CoS) (fun x => [(0, .slice (some ⟨b, o, none⟩) n c), (3, .int .i64 x.k), (4, .slice (some ⟨b, o + k * 1, none⟩) (n - k) (c - k)), (5, .int .i64 ((j - k : Nat) : Int))]) (fun x => [(b, .cells x.l 3)]) (fun x => CoI z x.d x.k (j + 1) ∧ x.k < j + 1 ∧ SoI b o c n x.d x.l) (.block (.seq ((.drawK [(b, .cells l1 3)] (fun _ h => h) (by kernel_rfl) (by kernel_rfl) ?_)))) ?_
    · refine .v (fun _ f => .move rfl) (.v (fun _ f => .move rfl) (.v (fun _ f => .indexN (j - k) rfl rfl (by omega)) (.v (fun _ f => .load (v := .int .i64 z[j]!) rfl (by rw [a1]; exact p1 _ f)) (.v (fun _ f => .move rfl) (.v (fun _ f => .move rfl) (.v (fun _ f => .subE ((j - k - 1 : Nat) : Int) rfl rfl (by omega) (by omega)) (.v (fun _ f => .indexN (j - k - 1) rfl rfl (by omega)) (.v (fun _ f => .load (v := .int .i64 z[j - 1]!) rfl (by rw [a2]; exact p2 _ f)) (.v (fun _ f => .nei rfl rfl) (.nil ?_))))))))))
      refine .cond_dec rfl (fun h5 => ?_) (fun h5 => .skip ?_)
      · have hlen := kd.len
        refine .seq ((.region (.v (.move rfl) (.v (.move rfl) (.v (.move rfl) (.v (.move rfl) (.v (.indexN (j - k) rfl rfl (by omega)) (.v (.load (v := .int .i64 z[j]!) rfl (by rw [a1]; exact p1 _ (by simp))) (.v (.indexN m rfl rfl (by omega)) (.st (.store rfl rfl rfl (by omega)) (.nil ?_)))))))))))
        refine .region (.v (.move rfl) (.v (.addE ((m + 1 : Nat) : Int) rfl rfl (by omega) (by omega)) (.v (.assign rfl) (.nil ?_))))
        have hg := hC.go (by omega) (fun e => h5 e.symm) hmj
        rw [ed] at hg
        exact ⟨⟨m + 1, j, _, _⟩, ⟨hg, by show m + 1 < j + 1; omega, kd.set (by omega) z[j]!⟩, .cons rfl (.cons rfl (.cons rfl (.cons rfl (.nil _)))), fun _ s => s⟩
      · exact ⟨⟨m, j, d, l1⟩, ⟨hC.skip (by omega) (Decidable.of_not_not fun e => h5 (fun e' => e e'.symm)), by show m < j + 1; omega, kd⟩, .cons rfl (.cons rfl (.cons rfl (.cons rfl (.nil _)))), fun _ s => s⟩
    rintro ⟨m2, _, d2, l2⟩ ⟨hC2, hm2, kd2⟩
    dsimp only at hC2 hm2 kd2 ⊢
    refine .region (.v (.move rfl) (.v (.addE ((j + 1 - k : Nat) : Int) rfl rfl (by omega) (by omega)) (.v (.assign rfl) (.nil ?_))))
    exact ⟨⟨m2, j + 1, d2, l2⟩, ⟨by show k < j + 1; omega, hC2, hm2, kd2⟩, by show n - (j + 1) < n - j; omega, .cons rfl (.cons rfl (.cons rfl (.cons rfl (.nil _)))), fun _ s => s⟩
  · have hjn : j = n := by omega
    have e := hC.tk
    rw [show z.take j = z from List.take_of_length_le (by omega)] at e
    have el : (compactZ z).length = m := by rw [← e, List.length_take, Array.length_toList]; omega
    have ow := upto kd e (by omega)
    have hlen := kd.len
    refine .seq ((.region (.v (.move rfl) (.v (.move rfl) (.v (.slLo rfl rfl (by omega) (by omega)) ?_)))))
    simp only [Int.toNat_natCast]
    rw [cutA_some (by omega)]
    refine .ef0 (.clearIn (z := [.int .i64 0]) rfl rfl (by simp only [Nat.mul_one]; omega)) ?_
    rintro _ _ ⟨rfl, rfl⟩
    refine .nil ?_
    refine .seq ((.region (.v (.move rfl) (.v (.move rfl) (.v (.slHi rfl rfl (by omega) (by omega)) (.v (.assign rfl) (.nil ?_)))))))
    refine .ret ⟨[_], ⟨rfl, trivial⟩, _, by rw [el]; rfl, rfl, ?_⟩
    rw [el] at ow ⊢
    rw [Int.toNat_natCast]
    obtain ⟨m1, m2⟩ := ow
    refine ⟨m1, ?_⟩
    rcases m2 with ⟨_, _, h3⟩ | ⟨b', o', cap', l', e1, e2, e3, e4, e5⟩
    · cases h3
    · cases e1; cases e2
      have hz : o + m * 1 + (zeros [.int .i64 0] (n - m)).length ≤ l1.length := by rw [zeros_length]; simp; omega
      refine .inr ⟨b, o, c, _, rfl, rfl, e3, by rw [splice_length _ _ _ hz]; exact e4, ?_⟩
      rw [splice_keep _ _ o _ _ (Nat.le_refl _) (by omega)]
      exact e5
end Go.Proofs.Ytamldmgdhaoigaa

/- auction: Quote. -/
namespace Go.Proofs.Ytamldmgdhaoigaa
open Go.V
open Go.Sort (ltInt)
set_option linter.unusedVariables false
set_option linter.unusedSimpArgs false
set_option maxRecDepth 20000

theorem compactZ_mem : ∀ (l : List Int) (x : Int), x ∈ compactZ l → x ∈ l
  | [], x, h => h
  | [a], x, h => h
  | a :: b :: l, x, h => by
    unfold compactZ at h
    split at h
    · exact List.mem_cons_of_mem _ (compactZ_mem _ x h)
    · rcases List.mem_cons.1 h with rfl | h
      · exact List.mem_cons_self
      · exact List.mem_cons_of_mem _ (compactZ_mem _ x h)
theorem compactZ_pos : ∀ (l : List Int), 0 < l.length → 0 < (compactZ l).length
  | [a], _ => Nat.zero_lt_one
  | a :: b :: l, _ => by
    unfold compactZ
    split
    · exact compactZ_pos (b :: l) (by simp)
    · simp
theorem srt_mem {z : List Int} {x : Int} : x ∈ srt z ↔ x ∈ z := List.mem_mergeSort
theorem bestS_mem (f : Qt → Int) (r : List Qt) (q x : Qt) (h : x ∈ bestS f r q) : x ∈ r ∨ x = q := by
  unfold bestS at h
  split at h
  · exact .inr (List.mem_singleton.1 h)
  · split at h
    · exact .inr (List.mem_singleton.1 h)
    · split at h
      · rcases List.mem_append.1 h with h | h
        · exact .inl h
        · exact .inr (List.mem_singleton.1 h)
      · exact .inl h
theorem bestS_pos (f : Qt → Int) (r : List Qt) (q : Qt) : 0 < (bestS f r q).length := by
  unfold bestS
  split
  · simp
  · split
    · simp
    · split <;> simp
theorem best_mem (f : Qt → Int) (l : List Qt) : ∀ x ∈ best f l, x ∈ l := by
  have key : ∀ (l r : List Qt), ∀ x ∈ l.foldl (bestS f) r, x ∈ r ∨ x ∈ l := by
    intro l
    induction l with
    | nil => intro r x h; exact .inl h
    | cons q l ih =>
      intro r x h
      rcases ih _ x h with h | h
      · rcases bestS_mem f r q x h with h | rfl
        · exact .inl h
        · exact .inr List.mem_cons_self
      · exact .inr (List.mem_cons_of_mem _ h)
  intro x h
  rcases key l [] x h with h | h
  · cases h
  · exact h
theorem best_pos (f : Qt → Int) {l : List Qt} (h : 0 < l.length) : 0 < (best f l).length := by
  rcases List.eq_nil_or_concat l with rfl | ⟨l', q, rfl⟩
  · simp at h
  · unfold best
    rw [List.concat_eq_append, List.foldl_append]
    exact bestS_pos f _ q
theorem best_len (f : Qt → Int) (l : List Qt) : (best f l).length ≤ l.length := by
  have key : ∀ (l r : List Qt), (l.foldl (bestS f) r).length ≤ r.length + l.length := by
    intro l
    induction l with
    | nil => intro r; exact Nat.le_refl _
    | cons q l ih =>
      intro r
      have h1 : (bestS f r q).length ≤ r.length + 1 := by
        unfold bestS
        split
        · simp
        · split
          · simp
          · split
            · simp
            · omega
      have := ih (bestS f r q)
      simp only [List.foldl_cons, List.length_cons]
      omega
  have := key l []
  rw [List.length_nil, Nat.zero_add] at this
  exact this
abbrev OwnZ (v : Value) (z : List Int) (h : Hp) : Prop := OwnS 3 1 v z.length (ints .i64 z) h
theorem OwnZ.snoc {v : Value} {z : List Int} {x : Int} {h : Hp} (o : OwnS 3 1 v (z.length + 1) (ints .i64 z ++ [.int .i64 x]) h) : OwnZ v (z ++ [x]) h := by
  show OwnS _ 1 v (z ++ [x]).length (ints .i64 (z ++ [x])) h
  rw [List.length_append, show ints .i64 (z ++ [x]) = ints .i64 z ++ [.int .i64 x] by simp [ints]]; exact o
theorem OwnQ.snoc {v : Value} {z : List Qt} {x : Qt} {h : Hp} (o : OwnS 30 5 v (z.length + 1) (qrows z ++ x.cells) h) : OwnQ v (z ++ [x]) h := by
  show OwnS _ 5 v (z ++ [x]).length (qrows (z ++ [x])) h
  rw [List.length_append, show qrows (z ++ [x]) = qrows z ++ x.cells by simp [qrows]]; exact o
theorem prices_take (rf : Int) {l : List It} {i : Nat} (h : i < l.length) : prices rf (l.take (i + 1)) = prices rf (l.take i) ++ (if l[i].ty = 1 then [l[i].pr] else []) := by
  unfold prices
  rw [take_snocI h, List.filter_append, List.map_append, List.filter_cons]
  by_cases c : l[i].ty = 1 <;> simp [c]
theorem prices_tick {C : Cl} (h : C.Ok) : ∀ p ∈ prices C.rf C.L, tickP p := by
  intro p hp
  rcases List.mem_cons.1 hp with rfl | hp
  · exact h.rf
  · obtain ⟨x, hx, rfl⟩ := List.mem_map.1 hp
    exact (h.it x (List.mem_filter.1 hx).1).pr
theorem prices_len (rf : Int) (l : List It) : (prices rf l).length ≤ l.length + 1 := by
  have := List.length_filter_le (fun x : It => decide (x.ty = 1)) l
  unfold prices
  simp only [List.length_cons, List.length_map]; omega
/-- the candidates -/
def Cl.cand (C : Cl) : List Int := compactZ (srt (prices C.rf C.L))
def Cl.quote (C : Cl) : Qt × Bool := quoteL C.rf (C.cand.map (atQ C.L))
theorem Cl.Ok.cand {C : Cl} (h : C.Ok) : 0 < C.cand.length ∧ C.cand.length ≤ 4097 ∧ ∀ p ∈ C.cand, tickP p := by
  refine ⟨compactZ_pos _ (by rw [srt_len]; simp [prices]), ?_, fun p hp => prices_tick h p (srt_mem.1 (compactZ_mem _ p hp))⟩
  have h1 := compactZ_len (srt (prices C.rf C.L))
  rw [srt_len] at h1
  have h2 := prices_len C.rf C.L
  have h3 := h.len'
  unfold Cl.cand
  omega
theorem OwnQ.at_ {w0 : World} {own : List Nat} {c b o k : Nat} {d : List Qt} {h hs : Hp} (q : OwnQ (.slice (some ⟨b, o, none⟩) d.length c) d h) (hk : k < d.length) (hh : h ⊆ hs) : At w0 own hs ⟨b, o + k * 5, none⟩ (d[k]!).cells := by
  rw [getElem!_pos d k hk]
  exact recAt Qt.cells 5 (fun _ => rfl) (z := (k : Int)) (OwnS.at0 q hh) hk
abbrev LB (b : Nat) (v : Value) : Nat × Ch := (b, .cells [v] 77)
abbrev PB (b p : Nat) : Nat × Ch := (b, .cells [.pointer (some ⟨p, 0, none⟩)] 25)
structure CaS where
  i : Nat
  v : Value
  h : Hp
abbrev quoteV (r : Qt × Bool) : Value := .tuple ⟨[.agg ⟨r.1.cells⟩, .bool r.2]⟩
theorem Quote_ok (w : World) (p : Nat) (C : Cl) (A : Option Addr) (c : Nat) (hR : ClR w p C A c) (hC : C.Ok) : Is Try.prog 14 [.pointer (some ⟨p, 0, none⟩)] w (quoteV C.quote) := by
  have hL := hC.len'
  have hcd := hC.cand
  have hpl := prices_len C.rf C.L
  refine Does.pure (Does.of (n := 99) Try.func14 rfl rfl rfl rfl ?_)
  refine .seq ((.region (.nw (.box (l := [.pointer (some ⟨p, 0, none⟩)]) rfl rfl) fun b1 => (.nw .alloc fun b2 => (.v (.assign rfl) (.nil ?_))))))
  refine .seq ((.region (.v (.load (v := .pointer (some ⟨p, 0, none⟩)) rfl (.one rfl)) (.v (.nilCheck rfl) (.v (.fieldAddr rfl) (.v (.load (v := .int .i64 C.rf) rfl (hR.hd.cell (i := 0) rfl)) ?_))))))
  refine .ef (.buildSlice (out := [.int .i64 C.rf]) rfl (by decide) rfl rfl) ?_
  rintro _ _ ⟨bn, rfl, rfl⟩
  refine .v (.assign rfl) (.nil ?_)
  refine .seq (.seq ((.region (.v (.load (v := .pointer (some ⟨p, 0, none⟩)) rfl (.one rfl)) (.v (.nilCheck rfl) (.v (.fieldAddr rfl) (.v (.load (v := .slice A C.L.length c) rfl (hR.hd.cell (i := 2) rfl)) (.v (.len rfl) (.v (.move rfl) (.nil ?_))))))))))
  refine .block (.loop (X := CaS) (fun x => [(1, .pointer (some ⟨b1, 0, none⟩)), (2, .pointer (some ⟨b2, 0, none⟩)), (4, x.v), (19, .slice A C.L.length c), (20, .int .i64 C.L.length), (21, .int .i64 x.i)]) (fun x => x.h ++ [QB b2 qt0, PB b1 p]) (fun x => x.i ≤ C.L.length ∧ OwnZ x.v (prices C.rf (C.L.take x.i)) x.h) (fun x => C.L.length - x.i) ⟨0, .slice (some ⟨bn, 0, none⟩) 1 1, [(bn, .cells [.int .i64 C.rf] 3)]⟩ ⟨Nat.zero_le _, ⟨rfl, .inr ⟨bn, 0, 1, _, rfl, rfl, Nat.le_refl _, Nat.le_refl _, rfl⟩⟩⟩ (.cons rfl (.cons rfl (.cons rfl (.cons rfl (.cons rfl (.cons rfl (.nil _))))))) (fun _ s => s) ?_)
  rintro ⟨i, v, h⟩ ⟨hi, o⟩
  dsimp only at hi o ⊢
  refine .seq ((.region (.v (.lss rfl rfl) (.nil ?_))))
  refine .seq (.cond_dec rfl (fun h1 => .skip ?_) (fun h1 => .exit ?_))
  · have hil : i < C.L.length := by omega
    obtain ⟨ba, oa, rfl, hca⟩ := Rd.recs It.cells 6 (fun _ => rfl) hR.ls (by omega) (by omega)
    have q1 := fun hs' => recAt It.cells 6 (fun _ => rfl) (z := (i : Int)) (hca hs') hil
    have hS := prices_take C.rf hil
    have hpt := prices_len C.rf (C.L.take i)
    rw [List.length_take] at hpt
    generalize prices C.rf (C.L.take i) = z at o hS hpt
    generalize C.L[i] = x at q1 hS
    refine .mid (X := CaS) (fun y => [(1, .pointer (some ⟨b1, 0, none⟩)), (2, .pointer (some ⟨b2, 0, none⟩)), (4, y.v), (19, .slice (some ⟨ba, oa, none⟩) C.L.length c), (20, .int .i64 C.L.length), (21, .int .i64 (i : Nat))]) (fun y => y.h ++ [QB b2 qt0, PB b1 p]) (fun y => OwnZ y.v (prices C.rf (C.L.take (i + 1))) y.h) (.block (.seq ((.region (.v (.indexAddr rfl rfl (by omega) (by omega)) (.v (.loadA (vs := x.cells) rfl (q1 _) rfl) (.nw .alloc fun b6 => (.st (.sw rfl rfl) (.nil ?_))))))))) ?_
    · refine .seq ((.region (.v (.fieldAddr rfl) (.v (.load (v := .int .i64 x.ty) rfl (.one rfl)) (.v (.eqi rfl rfl) (.nil ?_))))))
      refine .cond_dec rfl (fun h2 => ?_) (fun h2 => .skip ?_)
      · rw [if_pos h2] at hS
        rw [hS]
        refine .region (.v (.move rfl) (.v (.fieldAddr rfl) (.v (.load (v := .int .i64 x.pr) rfl (.one rfl)) ?_)))
        refine .push (h := h) (oc := [.int .i64 x.pr]) (c := z.length) (vs := ints .i64 z) rfl rfl o rfl rfl rfl (by omega) (by omega) fun bn vn hn on => .v (.assign rfl) (.nil ?_)
        exact ⟨⟨0, vn, hn⟩, OwnZ.snoc on, .cons rfl (.cons rfl (.cons rfl (.cons rfl (.cons rfl (.cons rfl (.nil _)))))), fun _ s => s.take⟩
      · rw [if_neg h2, List.append_nil] at hS
        rw [hS]
        exact ⟨⟨0, v, h⟩, o, .cons rfl (.cons rfl (.cons rfl (.cons rfl (.cons rfl (.cons rfl (.nil _)))))), fun _ s => s.take⟩
    rintro ⟨_, v', h'⟩ o'
    dsimp only at o' ⊢
    refine .region (.v (.addi rfl rfl (by omega)) (.v (.move rfl) (.nil ?_)))
    exact ⟨⟨i + 1, v', h'⟩, ⟨by show i + 1 ≤ _; omega, o'⟩, by show C.L.length - (i + 1) < C.L.length - i; omega, .cons rfl (.cons rfl (.cons rfl (.cons rfl (.cons rfl (.cons rfl (.nil _)))))), fun _ s => s⟩
  have hiL : i = C.L.length := by omega
  subst hiL
  rw [List.take_length] at o
  have hp0 : 0 < (prices C.rf C.L).length := by simp [prices]
  have hZe : compactZ (srt (prices C.rf C.L)) = C.cand := rfl
  unfold Cl.quote
  generalize prices C.rf C.L = z at o hpl hp0 hZe
  obtain ⟨Az, cz, rfl⟩ := o.slice
  obtain ⟨bz, oz, lz, rfl, -, rfl, -, -, -⟩ := OwnS.some_ o hp0
  refine .seq ((.region (.v (.move rfl) ?_)))
  refine .ef (.callT [(bz, .cells lz 3)] rfl rfl fun w' s' => sortI_ok w' o (by omega)) ?_
  rintro _ _ ⟨_, ⟨lz1, rfl, o1⟩, rfl⟩
  refine .nil ?_
  refine .seq ((.region (.nw .alloc fun b7 => (.nil ?_))))
  refine .seq (.seq ((.region (.v (.move rfl) ?_))))
  have k1 : SoI bz oz cz z.length (srt z).toArray lz1 := ⟨by simp [srt_len], by simpa using o1⟩
  refine .ef (.callT [(bz, .cells lz1 3)] rfl rfl fun w' s' => compact_ok w' k1 ⟨hp0, by omega⟩) ?_
  rintro _ _ ⟨_, ⟨lz2, rfl, rfl, o2⟩, rfl⟩
  rw [hZe] at o2 ⊢
  refine .v (.len rfl) (.v (.move rfl) (.nil ?_))
  obtain ⟨hc0, hc1, hct⟩ := hcd
  generalize C.cand = cd at o2 hc0 hc1 hct ⊢
  refine .block (.loop (X := CaS) (fun x => [(1, .pointer (some ⟨b1, 0, none⟩)), (2, .pointer (some ⟨b2, 0, none⟩)), (7, .pointer (some ⟨b7, 0, none⟩)), (37, .slice (some ⟨bz, oz, none⟩) cd.length cz), (38, .int .i64 cd.length), (39, .int .i64 x.i)]) (fun x => LB b7 x.v :: (x.h ++ [(bz, .cells lz2 3), QB b2 qt0, PB b1 p])) (fun x => x.i ≤ cd.length ∧ OwnQ x.v ((cd.take x.i).map (atQ C.L)) x.h) (fun x => cd.length - x.i) ⟨0, .slice none 0 0, []⟩ ⟨Nat.zero_le _, OwnS.nil _ _⟩ (.cons rfl (.cons rfl (.cons rfl (.cons rfl (.cons rfl (.cons rfl (.nil _))))))) (fun _ s => s.take) ?_)
  rintro ⟨i, v, h⟩ ⟨hi, o⟩
  dsimp only at hi o ⊢
  obtain ⟨Aq, cq, rfl⟩ := OwnS.slice o
  refine .seq ((.region (.v (.lss rfl rfl) (.nil ?_))))
  refine .seq (.cond_dec rfl (fun h3 => .skip ?_) (fun h3 => .exit ?_))
  · have hil : i < cd.length := by omega
    have q1 := fun own hs' (hsub : [(bz, Ch.cells lz2 3)] ⊆ hs') => OwnS.at1 (w0 := w) (own := own) (hs := hs') (i := i) (v := .int .i64 cd[i]) o2 hsub (by rw [ints, List.getElem?_map, List.getElem?_eq_getElem hil]; rfl)
    have hS : (cd.take (i + 1)).map (atQ C.L) = (cd.take i).map (atQ C.L) ++ [atQ C.L cd[i]] := by rw [List.take_succ_eq_append_getElem hil, List.map_append]; rfl
    have hlen : ((cd.take i).map (atQ C.L)).length = i := by rw [List.length_map, List.length_take]; omega
    generalize (cd.take i).map (atQ C.L) = r at o hS hlen ⊢
    generalize cd[i] = x at q1 hS
    refine .seq (.block (.seq ((.region (.v (.indexM i rfl rfl hil) (.v (.load (v := .int .i64 x) rfl (by rw [Nat.mul_one]; exact q1 _ _ (by simp))) (.v (.assign rfl) (.nil ?_))))))))
    refine (.drawQ 6 [0, 1, 2, 3, 4, 5, 6] [LB b7 (.slice Aq r.length cq), PB b1 p] (by intro y hy; simp at hy ⊢; rcases hy with rfl | rfl <;> simp) (by kernel_rfl) (by kernel_rfl) ?_)
    refine .v (fun _ f => .load (v := .slice Aq r.length cq) rfl (.one (hb := .sub f) rfl)) (.v (fun _ f => .load (v := .pointer (some ⟨p, 0, none⟩)) rfl (.one (hb := .sub f) rfl)) (.v (fun _ f => .move rfl) (.pc (v := .agg ⟨(atQ C.L x).cells⟩) rfl rfl (fun w s => at_ok w p C A c x (hR.keep0 s rfl) hC.qok) ?_)))
    refine .ef (.buildSlice (out := (atQ C.L x).cells) rfl (by decide) rfl rfl) (fun v hs' ⟨_, _, e⟩ f => by subst e; exact fun y hy => List.mem_cons_of_mem _ (f hy)) ?_
    rintro _ _ ⟨bn, rfl, rfl⟩
    refine .ef (.append (c := r.length) (k := 1) (vs := qrows r) (news := (atQ C.L x).cells) (h := h) rfl rfl o TakeI.out (fun w' s => Src.of_at s .whole rfl) rfl rfl (by omega) (by omega)) (fun v hs' ⟨_, _, e⟩ f => by subst e; intro y hy; simp at hy; rcases hy with rfl | rfl <;> simp) ?_
    rintro vq _ ⟨hq, oq, rfl⟩
    obtain ⟨Aq', cq', rfl⟩ := OwnS.slice oq
    refine .st (.storeL rfl rfl rfl) (.nil ?_)
    have oq2 := OwnQ.snoc oq
    rw [← hS] at oq2
    refine .region (.v (.addi rfl rfl (by omega)) (.v (.move rfl) (.nil ?_)))
    exact ⟨⟨i + 1, _, hq⟩, ⟨by show i + 1 ≤ _; omega, oq2⟩, by show cd.length - (i + 1) < cd.length - i; omega, .cons rfl (.cons rfl (.cons rfl (.cons rfl (.cons rfl (.cons rfl (.nil _)))))), fun _ s => s.take⟩
  have hiL : i = cd.length := by omega
  subst hiL
  rw [List.take_length] at o ⊢
  have hq0 : 0 < (cd.map (atQ C.L)).length := by rw [List.length_map]; exact hc0
  have hq1 : (cd.map (atQ C.L)).length ≤ 4097 := by rw [List.length_map]; exact hc1
  have hqv : ∀ q ∈ cd.map (atQ C.L), 0 ≤ q.vol ∧ q.vol < 18446744073709551616 := by
    intro q hq
    obtain ⟨pr, _, rfl⟩ := List.mem_map.1 hq
    obtain ⟨u1, u2, u3, u4⟩ := buyQ_le pr hC.qok.2
    show 0 ≤ min _ _ ∧ min _ _ < _
    omega
  have hqt : ∀ q ∈ cd.map (atQ C.L), tickP q.pr := by
    intro q hq
    obtain ⟨pr, hp, rfl⟩ := List.mem_map.1 hq
    exact hct pr hp
  clear hct hc0 hc1 o2
  generalize cd.map (atQ C.L) = q0 at o hq0 hq1 hqv hqt ⊢
  refine .keep (LB b7 (.slice Aq q0.length cq) :: (h ++ [QB b2 qt0, PB b1 p])) ?_
  refine .seq ((.region (.v (.load (v := .slice Aq q0.length cq) rfl (.one rfl)) ?_)))
  refine .ef (.call0 rfl rfl fun w' s' => bestU_ok w' Aq q0.length cq 32 [] nVol q0 (OwnS.rd o s' (by intro y hy; simp [hy]) (by simp)) rfl (by omega) (fun hs w s x hx => nVol_ok w x (hqv x hx))) ?_
  rintro v1 _ ⟨h1, o1, rfl⟩
  obtain ⟨A1, c1, rfl⟩ := OwnS.slice o1
  refine .st (.storeL rfl rfl rfl) (.nil ?_)
  unfold quoteL
  have l10 := best_pos nVol hq0
  have l11 := best_len nVol q0
  have l1v := fun q hq => hqv q (best_mem nVol q0 q hq)
  have l1t := fun q hq => hqt q (best_mem nVol q0 q hq)
  generalize best nVol q0 = q1 at o1 l10 l11 l1v l1t ⊢
  refine .keep (LB b7 (.slice A1 q1.length c1) :: (h1 ++ [QB b2 qt0, PB b1 p])) ?_
  clear o hq0 hqv hqt
  obtain ⟨bx, ox, lx, rfl, -, -, -, -, -⟩ := OwnS.some_ o1 l10
  have a1 : ∀ own hs' (k : Nat), k < q1.length → h1 ⊆ hs' → At w own hs' ⟨bx, ox + k * 5, none⟩ (q1[k]!).cells := fun own hs' k hk hh => OwnQ.at_ o1 hk hh
  refine .seq (.seq ((.region (.v (.load (v := .slice (some ⟨bx, ox, none⟩) q1.length c1) rfl (.one rfl)) (.v (.indexM 0 rfl rfl l10) (.v (.fieldAddr rfl) (.v (.load (v := .int .u64 (q1[0]!).vol) rfl (at_sub (i := 1) (a1 _ _ 0 l10 (by intro y hy; simp [hy])) (by intro j u hj; cases j <;> simp at hj ⊢; exact hj))) (.v (.eqi rfl rfl) (.nil ?_)))))))))
  refine .cond_dec rfl (fun h4 => ?_) (fun h4 => .skip ?_)
  · rw [if_pos h4]
    refine .seq ((.region (.v (.build (out := qt0.cells) rfl rfl) (.st (.sw rfl rfl) (.v (.assign rfl) (.nil ?_))))))
    exact .ret ⟨[_, _], ⟨⟨_, rfl, .inr ⟨5, _, inferInstance, rfl, rfl, .whole⟩⟩, rfl, trivial⟩, rfl⟩
  rw [if_neg h4]
  refine .seq (.seq ((.region (.v (.load (v := .slice (some ⟨bx, ox, none⟩) q1.length c1) rfl (.one rfl)) (.v (.len rfl) (.v (.eqi rfl rfl) (.nil ?_)))))))
  refine .cond_dec rfl (fun h5 => ?_) (fun h5 => .skip ?_)
  · rw [if_pos (by omega)]
    refine .seq ((.region (.v (.load (v := .slice (some ⟨bx, ox, none⟩) q1.length c1) rfl (.one rfl)) (.v (.indexM 0 rfl rfl l10) (.v (.loadA (vs := (q1[0]!).cells) rfl (a1 _ _ 0 l10 (by intro y hy; simp [hy])) rfl) (.pc (v := .agg ⟨(ruledQ q1[0]! 1).cells⟩) rfl rfl (fun w s => ruled_ok w _ 1) (.st (.sw rfl rfl) (.v (.assign rfl) (.nil ?_)))))))))
    exact .ret ⟨[_, _], ⟨⟨_, rfl, .inr ⟨5, _, inferInstance, rfl, rfl, .whole⟩⟩, rfl, trivial⟩, rfl⟩
  rw [if_neg (by omega)]
  refine .seq ((.region (.v (.load (v := .slice (some ⟨bx, ox, none⟩) q1.length c1) rfl (.one rfl)) ?_)))
  refine .ef (.call0 rfl rfl fun w' s' => bestU_ok w' (some ⟨bx, ox, none⟩) q1.length c1 34 [] Qt.sur q1 (OwnS.rd o1 s' (by intro y hy; simp [hy]) (by simp)) rfl (by omega) (fun hs w s x hx => nSur_ok w x)) ?_
  rintro v2 _ ⟨h2, o2, rfl⟩
  obtain ⟨A2, c2, rfl⟩ := OwnS.slice o2
  refine .st (.storeL rfl rfl rfl) (.nil ?_)
  have l20 := best_pos Qt.sur l10
  have l21 := best_len Qt.sur q1
  have l2t := fun q hq => l1t q (best_mem Qt.sur q1 q hq)
  generalize best Qt.sur q1 = q2 at o2 l20 l21 l2t ⊢
  refine .keep (LB b7 (.slice A2 q2.length c2) :: (h2 ++ [QB b2 qt0, PB b1 p])) ?_
  clear o1 l10 l1t a1 h4 h5 l1v
  obtain ⟨by_, oy, ly, rfl, -, -, -, -, -⟩ := OwnS.some_ o2 l20
  have a2 : ∀ own hs' (k : Nat), k < q2.length → h2 ⊆ hs' → At w own hs' ⟨by_, oy + k * 5, none⟩ (q2[k]!).cells := fun own hs' k hk hh => OwnQ.at_ o2 hk hh
  dsimp only
  refine .seq (.seq ((.region (.v (.load (v := .slice (some ⟨by_, oy, none⟩) q2.length c2) rfl (.one rfl)) (.v (.len rfl) (.v (.eqi rfl rfl) (.nil ?_)))))))
  refine .cond_dec rfl (fun h6 => ?_) (fun h6 => .skip ?_)
  · rw [if_pos (by omega)]
    refine .seq ((.region (.v (.load (v := .slice (some ⟨by_, oy, none⟩) q2.length c2) rfl (.one rfl)) (.v (.indexM 0 rfl rfl l20) (.v (.loadA (vs := (q2[0]!).cells) rfl (a2 _ _ 0 l20 (by intro y hy; simp [hy])) rfl) (.pc (v := .agg ⟨(ruledQ q2[0]! 2).cells⟩) rfl rfl (fun w s => ruled_ok w _ 2) (.st (.sw rfl rfl) (.v (.assign rfl) (.nil ?_)))))))))
    exact .ret ⟨[_, _], ⟨⟨_, rfl, .inr ⟨5, _, inferInstance, rfl, rfl, .whole⟩⟩, rfl, trivial⟩, rfl⟩
  rw [if_neg (by omega)]
  refine .seq ((.region (.v (.makeFunc rfl rfl) (.v (.assign rfl) (.nil ?_)))))
  have sd : ∀ (s : Int) (w' : World), Sat w [] (LB b7 (.slice (some ⟨by_, oy, none⟩) q2.length c2) :: (h2 ++ [QB b2 qt0, PB b1 p])) w' → Is Try.prog 35 [.int .i64 s, .pointer (some ⟨b7, 0, none⟩)] w' (.bool (allSide s q2)) := fun s w' u =>
    sides_ok w' b7 (some ⟨by_, oy, none⟩) c2 q2 s (Rd.chunk u (l := [.slice (some ⟨by_, oy, none⟩) q2.length c2]) (T := 77) (by simp) (fun j v hv => by rw [Nat.zero_add]; exact hv)) (OwnS.rd o2 u (by intro y hy; simp [hy]) (by simp)) (by omega)
  refine .seq (.block (.seq ((.region (.v (.move rfl) (.pc (v := .bool (allSide 1 q2)) rfl rfl (fun w s => sd 1 w s) (.v (.assign rfl) (.nil ?_))))))))
  refine .cond rfl (fun h7 => ?_) (fun h7 => ?_)
  · rw [if_pos h7]
    refine .seq ((.region (.v (.load (v := .slice (some ⟨by_, oy, none⟩) q2.length c2) rfl (.one rfl)) (.v (.load (v := .slice (some ⟨by_, oy, none⟩) q2.length c2) rfl (.one rfl)) (.v (.len rfl) (.v (.subE ((q2.length - 1 : Nat) : Int) rfl rfl (by omega) (by omega)) (.v (.indexM (q2.length - 1) rfl rfl (by omega)) (.v (.loadA (vs := (q2[q2.length - 1]!).cells) rfl (a2 _ _ (q2.length - 1) (by omega) (by intro y hy; simp [hy])) rfl) (.pc (v := .agg ⟨(ruledQ q2[q2.length - 1]! 3).cells⟩) rfl rfl (fun w s => ruled_ok w _ 3) (.st (.sw rfl rfl) (.v (.assign rfl) (.nil ?_))))))))))))
    exact .ret ⟨[_, _], ⟨⟨_, rfl, .inr ⟨5, _, inferInstance, rfl, rfl, .whole⟩⟩, rfl, trivial⟩, rfl⟩
  rw [if_neg (by rw [h7]; exact Bool.false_ne_true)]
  refine .seq ((.region (.v (.move rfl) (.pc (v := .bool (allSide 2 q2)) rfl rfl (fun w s => sd 2 w s) (.v (.assign rfl) (.nil ?_))))))
  refine .cond rfl (fun h8 => ?_) (fun h8 => .skip ?_)
  · rw [if_pos h8]
    refine .seq ((.region (.v (.load (v := .slice (some ⟨by_, oy, none⟩) q2.length c2) rfl (.one rfl)) (.v (.indexM 0 rfl rfl l20) (.v (.loadA (vs := (q2[0]!).cells) rfl (a2 _ _ 0 l20 (by intro y hy; simp [hy])) rfl) (.pc (v := .agg ⟨(ruledQ q2[0]! 3).cells⟩) rfl rfl (fun w s => ruled_ok w _ 3) (.st (.sw rfl rfl) (.v (.assign rfl) (.nil ?_)))))))))
    exact .ret ⟨[_, _], ⟨⟨_, rfl, .inr ⟨5, _, inferInstance, rfl, rfl, .whole⟩⟩, rfl, trivial⟩, rfl⟩
  rw [if_neg (by rw [h8]; exact Bool.false_ne_true)]
  refine .seq ((.region (.v (.load (v := .slice (some ⟨by_, oy, none⟩) q2.length c2) rfl (.one rfl)) (.v (.makeFunc rfl rfl) ?_))))
  refine .ef (.call0 rfl rfl fun w' s' => bestI_ok w' (some ⟨by_, oy, none⟩) q2.length c2 39 [.pointer (some ⟨b1, 0, none⟩)] (nFar C.rf) q2 (OwnS.rd o2 s' (by intro y hy; simp [hy]) (by simp)) rfl (by omega) (fun hs w2 s x hx => nFar_ok w2 b1 p C.rf C.rm _ x ((Rd.chunk s' (l := [.pointer (some ⟨p, 0, none⟩)]) (T := 25) (by simp) (fun j v hv => by rw [Nat.zero_add]; exact hv)).keep0 s) ((hR.hd.keep0 s').keep0 s) hC.rf (l2t x hx))) ?_
  rintro v3 _ ⟨h3, o3, rfl⟩
  obtain ⟨A3, c3, rfl⟩ := OwnS.slice o3
  refine .st (.storeL rfl rfl rfl) (.nil ?_)
  have l30 := best_pos (nFar C.rf) l20
  have l31 := best_len (nFar C.rf) q2
  generalize best (nFar C.rf) q2 = q3 at o3 l30 l31 ⊢
  obtain ⟨bz_, oz_, lz_, rfl, -, -, -, -, -⟩ := OwnS.some_ o3 l30
  refine .seq ((.region (.v (.load (v := .slice (some ⟨bz_, oz_, none⟩) q3.length c3) rfl (.one rfl)) (.v (.indexM 0 rfl rfl l30) (.v (.loadA (vs := (q3[0]!).cells) rfl (OwnQ.at_ o3 l30 (by intro y hy; simp [hy])) rfl) (.pc (v := .agg ⟨(ruledQ q3[0]! 4).cells⟩) rfl rfl (fun w s => ruled_ok w _ 4) (.st (.sw rfl rfl) (.v (.assign rfl) (.nil ?_)))))))))
  exact .ret ⟨[_, _], ⟨⟨_, rfl, .inr ⟨5, _, inferInstance, rfl, rfl, .whole⟩⟩, rfl, trivial⟩, rfl⟩
end Go.Proofs.Ytamldmgdhaoigaa

/- auction: traded. -/
namespace Go
namespace V
open Go.RowKit
set_option linter.unusedVariables false
set_option linter.unusedSimpArgs false
section
variable {P : Program} {n : Nat} {w0 : World} {own : List Nat} {e : Env} {hs : Hp}
theorem Val.min3 {x y z : Operand} {q : IntKind} {i j k : Int} {ts : Array TypeId} (hx : ev e x = some (.int q i)) (hy : ev e y = some (.int q j)) (hz : ev e z = some (.int q k)) :
    Val P n w0 own e hs (.call { callee := .builtin .min, args := #[x, y, z], argTypes := ts }) (.int q (min (min i j) k)) := fun a w ty pos aft g d hr s => by
  simp [execOp, hr.eval hx, hr.eval hy, hr.eval hz, resolve, invoke, builtin, Builtin.min_, Builtin.min2]
  by_cases h : j < i
  · by_cases h2 : k < j
    · simp [h, h2]; omega
    · simp [h, h2]; omega
  · by_cases h2 : k < i
    · simp [h, h2]; omega
    · simp [h, h2]; omega
end
end V
end Go
namespace Go.Proofs.Ytamldmgdhaoigaa
open Go.V
open Go.Sort (ltInt)
set_option linter.unusedVariables false
set_option linter.unusedSimpArgs false
set_option maxRecDepth 20000

abbrev It.less (x : It) (n : Int) : It := { x with q := x.q - n }
def tradeI (id n : Int) (l : List It) : List It := match l.findIdx? (It.has id) with
  | some k => if (l[k]!).q = n then l.eraseIdx k else l.set k ((l[k]!).less n)
  | none => l
abbrev Cl.trade (C : Cl) (id n : Int) : Cl := ⟨C.rf, C.rm, tradeI id n C.L⟩
theorem traded_ok (w : World) (p : Nat) (C : Cl) (v : Value) (h : Hp) (o : Own v C.L h) (hl : C.L.length ≤ 1000000) (id n : Int) {k : Nat} (hf : C.L.findIdx? (It.has id) = some k) (hn : 0 ≤ n ∧ n ≤ (C.L[k]!).q ∧ (C.L[k]!).q ≤ 4294967295) :
    Does Try.prog 47 [.pointer (some ⟨p, 0, none⟩), .int .u64 id, .int .u64 n] (Cb p C v :: h) w (fun r hs => CallR p (C.trade id n) hs) := by
  obtain ⟨A, c, rfl⟩ := o.slice
  have hk : k < C.L.length := (List.findIdx?_eq_some_iff_getElem.1 hf).1
  obtain ⟨b, oo, l, rfl, -, rfl, -, -, -⟩ := OwnS.some_ o (by omega)
  have k1 : SI b oo c C.L.length C.L l := ⟨rfl, o⟩
  have et : C.trade id n = ⟨C.rf, C.rm, if (C.L[k]!).q = n then C.L.eraseIdx k else C.L.set k ((C.L[k]!).less n)⟩ := by unfold Cl.trade tradeI; rw [hf]
  rw [et]
  have hlen := k1.len
  refine Does.less (Does.of (n := 42) Try.func47 rfl rfl rfl rfl ?_)
  refine .seq ((.region (.v (.move rfl) (.v (.move rfl) (.pc (v := .int .i64 (k : Int)) rfl rfl (fun w s => by have := place_ok w p C (some ⟨b, oo, none⟩) c id (ClR.of s o (by simp) (fun y hy => by simp at hy; subst hy; simp)) (by omega); rw [ixI, hf] at this; exact this) (.v (.assign rfl) (.nil ?_)))))))
  have q5 := fun w0 own hs' (hsub : [IB b l] ⊆ hs') => SI.fld (w0 := w0) (own := own) (hs := hs') k1 hk 5 (v := .int .u64 (C.L[k]!).q) rfl hsub
  refine .seq ((.region (.v (.move rfl) (.v (.nilCheck rfl) (.v (.fieldAddr rfl) (.v (.load (v := .slice (some ⟨b, oo, none⟩) C.L.length c) rfl (.one rfl)) (.v (.move rfl) (.v (.indexM k rfl rfl hk) (.v (.fieldAddr rfl) (.v (.load (v := .int .u64 (C.L[k]!).q) rfl (q5 _ _ _ (by simp))) (.v (.move rfl) (.v (.subU ((C.L[k]!).q - n) rfl rfl rfl (by omega)) (.v (.indexM k rfl rfl hk) (.v (.fieldAddr rfl) (.st (.store rfl rfl rfl (by omega)) (.nil ?_))))))))))))))))
  have k2 : SI b oo c C.L.length (C.L.set k ((C.L[k]!).less n)) (l.set (oo + k * 6 + 5) (.int .u64 ((C.L[k]!).q - n))) := by
    refine ⟨List.length_set, ?_⟩
    have := OwnS.setF It.cells (fun _ => rfl) (v := .int .u64 ((C.L[k]!).q - n)) (a' := (C.L[k]!).less n) k1.own 5 hk (by omega) (by rw [← getElem!_pos C.L k hk]; rfl)
    rw [List.length_set] at this; exact this
  have hk2 : k < (C.L.set k ((C.L[k]!).less n)).length := by rw [List.length_set]; exact hk
  have e2 : (C.L.set k ((C.L[k]!).less n))[k]! = (C.L[k]!).less n := by rw [getElem!_pos (C.L.set k ((C.L[k]!).less n)) k hk2, List.getElem_set_self]
  have q6 := fun w0 own hs' (hsub : [IB b (l.set (oo + k * 6 + 5) (.int .u64 ((C.L[k]!).q - n)))] ⊆ hs') => SI.fld (w0 := w0) (own := own) (hs := hs') k2 hk 5 (v := .int .u64 ((C.L[k]!).q - n)) (by rw [e2]; rfl) hsub
  refine .seq ((.region (.v (.move rfl) (.v (.nilCheck rfl) (.v (.fieldAddr rfl) (.v (.load (v := .slice (some ⟨b, oo, none⟩) C.L.length c) rfl (.one rfl)) (.v (.move rfl) (.v (.indexM k rfl rfl hk) (.v (.fieldAddr rfl) (.v (.load (v := .int .u64 ((C.L[k]!).q - n)) rfl (q6 _ _ _ (by simp))) (.v (.eqi rfl rfl) (.nil ?_))))))))))))
  refine .cond_dec rfl (fun h1 => ?_) (fun h1 => .skip ?_)
  · rw [if_pos (by omega)]
    refine .region (.v (.move rfl) (.v (.move rfl) (.v (.nilCheck rfl) (.v (.fieldAddr rfl) (.v (.load (v := .slice (some ⟨b, oo, none⟩) C.L.length c) rfl (.one rfl)) (.v (.move rfl) (.v (.move rfl) (.v (.addE ((k + 1 : Nat) : Int) rfl rfl (by omega) (by omega)) ?_))))))))
    refine .ef (.callT [IB b (l.set (oo + k * 6 + 5) (.int .u64 ((C.L[k]!).q - n)))] rfl rfl fun w' s' => delI_ok w' k2 hk (by omega)) ?_
    rintro _ _ ⟨_, ⟨l', rfl, k3, rfl⟩, rfl⟩
    refine .v (.nilCheck rfl) (.v (.fieldAddr rfl) (.st (.storeL rfl rfl rfl) (.nil ?_)))
    have eE : (C.L.set k ((C.L[k]!).less n)).eraseIdx k = C.L.eraseIdx k := by rw [List.eraseIdx_set_eq]
    rw [eE] at k3
    have lE : (C.L.eraseIdx k).length = C.L.length - 1 := by rw [List.length_eraseIdx_of_lt hk]
    exact ⟨[], trivial, Cb p ⟨C.rf, C.rm, C.L.eraseIdx k⟩ (.slice (some ⟨b, oo, none⟩) (C.L.length - 1) c) :: [IB b l'], fun _ s => s.take, _, _, rfl, by rw [← lE] at k3 ⊢; exact k3.own'⟩
  · rw [if_neg (by omega)]
    exact ⟨[], trivial, Cb p ⟨C.rf, C.rm, C.L.set k ((C.L[k]!).less n)⟩ (.slice (some ⟨b, oo, none⟩) C.L.length c) :: [IB b (l.set (oo + k * 6 + 5) (.int .u64 ((C.L[k]!).q - n)))], fun _ s => s.take, _, _, rfl, by have := k2.own'; exact this⟩
end Go.Proofs.Ytamldmgdhaoigaa

/- auction: Uncross. -/
namespace Go.Proofs.Ytamldmgdhaoigaa
open Go.V
open Go.Sort (ltInt)
set_option linter.unusedVariables false
set_option linter.unusedSimpArgs false
set_option maxRecDepth 20000

theorem tradeI_cons (id n : Int) (a : It) (l : List It) : tradeI id n (a :: l) = if a.id = id then (if a.q = n then l else a.less n :: l) else a :: tradeI id n l := by
  unfold tradeI
  rw [List.findIdx?_cons]
  by_cases h : a.id = id
  · have : It.has id a = true := decide_eq_true h
    rw [this, if_pos h]
    simp
  · have : It.has id a = false := decide_eq_false h
    rw [this, if_neg h]
    cases e : l.findIdx? (It.has id) with
    | none => simp
    | some k =>
      simp
      split <;> rfl
theorem takeI_none {id n : Int} : ∀ {l : List It}, (∀ x ∈ l, x.id ≠ id ∧ x.q ≠ 0) → takeI id n l = l
  | [], _ => rfl
  | a :: l, h => by
    have ih := takeI_none (l := l) (id := id) (n := n) fun x hx => h x (List.mem_cons_of_mem _ hx)
    obtain ⟨h1, h2⟩ := h a List.mem_cons_self
    unfold takeI at ih ⊢
    rw [List.map_cons, if_neg h1, List.filter_cons, if_pos (by simpa using h2), ih]
theorem tradeI_take {id n : Int} : ∀ {l : List It}, (l.map It.id).Nodup → (∀ x ∈ l, x.q ≠ 0) → tradeI id n l = takeI id n l
  | [], _, _ => rfl
  | a :: l, h, hq => by
    rw [List.map_cons, List.nodup_cons] at h
    obtain ⟨h1, h2⟩ := h
    have ih := tradeI_take (id := id) (n := n) h2 fun x hx => hq x (List.mem_cons_of_mem _ hx)
    rw [tradeI_cons]
    by_cases c : a.id = id
    · have e : takeI id n l = l := takeI_none fun x hx => ⟨fun e => h1 (by rw [c, ← e]; exact List.mem_map.2 ⟨x, hx, rfl⟩), hq x (List.mem_cons_of_mem _ hx)⟩
      rw [if_pos c]
      unfold takeI at e ⊢
      rw [List.map_cons, if_pos c, List.filter_cons]
      by_cases c2 : a.q = n
      · rw [if_pos c2, if_neg (by simp; omega), e]
      · rw [if_neg c2, if_pos (by simp; omega), e]
    · rw [if_neg c, ih]
      unfold takeI
      rw [List.map_cons, if_neg c, List.filter_cons, if_pos (by simpa using hq a List.mem_cons_self)]
/-- some interests of a call are followed -/
structure Trk (L M : List It) : Prop where
  q : ∀ x ∈ L, 1 ≤ x.q ∧ x.q ≤ 4294967295
  nd : (L.map It.id).Nodup
  nm : (M.map It.id).Nodup
  mem : ∀ x ∈ M, x ∈ L
theorem Trk.perm {L M M' : List It} (h : Trk L M) (p : M.Perm M') : Trk L M' := ⟨h.q, h.nd, (p.map It.id).nodup_iff.1 h.nm, fun x hx => h.mem x (p.mem_iff.2 hx)⟩
theorem Trk.find {L M : List It} (h : Trk L M) {x : It} (hx : x ∈ M) : ∃ k, L.findIdx? (It.has x.id) = some k ∧ k < L.length ∧ L[k]! = x := by
  rcases ixI_has (id := x.id) (l := L) with ⟨_, _, hn⟩ | ⟨k, hk, _, e2, e3⟩
  · exact absurd rfl (hn x (h.mem x hx))
  · refine ⟨k, e2, hk, ?_⟩
    rw [getElem!_pos L k hk]
    obtain ⟨j, hj, e⟩ := List.getElem_of_mem (h.mem x hx)
    have : j = k := (List.getElem_inj (h₀ := by rw [List.length_map]; exact hj) (h₁ := by rw [List.length_map]; exact hk) h.nd).1 (by rw [List.getElem_map, List.getElem_map, e, e3])
    subst this; exact e
def rest1 (x : It) (n : Int) : List It := if x.q = n then [] else [x.less n]
theorem takeI_mem {id n : Int} {L : List It} {y : It} : y ∈ takeI id n L ↔ (∃ x ∈ L, (if x.id = id then x.less n else x) = y) ∧ y.q ≠ 0 := by
  unfold takeI
  rw [List.mem_filter, List.mem_map]
  simp
theorem takeI_ids {id n : Int} {L : List It} : ((takeI id n L).map It.id).Sublist (L.map It.id) := by
  have : (L.map fun x => if x.id = id then x.less n else x).map It.id = L.map It.id := by
    rw [List.map_map]; congr 1; funext x; show (if x.id = id then x.less n else x).id = x.id; split <;> rfl
  rw [← this]
  exact (List.filter_sublist).map _
theorem takeI_len {id n : Int} {L : List It} : (takeI id n L).length ≤ L.length := by
  unfold takeI
  refine Nat.le_trans (List.length_filter_le _ _) ?_
  rw [List.length_map]; exact Nat.le_refl _
theorem Trk.go {L M : List It} {x : It} {n : Int} (h : Trk L (x :: M)) (hn : 1 ≤ n ∧ n ≤ x.q) : Trk (tradeI x.id n L) (rest1 x n ++ M) := by
  have hx := h.mem x List.mem_cons_self
  have nm := h.nm
  rw [List.map_cons, List.nodup_cons] at nm
  have uniq : ∀ y ∈ L, y.id = x.id → y = x := by
    intro y hy e
    obtain ⟨k, e1, hk, e2⟩ := h.find List.mem_cons_self
    obtain ⟨j, hj, e3⟩ := List.getElem_of_mem hy
    rw [getElem!_pos L k hk] at e2
    have : j = k := (List.getElem_inj (h₀ := by rw [List.length_map]; exact hj) (h₁ := by rw [List.length_map]; exact hk) h.nd).1 (by rw [List.getElem_map, List.getElem_map, e3, e2, e])
    subst this; rw [← e3, e2]
  rw [tradeI_take h.nd fun y hy => by have := h.q y hy; omega]
  refine ⟨fun y hy => ?_, h.nd.sublist takeI_ids, ?_, fun y hy => ?_⟩
  · obtain ⟨⟨z, hz, e⟩, h0⟩ := takeI_mem.1 hy
    have hq := h.q z hz
    subst e
    by_cases hi : z.id = x.id
    · rw [if_pos hi] at h0 ⊢
      have := uniq z hz hi
      subst this
      have h0 : z.q - n ≠ 0 := h0
      show 1 ≤ z.q - n ∧ z.q - n ≤ 4294967295
      omega
    · rw [if_neg hi]; exact hq
  · unfold rest1
    split
    · exact nm.2
    · show ((x.less n).id :: M.map It.id).Nodup
      exact List.nodup_cons.2 nm
  · rw [takeI_mem]
    rcases List.mem_append.1 hy with hy | hy
    · unfold rest1 at hy
      split at hy
      · cases hy
      · rw [List.mem_singleton.1 hy]
        exact ⟨⟨x, hx, if_pos rfl⟩, by show x.q - n ≠ 0; omega⟩
    · have hyL := h.mem y (List.mem_cons_of_mem _ hy)
      refine ⟨⟨y, hyL, if_neg fun e => nm.1 (by rw [← e]; exact List.mem_map.2 ⟨y, hy, rfl⟩)⟩, by have := h.q y hyL; omega⟩
/-- buyers and sellers meet, head by head -/
def crossL (pr : Int) : Nat → List It → List It → Int → List Fl → Cl → List Fl × Cl
  | k + 1, x :: B, y :: S, left, F, C =>
    if 0 < left then
      crossL pr k (rest1 x (min (min x.q y.q) left) ++ B) (rest1 y (min (min x.q y.q) left) ++ S) (left - min (min x.q y.q) left) (F ++ [⟨x.id, y.id, pr, min (min x.q y.q) left⟩]) ((C.trade x.id (min (min x.q y.q) left)).trade y.id (min (min x.q y.q) left))
    else (F, C)
  | _, _, _, _, F, C => (F, C)
def Cl.uncross (C : Cl) : List Fl × Qt × Bool × Cl :=
  if C.quote.2 then ((crossL C.quote.1.pr C.quote.1.vol.toNat (C.side 1) (C.side 2) C.quote.1.vol [] C).1, C.quote.1, true, (crossL C.quote.1.pr C.quote.1.vol.toNat (C.side 1) (C.side 2) C.quote.1.vol [] C).2)
  else ([], C.quote.1, false, C)
theorem qsum_perm {a b : List It} (h : a.Perm b) : qsum a = qsum b := by
  unfold qsum
  induction h with
  | nil => rfl
  | cons x _ ih => simp only [List.map_cons, List.sum_cons]; omega
  | swap x y l => simp only [List.map_cons, List.sum_cons]; omega
  | trans _ _ ih1 ih2 => omega
theorem insI_perm (x : It) : ∀ z : List It, (insI x z).Perm (x :: z)
  | [] => .refl _
  | y :: z => by
    unfold insI
    split
    · exact .refl _
    · exact ((insI_perm x z).cons y).trans (.swap x y z)
theorem sortI_perm (l : List It) : (sortI l).Perm l := by
  have key : ∀ (l z : List It), (l.foldl (fun z x => insI x z) z).Perm (z ++ l) := by
    intro l
    induction l with
    | nil => intro z; rw [List.append_nil]; exact .refl _
    | cons x l ih => intro z; exact (ih _).trans (((insI_perm x z).append_right l).trans List.perm_middle.symm)
  exact key l []
theorem side_mem {C : Cl} {s : Int} {x : It} : x ∈ C.side s ↔ x ∈ C.L ∧ x.sd = s := by
  unfold Cl.side
  rw [(sortI_perm _).mem_iff, List.mem_filter]
  simp
theorem qsum_filter_le {f g : It → Bool} : ∀ {l : List It}, (∀ x ∈ l, 0 ≤ x.q) → (∀ x ∈ l, f x = true → g x = true) → qsum (l.filter f) ≤ qsum (l.filter g)
  | [], _, _ => Int.le_refl _
  | a :: l, h, hfg => by
    have ih := qsum_filter_le (f := f) (g := g) (l := l) (fun x hx => h x (List.mem_cons_of_mem _ hx)) fun x hx => hfg x (List.mem_cons_of_mem _ hx)
    have h1 := h a List.mem_cons_self
    have h2 := hfg a List.mem_cons_self
    rw [List.filter_cons, List.filter_cons]
    unfold qsum at *
    split
    · rename_i c
      rw [if_pos (h2 c), List.map_cons, List.map_cons, List.sum_cons, List.sum_cons]; omega
    · split
      · rw [List.map_cons, List.sum_cons]; omega
      · exact ih
theorem side_len (C : Cl) (s : Int) : (C.side s).length ≤ C.L.length := by
  unfold Cl.side
  rw [(sortI_perm _).length_eq]
  exact List.length_filter_le _ _
theorem Cl.Ok.trk {C : Cl} (h : C.Ok) : Trk C.L (C.side 1 ++ C.side 2) := by
  refine ⟨fun x hx => (h.it x hx).q, h.nd, ?_, fun x hx => ?_⟩
  · have p : (C.side 1 ++ C.side 2).Perm (C.L.filter (fun x => decide (x.sd = 1)) ++ C.L.filter fun x => decide (x.sd = 2)) := (sortI_perm _).append (sortI_perm _)
    refine ((p.map It.id).nodup_iff).2 ?_
    have e : ∀ l : List It, (∀ x ∈ l, x.sd = 1 ∨ x.sd = 2) → (l.filter (fun x => decide (x.sd = 1)) ++ l.filter fun x => decide (x.sd = 2)).Perm l := by
      intro l
      induction l with
      | nil => intro _; exact .refl _
      | cons a l ih =>
        intro hl
        have ih := ih fun x hx => hl x (List.mem_cons_of_mem _ hx)
        rcases hl a List.mem_cons_self with e | e
        · simp only [List.filter_cons, e]
          exact ih.cons a
        · simp only [List.filter_cons, e]
          exact List.perm_middle.trans (ih.cons a)
    exact (((e C.L fun x hx => (h.it x hx).sd).map It.id).nodup_iff).2 h.nd
  · rcases List.mem_append.1 hx with hx | hx
    · exact (side_mem.1 hx).1
    · exact (side_mem.1 hx).1
theorem Cl.Ok.quote_vol {C : Cl} (h : C.Ok) : 0 ≤ C.quote.1.vol ∧ C.quote.1.vol ≤ qsum (C.side 1) ∧ C.quote.1.vol ≤ qsum (C.side 2) := by
  have q0 : ∀ s, 0 ≤ qsum (C.side s) := fun s => by
    obtain ⟨u, _⟩ := qsum_le (l := C.side s) fun x hx => by have := (h.it x (side_mem.1 hx).1).q; omega
    exact u
  have at_ : ∀ p, 0 ≤ (atQ C.L p).vol ∧ (atQ C.L p).vol ≤ qsum (C.side 1) ∧ (atQ C.L p).vol ≤ qsum (C.side 2) := by
    intro p
    obtain ⟨u1, _, u3, _⟩ := buyQ_le p h.qok.2
    have hq : ∀ x ∈ C.L, 0 ≤ x.q := fun x hx => by have := (h.it x hx).q; omega
    have e1 : buyQ p C.L ≤ qsum (C.side 1) := by
      unfold Cl.side
      rw [qsum_perm (sortI_perm _)]
      refine qsum_filter_le hq fun x hx e => ?_
      unfold buysAt at e
      rw [Bool.and_eq_true] at e
      exact e.1
    have e2 : sellQ p C.L ≤ qsum (C.side 2) := by
      unfold Cl.side
      rw [qsum_perm (sortI_perm _)]
      refine qsum_filter_le hq fun x hx e => ?_
      unfold sellsAt at e
      rw [Bool.and_eq_true] at e
      exact e.1
    show 0 ≤ min _ _ ∧ min _ _ ≤ _ ∧ min _ _ ≤ _
    omega
  have hl : ∀ q ∈ C.cand.map (atQ C.L), 0 ≤ q.vol ∧ q.vol ≤ qsum (C.side 1) ∧ q.vol ≤ qsum (C.side 2) := by
    intro q hq
    obtain ⟨p, _, rfl⟩ := List.mem_map.1 hq
    exact at_ p
  have el : ∀ {l : List Qt} {i : Nat}, (∀ q ∈ l, 0 ≤ q.vol ∧ q.vol ≤ qsum (C.side 1) ∧ q.vol ≤ qsum (C.side 2)) → 0 ≤ (l[i]!).vol ∧ (l[i]!).vol ≤ qsum (C.side 1) ∧ (l[i]!).vol ≤ qsum (C.side 2) := by
    intro l i h
    rcases Nat.lt_or_ge i l.length with hi | hi
    · rw [getElem!_pos l i hi]; exact h _ (List.getElem_mem hi)
    · rw [getElem!_neg l i (by omega)]
      exact ⟨Int.le_refl _, q0 1, q0 2⟩
  unfold Cl.quote quoteL
  dsimp only
  have h1 := fun q hq => hl q (best_mem nVol _ q hq)
  have h2 := fun q hq => h1 q (best_mem Qt.sur _ q hq)
  have h3 := fun q hq => h2 q (best_mem (nFar C.rf) _ q hq)
  split
  · exact ⟨Int.le_refl _, q0 1, q0 2⟩
  · split
    · exact el h1
    · split
      · exact el h2
      · split
        · exact el h2
        · split
          · exact el h2
          · exact el h3
end Go.Proofs.Ytamldmgdhaoigaa

/- auction: Uncross, the walk. -/
namespace Go.Proofs.Ytamldmgdhaoigaa
open Go.V
open Go.Sort (ltInt)
set_option linter.unusedVariables false
set_option linter.unusedSimpArgs false
set_option maxRecDepth 20000

abbrev OwnF (v : Value) (l : List Fl) (h : Hp) : Prop := OwnS 44 4 v l.length (frows l) h
theorem OwnF.snoc {v : Value} {z : List Fl} {x : Fl} {h : Hp} (o : OwnS 44 4 v (z.length + 1) (frows z ++ x.cells) h) : OwnF v (z ++ [x]) h := by
  show OwnS _ 4 v (z ++ [x]).length (frows (z ++ [x])) h
  rw [List.length_append, show frows (z ++ [x]) = frows z ++ x.cells by simp [frows]]; exact o
structure US where
  B : List It
  vB : Value
  hB : Hp
  S : List It
  vS : Value
  hS : Hp
  F : List Fl
  vF : Value
  hF : Hp
  C : Cl
  v : Value
  h : Hp
  left : Int
  k : Nat
structure US.I (x : US) (pr : Int) (R : List Fl × Cl) : Prop where
  oB : Own x.vB x.B x.hB
  oS : Own x.vS x.S x.hS
  oF : OwnF x.vF x.F x.hF
  o : Own x.v x.C.L x.h
  len : x.C.L.length ≤ 4096
  t : Trk x.C.L (x.B ++ x.S)
  l0 : 0 ≤ x.left
  lB : x.left ≤ qsum x.B
  lS : x.left ≤ qsum x.S
  lq : x.left ≤ 17592186044416
  n1 : 0 < x.left → x.F.length + x.B.length + x.S.length ≤ 8192
  n2 : x.F.length ≤ 8193
  k : x.left ≤ x.k
  e : crossL pr x.k x.B x.S x.left x.F x.C = R
theorem qsum_cons (x : It) (l : List It) : qsum (x :: l) = x.q + qsum l := by unfold qsum; rw [List.map_cons, List.sum_cons]
theorem rest1_qsum (x : It) (n : Int) (l : List It) : qsum (rest1 x n ++ l) = x.q - n + qsum l := by
  unfold rest1
  split
  · show qsum l = _; omega
  · show qsum (x.less n :: l) = _; rw [qsum_cons]
/-- the head of a row is lessened, and cut off when nothing is left -/
theorem cut_head {b o c : Nat} {x : It} {l : List It} {lc : List Value} {n : Int} (k : SI b o c (x :: l).length (x :: l) lc) :
    SI b o c (x :: l).length (x.less n :: l) (lc.set (o + 0 * 6 + 5) (.int .u64 (x.q - n))) := by
  refine ⟨rfl, ?_⟩
  have := OwnS.setF It.cells (fun _ => rfl) (i := 0) (v := .int .u64 (x.q - n)) (a' := x.less n) k.own 5 (by simp) (by omega) rfl
  exact this
theorem cut_own {b o c : Nat} {x : It} {l : List It} {lc : List Value} (k : SI b o c (x :: l).length (x :: l) lc) :
    Own (.slice (cutA (some ⟨b, o, none⟩) c (1 : Int).toNat 6) ((x :: l).length - (1 : Int).toNat) (c - (1 : Int).toNat)) l [IB b lc] := by
  have := OwnS.cut k.own (i := 1) (by simp) (by omega)
  exact this
abbrev uncR (p : Nat) (R : List Fl × Qt × Bool × Cl) (r : Value) (hs : Hp) : Prop :=
  ∃ v h vF hF, r = .tuple ⟨[vF, .agg ⟨R.2.1.cells⟩, .bool R.2.2.1]⟩ ∧ hs = Cb p R.2.2.2 v :: (h ++ hF) ∧ Own v R.2.2.2.L h ∧ OwnF vF R.1 hF
theorem Uncross_ok (w : World) (p : Nat) (C : Cl) (v : Value) (h : Hp) (o : Own v C.L h) (hC : C.Ok) :
    Does Try.prog 17 [.pointer (some ⟨p, 0, none⟩)] (Cb p C v :: h) w (uncR p C.uncross) := by
  obtain ⟨A, c, rfl⟩ := o.slice
  refine Does.less (Does.of (n := 108) Try.func17 rfl rfl rfl rfl ?_)
  refine .seq ((.region (.v (.assign rfl) (.nw .alloc fun b3 => (.v (.assign rfl) (.nil ?_))))))
  refine .seq ((.region (.v (.move rfl) (.pc (v := quoteV C.quote) rfl rfl (fun w s => Quote_ok w p C A c (ClR.of s o (by simp) (fun y hy => by simp [hy])) hC) (.v (.move rfl) (.v (.extract rfl rfl) (.v (.extract rfl rfl) (.nw .alloc fun b5 => (.st (.sw rfl rfl) (.v (.assign rfl) (.nil ?_)))))))))))
  have hv := hC.quote_vol
  unfold Cl.uncross
  refine .seq (.seq ((.region (.v (.move rfl) (.v (.not rfl) (.nil ?_))))))
  refine .cond rfl (fun h1 => ?_) (fun h1 => .skip ?_)
  · have h1' : C.quote.2 = false := by simpa using h1
    rw [if_neg (by rw [h1']; exact Bool.false_ne_true)]
    refine .seq ((.drawQ 2 [0, 1, 2, 3] [QB b5 C.quote.1] (by intro y hy; simp at hy; subst hy; simp) (by kernel_rfl) (by kernel_rfl) ?_))
    refine .v (fun _ f => .loadA (vs := C.quote.1.cells) rfl (.whole (hb := .sub f)) rfl) (.v (fun _ f => .assign rfl) (.st (.sw rfl rfl) (.w (.assign rfl) (.nil ?_))))
    exact .ret ⟨[_, _, _], ⟨rfl, ⟨_, rfl, .inr ⟨5, _, inferInstance, rfl, rfl, .whole⟩⟩, rfl, trivial⟩, Cb p C (.slice A C.L.length c) :: (h ++ []), fun _ s => s.take, _, h, _, [], rfl, rfl, o, OwnS.nil _ _⟩
  have h1' : C.quote.2 = true := by simpa using h1
  rw [if_pos h1']
  generalize C.quote.1 = q at hv ⊢
  clear h1 h1'
  have hP : ∀ x ∈ C.L, x.P := fun x hx => (hC.it x hx).P
  have hL := hC.len'
  refine .seq ((.region (.v (.assign rfl) (.nil ?_))))
  refine .seq ((.region (.v (.move rfl) ?_)))
  refine .ef (.call0 rfl rfl fun w' s' => Interests_ok w' p C A c 1 (ClR.of s' o (by simp) (fun y hy => by simp [hy])) (by omega) hP) ?_
  rintro vB _ ⟨hB, oB, rfl⟩
  refine .v (.move rfl) ?_
  refine .ef (.call0 rfl rfl fun w' s' => Interests_ok w' p C A c 2 (ClR.of s' o (by simp) (fun y hy => by simp [hy])) (by omega) hP) ?_
  rintro vS _ ⟨hS, oS, rfl⟩
  refine .v (.assign rfl) (.v (.assign rfl) (.nil ?_))
  refine .seq (.seq ((.region (.v (.fieldAddr rfl) (.v (.load (v := .int .u64 q.vol) rfl (.one rfl)) (.v (.assign rfl) (.nil ?_)))))))
  have hs1 := side_len C 1
  have hs2 := side_len C 2
  have hq1 := qsum_le (l := C.side 1) fun x hx => by have := (hC.it x (side_mem.1 hx).1).q; omega
  generalize hR : crossL q.pr q.vol.toNat (C.side 1) (C.side 2) q.vol [] C = R
  refine .block (.loop (X := US) (fun x => [(0, .pointer (some ⟨p, 0, none⟩)), (3, .pointer (some ⟨b3, 0, none⟩)), (5, .pointer (some ⟨b5, 0, none⟩)), (7, x.vF), (8, x.vB), (9, x.vS), (10, .int .u64 x.left)]) (fun x => Cb p x.C x.v :: (x.h ++ (x.hF ++ (x.hB ++ (x.hS ++ [QB b5 q, QB b3 qt0]))))) (fun x => x.I q.pr R) (fun x => x.left.toNat) ⟨C.side 1, vB, hB, C.side 2, vS, hS, [], .slice none 0 0, [], C, .slice A C.L.length c, h, q.vol, q.vol.toNat⟩
    ⟨oB, oS, OwnS.nil _ _, o, hL, hC.trk, hv.1, hv.2.1, hv.2.2, by show q.vol ≤ _; omega, fun _ => by show 0 + (C.side 1).length + (C.side 2).length ≤ 8192; omega, by show 0 ≤ 8193; omega, by show q.vol ≤ (q.vol.toNat : Int); omega, hR⟩
    (.cons rfl (.cons rfl (.cons rfl (.cons rfl (.cons rfl (.cons rfl (.cons rfl (.nil _)))))))) (fun _ s => s.take) ?_)
  clear oB oS o hC hR hv hP hL hs1 hs2 hq1
  rintro ⟨B, vB, hB, S, vS, hS, F, vF, hF, C, v, h, left, k⟩ ⟨oB, oS, oF, o, len, t, l0, lB, lS, lq, n1, n2, hk, e⟩
  dsimp only at oB oS oF o len t l0 lB lS lq n1 n2 hk e ⊢
  refine .seq (.seq ((.region (.v (.move rfl) (.v (.gtr rfl rfl) (.nil ?_))))))
  refine .cond_dec rfl (fun h2 => .skip ?_) (fun h2 => .exit ?_)
  case refine_2 =>
    have e2 : R = (F, C) := by
      rw [← e]
      cases k with
      | zero => rfl
      | succ k =>
        cases B with
        | nil => rfl
        | cons x B =>
          cases S with
          | nil => rfl
          | cons y S => exact if_neg (by omega)
    subst e2
    obtain ⟨AF, cF, rfl⟩ := OwnS.slice oF
    refine .seq ((.drawQ 3 [0, 1, 2, 3, 4] [QB b5 q] (by intro y hy; simp at hy; subst hy; simp) (by kernel_rfl) (by kernel_rfl) ?_))
    refine .v (fun _ f => .move rfl) (.v (fun _ f => .loadA (vs := q.cells) rfl (.whole (hb := .sub f)) rfl) (.v (fun _ f => .assign rfl) (.st (.sw rfl rfl) (.w (.assign rfl) (.nil ?_)))))
    exact .ret ⟨[_, _, _], ⟨rfl, ⟨_, rfl, .inr ⟨5, _, inferInstance, rfl, rfl, .whole⟩⟩, rfl, trivial⟩, Cb p C v :: (h ++ hF), fun _ s => s.take, v, h, _, hF, rfl, rfl, o, oF⟩
  obtain ⟨k, rfl⟩ : ∃ j, k = j + 1 := ⟨k - 1, by omega⟩
  cases B with
  | nil => exact absurd lB (by show ¬ left ≤ 0; omega)
  | cons x B =>
  cases S with
  | nil => exact absurd lS (by show ¬ left ≤ 0; omega)
  | cons y S =>
  have e1 : crossL q.pr k (rest1 x (min (min x.q y.q) left) ++ B) (rest1 y (min (min x.q y.q) left) ++ S) (left - min (min x.q y.q) left) (F ++ [⟨x.id, y.id, q.pr, min (min x.q y.q) left⟩]) ((C.trade x.id (min (min x.q y.q) left)).trade y.id (min (min x.q y.q) left)) = R := by
    rw [← e]; exact (if_pos h2).symm
  clear e
  have hxq := t.q x (t.mem x (by simp))
  have hyq := t.q y (t.mem y (by simp))
  obtain ⟨AF, cF, rfl⟩ := OwnS.slice oF
  obtain ⟨A, c, rfl⟩ := OwnS.slice o
  obtain ⟨AB, cB, rfl⟩ := OwnS.slice oB
  obtain ⟨AS, cS, rfl⟩ := OwnS.slice oS
  obtain ⟨bb, ob, lb, rfl, -, rfl, -, -, -⟩ := OwnS.some_ oB (by simp)
  obtain ⟨bs, os, ls, rfl, -, rfl, -, -, -⟩ := OwnS.some_ oS (by simp)
  have kB : SI bb ob cB (x :: B).length (x :: B) lb := ⟨rfl, oB⟩
  have kS : SI bs os cS (y :: S).length (y :: S) ls := ⟨rfl, oS⟩
  have pB : 0 < (x :: B).length := by simp
  have pS : 0 < (y :: S).length := by simp
  have fB := fun (own : List Nat) (hs' : Hp) (j : Nat) (u : Value) (hj : x.cells[j]? = some u) (hsub : [IB bb lb] ⊆ hs') => SI.fld (w0 := w) (own := own) (hs := hs') kB pB j (v := u) hj hsub
  have fS := fun (own : List Nat) (hs' : Hp) (j : Nat) (u : Value) (hj : y.cells[j]? = some u) (hsub : [IB bs ls] ⊆ hs') => SI.fld (w0 := w) (own := own) (hs := hs') kS pS j (v := u) hj hsub
  refine .block (.seq ((.drawK [] (by simp) (by kernel_rfl) (by kernel_rfl) ?_)))
  refine .v (fun _ f => .move rfl) (.v (fun _ f => .indexM 0 rfl rfl pB) (.v (fun _ f => .move rfl) (.v (fun _ f => .indexM 0 rfl rfl pS) (.v (fun _ f => .assign rfl) (.v (fun _ f => .assign rfl) (.nil ?_))))))
  have sub1 : [IB bb lb, IB bs ls, QB b5 q] ⊆ Cb p C (.slice A C.L.length c) :: (h ++ (hF ++ ([IB bb lb] ++ ([IB bs ls] ++ [QB b5 q, QB b3 qt0])))) := by
    intro u hu; simp at hu; rcases hu with rfl | rfl | rfl <;> simp
  refine .seq ((.drawK [IB bb lb, IB bs ls, QB b5 q] sub1 (by kernel_rfl) (by kernel_rfl) ?_))
  refine .v (fun _ f => .move rfl) (.v (fun _ f => .nilCheck rfl) (.v (fun _ f => .fieldAddr rfl) (.v (fun _ f => .load (v := .int .u64 x.q) rfl (fB _ _ 5 _ rfl (fun u hu => f (by simp at hu; subst hu; simp)))) (.v (fun _ f => .move rfl) (.v (fun _ f => .nilCheck rfl) (.v (fun _ f => .fieldAddr rfl) (.v (fun _ f => .load (v := .int .u64 y.q) rfl (fS _ _ 5 _ rfl (fun u hu => f (by simp at hu; subst hu; simp)))) (.v (fun _ f => .move rfl) (.v (fun _ f => .min3 rfl rfl rfl) (.v (fun _ f => .assign rfl) (.nil ?_)))))))))))
  have hn1 : 1 ≤ min (min x.q y.q) left := by omega
  have hnx : min (min x.q y.q) left ≤ x.q := by omega
  have hny : min (min x.q y.q) left ≤ y.q := by omega
  have hnl : min (min x.q y.q) left ≤ left := by omega
  have hn9 : min (min x.q y.q) left = x.q ∨ min (min x.q y.q) left = y.q ∨ min (min x.q y.q) left = left := by omega
  generalize min (min x.q y.q) left = n at hn1 hnx hny hnl hn9 e1 ⊢
  refine .seq ((.drawK [IB bb lb, IB bs ls, QB b5 q] sub1 (by kernel_rfl) (by kernel_rfl) ?_))
  refine .v (fun _ f => .move rfl) (.v (fun _ f => .move rfl) (.v (fun _ f => .nilCheck rfl) (.v (fun _ f => .fieldAddr rfl) (.v (fun _ f => .load (v := .int .u64 x.id) rfl (fB _ _ 0 _ rfl (fun u hu => f (by simp at hu; subst hu; simp)))) (.v (fun _ f => .move rfl) (.v (fun _ f => .nilCheck rfl) (.v (fun _ f => .fieldAddr rfl) (.v (fun _ f => .load (v := .int .u64 y.id) rfl (fS _ _ 0 _ rfl (fun u hu => f (by simp at hu; subst hu; simp)))) (.v (fun _ f => .fieldAddr rfl) (.v (fun _ f => .load (v := .int .i64 q.pr) rfl (.one (hb := .sub f) rfl)) (.v (fun _ f => .move rfl) (.v (fun _ f => .build (out := (⟨x.id, y.id, q.pr, n⟩ : Fl).cells) rfl rfl) ?_))))))))))))
  refine .ef (.buildSlice (out := (⟨x.id, y.id, q.pr, n⟩ : Fl).cells) rfl (by decide) rfl rfl) (fun v hs' ⟨_, _, e⟩ f => by subst e; exact fun y hy => List.mem_cons_of_mem _ (f hy)) ?_
  rintro _ _ ⟨bn, rfl, rfl⟩
  refine .ef (.append (c := F.length) (k := 1) (vs := frows F) (news := (⟨x.id, y.id, q.pr, n⟩ : Fl).cells) (h := hF) rfl rfl oF TakeI.out (fun w' s => Src.of_at s .whole rfl) rfl rfl (by omega) (by omega)) (fun v hs' ⟨_, _, e⟩ f => by subst e; intro u hu; simp at hu; rcases hu with rfl | rfl | rfl <;> simp) ?_
  rintro vF2 _ ⟨hF2, oF2, rfl⟩
  replace oF2 := OwnF.snoc oF2
  obtain ⟨AF2, cF2, rfl⟩ := OwnS.slice oF2
  refine .v (fun _ f => .assign rfl) (.nil ?_)
  refine .keep (Cb p C (.slice A C.L.length c) :: (h ++ (hF2 ++ ([IB bb lb] ++ ([IB bs ls] ++ [QB b5 q, QB b3 qt0]))))) ?_
  refine .seq ((.region (.v (.move rfl) (.v (.move rfl) (.v (.subU (left - n) rfl rfl rfl (by omega)) (.v (.assign rfl) (.nil ?_)))))))
  obtain ⟨kx, fx, hkx, ex⟩ := t.find (x := x) (by simp)
  have t1 : Trk (tradeI x.id n C.L) (rest1 x n ++ (B ++ (y :: S))) := Trk.go (M := B ++ (y :: S)) (x := x) t ⟨hn1, hnx⟩
  have t1' : Trk (tradeI x.id n C.L) (y :: (rest1 x n ++ B ++ S)) := t1.perm (by rw [← List.append_assoc]; exact List.perm_middle)
  have t2 := t1'.go ⟨hn1, hny⟩
  have t2' : Trk (tradeI y.id n (tradeI x.id n C.L)) ((rest1 x n ++ B) ++ (rest1 y n ++ S)) := t2.perm (by have := (List.perm_append_comm (l₁ := rest1 y n) (l₂ := rest1 x n ++ B)).append_right S; simpa only [List.append_assoc] using this)
  have len1 : (tradeI x.id n C.L).length ≤ C.L.length := by rw [tradeI_take t.nd fun z hz => by have := t.q z hz; omega]; exact takeI_len
  have len2 : (tradeI y.id n (tradeI x.id n C.L)).length ≤ (tradeI x.id n C.L).length := by rw [tradeI_take t1.nd fun z hz => by have := t1.q z hz; omega]; exact takeI_len
  obtain ⟨ky, fy, hky, ey⟩ := t1'.find (x := y) (by simp)
  refine .seq ((.region (.v (.move rfl) (.v (.move rfl) (.v (.nilCheck rfl) (.v (.fieldAddr rfl) (.v (.load (v := .int .u64 x.id) rfl (fB _ _ 0 _ rfl (by simp))) (.v (.move rfl) ?_))))))))
  refine .ef (.callT (Cb p C (.slice A C.L.length c) :: h) rfl rfl fun w' s' => traded_ok w' p C _ h o (by omega) x.id n fx ⟨by omega, by rw [ex]; omega, by rw [ex]; omega⟩) ?_
  rintro _ _ ⟨_, ⟨v1, h1, rfl, o1⟩, rfl⟩
  refine .nil ?_
  refine .seq ((.region (.v (.move rfl) (.v (.move rfl) (.v (.nilCheck rfl) (.v (.fieldAddr rfl) (.v (.load (v := .int .u64 y.id) rfl (fS _ _ 0 _ rfl (by simp))) (.v (.move rfl) ?_))))))))
  refine .ef (.callT (Cb p (C.trade x.id n) v1 :: h1) rfl rfl fun w' s' => traded_ok w' p (C.trade x.id n) _ h1 o1 (by show (tradeI x.id n C.L).length ≤ _; omega) y.id n fy ⟨by omega, by rw [ey]; omega, by rw [ey]; omega⟩) ?_
  rintro _ _ ⟨_, ⟨v2, h2', rfl, o2⟩, rfl⟩
  refine .nil ?_
  refine .keep (Cb p ((C.trade x.id n).trade y.id n) v2 :: (h2' ++ (hF2 ++ (IB bb lb :: IB bs ls :: [QB b5 q, QB b3 qt0])))) ?_
  have lnB := kB.len
  have lnS := kS.len
  have kB2 := cut_head (n := n) kB
  have kS2 := cut_head (n := n) kS
  rw [List.length_cons] at lnB lnS
  refine .seq ((.region (.v (.move rfl) (.v (.nilCheck rfl) (.v (.fieldAddr rfl) (.v (.load (v := .int .u64 x.q) rfl (fB _ _ 5 _ rfl (by simp))) (.v (.move rfl) (.v (.subU (x.q - n) rfl rfl rfl (by omega)) (.v (.nilCheck rfl) (.v (.fieldAddr rfl) (.st (.store rfl rfl rfl (by omega)) (.nil ?_))))))))))))
  refine .seq ((.region (.v (.move rfl) (.v (.nilCheck rfl) (.v (.fieldAddr rfl) (.v (.load (v := .int .u64 y.q) rfl (fS _ _ 5 _ rfl (by simp))) (.v (.move rfl) (.v (.subU (y.q - n) rfl rfl rfl (by omega)) (.v (.nilCheck rfl) (.v (.fieldAddr rfl) (.st (.store rfl rfl rfl (by omega)) (.nil ?_))))))))))))
  generalize lb.set (ob + 0 * 6 + 5) (.int .u64 (x.q - n)) = lb2 at kB2 ⊢
  generalize ls.set (os + 0 * 6 + 5) (.int .u64 (y.q - n)) = ls2 at kS2 ⊢
  have gB := fun (own : List Nat) (hs' : Hp) (hsub : [IB bb lb2] ⊆ hs') => SI.fld (w0 := w) (own := own) (hs := hs') kB2 pB 5 (v := .int .u64 (x.q - n)) rfl hsub
  have gS := fun (own : List Nat) (hs' : Hp) (hsub : [IB bs ls2] ⊆ hs') => SI.fld (w0 := w) (own := own) (hs := hs') kS2 pS 5 (v := .int .u64 (y.q - n)) rfl hsub
  have fin : ∀ (vB vS : Value), Own vB (rest1 x n ++ B) [IB bb lb2] → Own vS (rest1 y n ++ S) [IB bs ls2] → US.I ⟨rest1 x n ++ B, vB, [IB bb lb2], rest1 y n ++ S, vS, [IB bs ls2], F ++ [⟨x.id, y.id, q.pr, n⟩], .slice AF2 (F ++ [(⟨x.id, y.id, q.pr, n⟩ : Fl)]).length cF2, hF2, (C.trade x.id n).trade y.id n, v2, h2', left - n, k⟩ q.pr R := by
    intro vB vS o3 o4
    refine ⟨o3, o4, oF2, o2, ?_, t2', ?_, ?_, ?_, ?_, ?_, ?_, ?_, e1⟩
    · show (tradeI y.id n (tradeI x.id n C.L)).length ≤ 4096; omega
    · show 0 ≤ left - n; omega
    · show left - n ≤ qsum (rest1 x n ++ B); rw [rest1_qsum]; rw [qsum_cons] at lB; omega
    · show left - n ≤ qsum (rest1 y n ++ S); rw [rest1_qsum]; rw [qsum_cons] at lS; omega
    · show left - n ≤ _; omega
    · intro hp
      have hp : 0 < left - n := hp
      have := n1 h2
      show (F ++ [_]).length + (rest1 x n ++ B).length + (rest1 y n ++ S).length ≤ 8192
      have r1 : (rest1 x n).length ≤ 1 := by unfold rest1; split <;> simp
      have r2 : (rest1 y n).length ≤ 1 := by unfold rest1; split <;> simp
      have r3 : (rest1 x n).length = 0 ∨ (rest1 y n).length = 0 := by
        rcases hn9 with hh | hh | hh
        · left; unfold rest1; rw [if_pos hh.symm]; rfl
        · right; unfold rest1; rw [if_pos hh.symm]; rfl
        · omega
      simp only [List.length_append, List.length_cons, List.length_nil] at this ⊢
      omega
    · show (F ++ [_]).length ≤ 8193
      have := n1 h2
      simp only [List.length_append, List.length_cons, List.length_nil] at this ⊢
      omega
    · show left - n ≤ (k : Int); omega
  have ms : (left - n).toNat < left.toNat := by omega
  have stay : ∀ {b o c : Nat} {x : It} {l : List It} {lc : List Value}, x.q ≠ n → SI b o c (x :: l).length (x.less n :: l) lc → Own (.slice (some ⟨b, o, none⟩) (x :: l).length c) (rest1 x n ++ l) [IB b lc] := by
    intro b o c x l lc hh k
    unfold rest1; rw [if_neg hh]; exact k.own'
  have gone : ∀ {b o c : Nat} {x : It} {l : List It} {lc : List Value}, x.q = n → SI b o c (x :: l).length (x.less n :: l) lc → Own (.slice (cutA (some ⟨b, o, none⟩) c (1 : Int).toNat 6) ((x :: l).length - (1 : Int).toNat) (c - (1 : Int).toNat)) (rest1 x n ++ l) [IB b lc] := by
    intro b o c x l lc hh k
    unfold rest1; rw [if_pos hh]; exact cut_own (x := x.less n) k
  refine .seq (.seq ((.region (.v (.move rfl) (.v (.nilCheck rfl) (.v (.fieldAddr rfl) (.v (.load (v := .int .u64 (x.q - n)) rfl (gB _ _ (by simp))) (.v (.eqi rfl rfl) (.nil ?_)))))))))
  refine .cond_dec rfl (fun h3 => ?_) (fun h3 => .skip ?_)
  · refine .region (.v (.move rfl) (.v (.slLo rfl rfl (by omega) (by omega)) (.v (.assign rfl) (.nil ?_))))
    refine .seq ((.region (.v (.move rfl) (.v (.nilCheck rfl) (.v (.fieldAddr rfl) (.v (.load (v := .int .u64 (y.q - n)) rfl (gS _ _ (by simp))) (.v (.eqi rfl rfl) (.nil ?_))))))))
    refine .cond_dec rfl (fun h4 => ?_) (fun h4 => .skip ?_)
    · refine .region (.v (.move rfl) (.v (.slLo rfl rfl (by omega) (by omega)) (.v (.assign rfl) (.nil ?_))))
      exact ⟨_, fin _ _ (gone (by omega) kB2) (gone (by omega) kS2), ms, .cons rfl (.cons rfl (.cons rfl (.cons rfl (.cons rfl (.cons rfl (.cons rfl (.nil _))))))), fun _ s => s.take⟩
    · exact ⟨_, fin _ _ (gone (by omega) kB2) (stay (by omega) kS2), ms, .cons rfl (.cons rfl (.cons rfl (.cons rfl (.cons rfl (.cons rfl (.cons rfl (.nil _))))))), fun _ s => s.take⟩
  · refine .seq ((.region (.v (.move rfl) (.v (.nilCheck rfl) (.v (.fieldAddr rfl) (.v (.load (v := .int .u64 (y.q - n)) rfl (gS _ _ (by simp))) (.v (.eqi rfl rfl) (.nil ?_))))))))
    refine .cond_dec rfl (fun h4 => ?_) (fun h4 => .skip ?_)
    · refine .region (.v (.move rfl) (.v (.slLo rfl rfl (by omega) (by omega)) (.v (.assign rfl) (.nil ?_))))
      exact ⟨_, fin _ _ (stay (by omega) kB2) (gone (by omega) kS2), ms, .cons rfl (.cons rfl (.cons rfl (.cons rfl (.cons rfl (.cons rfl (.cons rfl (.nil _))))))), fun _ s => s.take⟩
    · exact ⟨_, fin _ _ (stay (by omega) kB2) (stay (by omega) kS2), ms, .cons rfl (.cons rfl (.cons rfl (.cons rfl (.cons rfl (.cons rfl (.cons rfl (.nil _))))))), fun _ s => s.take⟩
end Go.Proofs.Ytamldmgdhaoigaa

/- auction, the laws: lives, entered, volume. -/
namespace Go.Proofs.Ytamldmgdhaoigaa
open Go.V
open Go.Sort (ltInt)
set_option linter.unusedVariables false
set_option linter.unusedSimpArgs false
set_option maxRecDepth 20000

theorem srt_sorted (z : List Int) : (srt z).Pairwise (fun x y => x ≤ y) := by
  have := List.pairwise_mergeSort (le := fun x y => !ltInt y x) (fun a b c h1 h2 => by simp [ltInt] at *; omega) (fun a b => by simp [ltInt]; omega) z
  exact this.imp (fun h => by simpa [ltInt] using h)
theorem srt_perm (z : List Int) : (srt z).Perm z := List.mergeSort_perm ..
theorem srt_of {y z : List Int} (hp : y.Perm z) (hs : y.Pairwise (fun x y => x ≤ y)) : srt z = y :=
  List.Perm.eq_of_pairwise (le := fun x y => x ≤ y) (fun a b _ _ h1 h2 => by omega) (srt_sorted z) hs ((srt_perm z).trans hp.symm)
theorem srt_congr {y z : List Int} (hp : y.Perm z) : srt y = srt z := srt_of ((srt_perm z).trans hp.symm) (srt_sorted z)

abbrev QtL : List Lf := [.i .i64, .i .u64, .i .u64, .i .i64, .i .i64]
theorem Qt.oks (x : Qt) : V.oks QtL x.cells := ⟨rfl, rfl, rfl, rfl, rfl, trivial⟩
abbrev FlL : List Lf := [.i .u64, .i .u64, .i .i64, .i .u64]
theorem Fl.oks (x : Fl) : V.oks FlL x.cells := ⟨rfl, rfl, rfl, rfl, trivial⟩
abbrev lv4 : List It := [⟨1, 0, 1, 1, 102, 10⟩, ⟨2, 0, 1, 1, 101, 10⟩, ⟨3, 0, 2, 1, 99, 5⟩, ⟨4, 0, 2, 1, 101, 10⟩]
theorem lv_cand : (⟨100, 9, lv4⟩ : Cl).cand = [99, 100, 101, 102] := by
  have : srt (prices 100 lv4) = [99, 100, 101, 101, 102] := srt_of (by decide) (by decide)
  unfold Cl.cand
  rw [this]
  rfl
theorem lv_quote : (⟨100, 9, lv4⟩ : Cl).quote = (⟨101, 15, 5, 1, 1⟩, true) := by
  unfold Cl.quote
  rw [lv_cand]
  rfl
theorem lv_uncross : (⟨100, 9, lv4⟩ : Cl).uncross = ([⟨1, 3, 101, 5⟩, ⟨1, 4, 101, 5⟩, ⟨2, 4, 101, 5⟩], ⟨101, 15, 5, 1, 1⟩, true, ⟨100, 9, [⟨2, 0, 1, 1, 101, 5⟩]⟩) := by
  unfold Cl.uncross
  rw [lv_quote]
  rfl
theorem lv_why : ∀ i, i < 4 → (⟨100, 9, lv4.take i⟩ : Cl).why lv4[i]! = 0 := by
  intro i hi
  match i, hi with
  | 0, _ => rfl
  | 1, _ => rfl
  | 2, _ => rfl
  | 3, _ => rfl
structure LvS where
  i : Nat
  v : Value
  h : Hp
theorem lv_ok : (⟨100, 9, lv4⟩ : Cl).Ok := by
  have key : ∀ i, i ≤ 4 → (⟨100, 9, lv4.take i⟩ : Cl).Ok := by
    intro i
    induction i with
    | zero => intro _; exact Cl.Ok.new ⟨⟨by decide, by decide⟩, by decide, by decide⟩
    | succ i ih =>
      intro hi
      have h1 := (ih (by omega)).enter lv4[i]!
      unfold Cl.enter at h1
      rw [if_pos (lv_why i (by omega))] at h1
      have e : lv4.take (i + 1) = lv4.take i ++ [lv4[i]!] := by
        have : i < lv4.length := by show i < 4; omega
        rw [take_snocI this, getElem!_pos lv4 i this]
      rw [e]; exact h1
  exact key 4 (Nat.le_refl _)
theorem lives_ok (w : World) : Is Try.prog 12 [] w (.bool true) := by
  refine Does.pure (Does.of (n := 77) Try.func12 rfl rfl rfl rfl ?_)
  refine .seq ((.region (.v (.assign rfl) (.nil ?_))))
  refine .seq ((.region ?_))
  refine .ef (.call0 rfl rfl fun w s => NewC_yes w ⟨⟨by decide, by decide⟩, by decide, by decide⟩) ?_
  rintro _ _ ⟨_, ⟨p, rfl, rfl⟩, rfl⟩
  refine .v (.move rfl) (.v (.extract rfl rfl) (.v (.extract rfl rfl) (.v (.assign rfl) (.v (.assign rfl) (.nil ?_)))))
  refine .seq (.seq ((.region (.v (.move rfl) (.v (.no (.nei rfl rfl) (by simp)) (.v (.move rfl) (.or (b2 := false) 15 17 2 2 rfl rfl (fun g1 => .v (.move rfl) (.v (.eql_ptr_nil (a := some ⟨p, 0, none⟩) rfl rfl) (.nil ⟨rfl, rfl, rfl, rfl⟩))) (.nil ?_))))))))
  refine .cond_false rfl (.skip ?_)
  refine .seq ((.region (.v (.build (out := (⟨1, 0, 1, 1, 102, 10⟩ : It).cells) rfl rfl) (.v (.build (out := (⟨2, 0, 1, 1, 101, 10⟩ : It).cells) rfl rfl) (.v (.build (out := (⟨3, 0, 2, 1, 99, 5⟩ : It).cells) rfl rfl) (.v (.build (out := (⟨4, 0, 2, 1, 101, 10⟩ : It).cells) rfl rfl) (.v (.buildArr (out := irows lv4) rfl rfl) (.nw .alloc fun b3 => (.st (.sw rfl rfl) (.nil ?_))))))))))
  refine .seq (.seq ((.region (.v (.assign rfl) (.nil ?_)))))
  refine .block (.loop (X := LvS) (fun x => [(1, .pointer (some ⟨p, 0, none⟩)), (3, .pointer (some ⟨b3, 0, none⟩)), (4, .int .i64 x.i)]) (fun x => Cb p ⟨100, 9, lv4.take x.i⟩ x.v :: (x.h ++ [(b3, .cells (irows lv4) 73)])) (fun x => x.i ≤ 4 ∧ Own x.v (lv4.take x.i) x.h) (fun x => 4 - x.i) ⟨0, .slice none 0 0, []⟩ ⟨by show 0 ≤ 4; omega, OwnS.nil _ _⟩ (.cons rfl (.cons rfl (.cons rfl (.nil _)))) (fun _ s => s.take) ?_)
  rintro ⟨i, v, h⟩ ⟨hi, o⟩
  dsimp only at hi o ⊢
  refine .seq (.seq ((.region (.v (.move rfl) (.v (.lss rfl rfl) (.nil ?_))))))
  refine .cond_dec rfl (fun h2 => .skip ?_) (fun h2 => .exit ?_)
  · have hi4 : i < lv4.length := by show i < 4; omega
    have ew := lv_why i (by omega)
    have e : lv4.take (i + 1) = lv4.take i ++ [lv4[i]!] := by rw [take_snocI hi4, getElem!_pos lv4 i hi4]
    have ee : (⟨100, 9, lv4.take i⟩ : Cl).enter lv4[i]! = ⟨100, 9, lv4.take (i + 1)⟩ := by rw [e]; exact if_pos ew
    have hlen : (lv4.take i).length ≤ 1000000 := by rw [List.length_take]; show min i 4 ≤ _; omega
    refine .seq (.block (.seq ((.region (.v (.move rfl) (.v (.move rfl) (.v (.indexAddrA rfl rfl (by omega) (by omega)) (.v (.loadA (vs := (lv4[i]!).cells) rfl (by rw [getElem!_pos lv4 i hi4]; exact recAt (w0 := w) It.cells 6 (fun _ => rfl) (z := (i : Int)) (l := lv4) .whole hi4) rfl) ?_))))))))
    refine .ef (.callT (Cb p ⟨100, 9, lv4.take i⟩ v :: h) rfl rfl fun w' s' => Enter_ok w' p ⟨100, 9, lv4.take i⟩ v h o hlen lv4[i]!) ?_
    rintro _ _ ⟨_, ⟨rfl, v', h', rfl, o'⟩, rfl⟩
    rw [ew]
    rw [ee] at o' ⊢
    refine .v (.no (.nei rfl rfl) (by simp)) (.nil ?_)
    refine .cond_false rfl (.skip ?_)
    refine .region (.v (.move rfl) (.v (.addE ((i + 1 : Nat) : Int) rfl rfl (by omega) (by omega)) (.v (.assign rfl) (.nil ?_))))
    exact ⟨⟨i + 1, v', h'⟩, ⟨by show i + 1 ≤ 4; omega, o'⟩, by show 4 - (i + 1) < 4 - i; omega, .cons rfl (.cons rfl (.cons rfl (.nil _))), fun _ s => s⟩
  have : i = 4 := by omega
  subst this
  have o : Own v lv4 h := o
  show JC _ _ _ _ _ _ (Cb p ⟨100, 9, lv4⟩ v :: (h ++ [(b3, .cells (irows lv4) 73)])) _
  refine .seq ((.region (.v (.move rfl) ?_)))
  refine .ef (.callT (Cb p ⟨100, 9, lv4⟩ v :: h) rfl rfl fun w' s' => Uncross_ok w' p ⟨100, 9, lv4⟩ v h o lv_ok) ?_
  rw [lv_uncross]
  rintro _ _ ⟨_, ⟨v1, h1, vF, hF, rfl, rfl, o1, oF⟩, rfl⟩
  dsimp only at o1 oF ⊢
  obtain ⟨AF, cF, rfl⟩ := OwnS.slice oF
  obtain ⟨bf, of_, lf, rfl, -, rfl, -, -, -⟩ := OwnS.some_ oF (by decide)
  obtain ⟨A1, c1, rfl⟩ := OwnS.slice o1
  refine .v (.move rfl) (.v (.extract rfl rfl) (.v (.extract rfl rfl) (.v (.extract rfl rfl) (.nw .alloc fun b6 => (.v (.assign rfl) (.st (.sw rfl rfl) (.v (.assign rfl) (.nil ?_))))))))
  refine .seq ((.region (.v (.move rfl) ?_)))
  refine .ef (.call0 rfl rfl fun w' s' => Interests_ok w' p ⟨100, 9, [⟨2, 0, 1, 1, 101, 5⟩]⟩ A1 c1 1 (ClR.of s' o1 (by simp) (fun y hy => by simp [hy])) (by show 1 ≤ 1000000; omega) (fun x hx => by rw [List.mem_singleton.1 hx]; exact ⟨by decide, by decide⟩)) ?_
  rw [show (⟨100, 9, [⟨2, 0, 1, 1, 101, 5⟩]⟩ : Cl).side 1 = [⟨2, 0, 1, 1, 101, 5⟩] from rfl]
  rintro vI _ ⟨hI, oI, rfl⟩
  obtain ⟨AI, cI, rfl⟩ := OwnS.slice oI
  obtain ⟨bi, oi, li, rfl, -, rfl, -, -, -⟩ := OwnS.some_ oI (by decide)
  refine .v (.assign rfl) (.nil ?_)
  have qF := fun (own : List Nat) (hs' : Hp) (hsub : [(bf, Ch.cells lf 44)] ⊆ hs') => recAt (w0 := w) (own := own) (hs := hs') Fl.cells 4 (fun _ => rfl) (z := ((2 : Nat) : Int)) (i := 2) (OwnS.at0 oF hsub) (by decide)
  have kI : SI bi oi cI 1 [⟨2, 0, 1, 1, 101, 5⟩] li := ⟨rfl, oI⟩
  have qI := fun (own : List Nat) (hs' : Hp) (hsub : [IB bi li] ⊆ hs') => SI.fld (w0 := w) (own := own) (hs := hs') kI (i := 0) (by decide) 5 (v := .int .u64 5) rfl hsub
  refine .seq ((.region (.v (.move rfl) (.v (.move rfl) (.and (b2 := true) 43 46 3 3 rfl rfl (fun g2 => .v (.loadA (vs := (⟨101, 15, 5, 1, 1⟩ : Qt).cells) rfl .whole rfl) (.v (.build (out := (⟨101, 15, 5, 1, 1⟩ : Qt).cells) rfl rfl) (.v (.as (.eqA rfl rfl (Qt.oks _) (Qt.oks _)) rfl) (.nil ⟨rfl, rfl, rfl, rfl⟩)))) (.v (.move rfl) (.and (b2 := true) 48 51 3 3 rfl rfl (fun g3 => .v (.move rfl) (.v (.len rfl) (.v (.yes (.eqi rfl rfl) (by decide)) (.nil ⟨rfl, rfl, rfl, rfl⟩)))) (.v (.move rfl) (.and (b2 := true) 53 58 5 5 rfl rfl (fun g4 => .v (.move rfl) (.v (.indexM 2 rfl rfl (by decide)) (.v (.loadA (vs := (⟨2, 4, 101, 5⟩ : Fl).cells) rfl (qF _ _ (by simp)) rfl) (.v (.build (out := (⟨2, 4, 101, 5⟩ : Fl).cells) rfl rfl) (.v (.as (.eqA rfl rfl (Fl.oks _) (Fl.oks _)) rfl) (.nil ⟨rfl, rfl, rfl, rfl⟩)))))) (.v (.move rfl) (.and (b2 := true) 60 63 3 3 rfl rfl (fun g5 => .v (.move rfl) (.v (.len rfl) (.v (.yes (.eqi rfl rfl) (by decide)) (.nil ⟨rfl, rfl, rfl, rfl⟩)))) (.v (.move rfl) (.and (b2 := true) 65 70 5 5 rfl rfl (fun g6 => .v (.move rfl) (.v (.indexM 0 rfl rfl (by decide)) (.v (.fieldAddr rfl) (.v (.load (v := .int .u64 5) rfl (qI _ _ (by simp))) (.v (.yes (.eqi rfl rfl) (by decide)) (.nil ⟨rfl, rfl, rfl, rfl⟩)))))) (.v (.move rfl) (.and (b2 := true) 72 75 3 3 rfl rfl (fun g7 => .v (.move rfl) (.pc (v := .int .i64 1) rfl rfl (fun w s => Len_ok w p ⟨100, 9, [⟨2, 0, 1, 1, 101, 5⟩]⟩ A1 c1 (ClR.of s o1 (by simp) (fun y hy => by simp [hy]))) (.v (.yes (.eqi rfl rfl) (by decide)) (.nil ⟨rfl, rfl, rfl, rfl⟩)))) (.v (.assign rfl) (.nil ?_)))))))))))))))))
  exact .ret ⟨[_], ⟨rfl, trivial⟩, rfl⟩
end Go.Proofs.Ytamldmgdhaoigaa

/- auction, the laws: entered, Curves. -/
namespace Go.Proofs.Ytamldmgdhaoigaa
open Go.V
open Go.Sort (ltInt)
set_option linter.unusedVariables false
set_option linter.unusedSimpArgs false
set_option maxRecDepth 20000

def entL (rf : Int) (l : List It) : Cl := l.foldl Cl.enter ⟨rf, 4096, []⟩
theorem entL_ok {rf : Int} (h : tickP rf) (l : List It) : (entL rf l).Ok := by
  have key : ∀ (l : List It) (C : Cl), C.Ok → (l.foldl Cl.enter C).Ok := by
    intro l
    induction l with
    | nil => intro C h; exact h
    | cons x l ih => intro C h; exact ih _ (h.enter x)
  exact key l _ (Cl.Ok.new ⟨h, by omega, by omega⟩)
theorem entL_take (rf : Int) {l : List It} {i : Nat} (h : i < l.length) : entL rf (l.take (i + 1)) = (entL rf (l.take i)).enter l[i] := by
  unfold entL
  rw [take_snocI h, List.foldl_append]; rfl
structure EnS where
  i : Nat
  v : Value
  h : Hp
  vT : Value
  hT : Hp
theorem own_snoc {v : Value} {z : List It} {x : It} {h : Hp} (o : OwnS 36 6 v (z.length + 1) (irows z ++ x.cells) h) : Own v (z ++ [x]) h := by
  show OwnS _ 6 v (z ++ [x]).length (irows (z ++ [x])) h
  rw [List.length_append, irows_app, show irows [x] = x.cells by simp [irows]]; exact o
theorem entered_yes (w : World) (rf : Int) (hr : tickP rf) (A : Option Addr) (n c : Nat) (l : List It) (hA : Rd w [] A (irows l)) (hn : n = l.length) (hb : n ≤ 1000000000) :
    Does Try.prog 13 [.int .i64 rf, .slice A n c] [] w (fun v hs => ∃ p v1 h1 vT hT, v = .tuple ⟨[.pointer (some ⟨p, 0, none⟩), vT]⟩ ∧ hs = Cb p (entL rf l) v1 :: (h1 ++ hT) ∧ Own v1 (entL rf l).L h1 ∧ Own vT (entL rf l).L hT) := by
  subst hn
  refine Does.less (Does.of (n := 43) Try.func13 rfl rfl rfl rfl ?_)
  refine .seq ((.region (.v (.assign rfl) (.v (.assign rfl) (.nil ?_)))))
  refine .seq ((.region (.v (.move rfl) ?_)))
  refine .ef (.call0 rfl rfl fun w s => NewC_yes w ⟨hr, by omega, by omega⟩) ?_
  rintro _ _ ⟨_, ⟨p, rfl, rfl⟩, rfl⟩
  refine .v (.move rfl) (.v (.extract rfl rfl) (.v (.extract rfl rfl) (.v (.assign rfl) (.v (.assign rfl) (.nil ?_)))))
  refine .seq (.seq ((.region (.v (.move rfl) (.v (.no (.nei rfl rfl) (by simp)) (.v (.move rfl) (.or (b2 := false) 17 19 2 2 rfl rfl (fun g1 => .v (.move rfl) (.v (.eql_ptr_nil (a := some ⟨p, 0, none⟩) rfl rfl) (.nil ⟨rfl, rfl, rfl, rfl⟩))) (.nil ?_))))))))
  refine .cond_false rfl (.skip ?_)
  refine .seq ((.region (.v (.assign rfl) (.nil ?_))))
  refine .seq (.seq ((.region (.v (.assign rfl) (.nil ?_)))))
  refine .block (.loop (X := EnS) (fun x => [(1, .slice A l.length c), (6, .pointer (some ⟨p, 0, none⟩)), (8, x.vT), (9, .int .i64 x.i)]) (fun x => Cb p (entL rf (l.take x.i)) x.v :: (x.h ++ x.hT)) (fun x => x.i ≤ l.length ∧ Own x.v (entL rf (l.take x.i)).L x.h ∧ Own x.vT (entL rf (l.take x.i)).L x.hT) (fun x => l.length - x.i) ⟨0, .slice none 0 0, [], .slice none 0 0, []⟩ ⟨Nat.zero_le _, OwnS.nil _ _, OwnS.nil _ _⟩ (.cons rfl (.cons rfl (.cons rfl (.cons rfl (.nil _))))) (fun _ s => s) ?_)
  rintro ⟨i, v, h, vT, hT⟩ ⟨hi, o, oT⟩
  dsimp only at hi o oT ⊢
  refine .seq (.seq ((.region (.v (.move rfl) (.v (.move rfl) (.v (.len rfl) (.v (.lss rfl rfl) (.nil ?_))))))))
  refine .cond_dec rfl (fun h2 => .skip ?_) (fun h2 => .exit ?_)
  case refine_2 =>
    have : i = l.length := by omega
    subst this
    rw [List.take_length] at o oT ⊢
    refine .seq ((.region (.v (.move rfl) (.v (.move rfl) (.v (.assign rfl) (.v (.assign rfl) (.nil ?_)))))))
    exact .ret ⟨[_, _], ⟨rfl, rfl, trivial⟩, Cb p (entL rf l) v :: (h ++ hT), fun _ s => s, p, v, h, vT, hT, rfl, rfl, o, oT⟩
  have hil : i < l.length := by omega
  obtain ⟨ba, oa, rfl, hca⟩ := Rd.recs It.cells 6 (fun _ => rfl) hA (by omega) (by omega)
  have q1 := fun hs' => recAt It.cells 6 (fun _ => rfl) (z := (i : Int)) (hca hs') hil
  have hS := entL_take rf hil
  have ok := entL_ok hr (l.take i)
  have hlen := ok.len'
  generalize entL rf (l.take i) = C at o oT hS ok hlen
  generalize l[i] = x at q1 hS
  obtain ⟨AT, cT, rfl⟩ := OwnS.slice oT
  refine .mid (X := EnS) (fun y => [(1, .slice (some ⟨ba, oa, none⟩) l.length c), (6, .pointer (some ⟨p, 0, none⟩)), (8, y.vT), (9, .int .i64 (i : Nat))]) (fun y => Cb p (C.enter x) y.v :: (y.h ++ y.hT)) (fun y => Own y.v (C.enter x).L y.h ∧ Own y.vT (C.enter x).L y.hT) (.block (.seq ((.region (.v (.move rfl) (.v (.move rfl) (.v (.move rfl) (.v (.indexAddr rfl rfl (by omega) (by omega)) (.v (.loadA (vs := x.cells) rfl (q1 _) rfl) ?_))))))))) ?_
  · refine .ef (.callT (Cb p C v :: h) rfl rfl fun w' s' => Enter_ok w' p C v h o (by omega) x) ?_
    rintro _ _ ⟨_, ⟨rfl, v', h', rfl, o'⟩, rfl⟩
    refine .v (.eqi rfl rfl) (.nil ?_)
    refine .cond_dec rfl (fun h3 => ?_) (fun h3 => .skip ?_)
    · have e : C.enter x = ⟨C.rf, C.rm, C.L ++ [x]⟩ := if_pos h3
      refine .region (.v (.move rfl) (.v (.move rfl) (.v (.move rfl) (.v (.indexAddr rfl rfl (by omega) (by omega)) (.v (.loadA (vs := x.cells) rfl (q1 _) rfl) ?_)))))
      refine .push (h := hT) (oc := x.cells) (c := C.L.length) (vs := irows C.L) rfl rfl oT rfl rfl rfl (by omega) (by omega) fun bn vn hn on => .v (.assign rfl) (.nil ?_)
      refine ⟨⟨0, v', h', vn, hn⟩, ⟨o', ?_⟩, .cons rfl (.cons rfl (.cons rfl (.cons rfl (.nil _)))), fun _ s => s.take⟩
      rw [e]; exact own_snoc on
    · have e : C.enter x = C := if_neg h3
      exact ⟨⟨0, v', h', _, hT⟩, ⟨o', by rw [e]; exact oT⟩, .cons rfl (.cons rfl (.cons rfl (.cons rfl (.nil _)))), fun _ s => s.take⟩
  rintro ⟨_, v2, h2', vT2, hT2⟩ ⟨o2, oT2⟩
  dsimp only at o2 oT2 ⊢
  refine .region (.v (.move rfl) (.v (.addE ((i + 1 : Nat) : Int) rfl rfl (by omega) (by omega)) (.v (.assign rfl) (.nil ?_))))
  rw [← hS] at o2 oT2 ⊢
  exact ⟨⟨i + 1, v2, h2', vT2, hT2⟩, ⟨by show i + 1 ≤ _; omega, o2, oT2⟩, by show l.length - (i + 1) < l.length - i; omega, .cons rfl (.cons rfl (.cons rfl (.cons rfl (.nil _)))), fun _ s => s⟩
theorem entered_no (w : World) (rf : Int) (hr : ¬ tickP rf) (s : Value) :
    Is Try.prog 13 [.int .i64 rf, s] w (.tuple ⟨[.pointer none, .slice none 0 0]⟩) := by
  refine Does.pure (Does.of (n := 43) Try.func13 rfl rfl rfl rfl ?_)
  refine .seq ((.region (.v (.assign rfl) (.v (.assign rfl) (.nil ?_)))))
  refine .seq ((.region (.v (.move rfl) (.pc rfl rfl (fun w s => NewC_no w (fun h => hr h.1)) (.v (.move rfl) (.v (.extract rfl rfl) (.v (.extract rfl rfl) (.v (.assign rfl) (.v (.assign rfl) (.nil ?_))))))))))
  refine .seq (.seq ((.region (.v (.move rfl) (.v (.yes (.nei rfl rfl) (by simp)) (.v (.move rfl) (.or (b2 := true) 17 19 2 2 rfl rfl (fun g1 => absurd g1 (by simp)) (.nil ?_))))))))
  refine .cond_true rfl ?_
  refine .seq ((.region (.v (.assign rfl) (.v (.assign rfl) (.nil ?_)))))
  exact .ret ⟨[_, _], ⟨rfl, rfl, trivial⟩, rfl⟩
end Go.Proofs.Ytamldmgdhaoigaa

/- auction, the laws: Curves. -/
namespace Go.Proofs.Ytamldmgdhaoigaa
open Go.V
open Go.Sort (ltInt)
set_option linter.unusedVariables false
set_option linter.unusedSimpArgs false
set_option maxRecDepth 20000

theorem buyQ_anti {l : List It} (h : ∀ x ∈ l, 0 ≤ x.q) {a b : Int} (hab : a ≤ b) : buyQ b l ≤ buyQ a l := by
  refine qsum_filter_le h fun x _ e => ?_
  unfold buysAt at e ⊢
  simp only [Bool.and_eq_true, Bool.or_eq_true, decide_eq_true_eq] at e ⊢
  omega
theorem sellQ_mono {l : List It} (h : ∀ x ∈ l, 0 ≤ x.q) {a b : Int} (hab : a ≤ b) : sellQ a l ≤ sellQ b l := by
  refine qsum_filter_le h fun x _ e => ?_
  unfold sellsAt at e ⊢
  simp only [Bool.and_eq_true, Bool.or_eq_true, decide_eq_true_eq] at e ⊢
  omega
theorem quoteL_at (rf : Int) (l : List Qt) (h : 0 < l.length) : (quoteL rf l).2 = false ∧ (quoteL rf l).1 = qt0 ∨ (quoteL rf l).2 = true ∧ ∃ x ∈ l, ∃ r, (quoteL rf l).1 = ruledQ x r := by
  have el : ∀ {m : List Qt} {i : Nat}, i < m.length → (∀ q ∈ m, q ∈ l) → m[i]! ∈ l := by
    intro m i hi hm
    rw [getElem!_pos m i hi]; exact hm _ (List.getElem_mem hi)
  have h1 := best_mem nVol l
  have h2 := fun q hq => h1 q (best_mem Qt.sur _ q hq)
  have h3 := fun q hq => h2 q (best_mem (nFar rf) _ q hq)
  have p1 := best_pos nVol h
  have p2 := best_pos Qt.sur p1
  have p3 := best_pos (nFar rf) p2
  unfold quoteL
  dsimp only
  split
  · exact .inl ⟨rfl, rfl⟩
  · split
    · exact .inr ⟨rfl, _, el p1 h1, _, rfl⟩
    · split
      · exact .inr ⟨rfl, _, el p2 h2, _, rfl⟩
      · split
        · exact .inr ⟨rfl, _, el (by omega) h2, _, rfl⟩
        · split
          · exact .inr ⟨rfl, _, el p2 h2, _, rfl⟩
          · exact .inr ⟨rfl, _, el p3 h3, _, rfl⟩
theorem Cl.quote_at {C : Cl} (h : C.Ok) : C.quote.2 = false ∧ C.quote.1 = qt0 ∨ C.quote.2 = true ∧ ∃ p r, p ∈ C.cand ∧ C.quote.1 = ruledQ (atQ C.L p) r := by
  rcases quoteL_at C.rf (C.cand.map (atQ C.L)) (by rw [List.length_map]; exact h.cand.1) with h | ⟨h1, x, hx, r, h2⟩
  · exact .inl h
  · obtain ⟨p, hp, rfl⟩ := List.mem_map.1 hx
    exact .inr ⟨h1, p, r, hp, h2⟩
theorem Curves_ok (w : World) (rf a b : Int) (A : Option Addr) (c : Nat) (l : List It) (hA : Rd w [] A (irows l)) (hb : l.length ≤ 1048576) :
    Is Try.prog 6 [.int .i64 rf, .slice A l.length c, .int .i64 a, .int .i64 b] w (.bool true) := by
  refine Does.pure (Does.of (n := 118) Try.func6 rfl rfl rfl rfl ?_)
  refine .seq ((.region (.v (.assign rfl) (.nil ?_))))
  refine .seq (.seq ((.region (.pc rfl rfl (fun w s => lives_ok w) (.v (.not rfl) (.nil ?_))))))
  refine .cond_false rfl (.skip ?_)
  rcases Decidable.em (tickP rf) with hr | hr
  case inr =>
    refine .seq ((.region (.v (.move rfl) (.v (.move rfl) (.pc rfl rfl (fun w s => entered_no w rf hr _) (.v (.move rfl) (.v (.extract rfl rfl) (.v (.extract rfl rfl) (.v (.assign rfl) (.v (.assign rfl) (.nil ?_)))))))))))
    refine .seq (.seq ((.region (.v (.move rfl) (.v (.eql_ptr_nil (a := none) rfl rfl) (.nil ?_))))))
    refine .cond_true rfl ?_
    refine .seq ((.region (.v (.move rfl) (.v (.lss rfl rfl) (.v (.move rfl) (.or (b2 := decide (rf ≥ 262144)) 31 33 2 2 rfl rfl (fun g1 => .v (.move rfl) (.v (.geq rfl rfl) (.nil ⟨rfl, rfl, rfl, rfl⟩))) (.v (.assign rfl) (.nil ?_))))))))
    refine .ret ⟨[_], ⟨rfl, trivial⟩, vb ?_⟩
    have : rf < 0 ∨ 262144 ≤ rf := by have := hr; unfold tickP at this; omega
    rcases this with h | h
    · rw [decide_eq_true h]; rfl
    · rw [decide_eq_true (show rf ≥ 262144 from h), Bool.or_true]
  refine .seq ((.region (.v (.move rfl) (.v (.move rfl) ?_))))
  refine .ef (.call0 rfl rfl fun w s => entered_yes w rf hr A l.length c l (hA.keep0 s) rfl (by omega)) ?_
  rintro _ _ ⟨_, ⟨p, v1, h1, vT, hT, rfl, rfl, o, oT⟩, rfl⟩
  have hC := entL_ok hr l
  generalize entL rf l = C at o oT hC ⊢
  clear oT hA
  obtain ⟨A1, c1, rfl⟩ := OwnS.slice o
  have hq : ∀ x ∈ C.L, 0 ≤ x.q := fun x hx => by have := (hC.it x hx).q; omega
  refine .v (.move rfl) (.v (.extract rfl rfl) (.v (.extract rfl rfl) (.v (.assign rfl) (.v (.assign rfl) (.nil ?_)))))
  refine .seq (.seq ((.region (.v (.move rfl) (.v (.eql_ptr_nil (a := some ⟨p, 0, none⟩) rfl rfl) (.nil ?_))))))
  refine .cond_false rfl (.skip ?_)
  refine .keep (Cb p C (.slice A1 C.L.length c1) :: h1) ?_
  refine .mid (X := Int × Int) (fun x => [(2, .int .i64 x.1), (3, .int .i64 x.2), (9, .pointer (some ⟨p, 0, none⟩))]) (fun x => Cb p C (.slice A1 C.L.length c1) :: h1) (fun x => x.1 ≤ x.2) (.seq ((.region (.v (.move rfl) (.v (.move rfl) (.v (.gtr rfl rfl) (.nil ?_))))))) ?_
  · refine .cond_dec rfl (fun h3 => ?_) (fun h3 => .skip ?_)
    · refine .region (.v (.move rfl) (.v (.move rfl) (.v (.assign rfl) (.v (.assign rfl) (.nil ?_)))))
      exact ⟨(b, a), by show b ≤ a; omega, .cons rfl (.cons rfl (.cons rfl (.nil _))), fun _ s => s⟩
    · exact ⟨(a, b), by show a ≤ b; omega, .cons rfl (.cons rfl (.cons rfl (.nil _))), fun _ s => s⟩
  rintro ⟨a, b⟩ hab
  dsimp only at hab ⊢
  have cv := fun (pr : Int) (w' : World) (s : Sat w [] (Cb p C (.slice A1 C.L.length c1) :: h1) w') => Curve_ok w' p C A1 c1 pr (ClR.of s o (by simp) (fun y hy => by simp [hy])) hC.qok
  refine .seq ((.region (.v (.move rfl) (.v (.move rfl) (.pc rfl rfl (fun w s => cv a w s) (.v (.move rfl) (.v (.extract rfl rfl) (.v (.extract rfl rfl) (.v (.assign rfl) (.v (.assign rfl) (.nil ?_)))))))))))
  refine .seq ((.region (.v (.move rfl) (.v (.move rfl) (.pc rfl rfl (fun w s => cv b w s) (.v (.move rfl) (.v (.extract rfl rfl) (.v (.extract rfl rfl) (.v (.assign rfl) (.v (.assign rfl) (.nil ?_)))))))))))
  have g1 := buyQ_anti hq hab
  have g2 := sellQ_mono hq hab
  refine .seq (.seq ((.region (.v (.move rfl) (.v (.move rfl) (.v (.no (.gtr rfl rfl) (by omega)) (.v (.move rfl) (.or (b2 := false) 55 58 3 3 rfl rfl (fun g2 => .v (.move rfl) (.v (.move rfl) (.v (.no (.lss rfl rfl) (by omega)) (.nil ⟨rfl, rfl, rfl, rfl⟩)))) (.nil ?_)))))))))
  refine .cond_false rfl (.skip ?_)
  refine .seq ((.region (.v (.move rfl) (.pc (v := quoteV C.quote) rfl rfl (fun w s => Quote_ok w p C A1 c1 (ClR.of s o (by simp) (fun y hy => by simp [hy])) hC) (.v (.move rfl) (.v (.extract rfl rfl) (.v (.extract rfl rfl) (.nw .alloc fun b15 => (.st (.sw rfl rfl) (.v (.assign rfl) (.nil ?_)))))))))))
  rcases C.quote_at hC with ⟨e1, e2⟩ | ⟨e1, pr, r, -, e2⟩
  · rw [e1, e2]
    refine .seq (.seq ((.region (.v (.move rfl) (.v (.not rfl) (.nil ?_))))))
    refine .cond_true rfl ?_
    refine .seq ((.region (.v (.loadA (vs := qt0.cells) rfl .whole rfl) (.v (.build (out := qt0.cells) rfl rfl) (.v (.as (.eqA rfl rfl (Qt.oks _) (Qt.oks _)) rfl) (.v (.assign rfl) (.nil ?_)))))))
    exact .ret ⟨[_], ⟨rfl, trivial⟩, rfl⟩
  rw [e1, e2]
  refine .seq (.seq ((.region (.v (.move rfl) (.v (.not rfl) (.nil ?_))))))
  refine .cond_false rfl (.skip ?_)
  refine .seq ((.region (.v (.move rfl) (.v (.fieldAddr rfl) (.v (.load (v := .int .i64 pr) rfl (.one rfl)) (.pc rfl rfl (fun w s => cv pr w (s.take)) (.v (.move rfl) (.v (.extract rfl rfl) (.v (.extract rfl rfl) (.v (.assign rfl) (.v (.assign rfl) (.nil ?_))))))))))))
  obtain ⟨u1, u2, u3, u4⟩ := buyQ_le pr hC.qok.2
  have hl := hC.len'
  unfold atQ ruledQ
  dsimp only
  generalize buyQ pr C.L = x at u1 u2 ⊢
  generalize sellQ pr C.L = y at u3 u4 ⊢
  refine .seq (.seq ((.region (.v (.move rfl) (.v (.move rfl) (.v (.geq rfl rfl) (.nil ?_)))))))
  refine .cond_dec rfl (fun h6 => ?_) (fun h6 => .skip ?_)
  · refine .seq ((.region (.v (.fieldAddr rfl) (.v (.load (v := .int .u64 (min x y)) rfl (.one rfl)) (.v (.move rfl) (.v (.yes (.eqi rfl rfl) (by omega)) (.v (.move rfl) (.and (b2 := true) 84 90 6 6 rfl rfl (fun g3 => .v (.fieldAddr rfl) (.v (.load (v := .int .u64 (max x y - min x y)) rfl (.one rfl)) (.v (.move rfl) (.v (.move rfl) (.v (.subU (x - y) rfl rfl rfl (by omega)) (.v (.yes (.eqi rfl rfl) (by omega)) (.nil ⟨rfl, rfl, rfl, rfl⟩))))))) (.v (.move rfl) (.and (b2 := true) 92 99 7 7 rfl rfl (fun g4 => .v (.fieldAddr rfl) (.v (.load (v := .int .i64 (if y < x then 1 else if x < y then 2 else 0)) rfl (.one rfl)) (.v (.eqi rfl rfl) (.v (.move rfl) (.v (.move rfl) (.v (.gtr rfl rfl) (.v (.as (v' := .bool true) (.eqb rfl rfl) (vb (by by_cases hh : y < x <;> simp [hh] <;> omega))) (.nil ⟨rfl, rfl, rfl, rfl⟩)))))))) (.v (.assign rfl) (.nil ?_))))))))))))
    exact .ret ⟨[_], ⟨rfl, trivial⟩, rfl⟩
  · refine .seq ((.region (.v (.fieldAddr rfl) (.v (.load (v := .int .u64 (min x y)) rfl (.one rfl)) (.v (.move rfl) (.v (.yes (.eqi rfl rfl) (by omega)) (.v (.move rfl) (.and (b2 := true) 105 111 6 6 rfl rfl (fun g5 => .v (.fieldAddr rfl) (.v (.load (v := .int .u64 (max x y - min x y)) rfl (.one rfl)) (.v (.move rfl) (.v (.move rfl) (.v (.subU (y - x) rfl rfl rfl (by omega)) (.v (.yes (.eqi rfl rfl) (by omega)) (.nil ⟨rfl, rfl, rfl, rfl⟩))))))) (.v (.move rfl) (.and (b2 := true) 113 116 3 3 rfl rfl (fun g6 => .v (.fieldAddr rfl) (.v (.load (v := .int .i64 (if y < x then 1 else if x < y then 2 else 0)) rfl (.one rfl)) (.v (.yes (.eqi rfl rfl) (by rw [if_neg (by omega), if_pos (by omega)])) (.nil ⟨rfl, rfl, rfl, rfl⟩)))) (.v (.assign rfl) (.nil ?_))))))))))))
    exact .ret ⟨[_], ⟨rfl, trivial⟩, rfl⟩
end Go.Proofs.Ytamldmgdhaoigaa

/- auction, the laws: Most. -/
namespace Go.Proofs.Ytamldmgdhaoigaa
open Go.V
open Go.Sort (ltInt)
set_option linter.unusedVariables false
set_option linter.unusedSimpArgs false
set_option maxRecDepth 20000

theorem volume_ok (w : World) (A : Option Addr) (c : Nat) (pr : Int) (l : List It) (hA : Rd w [] A (irows l)) (hQ : Qok l) : Is Try.prog 15 [.slice A l.length c, .int .i64 pr] w (.int .u64 (volQ pr l)) := by
  obtain ⟨hl, hq⟩ := hQ
  refine Does.pure (Does.of (n := 79) Try.func15 rfl rfl rfl rfl ?_)
  refine .seq ((.region (.v (.assign rfl) (.nil ?_))))
  refine .seq ((.region (.v (.assign rfl) (.v (.assign rfl) (.nil ?_)))))
  refine .seq (.seq ((.region (.v (.assign rfl) (.nil ?_)))))
  refine .block (.loop (X := Nat) (fun i => [(0, .slice A l.length c), (1, .int .i64 pr), (5, .int .u64 (buyQ pr (l.take i))), (6, .int .u64 (sellQ pr (l.take i))), (7, .int .i64 (i : Nat))]) (fun _ => []) (fun i => i ≤ l.length) (fun i => l.length - i) 0 (Nat.zero_le _) (.cons rfl (.cons rfl (.cons rfl (.cons rfl (.cons rfl (.nil _)))))) (fun _ s => s) ?_)
  intro i hi
  refine .seq (.seq ((.region (.v (.move rfl) (.v (.move rfl) (.v (.len rfl) (.v (.lss rfl rfl) (.nil ?_))))))))
  refine .cond_dec rfl (fun h1 => .skip ?_) (fun h1 => .exit ?_)
  · have hil : i < l.length := by omega
    obtain ⟨ba, oa, rfl, hc⟩ := Rd.recs It.cells 6 (fun _ => rfl) hA (by omega) (by omega)
    have qf := fun hs' (j : Nat) (v : Value) (hv : ((l[i]).cells)[j]? = some v) => fldAt It.cells 6 (fun _ => rfl) (z := (i : Int)) (hc hs') hil j hv
    have eB := buyQ_snoc pr (l.take i) l[i]
    rw [← take_snocI hil] at eB
    have eS := sellQ_snoc pr (l.take i) l[i]
    rw [← take_snocI hil] at eS
    obtain ⟨u1, u2, u3, u4⟩ := buyQ_le pr (l := l.take i) fun x hx => hq x (List.mem_of_mem_take hx)
    have hx := hq _ (List.getElem_mem hil)
    rw [List.length_take] at u2 u4
    generalize l[i] = x at qf eB eS hx
    refine .mid (X := Unit) (fun _ => [(0, .slice (some ⟨ba, oa, none⟩) l.length c), (1, .int .i64 pr), (5, .int .u64 (buyQ pr (l.take (i + 1)))), (6, .int .u64 (sellQ pr (l.take (i + 1)))), (7, .int .i64 (i : Nat))]) (fun _ => []) (fun _ => True) (.block (.mid (X := Unit) (fun _ => [(0, .slice (some ⟨ba, oa, none⟩) l.length c), (1, .int .i64 pr), (5, .int .u64 (buyQ pr (l.take (i + 1)))), (6, .int .u64 (sellQ pr (l.take i))), (7, .int .i64 (i : Nat))]) (fun _ => []) (fun _ => True) (.seq ((.region (.v (.move rfl) (.v (.move rfl) (.v (.indexAddr rfl rfl (by omega) (by omega)) (.v (.fieldAddr rfl) (.v (.load (v := .int .i64 x.sd) rfl (qf _ 2 _ rfl)) (.v (.eqi rfl rfl) (.v (.move rfl) (.and (b2 := decide (x.ty = 2) || decide (x.pr ≥ pr)) 20 35 15 8 rfl rfl (fun g1 => .v (.move rfl) (.v (.move rfl) (.v (.indexAddr rfl rfl (by omega) (by omega)) (.v (.fieldAddr rfl) (.v (.load (v := .int .i64 x.ty) rfl (qf _ 3 _ rfl)) (.v (.eqi rfl rfl) (.v (.move rfl) (.or (b2 := decide (x.pr ≥ pr)) 27 34 7 7 rfl rfl (fun g2 => .v (.move rfl) (.v (.move rfl) (.v (.indexAddr rfl rfl (by omega) (by omega)) (.v (.fieldAddr rfl) (.v (.load (v := .int .i64 x.pr) rfl (qf _ 4 _ rfl)) (.v (.move rfl) (.v (.geq rfl rfl) (.nil ⟨rfl, rfl, rfl, rfl⟩)))))))) (.nil ⟨rfl, rfl, rfl, rfl⟩))))))))) (.nil ?_)))))))))))) ?_)) ?_
    · have hbA : (decide (x.sd = 1) && (decide (x.ty = 2) || decide (x.pr ≥ pr))) = buysAt pr x := rfl
      rw [hbA]
      refine .cond rfl (fun h2 => ?_) (fun h2 => .skip ?_)
      · rw [h2, if_pos rfl] at eB
        refine .region (.v (.move rfl) (.v (.move rfl) (.v (.move rfl) (.v (.indexAddr rfl rfl (by omega) (by omega)) (.v (.fieldAddr rfl) (.v (.load (v := .int .u64 x.q) rfl (qf _ 5 _ rfl)) (.v (.addU (buyQ pr (l.take i) + x.q) rfl rfl rfl (by omega)) (.v (.assign rfl) (.nil ?_)))))))))
        rw [eB]
        exact ⟨(), trivial, .cons rfl (.cons rfl (.cons rfl (.cons rfl (.cons rfl (.nil _))))), fun _ s => s⟩
      · rw [h2, if_neg Bool.false_ne_true, Int.add_zero] at eB
        rw [eB]
        exact ⟨(), trivial, .cons rfl (.cons rfl (.cons rfl (.cons rfl (.cons rfl (.nil _))))), fun _ s => s⟩
    · rintro ⟨⟩ -
      try dsimp only
      have hsA : (decide (x.sd = 2) && (decide (x.ty = 2) || decide (x.pr ≤ pr))) = sellsAt pr x := rfl
      refine .seq ((.region (.v (.move rfl) (.v (.move rfl) (.v (.indexAddr rfl rfl (by omega) (by omega)) (.v (.fieldAddr rfl) (.v (.load (v := .int .i64 x.sd) rfl (qf _ 2 _ rfl)) (.v (.eqi rfl rfl) (.v (.move rfl) (.and (b2 := decide (x.ty = 2) || decide (x.pr ≤ pr)) 50 65 15 8 rfl rfl (fun g3 => .v (.move rfl) (.v (.move rfl) (.v (.indexAddr rfl rfl (by omega) (by omega)) (.v (.fieldAddr rfl) (.v (.load (v := .int .i64 x.ty) rfl (qf _ 3 _ rfl)) (.v (.eqi rfl rfl) (.v (.move rfl) (.or (b2 := decide (x.pr ≤ pr)) 57 64 7 7 rfl rfl (fun g4 => .v (.move rfl) (.v (.move rfl) (.v (.indexAddr rfl rfl (by omega) (by omega)) (.v (.fieldAddr rfl) (.v (.load (v := .int .i64 x.pr) rfl (qf _ 4 _ rfl)) (.v (.move rfl) (.v (.leq rfl rfl) (.nil ⟨rfl, rfl, rfl, rfl⟩)))))))) (.nil ⟨rfl, rfl, rfl, rfl⟩))))))))) (.nil ?_)))))))))))
      rw [hsA]
      refine .cond rfl (fun h3 => ?_) (fun h3 => .skip ?_)
      · rw [h3, if_pos rfl] at eS
        refine .region (.v (.move rfl) (.v (.move rfl) (.v (.move rfl) (.v (.indexAddr rfl rfl (by omega) (by omega)) (.v (.fieldAddr rfl) (.v (.load (v := .int .u64 x.q) rfl (qf _ 5 _ rfl)) (.v (.addU (sellQ pr (l.take i) + x.q) rfl rfl rfl (by omega)) (.v (.assign rfl) (.nil ?_)))))))))
        rw [eS]
        exact ⟨(), trivial, .cons rfl (.cons rfl (.cons rfl (.cons rfl (.cons rfl (.nil _))))), fun _ s => s⟩
      · rw [h3, if_neg Bool.false_ne_true, Int.add_zero] at eS
        rw [eS]
        exact ⟨(), trivial, .cons rfl (.cons rfl (.cons rfl (.cons rfl (.cons rfl (.nil _))))), fun _ s => s⟩
    rintro ⟨⟩ -
    try dsimp only
    refine .region (.v (.move rfl) (.v (.addE ((i + 1 : Nat) : Int) rfl rfl (by omega) (by omega)) (.v (.assign rfl) (.nil ?_))))
    exact ⟨i + 1, by omega, by omega, .cons rfl (.cons rfl (.cons rfl (.cons rfl (.cons rfl (.nil _))))), fun _ s => s⟩
  · have : i = l.length := by omega
    subst this
    rw [List.take_length]
    unfold volQ
    refine .seq (.seq ((.region (.v (.move rfl) (.v (.move rfl) (.v (.lss rfl rfl) (.nil ?_)))))))
    refine .cond_dec rfl (fun h5 => ?_) (fun h5 => .skip ?_)
    · refine .seq ((.region (.v (.move rfl) (.v (.assign rfl) (.nil ?_)))))
      exact .ret ⟨[_], ⟨rfl, trivial⟩, by rw [show min (buyQ pr l) (sellQ pr l) = buyQ pr l by omega]; rfl⟩
    · refine .seq ((.region (.v (.move rfl) (.v (.assign rfl) (.nil ?_)))))
      exact .ret ⟨[_], ⟨rfl, trivial⟩, by rw [show min (buyQ pr l) (sellQ pr l) = sellQ pr l by omega]; rfl⟩
/-! ### nowhere is more traded -/
theorem compactZ_in : ∀ (l : List Int) (x : Int), x ∈ l → x ∈ compactZ l
  | [], x, h => h
  | [a], x, h => h
  | a :: b :: l, x, h => by
    unfold compactZ
    rcases List.mem_cons.1 h with rfl | h
    · split
      · rename_i e
        exact compactZ_in (b :: l) _ (by rw [e]; exact List.mem_cons_self)
      · exact List.mem_cons_self
    · split
      · exact compactZ_in (b :: l) x h
      · exact List.mem_cons_of_mem _ (compactZ_in (b :: l) x h)
theorem cand_mem {C : Cl} {p : Int} : p ∈ C.cand ↔ p ∈ prices C.rf C.L := ⟨fun h => srt_mem.1 (compactZ_mem _ p h), fun h => compactZ_in _ p (srt_mem.2 h)⟩
theorem exists_near (x : Int) : ∀ l : List Int, 0 < l.length → (∃ c ∈ l, x ≤ c ∧ ∀ d ∈ l, x ≤ d → c ≤ d) ∨ (∃ c ∈ l, c < x ∧ (∀ d ∈ l, d ≤ c) )
  | [a], _ => by
    by_cases h : x ≤ a
    · exact .inl ⟨a, List.mem_cons_self, h, fun d hd _ => by rw [List.mem_singleton.1 hd]; exact Int.le_refl _⟩
    · exact .inr ⟨a, List.mem_cons_self, by omega, fun d hd => by rw [List.mem_singleton.1 hd]; exact Int.le_refl _⟩
  | a :: b :: l, _ => by
    rcases exists_near x (b :: l) (by simp) with ⟨c, hc, h1, h2⟩ | ⟨c, hc, h1, h2⟩
    · by_cases h : x ≤ a ∧ a ≤ c
      · exact .inl ⟨a, List.mem_cons_self, h.1, fun d hd hx => by
          rcases List.mem_cons.1 hd with rfl | hd
          · exact Int.le_refl _
          · have := h2 d hd hx; omega⟩
      · exact .inl ⟨c, List.mem_cons_of_mem _ hc, h1, fun d hd hx => by
          rcases List.mem_cons.1 hd with rfl | hd
          · omega
          · exact h2 d hd hx⟩
    · by_cases h : x ≤ a
      · exact .inl ⟨a, List.mem_cons_self, h, fun d hd hx => by
          rcases List.mem_cons.1 hd with rfl | hd
          · exact Int.le_refl _
          · have := h2 d hd; omega⟩
      · by_cases h3 : a ≤ c
        · exact .inr ⟨c, List.mem_cons_of_mem _ hc, h1, fun d hd => by
            rcases List.mem_cons.1 hd with rfl | hd
            · exact h3
            · exact h2 d hd⟩
        · exact .inr ⟨a, List.mem_cons_self, by omega, fun d hd => by
            rcases List.mem_cons.1 hd with rfl | hd
            · exact Int.le_refl _
            · have := h2 d hd; omega⟩
theorem vol_near {C : Cl} (h : C.Ok) (x : Int) : ∃ c ∈ C.cand, volQ x C.L ≤ volQ c C.L := by
  have hq : ∀ y ∈ C.L, 0 ≤ y.q := fun y hy => by have := (h.it y hy).q; omega
  have hin : ∀ y ∈ C.L, y.ty = 1 → y.pr ∈ C.cand := fun y hy e => cand_mem.2 (List.mem_cons_of_mem _ (List.mem_map.2 ⟨y, List.mem_filter.2 ⟨hy, by simpa using e⟩, rfl⟩))
  rcases exists_near x C.cand h.cand.1 with ⟨c, hc, h1, h2⟩ | ⟨c, hc, h1, h2⟩
  · refine ⟨c, hc, ?_⟩
    have e1 : buyQ x C.L ≤ buyQ c C.L := by
      refine qsum_filter_le hq fun y hy e => ?_
      have ht := (h.it y hy).ty
      have := hin y hy
      unfold buysAt at e ⊢
      simp only [Bool.and_eq_true, Bool.or_eq_true, decide_eq_true_eq] at e ⊢
      refine ⟨e.1, ?_⟩
      rcases ht with ht | ht
      · rcases e.2 with e2 | e2
        · exact .inl e2
        · exact .inr (h2 _ (this ht) e2)
      · exact .inl ht
    have e2 := sellQ_mono hq h1
    unfold volQ; omega
  · refine ⟨c, hc, ?_⟩
    have e1 := buyQ_anti hq (show c ≤ x by omega)
    have e2 : sellQ x C.L ≤ sellQ c C.L := by
      refine qsum_filter_le hq fun y hy e => ?_
      have ht := (h.it y hy).ty
      have := hin y hy
      unfold sellsAt at e ⊢
      simp only [Bool.and_eq_true, Bool.or_eq_true, decide_eq_true_eq] at e ⊢
      refine ⟨e.1, ?_⟩
      rcases ht with ht | ht
      · exact .inr (h2 _ (this ht))
      · exact .inl ht
    unfold volQ; omega
theorem best_min (f : Qt → Int) (l : List Qt) : ∀ x ∈ best f l, ∀ y ∈ l, f x ≤ f y := by
  have key : ∀ (l r m : List Qt), (∀ x ∈ r, ∀ y ∈ m ++ r, f x ≤ f y) → (r = [] → m = []) → ∀ x ∈ l.foldl (bestS f) r, ∀ y ∈ m ++ r ++ l, f x ≤ f y := by
    intro l
    induction l with
    | nil => intro r m h _ x hx y hy; rw [List.append_nil] at hy; exact h x hx y hy
    | cons q l ih =>
      intro r m h h0 x hx y hy
      refine ih (bestS f r q) (m ++ r ++ [q]) ?_ (fun e => by have := bestS_pos f r q; rw [e] at this; cases this) x hx y ?_
      · cases r with
        | nil =>
          have := h0 rfl
          subst this
          intro u hu z hz
          have e : bestS f [] q = [q] := rfl
          rw [e] at hu hz
          simp at hu hz
          subst hu; rcases hz with rfl | rfl <;> exact Int.le_refl _
        | cons a r =>
          rw [bestS_cons]
          intro u hu z hz
          have ha : ∀ z ∈ m ++ a :: r, f a ≤ f z := h a List.mem_cons_self
          split at hu
          · rename_i c
            rw [if_pos c] at hz
            rw [List.mem_singleton.1 hu]
            simp at hz
            rcases hz with hz | hz | hz | rfl
            · have := ha z (by simp [hz]); omega
            · subst hz; omega
            · have := ha z (by simp [hz]); omega
            · exact Int.le_refl _
          · rename_i c
            rw [if_neg c] at hz
            have hfa : f u ≤ f a := by
              split at hu
              · rename_i c2
                rcases List.mem_append.1 hu with hu | hu
                · exact h u hu a (by simp)
                · rw [List.mem_singleton.1 hu]; omega
              · exact h u hu a (by simp)
            have hz' : z ∈ m ++ a :: r ∨ z = q := by
              split at hz
              · simp at hz ⊢; rcases hz with hz | hz | hz | hz | hz | hz | hz <;> simp [hz]
              · simp at hz ⊢; rcases hz with hz | hz | hz | hz | hz | hz <;> simp [hz]
            rcases hz' with hz | rfl
            · have := ha z hz; omega
            · omega
      · simp at hy ⊢
        rcases hy with hy | hy | hy | hy <;> simp [hy]
  intro x hx y hy
  exact key l [] [] (fun x hx => by cases hx) (fun _ => rfl) x hx y (by simpa using hy)
def mostQ (C : Cl) : Int := if C.quote.2 then C.quote.1.vol else 0
theorem quoteL_most (rf : Int) (l : List Qt) (h : 0 < l.length) (hv : ∀ q ∈ l, 0 ≤ q.vol) : ((quoteL rf l).2 = false ∧ ∀ q ∈ l, q.vol = 0) ∨ ((quoteL rf l).2 = true ∧ (quoteL rf l).1.vol ≠ 0 ∧ ∀ q ∈ l, q.vol ≤ (quoteL rf l).1.vol) := by
  have h1 := best_mem nVol l
  have hm : ∀ x ∈ best nVol l, ∀ y ∈ l, y.vol ≤ x.vol := fun x hx y hy => by have := best_min nVol l x hx y hy; unfold nVol at this; omega
  have h2 := best_mem Qt.sur (best nVol l)
  have h3 := best_mem (nFar rf) (best Qt.sur (best nVol l))
  have p1 := best_pos nVol h
  have p2 := best_pos Qt.sur p1
  have p3 := best_pos (nFar rf) p2
  have el : ∀ {m : List Qt} {i : Nat}, i < m.length → m[i]! ∈ m := by
    intro m i hi
    rw [getElem!_pos m i hi]; exact List.getElem_mem hi
  have m1 := el p1
  unfold quoteL
  dsimp only
  split
  · rename_i c
    exact .inl ⟨rfl, fun q hq => by have := hm _ m1 q hq; have := hv q hq; omega⟩
  · rename_i c
    have fin : ∀ {x : Qt} {r : Int}, x ∈ best nVol l → ((ruledQ x r).vol ≠ 0 ∧ ∀ q ∈ l, q.vol ≤ (ruledQ x r).vol) := by
      intro x r hx
      refine ⟨?_, fun q hq => hm x hx q hq⟩
      show x.vol ≠ 0
      have := hm x hx _ (h1 _ m1)
      have := hv _ (h1 _ m1)
      omega
    split
    · exact .inr ⟨rfl, fin m1⟩
    · split
      · exact .inr ⟨rfl, fin (h2 _ (el p2))⟩
      · split
        · exact .inr ⟨rfl, fin (h2 _ (el (by omega)))⟩
        · split
          · exact .inr ⟨rfl, fin (h2 _ (el p2))⟩
          · exact .inr ⟨rfl, fin (h2 _ (h3 _ (el p3)))⟩
theorem Cl.Ok.most {C : Cl} (h : C.Ok) : ∀ x, volQ x C.L ≤ mostQ C := by
  have hv : ∀ q ∈ C.cand.map (atQ C.L), 0 ≤ q.vol := by
    intro q hq
    obtain ⟨p, _, rfl⟩ := List.mem_map.1 hq
    obtain ⟨u1, _, u3, _⟩ := buyQ_le p h.qok.2
    show 0 ≤ min _ _
    omega
  intro x
  obtain ⟨c, hc, hx⟩ := vol_near h x
  have hm : atQ C.L c ∈ C.cand.map (atQ C.L) := List.mem_map.2 ⟨c, hc, rfl⟩
  have e : (atQ C.L c).vol = volQ c C.L := rfl
  unfold mostQ
  unfold Cl.quote
  rcases quoteL_most C.rf (C.cand.map (atQ C.L)) (by rw [List.length_map]; exact h.cand.1) hv with ⟨h1, h2⟩ | ⟨h1, _, h2⟩
  · rw [h1, if_neg Bool.false_ne_true]
    have := h2 _ hm; omega
  · rw [h1, if_pos rfl]
    have := h2 _ hm; omega
theorem Cl.Ok.quote_most {C : Cl} (h : C.Ok) (e : C.quote.2 = true) : volQ C.quote.1.pr C.L = mostQ C ∧ mostQ C ≠ 0 := by
  have hv : ∀ q ∈ C.cand.map (atQ C.L), 0 ≤ q.vol := by
    intro q hq
    obtain ⟨p, _, rfl⟩ := List.mem_map.1 hq
    obtain ⟨u1, _, u3, _⟩ := buyQ_le p h.qok.2
    show 0 ≤ min _ _
    omega
  unfold mostQ
  rw [if_pos e]
  rcases C.quote_at h with ⟨e1, _⟩ | ⟨_, p, r, _, e2⟩
  · rw [e] at e1; cases e1
  · refine ⟨by rw [e2]; rfl, ?_⟩
    have e' : (quoteL C.rf (C.cand.map (atQ C.L))).2 = true := e
    rcases quoteL_most C.rf (C.cand.map (atQ C.L)) (by rw [List.length_map]; exact h.cand.1) hv with ⟨h1, _⟩ | ⟨_, h2, _⟩
    · rw [h1] at e'; cases e'
    · exact h2
end Go.Proofs.Ytamldmgdhaoigaa

/- auction, the laws: Emptied, in plain. -/
namespace Go.Proofs.Ytamldmgdhaoigaa
open Go.V
open Go.Sort (ltInt)
set_option linter.unusedVariables false
set_option linter.unusedSimpArgs false
set_option maxRecDepth 20000

theorem perm_trade {L M : List It} {x : It} {n : Int} (p : L.Perm (x :: M)) (nd : (L.map It.id).Nodup) (hq : ∀ y ∈ L, 1 ≤ y.q) : (tradeI x.id n L).Perm (rest1 x n ++ M) := by
  rw [tradeI_take nd fun y hy => by have := hq y hy; omega]
  have p1 : (takeI x.id n L).Perm (takeI x.id n (x :: M)) := (p.map _).filter _
  refine p1.trans ?_
  have nd2 : ((x :: M).map It.id).Nodup := (p.map It.id).nodup_iff.1 nd
  rw [List.map_cons, List.nodup_cons] at nd2
  have e : takeI x.id n M = M := takeI_none fun y hy => ⟨fun e => nd2.1 (by rw [← e]; exact List.mem_map.2 ⟨y, hy, rfl⟩), by have := hq y (p.mem_iff.2 (List.mem_cons_of_mem _ hy)); omega⟩
  have : takeI x.id n (x :: M) = rest1 x n ++ M := by
    unfold takeI at e ⊢
    rw [List.map_cons, if_pos rfl, List.filter_cons, e]
    unfold rest1
    by_cases c : x.q = n
    · rw [if_pos c, if_neg (by simp; omega)]; rfl
    · rw [if_neg c, if_pos (by simp; omega)]; rfl
  rw [this]
/-- so much is taken off the front -/
def cutF (v : Int) : List It → List It
  | [] => []
  | x :: B => if x.q ≤ v then cutF (v - x.q) B else x.less v :: B
theorem cutF_zero : ∀ {B : List It}, (∀ x ∈ B, 1 ≤ x.q) → cutF 0 B = B
  | [], _ => rfl
  | x :: B, h => by
    have := h x List.mem_cons_self
    unfold cutF
    rw [if_neg (by omega)]
    show ({ x with q := x.q - 0 } : It) :: B = x :: B
    rw [Int.sub_zero]
theorem cutF_step {x : It} {B : List It} {v n : Int} (h : 1 ≤ n ∧ n ≤ x.q ∧ n ≤ v) : cutF (v - n) (rest1 x n ++ B) = cutF v (x :: B) := by
  unfold rest1
  by_cases c : x.q = n
  · rw [if_pos c]
    show cutF (v - n) B = cutF v (x :: B)
    rw [cutF, if_pos (by omega), c]
  · rw [if_neg c]
    show cutF (v - n) (x.less n :: B) = cutF v (x :: B)
    rw [cutF, cutF]
    by_cases c2 : x.q ≤ v
    · rw [if_pos c2, if_pos (show x.q - n ≤ v - n by omega), show v - n - (x.less n).q = v - x.q by show v - n - (x.q - n) = _; omega]
    · rw [if_neg c2, if_neg (show ¬ x.q - n ≤ v - n by omega)]
      show ({ x with q := x.q - n - (v - n) } : It) :: B = { x with q := x.q - v } :: B
      rw [show x.q - n - (v - n) = x.q - v by omega]
theorem cutF_mem {y : It} : ∀ {v : Int} {B : List It}, 0 ≤ v → y ∈ cutF v B → ∃ x ∈ B, ∃ m, 0 ≤ m ∧ (m < x.q ∨ m = 0) ∧ y = x.less m
  | v, x :: B, hv, h => by
    rw [cutF] at h
    split at h
    · obtain ⟨z, hz, r⟩ := cutF_mem (by omega) h
      exact ⟨z, List.mem_cons_of_mem _ hz, r⟩
    · rcases List.mem_cons.1 h with rfl | h
      · exact ⟨x, List.mem_cons_self, v, hv, by omega, rfl⟩
      · exact ⟨y, List.mem_cons_of_mem _ h, 0, Int.le_refl _, .inr rfl, by show y = { y with q := y.q - 0 }; rw [Int.sub_zero]⟩
theorem cutF_ids : ∀ (v : Int) (B : List It), ((cutF v B).map It.id).Sublist (B.map It.id)
  | v, [] => List.Sublist.refl _
  | v, x :: B => by
    rw [cutF]
    split
    · exact (cutF_ids _ B).cons _
    · exact List.Sublist.refl _
theorem cutF_len (v : Int) (B : List It) : (cutF v B).length ≤ B.length := by
  have := (cutF_ids v B).length_le
  rwa [List.length_map, List.length_map] at this
theorem cutF_sum (p : It → Bool) (hp : ∀ (x : It) (n : Int), p (x.less n) = p x) : ∀ {v : Int} {B : List It}, 0 ≤ v → (∀ x ∈ B, 0 ≤ x.q) → B.Pairwise (fun a b => p b = true → p a = true) → qsum ((cutF v B).filter p) ≤ max 0 (qsum (B.filter p) - v)
  | v, [], _, _, _ => by show (0 : Int) ≤ max 0 _; omega
  | v, x :: B, hv, hq, h => by
    obtain ⟨h1, h2⟩ := List.pairwise_cons.1 h
    have hq0 := hq x List.mem_cons_self
    have hqB : ∀ y ∈ B, 0 ≤ y.q := fun y hy => hq y (List.mem_cons_of_mem _ hy)
    rw [cutF]
    cases c : p x with
    | false =>
      have hn : ∀ y ∈ B, p y = false := fun y hy => by
        rw [Bool.eq_false_iff]; intro e; have := h1 y hy e; rw [c] at this; cases this
      have fB : B.filter p = [] := List.filter_eq_nil_iff.2 fun y hy => by rw [hn y hy]; exact Bool.false_ne_true
      split
      · rename_i c2
        have := cutF_sum p hp (v := v - x.q) (by omega) hqB h2
        rw [fB] at this
        have e0 : qsum ([] : List It) = 0 := rfl
        rw [e0] at this
        omega
      · rw [List.filter_cons, hp, c, if_neg Bool.false_ne_true, fB]
        show (0 : Int) ≤ max 0 _; omega
    | true =>
      rw [List.filter_cons (x := x), c, if_pos rfl, qsum_cons]
      split
      · have := cutF_sum p hp (v := v - x.q) (by omega) hqB h2
        omega
      · rw [List.filter_cons, hp, c, if_pos rfl, qsum_cons]
        show x.q - v + _ ≤ _
        omega
theorem crossL_cut (pr : Int) : ∀ (k : Nat) (B S : List It) (left : Int) (F : List Fl) (C : Cl), C.L.Perm (B ++ S) → (C.L.map It.id).Nodup → (∀ x ∈ C.L, 1 ≤ x.q) → 0 ≤ left → left ≤ k → left ≤ qsum B → left ≤ qsum S →
    (crossL pr k B S left F C).2.L.Perm (cutF left B ++ cutF left S) ∧ (crossL pr k B S left F C).2.rf = C.rf ∧ (crossL pr k B S left F C).2.rm = C.rm := by
  intro k
  have z : ∀ {B S : List It} {C : Cl}, C.L.Perm (B ++ S) → (∀ x ∈ C.L, 1 ≤ x.q) → C.L.Perm (cutF 0 B ++ cutF 0 S) ∧ C.rf = C.rf ∧ C.rm = C.rm := by
    intro B S C p hq
    rw [cutF_zero fun x hx => hq x (p.mem_iff.2 (List.mem_append_left _ hx)), cutF_zero fun x hx => hq x (p.mem_iff.2 (List.mem_append_right _ hx))]
    exact ⟨p, rfl, rfl⟩
  induction k with
  | zero =>
    intro B S left F C p nd hq h0 hk hB hS
    have : left = 0 := by omega
    subst this
    exact z p hq
  | succ k ih =>
    intro B S left F C p nd hq h0 hk hB hS
    by_cases hl : 0 < left
    · cases B with
      | nil => exact absurd hB (by show ¬ left ≤ 0; omega)
      | cons x B =>
      cases S with
      | nil => exact absurd hS (by show ¬ left ≤ 0; omega)
      | cons y S =>
      have hxq := hq x (p.mem_iff.2 (by simp))
      have hyq := hq y (p.mem_iff.2 (by simp))
      have e : crossL pr (k + 1) (x :: B) (y :: S) left F C = crossL pr k (rest1 x (min (min x.q y.q) left) ++ B) (rest1 y (min (min x.q y.q) left) ++ S) (left - min (min x.q y.q) left) (F ++ [⟨x.id, y.id, pr, min (min x.q y.q) left⟩]) ((C.trade x.id (min (min x.q y.q) left)).trade y.id (min (min x.q y.q) left)) := if_pos hl
      rw [e]
      have hn : 1 ≤ min (min x.q y.q) left ∧ min (min x.q y.q) left ≤ x.q ∧ min (min x.q y.q) left ≤ y.q ∧ min (min x.q y.q) left ≤ left := by omega
      generalize min (min x.q y.q) left = n at hn ⊢
      obtain ⟨n1, n2, n3, n4⟩ := hn
      have t0 : Trk C.L (x :: (B ++ y :: S)) → True := fun _ => trivial
      have p1 : (tradeI x.id n C.L).Perm (rest1 x n ++ (B ++ y :: S)) := perm_trade p nd hq
      have nd1 : ((tradeI x.id n C.L).map It.id).Nodup := by rw [tradeI_take nd fun u hu => by have := hq u hu; omega]; exact nd.sublist takeI_ids
      have r1 : ∀ {u : It}, n ≤ u.q → ∀ v ∈ rest1 u n, 1 ≤ v.q := by
        intro u hu v hv
        unfold rest1 at hv
        split at hv
        · cases hv
        · rw [List.mem_singleton.1 hv]; show 1 ≤ u.q - n; omega
      have hq1 : ∀ u ∈ tradeI x.id n C.L, 1 ≤ u.q := by
        intro u hu
        rcases List.mem_append.1 (p1.mem_iff.1 hu) with hu | hu
        · exact r1 n2 u hu
        · exact hq u (p.mem_iff.2 (List.mem_cons_of_mem _ hu))
      have p1' : (tradeI x.id n C.L).Perm (y :: (rest1 x n ++ B ++ S)) := p1.trans (by rw [← List.append_assoc]; exact List.perm_middle)
      have p2 : (tradeI y.id n (tradeI x.id n C.L)).Perm (rest1 y n ++ (rest1 x n ++ B ++ S)) := perm_trade p1' nd1 hq1
      have nd2 : ((tradeI y.id n (tradeI x.id n C.L)).map It.id).Nodup := by rw [tradeI_take nd1 fun u hu => by have := hq1 u hu; omega]; exact nd1.sublist takeI_ids
      have hq2 : ∀ u ∈ tradeI y.id n (tradeI x.id n C.L), 1 ≤ u.q := by
        intro u hu
        rcases List.mem_append.1 (p2.mem_iff.1 hu) with hu | hu
        · exact r1 n3 u hu
        · exact hq1 u (p1'.mem_iff.2 (List.mem_cons_of_mem _ hu))
      have p2' : (tradeI y.id n (tradeI x.id n C.L)).Perm ((rest1 x n ++ B) ++ (rest1 y n ++ S)) := p2.trans (by have := (List.perm_append_comm (l₁ := rest1 y n) (l₂ := rest1 x n ++ B)).append_right S; simpa only [List.append_assoc] using this)
      obtain ⟨g1, g2, g3⟩ := ih (rest1 x n ++ B) (rest1 y n ++ S) (left - n) (F ++ [⟨x.id, y.id, pr, n⟩]) ((C.trade x.id n).trade y.id n) p2' nd2 hq2 (by omega) (by omega) (by rw [rest1_qsum]; rw [qsum_cons] at hB; omega) (by rw [rest1_qsum]; rw [qsum_cons] at hS; omega)
      rw [cutF_step ⟨n1, n2, n4⟩, cutF_step ⟨n1, n3, n4⟩] at g1
      exact ⟨g1, g2, g3⟩
    · have e : crossL pr (k + 1) B S left F C = (F, C) := by
        cases B with
        | nil => rfl
        | cons x B =>
          cases S with
          | nil => rfl
          | cons y S => exact if_neg hl
      have : left = 0 := by omega
      subst this
      rw [e]
      exact z p hq
theorem side_perm {C : Cl} (h : C.Ok) : C.L.Perm (C.side 1 ++ C.side 2) := by
  have p : (C.side 1 ++ C.side 2).Perm (C.L.filter (fun x => decide (x.sd = 1)) ++ C.L.filter fun x => decide (x.sd = 2)) := (sortI_perm _).append (sortI_perm _)
  have e : ∀ l : List It, (∀ x ∈ l, x.sd = 1 ∨ x.sd = 2) → (l.filter (fun x => decide (x.sd = 1)) ++ l.filter fun x => decide (x.sd = 2)).Perm l := by
    intro l
    induction l with
    | nil => intro _; exact .refl _
    | cons a l ih =>
      intro hl
      have ih := ih fun x hx => hl x (List.mem_cons_of_mem _ hx)
      rcases hl a List.mem_cons_self with e | e
      · simp only [List.filter_cons, e]
        exact ih.cons a
      · simp only [List.filter_cons, e]
        exact List.perm_middle.trans (ih.cons a)
  exact (p.trans (e C.L fun x hx => (h.it x hx).sd)).symm
theorem vol_perm {a b : List It} (p : a.Perm b) (x : Int) : volQ x a = volQ x b := by
  unfold volQ buyQ sellQ
  rw [qsum_perm (p.filter _), qsum_perm (p.filter _)]
theorem Cl.Ok.uncross {C : Cl} (h : C.Ok) : C.uncross.2.2.2.Ok ∧ ∀ x, volQ x C.uncross.2.2.2.L = 0 := by
  have hge := h.most
  have hq : ∀ x ∈ C.L, 1 ≤ x.q := fun x hx => (h.it x hx).q.1
  have hpos : ∀ (l : List It) (x : Int), (∀ y ∈ l, 0 ≤ y.q) → 0 ≤ volQ x l := fun l x hl => by
    have f : ∀ g : It → Bool, 0 ≤ qsum (l.filter g) := fun g => by
      have := qsum_filter_le (f := fun _ => false) (g := g) hl (fun _ _ e => by cases e)
      rw [List.filter_eq_nil_iff.2 (fun _ _ => Bool.false_ne_true)] at this
      exact this
    have := f (buysAt x); have := f (sellsAt x)
    unfold volQ buyQ sellQ; omega
  unfold Cl.uncross
  by_cases c : C.quote.2 = true
  · rw [if_pos c]
    obtain ⟨v0, v1, v2⟩ := h.quote_vol
    have hM : mostQ C = C.quote.1.vol := if_pos c
    rw [hM] at hge
    obtain ⟨g1, g2, g3⟩ := crossL_cut C.quote.1.pr C.quote.1.vol.toNat (C.side 1) (C.side 2) C.quote.1.vol [] C (side_perm h) h.nd hq v0 (by omega) v1 v2
    dsimp only
    generalize (crossL C.quote.1.pr C.quote.1.vol.toNat (C.side 1) (C.side 2) C.quote.1.vol [] C).2 = C2 at g1 g2 g3
    generalize C.quote.1.vol = V at v0 v1 v2 hge g1
    have mem : ∀ y ∈ C2.L, ∃ x ∈ C.L, ∃ m, 0 ≤ m ∧ (m < x.q ∨ m = 0) ∧ y = x.less m := by
      intro y hy
      rcases List.mem_append.1 (g1.mem_iff.1 hy) with hy | hy
      · obtain ⟨x, hx, r⟩ := cutF_mem v0 hy
        exact ⟨x, (side_mem.1 hx).1, r⟩
      · obtain ⟨x, hx, r⟩ := cutF_mem v0 hy
        exact ⟨x, (side_mem.1 hx).1, r⟩
    have ok : C2.Ok := by
      refine ⟨by rw [g2]; exact h.rf, by rw [g3]; exact h.rm, ?_, ?_, ?_⟩
      · rw [g1.length_eq, List.length_append, g3]
        have := cutF_len V (C.side 1)
        have := cutF_len V (C.side 2)
        have := (side_perm h).length_eq
        rw [List.length_append] at this
        have := h.len
        omega
      · intro y hy
        obtain ⟨x, hx, m, m1, m2, rfl⟩ := mem y hy
        have := h.it x hx
        exact ⟨this.sd, this.ty, this.pr, this.mkt, by have := this.q; show 1 ≤ x.q - m ∧ x.q - m ≤ _; omega, this.id⟩
      · refine ((g1.map It.id).nodup_iff).2 ?_
        rw [List.map_append]
        have nd := (((side_perm h).map It.id).nodup_iff).1 h.nd
        rw [List.map_append] at nd
        exact nd.sublist ((cutF_ids _ _).append (cutF_ids _ _))
    refine ⟨ok, fun x => ?_⟩
    have h0 := hpos C2.L x fun y hy => by have := (ok.it y hy).q; omega
    rw [vol_perm g1]
    rw [vol_perm g1] at h0
    have hgx := hge x
    rw [vol_perm (side_perm h)] at hgx
    have z1 : ∀ s (f : It → Bool) , (∀ y, f y = true → y.sd ≠ s) → ∀ {l : List It}, (∀ y ∈ l, y.sd = s) → qsum (l.filter f) = 0 := by
      intro s f hf l hl
      rw [List.filter_eq_nil_iff.2 (fun y hy e => hf y e (hl y hy))]; rfl
    have b2 : ∀ y, buysAt x y = true → y.sd ≠ 2 := fun y e => by unfold buysAt at e; simp only [Bool.and_eq_true, decide_eq_true_eq] at e; omega
    have s1 : ∀ y, sellsAt x y = true → y.sd ≠ 1 := fun y e => by unfold sellsAt at e; simp only [Bool.and_eq_true, decide_eq_true_eq] at e; omega
    have d1 : ∀ y ∈ C.side 1, y.sd = 1 := fun y hy => (side_mem.1 hy).2
    have d2 : ∀ y ∈ C.side 2, y.sd = 2 := fun y hy => (side_mem.1 hy).2
    have d1' : ∀ y ∈ cutF V (C.side 1), y.sd = 1 := fun y hy => by obtain ⟨u, hu, m, _, _, rfl⟩ := cutF_mem v0 hy; exact d1 u hu
    have d2' : ∀ y ∈ cutF V (C.side 2), y.sd = 2 := fun y hy => by obtain ⟨u, hu, m, _, _, rfl⟩ := cutF_mem v0 hy; exact d2 u hu
    have srt1 : ∀ s, (C.side s).Pairwise (fun a b => rank a ≤ rank b) := fun s => (sortI_st _).s
    have pw1 : (C.side 1).Pairwise (fun a b => buysAt x b = true → buysAt x a = true) := by
      refine List.Pairwise.imp_of_mem (fun {a b} ha hb hab e => ?_) (srt1 1)
      obtain ⟨ha1, ha2⟩ := side_mem.1 ha
      obtain ⟨hb1, hb2⟩ := side_mem.1 hb
      have oa := h.it a ha1
      have ob := h.it b hb1
      have := oa.pr; have := ob.pr
      unfold rank at hab
      unfold buysAt at e ⊢
      simp only [Bool.and_eq_true, Bool.or_eq_true, decide_eq_true_eq] at e ⊢
      refine ⟨ha2, ?_⟩
      rcases oa.ty with ta | ta
      · right
        rw [if_neg (by omega), if_pos ha2] at hab
        split at hab
        · omega
        · omega
      · exact .inl ta
    have pw2 : (C.side 2).Pairwise (fun a b => sellsAt x b = true → sellsAt x a = true) := by
      refine List.Pairwise.imp_of_mem (fun {a b} ha hb hab e => ?_) (srt1 2)
      obtain ⟨ha1, ha2⟩ := side_mem.1 ha
      obtain ⟨hb1, hb2⟩ := side_mem.1 hb
      have oa := h.it a ha1
      have ob := h.it b hb1
      have := oa.pr; have := ob.pr
      unfold rank at hab
      unfold sellsAt at e ⊢
      simp only [Bool.and_eq_true, Bool.or_eq_true, decide_eq_true_eq] at e ⊢
      refine ⟨ha2, ?_⟩
      rcases oa.ty with ta | ta
      · right
        rw [if_neg (by omega), if_neg (by omega)] at hab
        split at hab
        · omega
        · rw [if_neg (by omega)] at hab; omega
      · exact .inl ta
    have q1 : ∀ s, ∀ y ∈ C.side s, 0 ≤ y.q := fun s y hy => by have := hq y (side_mem.1 hy).1; omega
    have c1 := cutF_sum (buysAt x) (fun _ _ => rfl) v0 (q1 1) pw1
    have c2 := cutF_sum (sellsAt x) (fun _ _ => rfl) v0 (q1 2) pw2
    unfold volQ buyQ sellQ at h0 hgx ⊢
    rw [List.filter_append, List.filter_append, qsum_app, qsum_app, z1 2 _ b2 d2', z1 1 _ s1 d1'] at h0 ⊢
    rw [List.filter_append, List.filter_append, qsum_app, qsum_app, z1 2 _ b2 d2, z1 1 _ s1 d1] at hgx
    omega
  · rw [if_neg c]
    refine ⟨h, fun x => ?_⟩
    have hM : mostQ C = 0 := if_neg c
    have := hge x
    have := hpos C.L x fun y hy => by have := hq y hy; omega
    show volQ x C.L = 0
    omega
theorem Cl.Ok.quiet {C : Cl} (h : C.Ok) (hz : ∀ x, volQ x C.L = 0) : C.quote.2 = false := by
  cases c : C.quote.2 with
  | false => rfl
  | true =>
    obtain ⟨h1, h2⟩ := h.quote_most c
    rw [hz] at h1
    exact absurd h1.symm h2
end Go.Proofs.Ytamldmgdhaoigaa

/- auction, the laws: Fair, in plain. -/
namespace Go.Proofs.Ytamldmgdhaoigaa
open Go.V
open Go.Sort (ltInt)
set_option linter.unusedVariables false
set_option linter.unusedSimpArgs false
set_option maxRecDepth 20000

def fby (s id : Int) (f : Fl) : Bool := (decide (s = 1) && decide (f.b = id)) || (decide (s = 2) && decide (f.s = id))
def trd (F : List Fl) (id s : Int) : Int := ((F.filter (fby s id)).map Fl.q).sum
theorem trd_snoc (F : List Fl) (f : Fl) (id s : Int) : trd (F ++ [f]) id s = trd F id s + if fby s id f then f.q else 0 := by
  unfold trd
  rw [List.filter_append, List.map_append, List.sum_append, List.filter_cons]
  split <;> simp
/-- what is given to an id -/
def am (v id : Int) : List It → Int
  | [] => 0
  | x :: B => if x.id = id then min x.q v else am (v - min x.q v) id B
theorem am_none {id : Int} : ∀ {v : Int} {B : List It}, (∀ x ∈ B, x.id ≠ id) → am v id B = 0
  | v, [], _ => rfl
  | v, x :: B, h => by rw [am, if_neg (h x List.mem_cons_self)]; exact am_none fun y hy => h y (List.mem_cons_of_mem _ hy)
theorem am_zero {id : Int} : ∀ {B : List It}, (∀ x ∈ B, 0 ≤ x.q) → am 0 id B = 0
  | [], _ => rfl
  | x :: B, h => by
    have := h x List.mem_cons_self
    rw [am]
    split
    · omega
    · rw [show (0 : Int) - min x.q 0 = 0 by omega]; exact am_zero fun y hy => h y (List.mem_cons_of_mem _ hy)
theorem am_step {x : It} {B : List It} {v n id : Int} (nd : ((x :: B).map It.id).Nodup) (h : 1 ≤ n ∧ n ≤ x.q ∧ n ≤ v) : am v id (x :: B) = (if x.id = id then n else 0) + am (v - n) id (rest1 x n ++ B) := by
  rw [List.map_cons, List.nodup_cons] at nd
  unfold rest1
  rw [am]
  by_cases c : x.id = id
  · rw [if_pos c, if_pos c]
    by_cases c2 : x.q = n
    · rw [if_pos c2]
      show _ = n + am (v - n) id B
      rw [am_none fun y hy e => nd.1 (by rw [c, ← e]; exact List.mem_map.2 ⟨y, hy, rfl⟩)]; omega
    · rw [if_neg c2]
      show _ = n + am (v - n) id (x.less n :: B)
      rw [am, if_pos (show (x.less n).id = id from c)]
      show _ = n + min (x.q - n) (v - n)
      omega
  · rw [if_neg c, if_neg c]
    by_cases c2 : x.q = n
    · rw [if_pos c2]
      show _ = 0 + am (v - n) id B
      rw [show v - min x.q v = v - n by omega]; omega
    · rw [if_neg c2]
      show _ = 0 + am (v - n) id (x.less n :: B)
      rw [am, if_neg (show ¬ (x.less n).id = id from c)]
      show _ = 0 + am (v - n - min (x.q - n) (v - n)) id B
      rw [show v - n - min (x.q - n) (v - n) = v - min x.q v by omega]; omega
theorem rest1_ids (x : It) (n : Int) (B : List It) : ((rest1 x n ++ B).map It.id).Sublist ((x :: B).map It.id) := by
  unfold rest1
  split
  · exact List.Sublist.cons _ (List.Sublist.refl _)
  · exact List.Sublist.refl _
theorem rest1_q {x : It} {n : Int} {B : List It} (h : ∀ y ∈ x :: B, 1 ≤ y.q) (hn : n ≤ x.q) : ∀ y ∈ rest1 x n ++ B, 1 ≤ y.q := by
  intro y hy
  rcases List.mem_append.1 hy with hy | hy
  · unfold rest1 at hy
    split at hy
    · cases hy
    · rw [List.mem_singleton.1 hy]; show 1 ≤ x.q - n; omega
  · exact h y (List.mem_cons_of_mem _ hy)
theorem crossL_fills (pr : Int) : ∀ (k : Nat) (B S : List It) (left : Int) (F : List Fl) (C : Cl), (∀ x ∈ B, 1 ≤ x.q) → (∀ x ∈ S, 1 ≤ x.q) → (B.map It.id).Nodup → (S.map It.id).Nodup → 0 ≤ left → left ≤ k → left ≤ qsum B → left ≤ qsum S → (∀ f ∈ F, 1 ≤ f.q ∧ f.pr = pr) →
    (∀ f ∈ (crossL pr k B S left F C).1, 1 ≤ f.q ∧ f.pr = pr) ∧ ∀ id, trd (crossL pr k B S left F C).1 id 1 = trd F id 1 + am left id B ∧ trd (crossL pr k B S left F C).1 id 2 = trd F id 2 + am left id S := by
  intro k
  have z : ∀ {B S : List It} {F : List Fl}, (∀ x ∈ B, 1 ≤ x.q) → (∀ x ∈ S, 1 ≤ x.q) → ∀ id, trd F id 1 = trd F id 1 + am 0 id B ∧ trd F id 2 = trd F id 2 + am 0 id S := by
    intro B S F hB hS id
    rw [am_zero fun x hx => by have := hB x hx; omega, am_zero fun x hx => by have := hS x hx; omega]
    exact ⟨by omega, by omega⟩
  induction k with
  | zero =>
    intro B S left F C hB hS nB nS h0 hk lB lS hF
    have : left = 0 := by omega
    subst this
    exact ⟨hF, z hB hS⟩
  | succ k ih =>
    intro B S left F C hB hS nB nS h0 hk lB lS hF
    by_cases hl : 0 < left
    · cases B with
      | nil => exact absurd lB (by show ¬ left ≤ 0; omega)
      | cons x B =>
      cases S with
      | nil => exact absurd lS (by show ¬ left ≤ 0; omega)
      | cons y S =>
      have hxq := hB x List.mem_cons_self
      have hyq := hS y List.mem_cons_self
      have e : crossL pr (k + 1) (x :: B) (y :: S) left F C = crossL pr k (rest1 x (min (min x.q y.q) left) ++ B) (rest1 y (min (min x.q y.q) left) ++ S) (left - min (min x.q y.q) left) (F ++ [⟨x.id, y.id, pr, min (min x.q y.q) left⟩]) ((C.trade x.id (min (min x.q y.q) left)).trade y.id (min (min x.q y.q) left)) := if_pos hl
      rw [e]
      have hn : 1 ≤ min (min x.q y.q) left ∧ min (min x.q y.q) left ≤ x.q ∧ min (min x.q y.q) left ≤ y.q ∧ min (min x.q y.q) left ≤ left := by omega
      generalize min (min x.q y.q) left = n at hn ⊢
      obtain ⟨n1, n2, n3, n4⟩ := hn
      obtain ⟨g1, g2⟩ := ih (rest1 x n ++ B) (rest1 y n ++ S) (left - n) (F ++ [⟨x.id, y.id, pr, n⟩]) ((C.trade x.id n).trade y.id n) (rest1_q hB n2) (rest1_q hS n3) (nB.sublist (rest1_ids x n B)) (nS.sublist (rest1_ids y n S)) (by omega) (by omega) (by rw [rest1_qsum]; rw [qsum_cons] at lB; omega) (by rw [rest1_qsum]; rw [qsum_cons] at lS; omega) (fun f hf => by
        rcases List.mem_append.1 hf with hf | hf
        · exact hF f hf
        · rw [List.mem_singleton.1 hf]; exact ⟨n1, rfl⟩)
      refine ⟨g1, fun id => ?_⟩
      obtain ⟨a1, a2⟩ := g2 id
      rw [trd_snoc] at a1 a2
      rw [am_step nB ⟨n1, n2, n4⟩, am_step nS ⟨n1, n3, n4⟩, a1, a2]
      dsimp only
      have f1 : fby 1 id ⟨x.id, y.id, pr, n⟩ = decide (x.id = id) := by unfold fby; simp
      have f2 : fby 2 id ⟨x.id, y.id, pr, n⟩ = decide (y.id = id) := by unfold fby; simp
      rw [f1, f2]
      refine ⟨?_, ?_⟩
      · by_cases c : x.id = id
        · rw [if_pos (by simpa using c), if_pos c]; omega
        · rw [if_neg (by simpa using c), if_neg c]; omega
      · by_cases c : y.id = id
        · rw [if_pos (by simpa using c), if_pos c]; omega
        · rw [if_neg (by simpa using c), if_neg c]; omega
    · have e : crossL pr (k + 1) B S left F C = (F, C) := by
        cases B with
        | nil => rfl
        | cons x B =>
          cases S with
          | nil => rfl
          | cons y S => exact if_neg hl
      have : left = 0 := by omega
      subst this
      rw [e]
      exact ⟨hF, z hB hS⟩
theorem qsum_has {id : Int} : ∀ {B : List It}, (∀ x ∈ B, x.id ≠ id) → qsum (B.filter (It.has id)) = 0 := by
  intro B h
  rw [List.filter_eq_nil_iff.2 fun y hy => by simpa [It.has] using h y hy]; rfl
theorem cutF_am {id : Int} : ∀ {v : Int} {B : List It}, (B.map It.id).Nodup → 0 ≤ v → (∀ x ∈ B, 1 ≤ x.q) → qsum ((cutF v B).filter (It.has id)) + am v id B = qsum (B.filter (It.has id))
  | v, [], _, _, _ => rfl
  | v, x :: B, nd, hv, hq => by
    rw [List.map_cons, List.nodup_cons] at nd
    have hq0 := hq x List.mem_cons_self
    have hqB : ∀ y ∈ B, 1 ≤ y.q := fun y hy => hq y (List.mem_cons_of_mem _ hy)
    have hno : x.id = id → ∀ y ∈ B, y.id ≠ id := fun c y hy e => nd.1 (by rw [c, ← e]; exact List.mem_map.2 ⟨y, hy, rfl⟩)
    rw [cutF, am]
    by_cases c : x.id = id
    · have hB := hno c
      rw [if_pos c, List.filter_cons (x := x), if_pos (show It.has id x = true by simpa [It.has] using c), qsum_cons, qsum_has hB]
      split
      · rename_i c2
        rw [qsum_has fun y hy => by obtain ⟨u, hu, m, _, _, rfl⟩ := cutF_mem (show 0 ≤ v - x.q by omega) hy; exact hB u hu]
        omega
      · rw [List.filter_cons, if_pos (show It.has id (x.less v) = true by simpa [It.has] using c), qsum_cons, qsum_has hB]
        show x.q - v + 0 + _ = _
        omega
    · rw [if_neg c, List.filter_cons (x := x), if_neg (show ¬ It.has id x = true by simpa [It.has] using c)]
      split
      · rename_i c2
        have := cutF_am (id := id) (v := v - x.q) nd.2 (by omega) hqB
        rw [show v - min x.q v = v - x.q by omega]; exact this
      · rw [List.filter_cons, if_neg (show ¬ It.has id (x.less v) = true by simpa [It.has] using c), show v - min x.q v = 0 by omega, am_zero fun y hy => by have := hqB y hy; omega]
        omega
theorem am_at : ∀ {v : Int} {B : List It} {i : Nat} (hi : i < B.length), (B.map It.id).Nodup → 0 ≤ v → (∀ x ∈ B, 1 ≤ x.q) → am v B[i].id B = min B[i].q (max 0 (v - qsum (B.take i)))
  | v, x :: B, 0, _, _, hv, hq => by
    have := hq x List.mem_cons_self
    show am v x.id (x :: B) = min x.q (max 0 (v - 0))
    rw [am, if_pos rfl]; omega
  | v, x :: B, i + 1, hi, nd, hv, hq => by
    rw [List.map_cons, List.nodup_cons] at nd
    have hi' : i < B.length := by simpa using hi
    have hq0 := hq x List.mem_cons_self
    have hqB : ∀ y ∈ B, 1 ≤ y.q := fun y hy => hq y (List.mem_cons_of_mem _ hy)
    have ih := am_at (v := v - min x.q v) hi' nd.2 (by omega) hqB
    have hne : x.id ≠ B[i].id := fun e => nd.1 (by rw [e]; exact List.mem_map.2 ⟨_, List.getElem_mem hi', rfl⟩)
    show am v B[i].id (x :: B) = min B[i].q (max 0 (v - qsum (x :: B.take i)))
    rw [am, if_neg hne, ih, qsum_cons]
    have h0 : 0 ≤ qsum (B.take i) := (qsum_le (l := []) (fun _ h => by cases h)).1 |> fun _ => by
      have : ∀ l : List It, (∀ y ∈ l, 1 ≤ y.q) → 0 ≤ qsum l := by
        intro l
        induction l with
        | nil => intro _; exact Int.le_refl _
        | cons a l ih => intro h; rw [qsum_cons]; have := ih fun y hy => h y (List.mem_cons_of_mem _ hy); have := h a List.mem_cons_self; omega
      exact this _ fun y hy => hqB y (List.mem_of_mem_take hy)
    congr 1
    omega
end Go.Proofs.Ytamldmgdhaoigaa

/- auction, the laws: Fair, the walks of traded, left, fair. -/
namespace Go.Proofs.Ytamldmgdhaoigaa
open Go.V
open Go.Sort (ltInt)
set_option linter.unusedVariables false
set_option linter.unusedSimpArgs false
set_option maxRecDepth 20000

theorem sum_nn : ∀ {l : List Fl}, (∀ f ∈ l, 0 ≤ f.q) → 0 ≤ (l.map Fl.q).sum
  | [], _ => Int.le_refl _
  | a :: l, h => by
    rw [List.map_cons, List.sum_cons]
    have := sum_nn (l := l) fun f hf => h f (List.mem_cons_of_mem _ hf)
    have := h a List.mem_cons_self
    omega
theorem trd_take {F : List Fl} {id s : Int} (h : ∀ f ∈ F, 0 ≤ f.q) (i : Nat) : 0 ≤ trd (F.take i) id s ∧ trd (F.take i) id s ≤ trd F id s := by
  have e : trd F id s = trd (F.take i) id s + trd (F.drop i) id s := by
    conv => lhs; rw [← List.take_append_drop i F]
    unfold trd
    rw [List.filter_append, List.map_append, List.sum_append]
  have a1 : 0 ≤ trd (F.take i) id s := sum_nn fun f hf => h f (List.mem_of_mem_take (List.mem_filter.1 hf).1)
  have a2 : 0 ≤ trd (F.drop i) id s := sum_nn fun f hf => h f (List.mem_of_mem_drop (List.mem_filter.1 hf).1)
  omega
theorem tradedF_ok (w : World) (A : Option Addr) (c : Nat) (F : List Fl) (id s : Int) (hA : Rd w [] A (frows F)) (hq : ∀ f ∈ F, 0 ≤ f.q) (hb : F.length ≤ 1000000000000000) (ht : trd F id s ≤ 4294967295) :
    Is Try.prog 48 [.slice A F.length c, .int .u64 id, .int .i64 s] w (.int .u64 (trd F id s)) := by
  refine Does.pure (Does.of (n := 47) Try.func48 rfl rfl rfl rfl ?_)
  refine .seq ((.region (.v (.assign rfl) (.nil ?_))))
  refine .seq ((.region (.v (.assign rfl) (.nil ?_))))
  refine .seq (.seq ((.region (.v (.assign rfl) (.nil ?_)))))
  refine .block (.loop (X := Nat) (fun i => [(0, .slice A F.length c), (1, .int .u64 id), (2, .int .i64 s), (7, .int .u64 (trd (F.take i) id s)), (8, .int .i64 (i : Nat))]) (fun _ => []) (fun i => i ≤ F.length) (fun i => F.length - i) 0 (Nat.zero_le _) (.cons rfl (.cons rfl (.cons rfl (.cons rfl (.cons rfl (.nil _)))))) (fun _ s => s) ?_)
  intro i hi
  try dsimp only
  refine .seq (.seq ((.region (.v (.move rfl) (.v (.move rfl) (.v (.len rfl) (.v (.lss rfl rfl) (.nil ?_))))))))
  refine .cond_dec rfl (fun h1 => .skip ?_) (fun h1 => .exit ?_)
  · have hil : i < F.length := by omega
    obtain ⟨ba, oa, rfl, hc⟩ := Rd.recs Fl.cells 4 (fun _ => rfl) hA (by omega) (by omega)
    have qf := fun hs' (j : Nat) (v : Value) (hv : ((F[i]).cells)[j]? = some v) => fldAt Fl.cells 4 (fun _ => rfl) (z := (i : Int)) (hc hs') hil j hv
    have eS := trd_snoc (F.take i) F[i] id s
    rw [← List.take_succ_eq_append_getElem hil] at eS
    have b0 := trd_take (id := id) (s := s) hq i
    have b1 := trd_take (id := id) (s := s) hq (i + 1)
    have hx := hq _ (List.getElem_mem hil)
    generalize F[i] = x at qf eS hx
    refine .mid (X := Unit) (fun _ => [(0, .slice (some ⟨ba, oa, none⟩) F.length c), (1, .int .u64 id), (2, .int .i64 s), (7, .int .u64 (trd (F.take (i + 1)) id s)), (8, .int .i64 (i : Nat))]) (fun _ => []) (fun _ => True) (.block (.seq ((.region (.v (.move rfl) (.v (.eqi rfl rfl) (.v (.move rfl) (.and (b2 := decide (x.b = id)) 17 24 7 7 rfl rfl (fun g1 => .v (.move rfl) (.v (.move rfl) (.v (.indexAddr rfl rfl (by omega) (by omega)) (.v (.fieldAddr rfl) (.v (.load (v := .int .u64 x.b) rfl (qf _ 0 _ rfl)) (.v (.move rfl) (.v (.eqi rfl rfl) (.nil ⟨rfl, rfl, rfl, rfl⟩)))))))) (.v (.move rfl) (.or (b2 := decide (s = 2) && decide (x.s = id)) 26 37 11 4 rfl rfl (fun g2 => .v (.move rfl) (.v (.eqi rfl rfl) (.v (.move rfl) (.and (b2 := decide (x.s = id)) 29 36 7 7 rfl rfl (fun g3 => .v (.move rfl) (.v (.move rfl) (.v (.indexAddr rfl rfl (by omega) (by omega)) (.v (.fieldAddr rfl) (.v (.load (v := .int .u64 x.s) rfl (qf _ 1 _ rfl)) (.v (.move rfl) (.v (.eqi rfl rfl) (.nil ⟨rfl, rfl, rfl, rfl⟩)))))))) (.nil ⟨rfl, rfl, rfl, rfl⟩))))) (.nil ?_))))))))))) ?_
    · have hb' : ((decide (s = 1) && decide (x.b = id)) || (decide (s = 2) && decide (x.s = id))) = fby s id x := rfl
      rw [hb']
      refine .cond rfl (fun h2 => ?_) (fun h2 => .skip ?_)
      · rw [h2, if_pos rfl] at eS
        refine .region (.v (.move rfl) (.v (.move rfl) (.v (.move rfl) (.v (.indexAddr rfl rfl (by omega) (by omega)) (.v (.fieldAddr rfl) (.v (.load (v := .int .u64 x.q) rfl (qf _ 3 _ rfl)) (.v (.addU (trd (F.take i) id s + x.q) rfl rfl rfl (by omega)) (.v (.assign rfl) (.nil ?_)))))))))
        rw [eS]
        exact ⟨(), trivial, .cons rfl (.cons rfl (.cons rfl (.cons rfl (.cons rfl (.nil _))))), fun _ s => s⟩
      · rw [h2, if_neg Bool.false_ne_true, Int.add_zero] at eS
        rw [eS]
        exact ⟨(), trivial, .cons rfl (.cons rfl (.cons rfl (.cons rfl (.cons rfl (.nil _))))), fun _ s => s⟩
    rintro ⟨⟩ -
    try dsimp only
    refine .region (.v (.move rfl) (.v (.addE ((i + 1 : Nat) : Int) rfl rfl (by omega) (by omega)) (.v (.assign rfl) (.nil ?_))))
    exact ⟨i + 1, by omega, by omega, .cons rfl (.cons rfl (.cons rfl (.cons rfl (.cons rfl (.nil _))))), fun _ s => s⟩
  · have : i = F.length := by omega
    subst this
    rw [List.take_length]
    refine .seq ((.region (.v (.move rfl) (.v (.assign rfl) (.nil ?_)))))
    exact .ret ⟨[_], ⟨rfl, trivial⟩, rfl⟩
def leftL (id : Int) : List It → Int
  | [] => 0
  | x :: l => if x.id = id then x.q else leftL id l
theorem leftL_sum {id : Int} : ∀ {l : List It}, (l.map It.id).Nodup → leftL id l = qsum (l.filter (It.has id))
  | [], _ => rfl
  | x :: l, nd => by
    rw [List.map_cons, List.nodup_cons] at nd
    rw [leftL, List.filter_cons]
    by_cases c : x.id = id
    · rw [if_pos c, if_pos (show It.has id x = true by simpa [It.has] using c), qsum_cons, qsum_has fun y hy e => nd.1 (by rw [c, ← e]; exact List.mem_map.2 ⟨y, hy, rfl⟩)]; omega
    · rw [if_neg c, if_neg (show ¬ It.has id x = true by simpa [It.has] using c)]; exact leftL_sum nd.2
theorem left_ok (w : World) (A : Option Addr) (c : Nat) (l : List It) (id : Int) (hA : Rd w [] A (irows l)) (hb : l.length ≤ 1000000000) :
    Is Try.prog 49 [.slice A l.length c, .int .u64 id] w (.int .u64 (leftL id l)) := by
  refine Does.pure (Does.of (n := 24) Try.func49 rfl rfl rfl rfl ?_)
  refine .seq ((.region (.v (.assign rfl) (.nil ?_))))
  refine .seq (.seq ((.region (.v (.assign rfl) (.nil ?_)))))
  refine .block (.loop (X := Nat) (fun i => [(0, .slice A l.length c), (1, .int .u64 id), (5, .int .i64 (i : Nat))]) (fun _ => []) (fun i => i ≤ l.length ∧ leftL id l = leftL id (l.drop i)) (fun i => l.length - i) 0 ⟨Nat.zero_le _, rfl⟩ (.cons rfl (.cons rfl (.cons rfl (.nil _)))) (fun _ s => s) ?_)
  rintro i ⟨hi, hd⟩
  try dsimp only at hi hd ⊢
  refine .seq (.seq ((.region (.v (.move rfl) (.v (.move rfl) (.v (.len rfl) (.v (.lss rfl rfl) (.nil ?_))))))))
  refine .cond_dec rfl (fun h1 => .skip ?_) (fun h1 => .exit ?_)
  · have hil : i < l.length := by omega
    obtain ⟨ba, oa, rfl, hc⟩ := Rd.recs It.cells 6 (fun _ => rfl) hA (by omega) (by omega)
    have qf := fun hs' (j : Nat) (v : Value) (hv : ((l[i]).cells)[j]? = some v) => fldAt It.cells 6 (fun _ => rfl) (z := (i : Int)) (hc hs') hil j hv
    rw [List.drop_eq_getElem_cons hil, leftL] at hd
    generalize l[i] = x at qf hd
    refine .seq (.block (.seq ((.region (.v (.move rfl) (.v (.move rfl) (.v (.indexAddr rfl rfl (by omega) (by omega)) (.v (.fieldAddr rfl) (.v (.load (v := .int .u64 x.id) rfl (qf _ 0 _ rfl)) (.v (.move rfl) (.v (.eqi rfl rfl) (.nil ?_))))))))))))
    refine .cond_dec rfl (fun h2 => ?_) (fun h2 => .skip ?_)
    · rw [if_pos h2] at hd
      refine .seq ((.region (.v (.move rfl) (.v (.move rfl) (.v (.indexAddr rfl rfl (by omega) (by omega)) (.v (.fieldAddr rfl) (.v (.load (v := .int .u64 x.q) rfl (qf _ 5 _ rfl)) (.v (.assign rfl) (.nil ?_)))))))))
      exact .ret ⟨[_], ⟨rfl, trivial⟩, by rw [hd]; rfl⟩
    · rw [if_neg h2] at hd
      refine .region (.v (.move rfl) (.v (.addE ((i + 1 : Nat) : Int) rfl rfl (by omega) (by omega)) (.v (.assign rfl) (.nil ?_))))
      exact ⟨i + 1, ⟨by omega, hd⟩, by omega, .cons rfl (.cons rfl (.cons rfl (.nil _))), fun _ s => s⟩
  · have : i = l.length := by omega
    subst this
    rw [List.drop_length] at hd
    refine .seq ((.region (.v (.assign rfl) (.nil ?_))))
    exact .ret ⟨[_], ⟨rfl, trivial⟩, by rw [hd]; rfl⟩
def worseB (s P : Int) (x : It) : Bool := decide (x.ty = 1) && ((decide (s = 1) && decide (x.pr < P)) || (decide (s = 2) && decide (x.pr > P)))
/-- what a fair side is -/
structure FairH (was now : List It) (F : List Fl) (q : Qt) (s : Int) : Prop where
  len : was.length ≤ 4096 ∧ now.length ≤ 4096 ∧ F.length ≤ 1000000000000000
  fq : ∀ f ∈ F, 0 ≤ f.q
  v0 : 0 ≤ q.vol ∧ q.vol ≤ qsum was
  xq : ∀ x ∈ was, 1 ≤ x.q ∧ x.q ≤ 4294967295
  n : ∀ i (hi : i < was.length), trd F was[i].id s = min was[i].q (max 0 (q.vol - qsum (was.take i)))
  l : ∀ i (hi : i < was.length), trd F was[i].id s + leftL was[i].id now = was[i].q
  b : ∀ i (hi : i < was.length), 0 < trd F was[i].id s → worseB s q.pr was[i] = false
theorem fair_ok (w : World) (was now : List It) (F : List Fl) (q : Qt) (s : Int) (Aw An Af : Option Addr) (cw cn cf : Nat) (hw : Rd w [] Aw (irows was)) (hn : Rd w [] An (irows now)) (hf : Rd w [] Af (frows F)) (h : FairH was now F q s) :
    Is Try.prog 19 [.slice Aw was.length cw, .slice An now.length cn, .slice Af F.length cf, .agg ⟨q.cells⟩, .int .i64 s] w (.bool true) := by
  obtain ⟨⟨len1, len2, len3⟩, fq, v0, xq, hN, hLt, hB⟩ := h
  refine Does.pure (Does.of (n := 90) Try.func19 rfl rfl rfl rfl ?_)
  refine .seq ((.region (.nw (.box (l := q.cells) rfl rfl) fun b8 => (.v (.assign rfl) (.nil ?_)))))
  refine .seq ((.region (.v (.assign rfl) (.nil ?_))))
  refine .seq ((.region (.v (.assign rfl) (.nil ?_))))
  refine .seq (.seq ((.region (.v (.assign rfl) (.nil ?_)))))
  refine .block (.loop (X := Nat) (fun i => [(0, .slice Aw was.length cw), (1, .slice An now.length cn), (2, .slice Af F.length cf), (4, .int .i64 s), (8, .pointer (some ⟨b8, 0, none⟩)), (11, .bool (decide (q.vol < qsum (was.take i)))), (12, .int .u64 (min q.vol (qsum (was.take i)))), (13, .int .i64 (i : Nat))]) (fun _ => [QB b8 q]) (fun i => i ≤ was.length) (fun i => was.length - i) 0 (Nat.zero_le _)
    (.cons rfl (.cons rfl (.cons rfl (.cons rfl (.cons rfl (.cons (by rw [show decide (q.vol < qsum (was.take 0)) = false from decide_eq_false (show ¬ q.vol < 0 by omega)]; rfl) (.cons (by rw [show min q.vol (qsum (was.take 0)) = 0 by show min q.vol 0 = 0; omega]; rfl) (.cons rfl (.nil _))))))))) (fun _ s => s) ?_)
  intro i hi
  try dsimp only
  have hWb := qsum_le (l := was.take i) fun x hx => by have := xq x (List.mem_of_mem_take hx); omega
  rw [List.length_take] at hWb
  refine .seq (.seq ((.region (.v (.move rfl) (.v (.move rfl) (.v (.len rfl) (.v (.lss rfl rfl) (.nil ?_))))))))
  refine .cond_dec rfl (fun h1 => .skip ?_) (fun h1 => .exit ?_)
  · have hil : i < was.length := by omega
    obtain ⟨ba, oa, rfl, hc⟩ := Rd.recs It.cells 6 (fun _ => rfl) hw (by omega) (by omega)
    have q1 := fun hs' => recAt It.cells 6 (fun _ => rfl) (z := (i : Int)) (hc hs') hil
    have hx := xq _ (List.getElem_mem hil)
    have hNi := hN i hil
    have hLi := hLt i hil
    have hBi := hB i hil
    have eW : qsum (was.take (i + 1)) = qsum (was.take i) + was[i].q := by rw [take_snocI hil, qsum_app]; unfold qsum; simp
    have tr := fun (w' : World) (u : Sat w [] [] w') (hid : trd F was[i].id s ≤ 4294967295) => tradedF_ok w' Af cf F was[i].id s (hf.keep0 u) fq len3 hid
    generalize was[i] = x at q1 hx hNi hLi hBi eW tr
    generalize qsum (was.take i) = W at hWb hNi eW ⊢
    have hT : trd F x.id s ≤ 4294967295 := by omega
    generalize htn : trd F x.id s = n at hNi hLi hBi hT tr
    refine .seq (.block (.seq ((.region (.v (.move rfl) (.v (.move rfl) (.v (.indexAddr rfl rfl (by omega) (by omega)) (.v (.loadA (vs := x.cells) rfl (q1 _) rfl) (.nw .alloc fun b14 => (.st (.sw rfl rfl) (.nil ?_)))))))))))
    refine .seq ((.region (.v (.move rfl) (.v (.fieldAddr rfl) (.v (.load (v := .int .u64 x.id) rfl (.one rfl)) (.v (.move rfl) (.pc (v := .int .u64 n) rfl rfl (fun w s => tr w s.take hT) (.v (.assign rfl) (.nil ?_)))))))))
    refine .seq ((.region (.v (.move rfl) (.v (.move rfl) (.v (.addU (min q.vol W + n) rfl rfl rfl (by omega)) (.v (.assign rfl) (.nil ?_)))))))
    refine .seq ((.region (.v (.fieldAddr rfl) (.v (.load (v := .int .i64 x.ty) rfl (.one rfl)) (.v (.eqi rfl rfl) (.v (.move rfl) (.and (b2 := (decide (s = 1) && decide (x.pr < q.pr)) || (decide (s = 2) && decide (x.pr > q.pr))) 38 58 20 6 rfl rfl (fun g1 => .v (.move rfl) (.v (.eqi rfl rfl) (.v (.move rfl) (.and (b2 := decide (x.pr < q.pr)) 41 46 5 5 rfl rfl (fun g2 => .v (.fieldAddr rfl) (.v (.load (v := .int .i64 x.pr) rfl (.one (b := b14) (T := 36) rfl)) (.v (.fieldAddr rfl) (.v (.load (v := .int .i64 q.pr) rfl (.one (b := b8) (T := 30) rfl)) (.v (.lss rfl rfl) (.nil ⟨rfl, rfl, rfl, rfl⟩)))))) (.v (.move rfl) (.or (b2 := decide (s = 2) && decide (x.pr > q.pr)) 48 57 9 4 rfl rfl (fun g3 => .v (.move rfl) (.v (.eqi rfl rfl) (.v (.move rfl) (.and (b2 := decide (x.pr > q.pr)) 51 56 5 5 rfl rfl (fun g4 => .v (.fieldAddr rfl) (.v (.load (v := .int .i64 x.pr) rfl (.one (b := b14) (T := 36) rfl)) (.v (.fieldAddr rfl) (.v (.load (v := .int .i64 q.pr) rfl (.one (b := b8) (T := 30) rfl)) (.v (.gtr rfl rfl) (.nil ⟨rfl, rfl, rfl, rfl⟩)))))) (.nil ⟨rfl, rfl, rfl, rfl⟩))))) (.nil ⟨rfl, rfl, rfl, rfl⟩))))))) (.v (.assign rfl) (.nil ?_)))))))))
    have hwb : (decide (x.ty = 1) && ((decide (s = 1) && decide (x.pr < q.pr)) || (decide (s = 2) && decide (x.pr > q.pr)))) = worseB s q.pr x := rfl
    rw [hwb]
    generalize worseB s q.pr x = wo at hBi ⊢
    have lf := fun (w' : World) (u : Sat w [] [] w') => left_ok w' An cn now x.id (hn.keep0 u) (by omega)
    generalize leftL x.id now = lv at hLi lf
    refine .seq (.seq ((.drawP [0, 1, 2, 3, 6, 7, 4, 5, 8, 9, 10, 11, 12, 13, 14, 15, 16, 17, 18] [(b14, .cells x.cells 36)] (by intro y hy; simp at hy; subst hy; simp) (by kernel_rfl) (by kernel_rfl) ?_)))
    refine .v (fun _ f => .move rfl) (.v (fun _ f => .move rfl) (.v (fun _ f => .fieldAddr rfl) (.v (fun _ f => .load (v := .int .u64 x.id) rfl (.one (hb := .sub f) rfl)) (.v (fun _ f => .fieldAddr rfl) (.v (fun _ f => .load (v := .int .u64 x.q) rfl (.one (hb := .sub f) rfl)) (.pc (v := .int .u64 lv) rfl rfl (fun w s => lf w s.take) (.v (fun _ f => .addU (n + lv) rfl rfl rfl (by omega)) (.v (fun _ f => .no (.nei rfl rfl) (by omega)) (.v (fun _ f => .move rfl) (.or (b2 := decide (n > 0) && (decide (q.vol < W) || wo)) 69 77 8 4 rfl rfl (fun g5 => .v (fun _ f => .move rfl) (.v (fun _ f => .gtr rfl rfl) (.v (fun _ f => .move rfl) (.and (b2 := decide (q.vol < W) || wo) 72 76 4 3 rfl rfl (fun g6 => .v (fun _ f => .move rfl) (.v (fun _ f => .move rfl) (.or (b2 := wo) 74 75 1 1 rfl rfl (fun g7 => .v (fun _ f => .move rfl) (.nil ⟨rfl, rfl, rfl, rfl⟩)) (.nil ⟨rfl, rfl, rfl, rfl⟩)))) (.nil ⟨rfl, rfl, rfl, rfl⟩))))) (.nil ?_)))))))))))
    refine .cond rfl (fun h2 => ?_) (fun h2 => .skip ?_)
    · exfalso
      simp only [Bool.false_or, Bool.and_eq_true, Bool.or_eq_true, decide_eq_true_eq] at h2
      obtain ⟨a1, a2⟩ := h2
      rcases a2 with a2 | a2
      · omega
      · rw [hBi a1] at a2; cases a2
    · clear h2
      refine .region (.v (.move rfl) (.v (.move rfl) (.or (b2 := decide (n < x.q)) 80 84 4 4 rfl rfl (fun g8 => .v (.move rfl) (.v (.fieldAddr rfl) (.v (.load (v := .int .u64 x.q) rfl (.one (b := b14) (T := 36) rfl)) (.v (.lss rfl rfl) (.nil ⟨rfl, rfl, rfl, rfl⟩))))) (.v (.assign rfl) (.nil ?_)))))
      refine .region (.v (.move rfl) (.v (.addE ((i + 1 : Nat) : Int) rfl rfl (by omega) (by omega)) (.v (.assign rfl) (.nil ?_))))
      have e1 : (decide (q.vol < W) || decide (n < x.q)) = decide (q.vol < qsum (was.take (i + 1))) := by
        rw [← Bool.decide_or, decide_eq_decide, eW]; omega
      have e2 : min q.vol W + n = min q.vol (qsum (was.take (i + 1))) := by rw [eW]; omega
      rw [e1, e2]
      exact ⟨i + 1, by omega, by omega, .cons rfl (.cons rfl (.cons rfl (.cons rfl (.cons rfl (.cons rfl (.cons rfl (.cons rfl (.nil _)))))))), fun _ s => s.take⟩
  · have : i = was.length := by omega
    subst this
    rw [List.take_length]
    refine .seq ((.region (.v (.move rfl) (.v (.fieldAddr rfl) (.v (.load (v := .int .u64 q.vol) rfl (.one rfl)) (.v (.yes (.eqi rfl rfl) (by omega)) (.v (.assign rfl) (.nil ?_))))))))
    exact .ret ⟨[_], ⟨rfl, trivial⟩, rfl⟩
end Go.Proofs.Ytamldmgdhaoigaa

/- auction, the laws: Fair: what is traded is fair, in plain. -/
namespace Go.Proofs.Ytamldmgdhaoigaa
open Go.V
open Go.Sort (ltInt)
set_option linter.unusedVariables false
set_option linter.unusedSimpArgs false
set_option maxRecDepth 20000

theorem crossL_len (pr : Int) : ∀ (k : Nat) (B S : List It) (left : Int) (F : List Fl) (C : Cl), (crossL pr k B S left F C).1.length ≤ F.length + k := by
  intro k
  induction k with
  | zero => intro B S left F C; exact Nat.le_refl _
  | succ k ih =>
    intro B S left F C
    cases B with
    | nil => show F.length ≤ _; omega
    | cons x B =>
      cases S with
      | nil => show F.length ≤ _; omega
      | cons y S =>
        by_cases hl : 0 < left
        · have e : crossL pr (k + 1) (x :: B) (y :: S) left F C = crossL pr k (rest1 x (min (min x.q y.q) left) ++ B) (rest1 y (min (min x.q y.q) left) ++ S) (left - min (min x.q y.q) left) (F ++ [⟨x.id, y.id, pr, min (min x.q y.q) left⟩]) ((C.trade x.id (min (min x.q y.q) left)).trade y.id (min (min x.q y.q) left)) := if_pos hl
          rw [e]
          refine Nat.le_trans (ih _ _ _ _ _) ?_
          rw [List.length_append, List.length_singleton]; omega
        · have e : crossL pr (k + 1) (x :: B) (y :: S) left F C = (F, C) := if_neg hl
          rw [e]; show F.length ≤ _; omega
theorem leftL_at {B : List It} {i : Nat} (hi : i < B.length) (nd : (B.map It.id).Nodup) : leftL B[i].id B = B[i].q := by
  induction B generalizing i with
  | nil => cases hi
  | cons x B ih =>
    rw [List.map_cons, List.nodup_cons] at nd
    cases i with
    | zero => show leftL x.id (x :: B) = x.q; rw [leftL, if_pos rfl]
    | succ i =>
      have hi' : i < B.length := by simpa using hi
      show leftL B[i].id (x :: B) = B[i].q
      rw [leftL, if_neg fun e => nd.1 (by rw [e]; exact List.mem_map.2 ⟨_, List.getElem_mem hi', rfl⟩)]
      exact ih hi' nd.2
theorem rank_pw1 {C : Cl} (h : C.Ok) (x : Int) : (C.side 1).Pairwise (fun a b => buysAt x b = true → buysAt x a = true) := by
  have srt1 : ∀ s, (C.side s).Pairwise (fun a b => rank a ≤ rank b) := fun s => (sortI_st _).s
  refine List.Pairwise.imp_of_mem (fun {a b} ha hb hab e => ?_) (srt1 1)
  obtain ⟨ha1, ha2⟩ := side_mem.1 ha
  obtain ⟨hb1, hb2⟩ := side_mem.1 hb
  have oa := h.it a ha1
  have ob := h.it b hb1
  have := oa.pr; have := ob.pr
  unfold rank at hab
  unfold buysAt at e ⊢
  simp only [Bool.and_eq_true, Bool.or_eq_true, decide_eq_true_eq] at e ⊢
  refine ⟨ha2, ?_⟩
  rcases oa.ty with ta | ta
  · right
    rw [if_neg (by omega), if_pos ha2] at hab
    split at hab
    · omega
    · omega
  · exact .inl ta
theorem rank_pw2 {C : Cl} (h : C.Ok) (x : Int) : (C.side 2).Pairwise (fun a b => sellsAt x b = true → sellsAt x a = true) := by
  have srt1 : ∀ s, (C.side s).Pairwise (fun a b => rank a ≤ rank b) := fun s => (sortI_st _).s
  refine List.Pairwise.imp_of_mem (fun {a b} ha hb hab e => ?_) (srt1 2)
  obtain ⟨ha1, ha2⟩ := side_mem.1 ha
  obtain ⟨hb1, hb2⟩ := side_mem.1 hb
  have oa := h.it a ha1
  have ob := h.it b hb1
  have := oa.pr; have := ob.pr
  unfold rank at hab
  unfold sellsAt at e ⊢
  simp only [Bool.and_eq_true, Bool.or_eq_true, decide_eq_true_eq] at e ⊢
  refine ⟨ha2, ?_⟩
  rcases oa.ty with ta | ta
  · right
    rw [if_neg (by omega), if_neg (by omega)] at hab
    split at hab
    · omega
    · rw [if_neg (by omega)] at hab; omega
  · exact .inl ta
/-- who stands behind all that trade is given nothing -/
theorem prefix_le {p : It → Bool} {B : List It} (hq : ∀ x ∈ B, 1 ≤ x.q) (pw : B.Pairwise (fun a b => p b = true → p a = true)) {i : Nat} (hi : i < B.length) (hn : p B[i] = false) : qsum (B.filter p) ≤ qsum (B.take i) := by
  have z : (B.drop i).filter p = [] := by
    refine List.filter_eq_nil_iff.2 fun y hy c => ?_
    have pd : (B.drop i).Pairwise (fun a b => p b = true → p a = true) := pw.sublist (List.drop_sublist _ _)
    rw [List.drop_eq_getElem_cons hi] at hy pd
    rcases List.mem_cons.1 hy with rfl | hy
    · rw [hn] at c; cases c
    · have := (List.pairwise_cons.1 pd).1 y hy c
      rw [hn] at this; cases this
  have e : B.filter p = (B.take i).filter p := by
    conv => lhs; rw [← List.take_append_drop i B]
    rw [List.filter_append, z, List.append_nil]
  rw [e]
  have := qsum_filter_le (f := p) (g := fun _ => true) (l := B.take i) (fun x hx => by have := hq x (List.mem_of_mem_take hx); omega) (fun _ _ _ => rfl)
  rw [List.filter_eq_self.2 (fun _ _ => rfl)] at this
  exact this
theorem side_ids {C : Cl} (h : C.Ok) (s : Int) : ((C.side s).map It.id).Nodup := by
  have p : (C.side s).Perm (C.L.filter fun x => decide (x.sd = s)) := sortI_perm _
  exact ((p.map It.id).nodup_iff).2 (h.nd.sublist ((List.filter_sublist).map _))
theorem fair_facts {C : Cl} (h : C.Ok) (e : C.quote.2 = true) : FairH (C.side 1) (C.uncross.2.2.2.side 1) C.uncross.1 C.quote.1 1 ∧ FairH (C.side 2) (C.uncross.2.2.2.side 2) C.uncross.1 C.quote.1 2 ∧ ∀ f ∈ C.uncross.1, 1 ≤ f.q ∧ f.pr = C.quote.1.pr := by
  have hq : ∀ x ∈ C.L, 1 ≤ x.q := fun x hx => (h.it x hx).q.1
  obtain ⟨ok2, _⟩ := h.uncross
  obtain ⟨v0, v1, v2⟩ := h.quote_vol
  have hvol := (h.quote_most e).1
  have hM : mostQ C = C.quote.1.vol := if_pos e
  rw [hM] at hvol
  have hqs : ∀ s, ∀ x ∈ C.side s, 1 ≤ x.q := fun s x hx => hq x (side_mem.1 hx).1
  obtain ⟨g1, _, _⟩ := crossL_cut C.quote.1.pr C.quote.1.vol.toNat (C.side 1) (C.side 2) C.quote.1.vol [] C (side_perm h) h.nd hq v0 (by omega) v1 v2
  obtain ⟨f1, f2⟩ := crossL_fills C.quote.1.pr C.quote.1.vol.toNat (C.side 1) (C.side 2) C.quote.1.vol [] C (hqs 1) (hqs 2) (side_ids h 1) (side_ids h 2) v0 (by omega) v1 v2 (fun f hf => by cases hf)
  have fl := crossL_len C.quote.1.pr C.quote.1.vol.toNat (C.side 1) (C.side 2) C.quote.1.vol [] C
  have eU : C.uncross = ((crossL C.quote.1.pr C.quote.1.vol.toNat (C.side 1) (C.side 2) C.quote.1.vol [] C).1, C.quote.1, true, (crossL C.quote.1.pr C.quote.1.vol.toNat (C.side 1) (C.side 2) C.quote.1.vol [] C).2) := if_pos e
  rw [eU] at ok2 ⊢
  dsimp only at ok2 ⊢
  have hs1 := side_len C 1
  have hs2 := side_len C 2
  have hL := h.len'
  have qb := qsum_le (l := C.side 1) fun x hx => by have := (h.it x (side_mem.1 hx).1).q; omega
  generalize (crossL C.quote.1.pr C.quote.1.vol.toNat (C.side 1) (C.side 2) C.quote.1.vol [] C).1 = F at f1 f2 fl ⊢
  generalize (crossL C.quote.1.pr C.quote.1.vol.toNat (C.side 1) (C.side 2) C.quote.1.vol [] C).2 = C2 at g1 ok2 ⊢
  generalize C.quote.1 = q at *
  have hFl : F.length ≤ 1000000000000000 := by rw [List.length_nil] at fl; omega
  have d1' : ∀ y ∈ cutF q.vol (C.side 1), y.sd = 1 := fun y hy => by obtain ⟨u, hu, m, _, _, rfl⟩ := cutF_mem v0 hy; exact (side_mem.1 hu).2
  have d2' : ∀ y ∈ cutF q.vol (C.side 2), y.sd = 2 := fun y hy => by obtain ⟨u, hu, m, _, _, rfl⟩ := cutF_mem v0 hy; exact (side_mem.1 hu).2
  have a11 : (cutF q.vol (C.side 1)).filter (fun x => decide (x.sd = 1)) = cutF q.vol (C.side 1) := List.filter_eq_self.2 fun y hy => decide_eq_true (d1' y hy)
  have a12 : (cutF q.vol (C.side 1)).filter (fun x => decide (x.sd = 2)) = [] := List.filter_eq_nil_iff.2 fun y hy => by have := d1' y hy; simp; omega
  have a21 : (cutF q.vol (C.side 2)).filter (fun x => decide (x.sd = 1)) = [] := List.filter_eq_nil_iff.2 fun y hy => by have := d2' y hy; simp; omega
  have a22 : (cutF q.vol (C.side 2)).filter (fun x => decide (x.sd = 2)) = cutF q.vol (C.side 2) := List.filter_eq_self.2 fun y hy => decide_eq_true (d2' y hy)
  have now1 : ∀ id, leftL id (C2.side 1) = qsum ((cutF q.vol (C.side 1)).filter (It.has id)) := by
    intro id
    rw [leftL_sum (side_ids ok2 1)]
    have p1 : (C2.side 1).Perm (C2.L.filter fun x => decide (x.sd = 1)) := sortI_perm _
    rw [qsum_perm ((p1.trans (g1.filter _)).filter _), List.filter_append, a11, a21, List.append_nil]
  have now2 : ∀ id, leftL id (C2.side 2) = qsum ((cutF q.vol (C.side 2)).filter (It.has id)) := by
    intro id
    rw [leftL_sum (side_ids ok2 2)]
    have p1 : (C2.side 2).Perm (C2.L.filter fun x => decide (x.sd = 2)) := sortI_perm _
    rw [qsum_perm ((p1.trans (g1.filter _)).filter _), List.filter_append, a12, a22, List.nil_append]
  have t0 : ∀ id s, trd [] id s = 0 := fun _ _ => rfl
  have z1 : (C.side 2).filter (buysAt q.pr) = [] := List.filter_eq_nil_iff.2 fun y hy c => by
    unfold buysAt at c
    simp only [Bool.and_eq_true, decide_eq_true_eq] at c
    have := (side_mem.1 hy).2
    omega
  have z2 : (C.side 1).filter (sellsAt q.pr) = [] := List.filter_eq_nil_iff.2 fun y hy c => by
    unfold sellsAt at c
    simp only [Bool.and_eq_true, decide_eq_true_eq] at c
    have := (side_mem.1 hy).2
    omega
  have vb : q.vol ≤ qsum ((C.side 1).filter (buysAt q.pr)) := by
    have : buyQ q.pr C.L = qsum ((C.side 1).filter (buysAt q.pr)) := by
      unfold buyQ
      rw [qsum_perm ((side_perm h).filter _), List.filter_append, z1, List.append_nil]
    unfold volQ at hvol
    omega
  have vs : q.vol ≤ qsum ((C.side 2).filter (sellsAt q.pr)) := by
    have : sellQ q.pr C.L = qsum ((C.side 2).filter (sellsAt q.pr)) := by
      unfold sellQ
      rw [qsum_perm ((side_perm h).filter _), List.filter_append, z2, List.nil_append]
    unfold volQ at hvol
    omega
  have n1 : ∀ i (hi : i < (C.side 1).length), trd F (C.side 1)[i].id 1 = min (C.side 1)[i].q (max 0 (q.vol - qsum ((C.side 1).take i))) := fun i hi => by
    rw [(f2 _).1, t0, am_at hi (side_ids h 1) v0 (hqs 1)]; omega
  have n2 : ∀ i (hi : i < (C.side 2).length), trd F (C.side 2)[i].id 2 = min (C.side 2)[i].q (max 0 (q.vol - qsum ((C.side 2).take i))) := fun i hi => by
    rw [(f2 _).2, t0, am_at hi (side_ids h 2) v0 (hqs 2)]; omega
  have lf1 : ∀ i (hi : i < (C.side 1).length), trd F (C.side 1)[i].id 1 + leftL (C.side 1)[i].id (C2.side 1) = (C.side 1)[i].q := fun i hi => by
    have a := cutF_am (id := (C.side 1)[i].id) (side_ids h 1) v0 (hqs 1)
    have b := leftL_at hi (side_ids h 1)
    rw [leftL_sum (side_ids h 1)] at b
    rw [(f2 _).1, t0, now1]; omega
  have lf2 : ∀ i (hi : i < (C.side 2).length), trd F (C.side 2)[i].id 2 + leftL (C.side 2)[i].id (C2.side 2) = (C.side 2)[i].q := fun i hi => by
    have a := cutF_am (id := (C.side 2)[i].id) (side_ids h 2) v0 (hqs 2)
    have b := leftL_at hi (side_ids h 2)
    rw [leftL_sum (side_ids h 2)] at b
    rw [(f2 _).2, t0, now2]; omega
  have hF0 : ∀ f ∈ F, 0 ≤ f.q := fun f hf => by have := (f1 f hf).1; omega
  have ls1 := side_len C2 1
  have ls2 := side_len C2 2
  have hL2 := ok2.len'
  refine ⟨⟨⟨by omega, by omega, hFl⟩, hF0, ⟨v0, v1⟩, fun x hx => (h.it x (side_mem.1 hx).1).q, n1, lf1, fun i hi hp => ?_⟩, ⟨⟨by omega, by omega, hFl⟩, hF0, ⟨v0, v2⟩, fun x hx => (h.it x (side_mem.1 hx).1).q, n2, lf2, fun i hi hp => ?_⟩, f1⟩
  · cases c : worseB 1 q.pr (C.side 1)[i] with
    | false => rfl
    | true =>
      exfalso
      unfold worseB at c
      simp at c
      have hb : buysAt q.pr (C.side 1)[i] = false := by
        unfold buysAt
        rw [show decide ((C.side 1)[i].ty = 2) = false from decide_eq_false (by omega), show decide (q.pr ≤ (C.side 1)[i].pr) = false from decide_eq_false (by omega)]; simp
      have := prefix_le (hqs 1) (rank_pw1 h q.pr) hi hb
      rw [n1 i hi] at hp
      omega
  · cases c : worseB 2 q.pr (C.side 2)[i] with
    | false => rfl
    | true =>
      exfalso
      unfold worseB at c
      simp at c
      have hb : sellsAt q.pr (C.side 2)[i] = false := by
        unfold sellsAt
        rw [show decide ((C.side 2)[i].ty = 2) = false from decide_eq_false (by omega), show decide ((C.side 2)[i].pr ≤ q.pr) = false from decide_eq_false (by omega)]; simp
      have := prefix_le (hqs 2) (rank_pw2 h q.pr) hi hb
      rw [n2 i hi] at hp
      omega
end Go.Proofs.Ytamldmgdhaoigaa

/- auction, the laws: Fair, the walk. -/
namespace Go.Proofs.Ytamldmgdhaoigaa
open Go.V
open Go.Sort (ltInt)
set_option linter.unusedVariables false
set_option linter.unusedSimpArgs false
set_option maxRecDepth 20000

abbrev ItK : List Lf := [.i .u64, .i .u32, .i .i64, .i .i64, .i .i64, .i .u64]
theorem It.oks (x : It) : V.oks ItK x.cells := ⟨rfl, rfl, rfl, rfl, rfl, rfl, trivial⟩
theorem sameI_ok (w : World) (A B : Option Addr) (c d : Nat) (l : List It) (hA : Rd w [] A (irows l)) (hB : Rd w [] B (irows l)) (hb : l.length ≤ 1000000000) :
    Is Try.prog 18 [.slice A l.length c, .slice B l.length d] w (.bool true) := by
  refine Does.pure (Does.of (n := 26) Try.func18 rfl rfl rfl rfl ?_)
  refine .seq ((.region (.v (.assign rfl) (.nil ?_))))
  refine .seq (.seq ((.region (.v (.move rfl) (.v (.len rfl) (.v (.move rfl) (.v (.len rfl) (.v (.no (.nei rfl rfl) (by omega)) (.nil ?_)))))))))
  refine .cond_false rfl (.skip ?_)
  refine .seq (.seq ((.region (.v (.assign rfl) (.nil ?_)))))
  refine .block (.loop (X := Nat) (fun i => [(0, .slice A l.length c), (1, .slice B l.length d), (5, .int .i64 (i : Nat))]) (fun _ => []) (fun i => i ≤ l.length) (fun i => l.length - i) 0 (Nat.zero_le _) (.cons rfl (.cons rfl (.cons rfl (.nil _)))) (fun _ s => s) ?_)
  intro i hi
  try dsimp only
  refine .seq (.seq ((.region (.v (.move rfl) (.v (.move rfl) (.v (.len rfl) (.v (.lss rfl rfl) (.nil ?_))))))))
  refine .cond_dec rfl (fun h2 => .skip ?_) (fun h2 => .exit ?_)
  · have hil : i < l.length := by omega
    obtain ⟨ba, oa, rfl, hca⟩ := Rd.recs It.cells 6 (fun _ => rfl) hA (by omega) (by omega)
    obtain ⟨bb, ob, rfl, hcb⟩ := Rd.recs It.cells 6 (fun _ => rfl) hB (by omega) (by omega)
    have q1 := fun hs' => recAt It.cells 6 (fun _ => rfl) (z := (i : Int)) (hca hs') hil
    have q2 := fun hs' => recAt It.cells 6 (fun _ => rfl) (z := (i : Int)) (hcb hs') hil
    generalize l[i] = x at q1 q2
    refine .seq (.block (.seq ((.drawK [] (fun _ h => h) (by kernel_rfl) (by kernel_rfl) ?_))))
    refine .v (fun _ f => .move rfl) (.v (fun _ f => .move rfl) (.v (fun _ f => .indexAddr rfl rfl (by omega) (by omega)) (.v (fun _ f => .loadA (vs := x.cells) rfl (q1 _) rfl) (.v (fun _ f => .move rfl) (.v (fun _ f => .move rfl) (.v (fun _ f => .indexAddr rfl rfl (by omega) (by omega)) (.v (fun _ f => .loadA (vs := x.cells) rfl (q2 _) rfl) (.v (fun _ f => .as (v' := .bool false) (.neA rfl rfl (It.oks _) (It.oks _)) (congrArg Value.bool (by rw [(cellsEq_iff (It.oks x) (It.oks x)).2 rfl]; rfl))) (.nil ?_)))))))))
    refine .cond_false rfl (.skip ?_)
    refine .region (.v (.move rfl) (.v (.addE ((i + 1 : Nat) : Int) rfl rfl (by omega) (by omega)) (.v (.assign rfl) (.nil ?_))))
    exact ⟨i + 1, by omega, by omega, .cons rfl (.cons rfl (.cons rfl (.nil _))), fun _ s => s⟩
  · refine .seq ((.region (.v (.assign rfl) (.nil ?_))))
    exact .ret ⟨[_], ⟨rfl, trivial⟩, rfl⟩
theorem Fair_ok (w : World) (rf : Int) (A : Option Addr) (c : Nat) (l : List It) (hA : Rd w [] A (irows l)) (hb : l.length ≤ 1048576) :
    Is Try.prog 4 [.int .i64 rf, .slice A l.length c] w (.bool true) := by
  refine Does.pure (Does.of (n := 100) Try.func4 rfl rfl rfl rfl ?_)
  refine .seq ((.region (.v (.assign rfl) (.nil ?_))))
  refine .seq (.seq ((.region (.pc rfl rfl (fun w s => lives_ok w) (.v (.not rfl) (.nil ?_))))))
  refine .cond_false rfl (.skip ?_)
  rcases Decidable.em (tickP rf) with hr | hr
  case inr =>
    refine .seq ((.region (.v (.move rfl) (.v (.move rfl) (.pc rfl rfl (fun w s => entered_no w rf hr _) (.v (.move rfl) (.v (.extract rfl rfl) (.v (.extract rfl rfl) (.v (.assign rfl) (.v (.assign rfl) (.nil ?_)))))))))))
    refine .seq (.seq ((.region (.v (.move rfl) (.v (.eql_ptr_nil (a := none) rfl rfl) (.nil ?_))))))
    refine .cond_true rfl ?_
    refine .seq ((.region (.v (.move rfl) (.v (.lss rfl rfl) (.v (.move rfl) (.or (b2 := decide (rf ≥ 262144)) 25 27 2 2 rfl rfl (fun g1 => .v (.move rfl) (.v (.geq rfl rfl) (.nil ⟨rfl, rfl, rfl, rfl⟩))) (.v (.assign rfl) (.nil ?_))))))))
    refine .ret ⟨[_], ⟨rfl, trivial⟩, vb ?_⟩
    have : rf < 0 ∨ 262144 ≤ rf := by have := hr; unfold tickP at this; omega
    rcases this with h | h
    · rw [decide_eq_true h]; rfl
    · rw [decide_eq_true (show rf ≥ 262144 from h), Bool.or_true]
  refine .seq ((.region (.v (.move rfl) (.v (.move rfl) ?_))))
  refine .ef (.call0 rfl rfl fun w s => entered_yes w rf hr A l.length c l (hA.keep0 s) rfl (by omega)) ?_
  rintro _ _ ⟨_, ⟨p, v1, h1, vT, hT, rfl, rfl, o, oT⟩, rfl⟩
  have hC := entL_ok hr l
  generalize entL rf l = C at o oT hC ⊢
  clear hA
  obtain ⟨A1, c1, rfl⟩ := OwnS.slice o
  obtain ⟨AT, cT, rfl⟩ := OwnS.slice oT
  have hL := hC.len'
  have hP : ∀ x ∈ C.L, x.P := fun x hx => (hC.it x hx).P
  have hsp := (side_perm hC).length_eq
  rw [List.length_append] at hsp
  refine .v (.move rfl) (.v (.extract rfl rfl) (.v (.extract rfl rfl) (.v (.assign rfl) (.v (.assign rfl) (.nil ?_)))))
  refine .seq (.seq ((.region (.v (.move rfl) (.v (.eql_ptr_nil (a := some ⟨p, 0, none⟩) rfl rfl) (.nil ?_))))))
  refine .cond_false rfl (.skip ?_)
  refine .keep (Cb p C (.slice A1 C.L.length c1) :: h1) ?_
  refine .seq ((.region (.v (.move rfl) ?_)))
  refine .ef (.call0 rfl rfl fun w' s' => Interests_ok w' p C A1 c1 1 (ClR.of s' o (by simp) (fun y hy => by simp [hy])) (by omega) hP) ?_
  rintro vB _ ⟨hB, oB, rfl⟩
  refine .v (.move rfl) ?_
  refine .ef (.call0 rfl rfl fun w' s' => Interests_ok w' p C A1 c1 2 (ClR.of s' o (by simp) (fun y hy => by simp [hy])) (by omega) hP) ?_
  rintro vS _ ⟨hS, oS, rfl⟩
  obtain ⟨AB, cB, rfl⟩ := OwnS.slice oB
  obtain ⟨AS, cS, rfl⟩ := OwnS.slice oS
  refine .v (.assign rfl) (.v (.assign rfl) (.nil ?_))
  refine .keep (Cb p C (.slice A1 C.L.length c1) :: (h1 ++ (hB ++ hS))) ?_
  refine .seq ((.region (.v (.move rfl) ?_)))
  refine .ef (.callT (Cb p C (.slice A1 C.L.length c1) :: h1) rfl rfl fun w' s' => Uncross_ok w' p C _ h1 o hC) ?_
  have hU := hC.uncross.1
  have hfacts := fun e => fair_facts hC e
  have eq1 : C.uncross.2.1 = C.quote.1 ∧ C.uncross.2.2.1 = C.quote.2 := by
    unfold Cl.uncross
    cases e : C.quote.2 with
    | true => rw [if_pos rfl]; exact ⟨rfl, rfl⟩
    | false => rw [if_neg Bool.false_ne_true]; exact ⟨rfl, rfl⟩
  have eno : C.quote.2 = false → C.uncross.1 = [] ∧ C.uncross.2.2.2 = C := fun e => by
    unfold Cl.uncross
    rw [if_neg (by rw [e]; exact Bool.false_ne_true)]; exact ⟨rfl, rfl⟩
  rintro _ _ ⟨_, ⟨v2, h2, vF, hF, rfl, rfl, o2, oF⟩, rfl⟩
  rw [eq1.1, eq1.2]
  clear o eq1
  generalize C.uncross.2.2.2 = C2 at hU hfacts eno o2 ⊢
  generalize C.uncross.1 = F at hfacts eno oF ⊢
  generalize C.quote.1 = q at hfacts ⊢
  generalize C.quote.2 = is at hfacts eno ⊢
  obtain ⟨A2, c2, rfl⟩ := OwnS.slice o2
  obtain ⟨AF, cF, rfl⟩ := OwnS.slice oF
  have hL2 := hU.len'
  have hP2 : ∀ x ∈ C2.L, x.P := fun x hx => (hU.it x hx).P
  refine .v (.move rfl) (.v (.extract rfl rfl) (.v (.extract rfl rfl) (.v (.extract rfl rfl) (.nw .alloc fun b10 => (.v (.assign rfl) (.st (.sw rfl rfl) (.v (.assign rfl) (.nil ?_))))))))
  refine .keep (QB b10 q :: Cb p C2 (.slice A2 C2.L.length c2) :: (h2 ++ (hF ++ (hB ++ hS)))) ?_
  refine .seq (.seq ((.region (.v (.move rfl) (.v (.len rfl) (.v (.move rfl) (.v (.len rfl) (.v (.addi rfl rfl (by omega)) (.v (.move rfl) (.v (.len rfl) (.v (.no (.nei rfl rfl) (by omega)) (.nil ?_))))))))))))
  refine .cond_false rfl (.skip ?_)
  refine .seq (.seq ((.region (.v (.move rfl) (.v (.not rfl) (.nil ?_))))))
  refine .cond rfl (fun h4 => ?_) (fun h4 => .skip ?_)
  · have his : is = false := by simpa using h4
    obtain ⟨eF, eC⟩ := eno his
    subst eF; subst eC
    refine .seq ((.region (.v (.move rfl) (.v (.len rfl) (.v (.yes (.eqi rfl rfl) (by simp)) (.v (.move rfl) (.v (.move rfl) ?_)))))))
    refine .ef (.call0 rfl rfl fun w' s' => Interests_ok w' p C2 A2 c2 1 (ClR.of s' o2 (by simp) (fun y hy => by simp [hy])) (by omega) hP2) ?_
    rintro vI _ ⟨hI, oI, rfl⟩
    obtain ⟨AI, cI, rfl⟩ := OwnS.slice oI
    refine .v (.move rfl) (.pc (v := .bool true) rfl rfl (fun w s => sameI_ok w AI AB cI cB (C2.side 1) (OwnS.rd oI s (by intro y hy; simp [hy]) (by simp)) (OwnS.rd oB s (by intro y hy; simp [hy]) (by simp)) (by omega)) (.v (.pickT rfl rfl rfl) (.v (.move rfl) (.v (.move rfl) ?_))))
    refine .ef (.call0 rfl rfl fun w' s' => Interests_ok w' p C2 A2 c2 2 (ClR.of s' o2 (by simp) (fun y hy => by simp [hy])) (by omega) hP2) ?_
    rintro vI2 _ ⟨hI2, oI2, rfl⟩
    obtain ⟨AI2, cI2, rfl⟩ := OwnS.slice oI2
    refine .v (.move rfl) (.pc (v := .bool true) rfl rfl (fun w s => sameI_ok w AI2 AS cI2 cS (C2.side 2) (OwnS.rd oI2 s (by intro y hy; simp [hy]) (by simp)) (OwnS.rd oS s (by intro y hy; simp [hy]) (by simp)) (by omega)) (.v (.pickT rfl rfl rfl) (.v (.assign rfl) (.nil ?_))))
    exact .ret ⟨[_], ⟨rfl, trivial⟩, rfl⟩
  have his : is = true := by simpa using h4
  obtain ⟨fa1, fa2, fF⟩ := hfacts his
  refine .seq (.seq ((.region (.v (.assign rfl) (.nil ?_)))))
  refine .block (.loop (X := Nat) (fun i => [(5, .pointer (some ⟨p, 0, none⟩)), (7, .slice AB (C.side 1).length cB), (8, .slice AS (C.side 2).length cS), (9, .slice AF F.length cF), (10, .pointer (some ⟨b10, 0, none⟩)), (12, .int .i64 (i : Nat))]) (fun _ => QB b10 q :: Cb p C2 (.slice A2 C2.L.length c2) :: (h2 ++ (hF ++ (hB ++ hS)))) (fun i => i ≤ F.length) (fun i => F.length - i) 0 (Nat.zero_le _) (.cons rfl (.cons rfl (.cons rfl (.cons rfl (.cons rfl (.cons rfl (.nil _))))))) (fun _ s => s) ?_)
  intro i hi
  try dsimp only
  have hFl := fa1.len.2.2
  refine .seq (.seq ((.region (.v (.move rfl) (.v (.move rfl) (.v (.len rfl) (.v (.lss rfl rfl) (.nil ?_))))))))
  refine .cond_dec rfl (fun h5 => .skip ?_) (fun h5 => .exit ?_)
  · have hil : i < F.length := by omega
    obtain ⟨bF, oF_, lF, rfl, -, rfl, -, -, -⟩ := OwnS.some_ oF (by omega)
    have qf := fun (own : List Nat) (hs' : Hp) (j : Nat) (u : Value) (hj : (F[i]).cells[j]? = some u) (hsub : [(bF, Ch.cells lF 44)] ⊆ hs') => fldAt (w0 := w) (own := own) (hs := hs') Fl.cells 4 (fun _ => rfl) (z := (i : Int)) (OwnS.at0 oF hsub) hil j hj
    have hx := fF _ (List.getElem_mem hil)
    generalize F[i] = x at qf hx
    refine .seq (.block (.seq ((.drawK [QB b10 q, (bF, .cells lF 44)] (by intro y hy; simp at hy; rcases hy with rfl | rfl <;> simp) (by kernel_rfl) (by kernel_rfl) ?_))))
    refine .v (fun _ f => .move rfl) (.v (fun _ f => .move rfl) (.v (fun _ f => .indexAddr rfl rfl (by omega) (by omega)) (.v (fun _ f => .fieldAddr rfl) (.v (fun _ f => .load (v := .int .u64 x.q) rfl (qf _ _ 3 _ rfl (fun u hu => f (by simp at hu; subst hu; simp)))) (.v (fun _ f => .no (.eqi rfl rfl) (by omega)) (.v (fun _ f => .move rfl) (.or (b2 := false) 76 84 8 8 rfl rfl (fun g4 => .v (fun _ f => .move rfl) (.v (fun _ f => .move rfl) (.v (fun _ f => .indexAddr rfl rfl (by omega) (by omega)) (.v (fun _ f => .fieldAddr rfl) (.v (fun _ f => .load (v := .int .i64 x.pr) rfl (qf _ _ 2 _ rfl (fun u hu => f (by simp at hu; subst hu; simp)))) (.v (fun _ f => .fieldAddr rfl) (.v (fun _ f => .load (v := .int .i64 q.pr) rfl (.one (b := b10) (T := 30) (hb := .sub f) rfl)) (.v (fun _ f => .no (.nei rfl rfl) (by omega)) (.nil ⟨rfl, rfl, rfl, rfl⟩))))))))) (.nil ?_))))))))
    refine .cond_false rfl (.skip ?_)
    refine .region (.v (.move rfl) (.v (.addE ((i + 1 : Nat) : Int) rfl rfl (by omega) (by omega)) (.v (.assign rfl) (.nil ?_))))
    exact ⟨i + 1, by omega, by omega, .cons rfl (.cons rfl (.cons rfl (.cons rfl (.cons rfl (.cons rfl (.nil _)))))), fun _ s => s⟩
  refine .seq ((.drawP [0, 1, 3, 4, 2, 5, 6, 7, 8, 10, 11, 9, 12, 13, 14] [QB b10 q] (by intro y hy; simp at hy; subst hy; simp) (by kernel_rfl) (by kernel_rfl) ?_))
  refine .v (fun _ f => .move rfl) (.v (fun _ f => .move rfl) (.v (fun _ f => .move rfl) (.v (fun _ f => .loadA (vs := q.cells) rfl (.whole (b := b10) (T := 30) (hb := .sub f)) rfl) ?_)))
  refine .ef (.call0 rfl rfl fun w' s' => Interests_ok w' p C2 A2 c2 1 (ClR.of s' o2 (by simp) (fun y hy => by simp [hy])) (by omega) hP2) (fun v hs' ⟨h1, _, e⟩ f => by subst e; exact fun y hy => List.mem_append_right _ (f hy)) ?_
  rintro vI _ ⟨hI, oI, rfl⟩
  obtain ⟨AI, cI, rfl⟩ := OwnS.slice oI
  refine .pc (v := .bool true) rfl rfl (fun w s => fair_ok w (C.side 1) (C2.side 1) F q 1 AB AI AF cB cI cF (OwnS.rd oB s (by intro y hy; simp [hy]) (by simp)) (OwnS.rd oI s (by intro y hy; simp [hy]) (by simp)) (OwnS.rd oF s (by intro y hy; simp [hy]) (by simp)) fa1) ?_
  refine .v (fun _ f => .move rfl) (.v (fun _ f => .move rfl) (.v (fun _ f => .move rfl) (.v (fun _ f => .move rfl) (.v (fun _ f => .loadA (vs := q.cells) rfl (.whole (b := b10) (T := 30) (hb := .sub f)) rfl) ?_))))
  refine .ef (.call0 rfl rfl fun w' s' => Interests_ok w' p C2 A2 c2 2 (ClR.of s' o2 (by simp) (fun y hy => by simp [hy])) (by omega) hP2) (fun v hs' ⟨h1, _, e⟩ f => by subst e; exact fun y hy => List.mem_append_right _ (f hy)) ?_
  rintro vI2 _ ⟨hI2, oI2, rfl⟩
  obtain ⟨AI2, cI2, rfl⟩ := OwnS.slice oI2
  refine .pc (v := .bool true) rfl rfl (fun w s => fair_ok w (C.side 2) (C2.side 2) F q 2 AS AI2 AF cS cI2 cF (OwnS.rd oS s (by intro y hy; simp [hy]) (by simp)) (OwnS.rd oI2 s (by intro y hy; simp [hy]) (by simp)) (OwnS.rd oF s (by intro y hy; simp [hy]) (by simp)) fa2) ?_
  refine .v (fun _ f => .pickT rfl rfl rfl) (.v (fun _ f => .assign rfl) (.nil ?_))
  exact .ret ⟨[_], ⟨rfl, trivial⟩, rfl⟩
end Go.Proofs.Ytamldmgdhaoigaa

/- VG: plain values (numbers, bools, strings, structs and arrays of these) that come in. -/
namespace Go
namespace V
open Go.RowKit Go.ChangeShapes Go.WideShapes Go.ChangeAt
set_option linter.unusedVariables false

def Lf.okw : Lf → Value → Prop
  | .i k, .int k' n => k' = k ∧ (Lit.int k n).wf = true
  | .b, .bool _ => True
  | .s, .string x => x.size ≤ maxLen
  | _, _ => False
def okw : List Lf → List Value → Prop
  | [], [] => True
  | l :: ls, v :: vs => l.okw v ∧ okw ls vs
  | _, _ => False
theorem Lf.okw.ok {l : Lf} {v : Value} (h : l.okw v) : l.ok v := by
  cases l <;> cases v <;> simp only [Lf.okw] at h <;> simp only [Lf.ok]
  exact h.1
theorem okw.oks : ∀ {ls : List Lf} {vs : List Value}, okw ls vs → V.oks ls vs
  | [], [], _ => trivial
  | l :: ls, v :: vs, h => ⟨h.1.ok, okw.oks h.2⟩
  | [], _ :: _, h => h.elim
  | _ :: _, [], h => h.elim
theorem okw_append : ∀ {l1 l2 : List Lf} {v1 v2 : List Value}, okw l1 v1 → okw l2 v2 → okw (l1 ++ l2) (v1 ++ v2)
  | [], l2, [], v2, _, h => h
  | l :: l1, l2, v :: v1, v2, h, k => ⟨h.1, okw_append h.2 k⟩
  | [], _, _ :: _, _, h, _ => h.elim
  | _ :: _, _, [], _, h, _ => h.elim
theorem okw_replicate {le : List Lf} {k : Nat} : ∀ {vs : List Value}, vs.length = k * le.length → (∀ i, i < k → okw le ((vs.drop (i * le.length)).take le.length)) → okw (List.replicate k le).flatten vs := by
  induction k with
  | zero => intro vs h _; have : vs = [] := by simpa using h
            subst this; exact trivial
  | succ k ih =>
    intro vs h hi
    rw [Nat.succ_mul] at h
    have h0 := hi 0 (by omega)
    simp only [Nat.zero_mul, List.drop_zero] at h0
    have hr := ih (vs := vs.drop le.length) (by simp; omega) (fun i hik => by
      have := hi (i + 1) (by omega)
      rw [List.drop_drop, show le.length + i * le.length = (i + 1) * le.length from by rw [Nat.succ_mul]; omega]
      exact this)
    have := okw_append h0 hr
    rw [List.take_append_drop] at this
    rw [List.replicate_succ, List.flatten_cons]
    exact this

section
variable {H : Type} {enc : TypeId × Value → H} {P : Program} {w : World} {base : Nat} {spare : Nat → Bool} {held : Bool}

theorem cellsOf_info {T : Nat} {i : TypeInfo} (h : P.info? T = some i) : P.cellsOf T = i.size := by simp [Program.cellsOf, h]

theorem trod_plain : ∀ (n T : Nat) (ls : List Lf) (fuel : Nat) (cs : List Value) (x : DataW H × List MemPlace), leaves P n T = some ls → P.cellsOf T = ls.length → DataW.trod enc P w base spare held fuel T cs = some x → okw ls cs := by
  intro n
  induction n with
  | zero => intro T ls fuel cs x h; simp [leaves] at h
  | succ n ih =>
    intro T ls fuel cs x h hsz ht
    unfold leaves at h
    split at h
    · rename_i hu; simp at h; subst h
      obtain ⟨b, rfl, _⟩ := DataW.trod_bool hu ht
      exact ⟨trivial, trivial⟩
    · rename_i hu; simp at h; subst h
      obtain ⟨s, rfl, _, hs⟩ := DataW.trod_string hu ht
      exact ⟨hs, trivial⟩
    · rename_i k hu; simp at h; subst h
      obtain ⟨m, rfl, _, hw⟩ := DataW.trod_int hu ht
      exact ⟨⟨rfl, hw⟩, trivial⟩
    · rename_i fs hu
      split at h
      · cases h
      · obtain ⟨xs, m, _, _, hlen, hxl, hf⟩ := DataW.trod_struct hu ht
        have hall : ∀ f ∈ fs.toList, ∃ y, DataW.trod enc P w base spare held m f.type ((cs.drop f.offset).take (P.cellsOf f.type)) = some y := by
          intro f hfm
          obtain ⟨i, hi, rfl⟩ := List.mem_iff_getElem.1 hfm
          have hi' : i < fs.size := by simpa using hi
          have := hf i fs[i] (by simp [hi'])
          refine ⟨xs[i]'(by omega), ?_⟩
          rw [Array.getElem_toList, this]
          simp [List.getElem?_eq_getElem (show i < xs.length by omega)]
        have key : ∀ (l : List Field) (acc : List Lf), l.foldl (fun acc f => match acc, leaves P n f.type, P.info? f.type with
            | some ls, some lf, some i => if f.name == "_" || f.offset != ls.length || i.size != lf.length then none else some (ls ++ lf)
            | _, _, _ => none) (some acc) = some ls →
            (∀ f ∈ l, ∃ y, DataW.trod enc P w base spare held m f.type ((cs.drop f.offset).take (P.cellsOf f.type)) = some y) → ∃ tl, ls = acc ++ tl ∧ okw tl (cs.drop acc.length) := by
          intro l
          induction l with
          | nil =>
            intro acc hacc _
            simp at hacc
            subst hacc
            refine ⟨[], by simp, ?_⟩
            rw [List.drop_of_length_le (by omega)]; exact trivial
          | cons f l ihl =>
            intro acc hacc hl
            simp only [List.foldl_cons] at hacc
            cases hlf : leaves P n f.type with
            | none => rw [hlf] at hacc; simp only at hacc; rw [foldl_none _ _ (fun x => rfl)] at hacc; cases hacc
            | some lf =>
              cases hif : P.info? f.type with
              | none => rw [hlf, hif] at hacc; simp only at hacc; rw [foldl_none _ _ (fun x => rfl)] at hacc; cases hacc
              | some i =>
                rw [hlf, hif] at hacc
                simp only at hacc
                split at hacc
                · rw [foldl_none _ _ (fun x => rfl)] at hacc; cases hacc
                · rename_i hcond
                  simp at hcond
                  obtain ⟨⟨c1, c2⟩, c3⟩ := hcond
                  have hcell : P.cellsOf f.type = lf.length := by rw [cellsOf_info hif, c3]
                  obtain ⟨y, hy⟩ := hl f (by simp)
                  have h1 := ih f.type lf m _ y hlf hcell hy
                  obtain ⟨tl, htl, hok⟩ := ihl (acc ++ lf) hacc (fun g hg => hl g (by simp [hg]))
                  refine ⟨lf ++ tl, by rw [htl, List.append_assoc], ?_⟩
                  rw [c2, hcell] at h1
                  rw [List.length_append] at hok
                  have := okw_append h1 hok
                  rw [← List.drop_drop, List.take_append_drop] at this
                  exact this
        obtain ⟨tl, htl, hok⟩ := key fs.toList [] h hall
        simp only [List.nil_append] at htl
        subst htl
        simpa using hok
    · rename_i k E hu
      split at h
      · rename_i le i hle hie
        split at h
        · cases h
        · rename_i hsz2
          simp at hsz2
          simp at h
          obtain ⟨xs, m, _, _, hlen, hxl, hf⟩ := DataW.trod_array hu ht
          have hcell : P.cellsOf E = le.length := by rw [cellsOf_info hie, hsz2]
          rw [hsz, ← h] at hlen
          rw [← h]
          refine okw_replicate (by simpa using hlen) fun j hj => ?_
          have := hf j hj
          rw [hcell] at this
          exact ih E le m _ (xs[j]'(by omega)) hle hcell (by rw [this]; simp [List.getElem?_eq_getElem (show j < xs.length by omega)])
      · cases h
    · cases h
theorem okWide_agg {T m base : Nat} {v : Value} (hT : Ag P T m) (h : Value.okWide P w .any base T v) : ∃ cs, v = .agg ⟨cs⟩ := by
  obtain ⟨d, i, hd, h1, _⟩ := hT.out
  unfold Value.okWide at h
  rw [hd] at h
  rcases h1 with ⟨f, rfl⟩ | ⟨k, e, rfl⟩ <;> (obtain ⟨cs, rfl, _⟩ := h; exact ⟨cs.toList, rfl⟩)
/-- a struct or an array of plain cells that came in by value -/
theorem open_plain {T m base2 : Nat} {ls : List Lf} {v : Value} {d : DataW H} {p : List MemPlace} [hT : Ag P T m] [hE : EqT P T ls] (hv : Value.okWide P w .any base2 T v) (h : DataW.Trod enc P w base spare held T v d p) :
    ∃ cs, v = .agg ⟨cs⟩ ∧ okw ls cs := by
  obtain ⟨cs, rfl⟩ := okWide_agg hT hv
  obtain ⟨fuel, hf⟩ := h
  refine ⟨cs, rfl, ?_⟩
  obtain ⟨h1, h2, _⟩ := hE.out
  obtain ⟨_, i, _, _, hi, hs⟩ := (Ag.of h2).out
  exact trod_plain 8 T ls fuel cs _ h1 (by rw [cellsOf_info hi, hs]) (by simpa [Value.cells] using hf)
end
end V
end Go

/- VN: slices of anything that come in: the cells of each element, and what each is read as. -/
namespace Go
namespace V
open Go.RowKit Go.ChangeShapes Go.WideShapes Go.ChangeAt
set_option linter.unusedVariables false

/-- these cells are read as 'd' -/
def TC {H : Type} (enc : TypeId × Value → H) (P : Program) (w : World) (base : Nat) (spare : Nat → Bool) (held : Bool) (t : TypeId) (cs : List Value) (d : DataW H) : Prop :=
  ∃ fuel p, DataW.trod enc P w base spare held fuel t cs = some (d, p)
section
variable {H : Type} {enc : TypeId × Value → H} {P : Program} {w : World} {base : Nat} {spare : Nat → Bool} {held : Bool}
theorem TC.of {t : TypeId} {v : Value} {cs : List Value} {d : DataW H} {p : List MemPlace} (h : DataW.Trod enc P w base spare held t v d p) (hc : v.cells = ⟨cs⟩) : TC enc P w base spare held t cs d := by
  obtain ⟨fuel, hf⟩ := h
  rw [hc] at hf
  exact ⟨fuel, p, hf⟩
theorem TC.int {t : TypeId} {k : IntKind} {cs : List Value} {d : DataW H} (ht : P.underlying t = some (.int k)) (h : TC enc P w base spare held t cs d) : ∃ n, cs = [.int k n] ∧ (Lit.int k n).wf = true := by
  obtain ⟨fuel, p, hf⟩ := h
  obtain ⟨n, h1, _, h2⟩ := DataW.trod_int ht hf
  exact ⟨n, h1, h2⟩
theorem TC.bool {t : TypeId} {cs : List Value} {d : DataW H} (ht : P.underlying t = some .bool) (h : TC enc P w base spare held t cs d) : ∃ b, cs = [.bool b] := by
  obtain ⟨fuel, p, hf⟩ := h
  obtain ⟨b, h1, _⟩ := DataW.trod_bool ht hf
  exact ⟨b, h1⟩
theorem TC.plain {t : TypeId} {cs : List Value} {d : DataW H} {ls : List Lf} (hl : leaves P 8 t = some ls) (hs : P.cellsOf t = ls.length) (h : TC enc P w base spare held t cs d) : okw ls cs := by
  obtain ⟨fuel, p, hf⟩ := h
  exact trod_plain 8 t ls fuel cs _ hl hs hf
/-- a struct's fields -/
theorem TC.struct {t : TypeId} {fs : Array Field} {cs : List Value} {d : DataW H} (ht : P.underlying t = some (.struct fs)) (h : TC enc P w base spare held t cs d) :
    ∃ ds, d = .agg ds ∧ ds.length = fs.size ∧ cs.length = P.cellsOf t ∧ ∀ (i : Nat) (f : Field) (di : DataW H), fs[i]? = some f → ds[i]? = some di → TC enc P w base spare held f.type ((cs.drop f.offset).take (P.cellsOf f.type)) di := by
  obtain ⟨fuel, p, hf⟩ := h
  obtain ⟨xs, n, _, hx, hl, hn, hf⟩ := DataW.trod_struct ht hf
  simp only [Prod.mk.injEq] at hx
  refine ⟨xs.map (·.1), hx.1, by simpa using hn, hl, fun i f di h1 h2 => ?_⟩
  have := hf i f h1
  rw [List.getElem?_map] at h2
  cases h3 : xs[i]? with
  | none => rw [h3] at h2; cases h2
  | some x =>
    rw [h3] at h2 this
    simp at h2
    exact ⟨n, x.2, by rw [this, ← h2]⟩
/-- a slice's elements -/
theorem TC.slice {t e m : Nat} {cs : List Value} {d : DataW H} (ht : P.underlying t = some (.slice e)) (hm : P.cellsOf e = m) (h0 : 0 < m) (h : TC enc P w base spare held t cs d) :
    ∃ A len cap, ∃ (css : List (List Value)) (ds : List (DataW H)), cs = [.slice A len cap] ∧ css.length = len ∧ ds.length = len ∧ (∀ c ∈ css, c.length = m) ∧ (∀ (i : Nat) (c : List Value), css[i]? = some c → ∀ (j : Nat) (v : Value), c[j]? = some v → ∃ b o, A = some ⟨b, o, none⟩ ∧ w.cell? ⟨b, o + (i * m + j), none⟩ = some v) ∧
      (d = .nil ∧ len = 0 ∨ ∃ sp, d = .slice ds sp) ∧ ∀ (i : Nat) (c : List Value) (di : DataW H), css[i]? = some c → ds[i]? = some di → TC enc P w base spare held e c di := by
  obtain ⟨fuel, p, hf⟩ := h
  rcases DataW.trod_slice ht hf with ⟨rfl, hx⟩ | ⟨a, len, cap, elems, rest, n, _, rfl, hx, hb, hl, hc, hn, he, _⟩
  · simp only [Prod.mk.injEq] at hx
    exact ⟨none, 0, 0, [], [], rfl, rfl, rfl, by simp, by simp, .inl ⟨hx.1, rfl⟩, by simp⟩
  · simp only [Prod.mk.injEq] at hx
    rw [hm] at he
    have each : ∀ i, i < len → ∃ c x, w.cells? base (a.add (i * m)) m = some c ∧ DataW.trod enc P w base spare held n e c = some x ∧ elems[i]? = some x := by
      intro i hi
      have := he i hi
      rw [List.getElem?_eq_getElem (by omega)] at this
      obtain ⟨c, h1, h2⟩ := Option.bind_eq_some_iff.1 this
      exact ⟨c, _, h1, h2, List.getElem?_eq_getElem (by omega)⟩
    have hcs : ∃ css : List (List Value), css.length = len ∧ ∀ i c, css[i]? = some c → ∃ x, w.cells? base (a.add (i * m)) m = some c ∧ DataW.trod enc P w base spare held n e c = some x ∧ elems[i]? = some x := by
      have key : ∀ k, k ≤ len → ∃ css : List (List Value), css.length = k ∧ ∀ i c, css[i]? = some c → ∃ x, w.cells? base (a.add (i * m)) m = some c ∧ DataW.trod enc P w base spare held n e c = some x ∧ elems[i]? = some x := by
        intro k
        induction k with
        | zero => intro _; exact ⟨[], rfl, by simp⟩
        | succ k ih =>
          intro hk
          obtain ⟨css, h1, h2⟩ := ih (by omega)
          obtain ⟨c, x, h3⟩ := each k (by omega)
          refine ⟨css ++ [c], by simp [h1], fun i c' hc' => ?_⟩
          by_cases hi : i < k
          · rw [List.getElem?_append_left (by omega)] at hc'
            exact h2 i c' hc'
          · rw [List.getElem?_append_right (by omega)] at hc'
            have hik : i = k := by
              have := (List.getElem?_eq_some_iff.1 hc').1
              simp at this; omega
            subst hik
            simp [h1] at hc'
            subst hc'
            exact ⟨x, h3⟩
      exact key len (Nat.le_refl _)
    obtain ⟨css, h1, h2⟩ := hcs
    refine ⟨some a, len, cap, css, elems.map (·.1), rfl, h1, by simpa using hn, fun c hc => ?_, fun i c hc j v hv => ?_, .inr ⟨_, hx.1⟩, fun i c di hc hdi => ?_⟩
    · obtain ⟨i, hi⟩ := List.mem_iff_getElem?.1 hc
      obtain ⟨x, h3, _⟩ := h2 i c hi
      exact (World.cells?_some h3).2.1
    · obtain ⟨x, h3, _⟩ := h2 i c hc
      obtain ⟨g1, g2, g3⟩ := World.cells?_some h3
      have hj := (List.getElem?_eq_some_iff.1 hv).1
      have hcell := g3 j (by omega)
      rw [hv] at hcell
      obtain ⟨b, o, sp⟩ := a
      have hsp : sp = none := by
        have hlt : 0 < css.length := by
          have := (List.getElem?_eq_some_iff.1 hc).1
          omega
        obtain ⟨x0, k3, _⟩ := h2 0 css[0] (List.getElem?_eq_getElem hlt)
        obtain ⟨_, k2, k4⟩ := World.cells?_some k3
        have := k4 0 h0
        rw [List.getElem?_eq_getElem (by omega)] at this
        simpa [Addr.add] using World.cell?_spot this
      subst hsp
      refine ⟨b, o, rfl, ?_⟩
      rw [add_none, add_none, Nat.add_assoc] at hcell
      exact hcell
    · obtain ⟨x, h3, h4, h5⟩ := h2 i c hc
      rw [List.getElem?_map, h5] at hdi
      simp at hdi
      exact ⟨n, x.2, by rw [h4, ← hdi]⟩
end
/-- one for each number below n -/
theorem list_of {α : Type} {Q : Nat → α → Prop} (n : Nat) (h : ∀ i, i < n → ∃ x, Q i x) : ∃ l : List α, l.length = n ∧ ∀ (i : Nat) (x : α), l[i]? = some x → Q i x := by
  induction n with
  | zero => exact ⟨[], rfl, by simp⟩
  | succ n ih =>
    obtain ⟨l, h1, h2⟩ := ih fun i hi => h i (by omega)
    obtain ⟨x, hx⟩ := h n (by omega)
    refine ⟨l ++ [x], by simp [h1], fun i y hy => ?_⟩
    by_cases hi : i < n
    · rw [List.getElem?_append_left (by omega)] at hy
      exact h2 i y hy
    · rw [List.getElem?_append_right (by omega)] at hy
      have hlt := (List.getElem?_eq_some_iff.1 hy).1
      simp at hlt
      have : i = n := by omega
      subst this
      simp [h1] at hy
      subst hy
      exact hx
section
variable {H : Type} {enc : TypeId × Value → H} {P : Program} {w : World} {base : Nat} {spare : Nat → Bool} {held : Bool}
/-- bytes -/
theorem TC.bytes {t e : Nat} {cs : List Value} {d : DataW H} (ht : P.underlying t = some (.slice e)) (he : P.underlying e = some (.int .u8)) (hm : P.cellsOf e = 1) (h : TC enc P w base spare held t cs d) :
    ∃ A c ys, cs = [.slice A (List.length ys) c] ∧ Rd w [] A (byts ys) ∧ (d = .nil ∧ ys = [] ∨ ∃ ds sp, d = .slice ds sp ∧ ds.length = ys.length) := by
  obtain ⟨A, len, cap, css, ds, h1, h2, h3, h4, h5, h6, h7⟩ := h.slice ht hm (by omega)
  obtain ⟨ys, hy1, hy2⟩ := list_of (Q := fun i (y : BitVec 8) => css[i]? = some [.int .u8 y.toNat]) len (fun i hi => by
    have hc := List.getElem?_eq_getElem (show i < css.length by omega)
    have hd := List.getElem?_eq_getElem (show i < ds.length by omega)
    obtain ⟨n, hn, hw⟩ := (h7 i _ _ hc hd).int he
    have := wf_u8 hw
    refine ⟨BitVec.ofNat 8 n.toNat, ?_⟩
    rw [hc, hn]
    simp
    omega)
  refine ⟨A, cap, ys, by rw [h1, hy1], fun j v hv => ?_, ?_⟩
  · have hj : j < ys.length := by have := (List.getElem?_eq_some_iff.1 hv).1; simpa [byts_length] using this
    rw [byts_get hj] at hv
    have h8 := hy2 j _ (List.getElem?_eq_getElem hj)
    obtain ⟨b, o, e1, e2⟩ := h5 j _ h8 0 v (by simpa using hv)
    exact ⟨b, o, e1, by simp, by simpa using e2⟩
  · rcases h6 with ⟨e1, e2⟩ | ⟨sp, e1⟩
    · exact .inl ⟨e1, List.eq_nil_of_length_eq_zero (by omega)⟩
    · exact .inr ⟨ds, sp, e1, by omega⟩
end
end V
end Go

/- VT: lists of plain records that come in; what their lengths are held to. -/
namespace Go
namespace V
open Go.RowKit Go.ChangeShapes Go.WideShapes Go.ChangeAt
set_option linter.unusedVariables false

theorem flatten_get {m : Nat} : ∀ (rs : List (List Value)), (∀ r ∈ rs, r.length = m) → ∀ (k : Nat) (v : Value), rs.flatten[k]? = some v → ∃ i j r, rs[i]? = some r ∧ r[j]? = some v ∧ k = i * m + j
  | [], _, k, v, h => by simp at h
  | r :: rs, hm, k, v, h => by
    rw [List.flatten_cons] at h
    by_cases hk : k < r.length
    · rw [List.getElem?_append_left hk] at h
      exact ⟨0, k, r, rfl, h, by simp⟩
    · rw [List.getElem?_append_right (by omega)] at h
      obtain ⟨i, j, r', h1, h2, h3⟩ := flatten_get rs (fun r hr => hm r (List.mem_cons_of_mem _ hr)) _ v h
      have := hm r List.mem_cons_self
      exact ⟨i + 1, j, r', by simpa using h1, h2, by rw [Nat.succ_mul]; omega⟩
theorem map_of {α β : Type} {f : α → β} {Q : α → Prop} : ∀ (rs : List β), (∀ r ∈ rs, ∃ x, r = f x ∧ Q x) → ∃ l : List α, rs = l.map f ∧ ∀ x ∈ l, Q x
  | [], _ => ⟨[], rfl, by simp⟩
  | r :: rs, h => by
    obtain ⟨x, h1, h2⟩ := h r List.mem_cons_self
    obtain ⟨l, h3, h4⟩ := map_of rs fun r hr => h r (List.mem_cons_of_mem _ hr)
    exact ⟨x :: l, by simp [h1, h3], fun y hy => by rcases List.mem_cons.1 hy with rfl | hy; exact h2; exact h4 y hy⟩
theorem okw_length : ∀ {ls : List Lf} {cs : List Value}, okw ls cs → cs.length = ls.length
  | [], [], _ => rfl
  | l :: ls, c :: cs, h => by have := okw_length h.2; simp [this]
  | [], _ :: _, h => h.elim
  | _ :: _, [], h => h.elim
section
variable {H : Type} {enc : TypeId × Value → H} {P : Program} {w : World} {base : Nat} {spare : Nat → Bool} {held : Bool}
/-- a slice of plain records -/
theorem TC.recs {t e : Nat} {ls : List Lf} {cs : List Value} {d : DataW H} (ht : P.underlying t = some (.slice e)) (hl : leaves P 8 e = some ls) (hs : P.cellsOf e = ls.length) (h0 : 0 < ls.length) (h : TC enc P w base spare held t cs d) :
    ∃ A cap, ∃ rs : List (List Value), cs = [.slice A rs.length cap] ∧ (∀ r ∈ rs, okw ls r) ∧ Rd w [] A rs.flatten ∧ (d = .nil ∧ rs = [] ∨ ∃ ds sp, d = .slice ds sp ∧ ds.length = rs.length) := by
  obtain ⟨A, len, cap, css, ds, h1, h2, h3, h4, h5, h6, h7⟩ := h.slice ht hs h0
  refine ⟨A, cap, css, by rw [h1, h2], fun r hr => ?_, fun k v hv => ?_, ?_⟩
  · obtain ⟨i, hi, rfl⟩ := List.mem_iff_getElem.1 hr
    exact (h7 i _ _ (List.getElem?_eq_getElem hi) (List.getElem?_eq_getElem (by omega))).plain hl hs
  · obtain ⟨i, j, r, e1, e2, rfl⟩ := flatten_get css h4 k v hv
    obtain ⟨b, o, e3, e4⟩ := h5 i r e1 j v e2
    exact ⟨b, o, e3, by simp, e4⟩
  · rcases h6 with ⟨e1, e2⟩ | ⟨sp, e1⟩
    · exact .inl ⟨e1, List.eq_nil_of_length_eq_zero (by omega)⟩
    · exact .inr ⟨ds, sp, e1, by omega⟩
/-- the weights of a struct's parts -/
theorem sized_agg {ts : List TypeId} {ds : List (DataW H)} (h : (DataW.weightsEach P ts ds).all (· ≤ reachBytes) = true) {j : Nat} {t : TypeId} {fs : Array Field} {parts : List (DataW H)} (ht : ts[j]? = some t) (hd : ds[j]? = some (.agg parts)) (hu : P.underlying t = some (.struct fs)) :
    (DataW.weightsEach P (fs.toList.map (·.type)) parts).all (· ≤ reachBytes) = true := by
  rw [List.all_eq_true]
  intro x hx
  exact List.all_eq_true.1 h _ (DataW.weights_mem_each ht hd x (by simp only [DataW.weights, hu]; exact hx))
theorem sized_len {ts : List TypeId} {ds : List (DataW H)} (h : (DataW.weightsEach P ts ds).all (· ≤ reachBytes) = true) {j n : Nat} {t e : TypeId} {d : DataW H} (ht : ts[j]? = some t) (hd : ds[j]? = some d) (hu : P.underlying t = some (.slice e))
    (hk : d = .nil ∧ n = 0 ∨ ∃ es sp, d = .slice es sp ∧ es.length = n) : n * P.bytesOf e ≤ reachBytes := by
  rcases hk with ⟨_, rfl⟩ | ⟨es, sp, rfl, rfl⟩
  · simp
  · have := sized_slice h ht hd hu
    have h2 : es.length * P.bytesOf e ≤ (es.length + sp.length) * P.bytesOf e := Nat.mul_le_mul_right _ (by omega)
    omega
end
end V
end Go

/- VB: slices that come in: they have room for what they hold. -/
namespace Go
namespace V
open Go.RowKit Go.ChangeShapes Go.WideShapes
set_option linter.unusedVariables false
set_option linter.unusedSimpArgs false
section
variable {P : Program} {H : Type} {enc : TypeId × Value → H} {w : World} {base : Nat} {spare : Nat → Bool} {held : Bool}
theorem TC.cap {t e len cap : Nat} {A : Option Addr} {d : DataW H} (ht : P.underlying t = some (.slice e)) (h : TC enc P w base spare held t [.slice A len cap] d) : len ≤ cap := by
  obtain ⟨fuel, p, hf⟩ := h
  rcases DataW.trod_slice ht hf with ⟨e1, hx⟩ | ⟨a, len', cap', elems, rest, n, _, e1, hx, hb, hl, hc, hn, he, _⟩
  · simp at e1; omega
  · simp at e1
    obtain ⟨rfl, rfl, rfl⟩ := e1
    omega
/-- a slice of plain records, with its room -/
theorem TC.recsK {t e : Nat} {ls : List Lf} {cs : List Value} {d : DataW H} (ht : P.underlying t = some (.slice e)) (hl : leaves P 8 e = some ls) (hs : P.cellsOf e = ls.length) (h0 : 0 < ls.length) (h : TC enc P w base spare held t cs d) :
    ∃ A cap, ∃ rs : List (List Value), cs = [.slice A rs.length cap] ∧ (∀ r ∈ rs, okw ls r) ∧ Rd w [] A rs.flatten ∧ rs.length ≤ cap ∧ (d = .nil ∧ rs = [] ∨ ∃ ds sp, d = .slice ds sp ∧ ds.length = rs.length) := by
  obtain ⟨A, cap, rs, rfl, h2, h3, h4⟩ := h.recs ht hl hs h0
  exact ⟨A, cap, rs, rfl, h2, h3, TC.cap ht h, h4⟩
end
theorem okw_i {k : IntKind} {ls : List Lf} {cs : List Value} (h : okw (.i k :: ls) cs) : ∃ a cs', cs = .int k a :: cs' ∧ (Lit.int k a).wf = true ∧ okw ls cs' := by
  match cs, h with
  | .int _ a :: cs', ⟨⟨h1, w1⟩, h2⟩ => subst h1; exact ⟨a, cs', rfl, w1, h2⟩
theorem okw_b {ls : List Lf} {cs : List Value} (h : okw (.b :: ls) cs) : ∃ a cs', cs = .bool a :: cs' ∧ okw ls cs' := by
  match cs, h with
  | .bool a :: cs', ⟨h1, h2⟩ => exact ⟨a, cs', rfl, h2⟩
theorem okw_nil {cs : List Value} (h : okw [] cs) : cs = [] := by
  match cs, h with
  | [], _ => rfl
end V
end Go

/- How many values arguments hold; slices of records as they come in. -/
namespace Go.Proofs.Ytamldmgdhaoigaa
open Go.V Go.ChangeShapes Go.WideShapes Go.ChangeAt
set_option linter.unusedVariables false
set_option linter.unusedSimpArgs false

theorem bulk_pos {H : Type} (d : DataW H) : 1 ≤ Rows.uptoBulk d := by
  cases d with
  | lit l => cases l <;> simp [Rows.uptoBulk]
  | _ => simp [Rows.uptoBulk]
theorem bulk_len {H : Type} : ∀ (ds : List (DataW H)), ds.length ≤ Rows.uptoBulkAll ds
  | [] => by simp
  | d :: ds => by
    have h1 := bulk_pos d
    have h2 := bulk_len ds
    simp only [Rows.uptoBulkAll, List.length_cons]
    omega
theorem bulk_get {H : Type} : ∀ {ds : List (DataW H)} {i : Nat} {d : DataW H}, ds[i]? = some d → Rows.uptoBulk d ≤ Rows.uptoBulkAll ds
  | d' :: ds, 0, d, h => by simp at h; subst h; simp [Rows.uptoBulkAll]
  | d' :: ds, i + 1, d, h => by
    have := bulk_get (ds := ds) (i := i) (by simpa using h)
    simp only [Rows.uptoBulkAll]
    omega
  | [], i, d, h => by simp at h
theorem bulk_sum {H α : Type} (f : α → Nat) : ∀ {ds : List (DataW H)} {l : List α}, l.length = ds.length → (∀ (i : Nat) (x : α) (d : DataW H), l[i]? = some x → ds[i]? = some d → f x ≤ Rows.uptoBulk d) → (l.map f).sum ≤ Rows.uptoBulkAll ds
  | [], [], _, _ => by simp
  | d :: ds, x :: l, h, k => by
    have h1 := k 0 x d rfl rfl
    have h2 := bulk_sum f (ds := ds) (l := l) (by simpa using h) (fun i x d hx hd => k (i + 1) x d (by simpa using hx) (by simpa using hd))
    simp only [List.map_cons, List.sum_cons, Rows.uptoBulkAll]
    omega
  | [], _ :: _, h, _ => by simp at h
  | _ :: _, [], h, _ => by simp at h
section
variable {P : Program} {H : Type} {enc : TypeId × Value → H} {w : World} {base : Nat} {spare : Nat → Bool} {held : Bool}
/-- plain records -/
theorem TC.list {α : Type} (f : α → List Value) (Q : α → Prop) {t e : Nat} {ls : List Lf} {cs : List Value} {d : DataW H} (ht : P.underlying t = some (.slice e)) (hl : leaves P 8 e = some ls) (hs : P.cellsOf e = ls.length) (h0 : 0 < ls.length)
    (hf : ∀ r, okw ls r → ∃ x, r = f x ∧ Q x) (h : TC enc P w base spare held t cs d) :
    ∃ A cap, ∃ l : List α, cs = [.slice A l.length cap] ∧ (∀ x ∈ l, Q x) ∧ Rd w [] A (l.flatMap f) ∧ l.length ≤ cap ∧ l.length ≤ Rows.uptoBulk d := by
  obtain ⟨A, cap, rs, rfl, h2, h3, h5, h4⟩ := TC.recsK ht hl hs h0 h
  obtain ⟨l, rfl, hl⟩ := map_of (f := f) (Q := Q) rs fun r hr => hf r (h2 r hr)
  refine ⟨A, cap, l, by rw [List.length_map], hl, by rw [List.flatMap_def]; exact h3, by simpa using h5, ?_⟩
  rcases h4 with ⟨e1, e2⟩ | ⟨ds, sp, rfl, e2⟩
  · have : l = [] := by simpa using e2
    subst this; simp
  · have := bulk_len ds
    simp only [Rows.uptoBulk]
    rw [List.length_map] at e2
    omega
/-- records of whatever -/
theorem TC.listN {α : Type} (f : α → List Value) (Q : α → DataW H → Prop) {t e m : Nat} {cs : List Value} {d : DataW H} (ht : P.underlying t = some (.slice e)) (hm : P.cellsOf e = m) (h0 : 0 < m)
    (hf : ∀ c di, TC enc P w base spare held e c di → ∃ x, c = f x ∧ Q x di) (h : TC enc P w base spare held t cs d) :
    ∃ A cap, ∃ l : List α, cs = [.slice A l.length cap] ∧ Rd w [] A (l.flatMap f) ∧ l.length ≤ cap ∧ l.length ≤ Rows.uptoBulk d ∧ (∀ x ∈ l, ∃ di, Q x di ∧ Rows.uptoBulk di ≤ Rows.uptoBulk d) ∧
      ∀ g : α → Nat, (∀ x di, Q x di → g x ≤ Rows.uptoBulk di) → (l.map g).sum ≤ Rows.uptoBulk d := by
  obtain ⟨A, len, cap, css, ds, rfl, h2, h3, h4, h5, h6, h7⟩ := TC.slice ht hm h0 h
  have hcap := TC.cap ht h
  obtain ⟨l, hl1, hl2⟩ := list_of (Q := fun i (x : α) => css[i]? = some (f x) ∧ ∃ di, ds[i]? = some di ∧ Q x di) len (fun i hi => by
    have hc := List.getElem?_eq_getElem (show i < css.length by omega)
    have hd := List.getElem?_eq_getElem (show i < ds.length by omega)
    obtain ⟨x, e1, e2⟩ := hf _ _ (h7 i _ _ hc hd)
    exact ⟨x, by rw [hc, e1], _, hd, e2⟩)
  have hcss : css = l.map f := by
    apply List.ext_getElem?
    intro i
    by_cases hi : i < len
    · have hx := List.getElem?_eq_getElem (show i < l.length by omega)
      rw [(hl2 i _ hx).1, List.getElem?_map, hx]; rfl
    · rw [List.getElem?_eq_none (by omega), List.getElem?_eq_none (by simp; omega)]
  have hb : ∀ di ∈ ds, Rows.uptoBulk di ≤ Rows.uptoBulk d := by
    intro di hdi
    rcases h6 with ⟨_, e2⟩ | ⟨sp, rfl⟩
    · have : ds = [] := List.eq_nil_of_length_eq_zero (by omega)
      subst this; cases hdi
    · obtain ⟨i, hi, rfl⟩ := List.mem_iff_getElem.1 hdi
      have := bulk_get (List.getElem?_eq_getElem hi)
      simp only [Rows.uptoBulk]
      omega
  refine ⟨A, cap, l, by rw [hl1], fun k v hv => ?_, by omega, ?_, fun x hx => ?_, fun g hg => ?_⟩
  · rw [List.flatMap_def, ← hcss] at hv
    obtain ⟨i, j, r, e1, e2, rfl⟩ := flatten_get css h4 k v hv
    obtain ⟨b, o, e3, e4⟩ := h5 i r e1 j v e2
    exact ⟨b, o, e3, by simp, e4⟩
  · rcases h6 with ⟨_, e2⟩ | ⟨sp, rfl⟩
    · have := bulk_pos d; omega
    · have := bulk_len ds
      simp only [Rows.uptoBulk]
      omega
  · obtain ⟨i, hi, rfl⟩ := List.mem_iff_getElem.1 hx
    obtain ⟨-, di, hdi, hq⟩ := hl2 i _ (List.getElem?_eq_getElem hi)
    exact ⟨di, hq, hb _ (List.mem_of_getElem? hdi)⟩
  · rcases h6 with ⟨_, e2⟩ | ⟨sp, rfl⟩
    · have : l = [] := List.eq_nil_of_length_eq_zero (by omega)
      subst this; simp
    · have := bulk_sum g (ds := ds) (l := l) (by omega) (fun i x di hx hdi => by
        obtain ⟨-, di', hdi', hq⟩ := hl2 i x hx
        rw [hdi] at hdi'; cases hdi'
        exact hg x di hq)
      simp only [Rows.uptoBulk]
      omega
end
end Go.Proofs.Ytamldmgdhaoigaa
