/- The accounts in memory: find. -/
import Derived.Test.YtmfobfamdaajmaaMG
namespace Go.Proofs.Ytmfobfamdaajmaa
open Go.V
set_option linter.unusedVariables false
set_option linter.unusedSimpArgs false

def lrows (l : List Lv) : List Value := l.flatMap Lv.cells
theorem lrows_length (l : List Lv) : (lrows l).length = l.length * 5 := flatMap_length _ 5 (fun _ => rfl) l
theorem lrows_get (l : List Lv) (i j : Nat) (hi : i < l.length) (hj : j < 5) : (lrows l)[i * 5 + j]? = (l[i].cells)[j]? := flatMap_get _ 5 (fun _ => rfl) l i j hi hj
theorem lrows_app (a b : List Lv) : lrows (a ++ b) = lrows a ++ lrows b := by simp [lrows]
abbrev LOwn (v : Value) (l : List Lv) (h : Hp) : Prop := OwnS 61 5 v l.length (lrows l) h
theorem LOwn.ld {w0 : World} {own : List Nat} {b o n c i j : Nat} {l : List Lv} {h hs : Hp} {v : Value} (k : LOwn (.slice (some ⟨b, o, none⟩) n c) l h) (hh : h ⊆ hs) (hi : i < l.length) (hj : j < 5) (hv : (l[i].cells)[j]? = some v) : At w0 own hs ⟨b, o + i * 5 + j, none⟩ [v] := by
  rw [Nat.add_assoc]
  exact OwnS.at1 k hh (by rw [lrows_get l i j hi hj]; exact hv)
theorem lrows_set {l : List Lv} {i k : Nat} {v : Value} {y : Lv} (hi : i < l.length) (hk : k < 5) (hy : y.cells = l[i].cells.set k v) : (lrows l).set (i * 5 + k) v = lrows (l.set i y) := by
  apply List.ext_getElem?
  intro p
  by_cases hp : p < l.length * 5
  · have e : p = p / 5 * 5 + p % 5 := by omega
    have hq : p / 5 < l.length := by omega
    have hr : p % 5 < 5 := Nat.mod_lt _ (by omega)
    rw [e, lrows_get _ _ _ (by simpa using hq) hr, List.getElem?_set, List.getElem_set, lrows_get _ _ _ hq hr, lrows_length]
    by_cases e1 : i = p / 5
    · subst e1
      rw [if_pos rfl, hy, List.getElem?_set]
      have hc : l[p / 5].cells.length = 5 := rfl
      by_cases e2 : k = p % 5
      · rw [if_pos (by omega), if_pos (by omega), if_pos e2, if_pos (by omega)]
      · rw [if_neg (by omega), if_neg e2]
    · rw [if_neg e1, if_neg (by omega)]
  · rw [List.getElem?_eq_none (by rw [List.length_set, lrows_length]; omega), List.getElem?_eq_none (by rw [lrows_length, List.length_set]; omega)]
theorem OwnS.setAt {E m n n' c b o i : Nat} {vs l : List Value} {v : Value} (k : OwnS E m (.slice (some ⟨b, o, none⟩) n' c) n vs [(b, .cells l E)]) (hi : i < n * m) : OwnS E m (.slice (some ⟨b, o, none⟩) n' c) n (vs.set i v) [(b, .cells (l.set (o + i) v) E)] := by
  obtain ⟨hl, k⟩ := k
  refine ⟨by rw [List.length_set]; exact hl, ?_⟩
  rcases k with ⟨h1, h2, h3⟩ | ⟨b', o', cap, l', h1, h2, h3, h4, h5⟩
  · cases h3
  · cases h1; cases h2
    refine .inr ⟨b, o, c, l.set (o + i) v, rfl, rfl, h3, by rw [List.length_set]; exact h4, ?_⟩
    rw [← h5]
    apply List.ext_getElem?
    intro p
    simp only [List.getElem?_take, List.getElem?_drop, List.getElem?_set, List.length_take, List.length_drop]
    by_cases hp : p < n * m
    · rw [if_pos hp]
      by_cases e : o + i = o + p
      · have e' : i = p := by omega
        subst e'
        have hc : n * m ≤ c * m := Nat.mul_le_mul_right _ h3
        rw [if_pos rfl, if_pos rfl, if_pos (by omega), if_pos (by omega)]
      · rw [if_neg e, if_neg (by omega), if_pos hp]
    · rw [if_neg hp]
      have : i ≠ p := by omega
      rw [if_neg this, if_neg hp]
def lx (id : Int) (l : List Lv) : Int := match l.findIdx? (fun o => decide (o.id = id)) with
  | some i => i
  | none => -1
theorem LAt.lx {l : List Lv} {i : Int} {a : Nat} (h : LAt l i a) : lx i l = a := by
  have : l.findIdx? (fun o => decide (o.id = i)) = some a := by
    rw [List.findIdx?_eq_some_iff_getElem]
    exact ⟨h.lt, by simpa using h.id, fun j hj => by simpa using h.bf j (by have := h.lt; omega) hj⟩
  unfold Proofs.Ytmfobfamdaajmaa.lx; rw [this]
theorem lx_no {l : List Lv} {i : Int} (h : i ∉ lids l) : lx i l = -1 := by
  have : l.findIdx? (fun o => decide (o.id = i)) = none := by
    rw [List.findIdx?_eq_none_iff]
    intro x hx
    simpa using fun e : x.id = i => h (List.mem_map.2 ⟨x, hx, e⟩)
  unfold Proofs.Ytmfobfamdaajmaa.lx; rw [this]
set_option maxRecDepth 10000 in
theorem find_ok (w : World) (A : Option Addr) (c : Nat) (id : Int) (l : List Lv) (h : Hp) (own : List Nat) (w0 : World) (hs : Hp) (s : Sat w0 own hs w) (k : LOwn (.slice A l.length c) l h) (hh : h ⊆ hs) (hb : l.length ≤ 2513169434843) :
    Is Try.prog 48 [.slice A l.length c, .int .u64 id] w (.int .i64 (lx id l)) := by
  have hr : Rd w [] A (lrows l) := OwnS.rd k s hh (by simp)
  refine Does.pure (Does.of (n := 20) Try.func48 rfl rfl rfl rfl ?_)
  refine .seq ((.region (.v (.assign rfl) (.nil ?_))))
  refine .seq (.seq ((.region (.v (.assign rfl) (.nil ?_)))))
  refine .block (.loop (X := Nat) (fun i => [(0, .slice A l.length c), (1, .int .u64 id), (5, .int .i64 i)]) (fun _ => []) (fun i => i ≤ l.length ∧ ∀ j (hj : j < l.length), j < i → l[j].id ≠ id) (fun i => l.length - i) 0 ⟨by omega, fun _ _ h => by omega⟩ (.cons rfl (.cons rfl (.cons rfl (.nil _)))) (fun _ s => s) ?_)
  rintro i ⟨hi, hI⟩
  refine .seq (.seq ((.region (.v (.move rfl) (.v (.move rfl) (.v (.len rfl) (.v (.lss rfl rfl) (.nil ?_))))))))
  refine .cond_dec rfl (fun h1 => .skip ?_) (fun h1 => .exit ?_)
  · have hil : i < l.length := by omega
    obtain ⟨b, o, e, hbb, hc⟩ := hr.base (by rw [lrows_length]; omega)
    subst e
    refine .seq (.block (.seq ((.region (.v (.move rfl) (.v (.move rfl) (.v (.indexAddr rfl rfl (by omega) (by omega)) (.v (.fieldAddr rfl) (.v (.load (v := .int .u64 l[i].id) rfl (.old1 (by rw [Int.toNat_natCast]; exact hc (i * 5 + 0) (.int .u64 l[i].id) (by rw [lrows_get l i 0 hil (by omega)]; rfl)) (by simp [bl]))) (.v (.move rfl) (.v (.eqi rfl rfl) (.nil ?_))))))))))))
    refine .cond_dec rfl (fun h2 => ?_) (fun h2 => .skip ?_)
    · refine .seq ((.region (.v (.move rfl) (.v (.assign rfl) (.nil ?_)))))
      have ha : LAt l id i := ⟨hil, h2, hI⟩
      exact .ret ⟨[_], ⟨rfl, trivial⟩, by rw [ha.lx]; rfl⟩
    · refine .region (.v (.move rfl) (.v (.addi rfl rfl (by omega)) (.v (.assign rfl) (.nil ?_))))
      refine ⟨i + 1, ⟨by omega, fun j hj hji => ?_⟩, by omega, .cons rfl (.cons rfl (.cons rfl (.nil _))), fun _ s => s⟩
      by_cases e : j = i
      · subst e; exact h2
      · exact hI j hj (by omega)
  · refine .seq ((.region (.v (.assign rfl) (.nil ?_))))
    have hn : id ∉ lids l := fun hm => by
      obtain ⟨x, hx, e⟩ := List.mem_map.1 hm
      obtain ⟨j, hj, rfl⟩ := List.mem_iff_getElem.1 hx
      exact hI j hj (by omega) e
    exact .ret ⟨[_], ⟨rfl, trivial⟩, by rw [lx_no hn]; rfl⟩
end Go.Proofs.Ytmfobfamdaajmaa
