/- VM: blocks behind an unknown head; own slices that are cut and read. -/
import Derived.Test.YtmfobfamdaajmaaVL
namespace Go
namespace V
open Go.RowKit
set_option linter.unusedVariables false
set_option linter.unusedSimpArgs false

instance (priority := low) Mem.app_right {b : Nat} {c : Ch} {h fr : Hp} [k : Mem b c fr] : Mem b c (h ++ fr) := ⟨List.mem_append_right _ k.out⟩
instance (priority := low - 10) Mem.app_left {b : Nat} {c : Ch} {h fr : Hp} [k : Mem b c h] : Mem b c (h ++ fr) := ⟨List.mem_append_left _ k.out⟩
theorem Upd.app_right {b : Nat} {c : Ch} {h fr fr' : Hp} (k : Upd b c fr fr') : Upd b c (h ++ fr) (h ++ fr') := by
  induction h with
  | nil => exact k
  | cons p h ih => exact .tail ih
instance (priority := low) UpdI.app_right {b : Nat} {c : Ch} {h fr fr' : Hp} [k : UpdI b c fr fr'] : UpdI b c (h ++ fr) (h ++ fr') := ⟨k.out.app_right⟩

/-- some of what is left in memory is let go, or told in another order -/
theorem Does.less {P : Program} {g : Nat} {vals : List Value} {pre : Hp} {w : World} {R : Value → Hp → Prop} (h : Does P g vals pre w (fun v hs => ∃ hs', (∀ w', Sat w (bl pre) hs w' → Sat w (bl pre) hs' w') ∧ R v hs')) : Does P g vals pre w R :=
  fun a b => (h a b).mono fun x w' ⟨v, hs, h1, ⟨hs', h2, h4⟩, h3⟩ => ⟨v, hs', h1, h4, h2 _ h3⟩
theorem Sat.not_in {w0 w : World} {own : List Nat} {b : Nat} {c : Ch} {rest h : Hp} (s : Sat w0 own ((b, c) :: rest) w) (hs : h ⊆ rest) : b ∉ bl h := by
  have nd := s.nd
  simp only [bl, List.map_cons, List.nodup_cons] at nd
  intro hb
  obtain ⟨p, hp, rfl⟩ := List.mem_map.1 hb
  exact nd.1 (List.mem_map.2 ⟨p, hs hp, rfl⟩)
theorem OwnS.len {E m n : Nat} {v : Value} {vs : List Value} {h : Hp} (k : OwnS E m v n vs h) : vs.length = n * m := k.1
theorem OwnS.cap_ {E m n c : Nat} {A : Option Addr} {n' : Nat} {vs : List Value} {h : Hp} (k : OwnS E m (.slice A n' c) n vs h) : n' = n ∧ n ≤ c := by
  rcases k.2 with ⟨h1, h2, _⟩ | ⟨b, o, cap, l, h1, _, h3, _⟩
  · cases h1; subst h2; exact ⟨rfl, by omega⟩
  · cases h1; exact ⟨rfl, h3⟩
/-- the head is cut off -/
theorem OwnS.cut {E m n c : Nat} {A : Option Addr} {vs : List Value} {h : Hp} (k : OwnS E m (.slice A n c) n vs h) {i : Nat} (hi : i ≤ n) (hm : 0 < m) :
    OwnS E m (.slice (cutA A c i m) (n - i) (c - i)) (n - i) (vs.drop (i * m)) h := by
  obtain ⟨hl, k⟩ := k
  refine ⟨by rw [List.length_drop, hl, Nat.sub_mul], ?_⟩
  rcases k with ⟨h1, h2, h3⟩ | ⟨b, o, cap, l, h1, h2, h3, h4, h5⟩
  · cases h1
    obtain rfl : i = 0 := by omega
    exact .inl ⟨by simp [cutA_zero], by simp, h3⟩
  · cases h1
    have hcm : i * m ≤ c * m := Nat.mul_le_mul_right _ (by omega)
    have hsub : (c - i) * m = c * m - i * m := Nat.sub_mul _ _ _
    refine .inr ?_
    by_cases e : c = i
    · have hn : n = i := by omega
      refine ⟨b, o, c - i, l, ?_, h2, by omega, by rw [e]; simp; omega, ?_⟩
      · unfold cutA; rw [if_pos e]
      · rw [hn, Nat.sub_self, Nat.zero_mul, List.take_zero, ← h5, List.drop_take, hn, Nat.sub_self, List.take_zero]
    · refine ⟨b, o + i * m, c - i, l, by rw [cutA_some (by omega)], h2, by omega, by omega, ?_⟩
      rw [← h5, List.drop_take, List.drop_drop, Nat.sub_mul]
/-- what an own slice holds is read -/
theorem OwnS.rd {E m n c : Nat} {A : Option Addr} {vs : List Value} {h hs : Hp} {w0 w : World} {own no : List Nat} (k : OwnS E m (.slice A n c) n vs h) (s : Sat w0 own hs w) (hh : h ⊆ hs) (hn : ∀ b ∈ bl h, b ∉ no) : Rd w no A vs := by
  obtain ⟨hl, k⟩ := k
  rcases k with ⟨h1, h2, h3⟩ | ⟨b, o, cap, l, h1, h2, h3, h4, h5⟩
  · cases h1
    have : vs = [] := by simpa using hl
    subst this
    exact Rd.nil _ _ _
  · cases h1
    subst h2
    intro j v hv
    refine ⟨b, o, rfl, hn b (by simp [bl]), ?_⟩
    have hb : (b, Ch.cells l E) ∈ hs := hh (by simp)
    rw [s.cell hb, ← hv, ← h5, List.getElem?_take, List.getElem?_drop]
    have := (List.getElem?_eq_some_iff.1 hv).1
    rw [if_pos (by omega)]
theorem OwnS.one {E m n n' c : Nat} {A : Option Addr} {vs : List Value} {h : Hp} (k : OwnS E m (.slice A n' c) n vs h) : n' = n := k.cap_.1
theorem Rd.take {w : World} {no : List Nat} {A : Option Addr} {vs : List Value} (h : Rd w no A vs) (k : Nat) : Rd w no A (vs.take k) :=
  h.mono fun j v hv => by
    rw [List.getElem?_take] at hv
    split at hv
    · exact hv
    · cases hv
theorem Sat.disj {w0 w : World} {own : List Nat} {h fr : Hp} (s : Sat w0 own (h ++ fr) w) : ∀ b ∈ bl h, b ∉ bl fr := by
  have nd := s.nd
  simp only [bl, List.map_append, List.nodup_append] at nd
  exact fun b hb hf => nd.2.2 b hb b hf rfl
/-- what is read at an address is loaded there -/
theorem Rd.part {w0 : World} {own : List Nat} {hs : Hp} {b o i : Nat} {vs us : List Value} (h : Rd w0 own (some ⟨b, o, none⟩) vs) (hu : ∀ (j : Nat) (v : Value), us[j]? = some v → vs[i + j]? = some v) : At w0 own hs ⟨b, o + i, none⟩ us := by
  intro w s j v hv
  obtain ⟨b', o', h1, h2, h3⟩ := h _ v (hu j v hv)
  cases h1
  rw [add_none, Nat.add_assoc]
  exact s.cell_old h3 h2
theorem Rd.whole {w0 : World} {own : List Nat} {hs : Hp} {b o : Nat} {vs : List Value} (h : Rd w0 own (some ⟨b, o, none⟩) vs) : At w0 own hs ⟨b, o, none⟩ vs :=
  h.part (i := 0) (fun j v hv => by rwa [Nat.zero_add])
theorem Rd.cell {w0 : World} {own : List Nat} {hs : Hp} {b o : Nat} {vs : List Value} (h : Rd w0 own (some ⟨b, o, none⟩) vs) {i : Nat} {v : Value} (hv : vs[i]? = some v) : At w0 own hs ⟨b, o + i, none⟩ [v] :=
  h.part (fun j u hu => by
    match j, hu with
    | 0, hu => simp at hu; subst hu; simpa using hv)
section
variable {P : Program} {n : Nat} {w0 : World} {own : List Nat} {e : Env} {hs : Hp} {ops : Array Oper} {rest l : List Oper} {K : Env → Hp → Prop}
variable {d : Nat} {ty : TypeId} {pos : String} {aft : Array Edge} {gd : Option (Nat × Bool)}
/-- a call that is lent blocks and gives them back as they were -/
theorem Eff.lend {g : Nat} {f : Operand} {args : List Operand} {at_ : Array TypeId} {cap vals : List Value} {v : Value} {pre fr : Hp}
    (hf : ev e f = some (.func (.func g) #[] ⟨cap⟩)) (ha : evs e args = some vals) [hg : FnT P g] (hp : hs.Perm (pre ++ fr)) (hc : ∀ w, Sat w0 own hs w → Does P g (vals ++ cap) pre w (fun u h => u = v ∧ h = pre)) :
    Eff P n w0 own e hs (.call { callee := .value f, args := ⟨args⟩, argTypes := at_ }) (fun u h => u = v ∧ h = hs) := by
  intro a w ty pos aft gd d K Q hr s hk
  refine Eff.call hf ha hp hc a w ty pos aft gd d K Q hr s ?_
  rintro _ hs' w' ⟨h, ⟨rfl, rfl⟩, rfl⟩ s'
  exact hk _ _ _ ⟨rfl, rfl⟩ (s'.perm hp.symm)
theorem JL.pl {g : Nat} {f : Operand} {args : List Operand} {at_ : Array TypeId} {cap vals : List Value} {v : Value} {pre : Hp} (fr : Hp)
    (hf : ev e f = some (.func (.func g) #[] ⟨cap⟩)) (ha : evs e args = some vals) (hp : hs.Perm (pre ++ fr)) (hc : ∀ w, Sat w0 own hs w → Does P g (vals ++ cap) pre w (fun u h => u = v ∧ h = pre))
    (k : JL P n w0 own ops rest ((d, v) :: e) hs K) [hg : FnT P g] (hdn : Nat.blt d n = true := by rfl) (hw : wantB ops e gd = some true := by rfl) :
    JL P n w0 own ops (⟨some d, .call { callee := .value f, args := ⟨args⟩, argTypes := at_ }, ty, pos, aft, gd⟩ :: rest) e hs K :=
  JL.ef (.lend hf ha hp hc) (fun _ _ ⟨h1, h2⟩ => by subst h1; subst h2; exact k) hdn hw
end
end V
end Go
