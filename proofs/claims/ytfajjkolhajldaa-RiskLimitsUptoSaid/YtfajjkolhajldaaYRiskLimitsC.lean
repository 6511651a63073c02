/- Texts that the row RRiskLimits stands on: RKPlain, VD, VE, VYN, VPK, VSF, RKMem, RKMem2, RKMem3, VSO, SoIns, SoHeap, SoPiv, SoCho, SoBrk, SoLen, SoPart, SoPis, SoPdq. -/
import Derived.Test.YtfajjkolhajldaaYRiskLimitsB
import Derived.Test.YtfajjkolhajldaaYRiskLimitsA
import Derived.Sort.AssemblyPlain
/- Risk: the plain words: what a desk keeps, what it is told, what it answers. -/
namespace Go.Proofs.Ytfajjkolhajldaa
open Go.V
set_option linter.unusedVariables false
set_option linter.unusedSimpArgs false

/-! ### lists with keys -/
section
variable {α : Type} (key : α → Int)
def kfind (k : Int) (l : List α) : Option α := l.find? (fun x => decide (key x = k))
def kupd (k : Int) (f : α → α) (l : List α) : List α := l.map (fun x => if key x = k then f x else x)
def kdel (k : Int) (l : List α) : List α := l.filter (fun x => decide (key x ≠ k))
theorem kfind_key {k : Int} {l : List α} {x : α} (h : kfind key k l = some x) : key x = k := by
  have := List.find?_some h; simpa using this
theorem kfind_mem {k : Int} {l : List α} {x : α} (h : kfind key k l = some x) : x ∈ l := List.mem_of_find?_eq_some h
theorem kfind_none {k : Int} {l : List α} : kfind key k l = none ↔ ∀ x ∈ l, key x ≠ k := by
  unfold kfind; rw [List.find?_eq_none]; simp
theorem kfind_upd (k : Int) (f : α → α) (hf : ∀ x, key (f x) = key x) (j : Int) : ∀ l : List α, kfind key j (kupd key k f l) = if j = k then (kfind key k l).map f else kfind key j l
  | [] => by simp [kfind, kupd]
  | x :: l => by
    have ih := kfind_upd k f hf j l
    unfold kfind kupd at *
    rw [List.map_cons, List.find?_cons, List.find?_cons, List.find?_cons, ih]
    by_cases h1 : key x = k
    · rw [if_pos h1]
      by_cases h2 : j = k
      · subst h2; simp [hf, h1]
      · have h3 : ¬ key x = j := fun e => h2 (e.symm.trans h1)
        simp [hf, h3, h2]
    · rw [if_neg h1]
      by_cases h2 : j = k
      · subst h2; simp [h1]
      · by_cases h3 : key x = j <;> simp [h3, h2]
theorem kfind_del (k j : Int) : ∀ l : List α, kfind key j (kdel key k l) = if j = k then none else kfind key j l
  | [] => by simp [kfind, kdel]
  | x :: l => by
    have ih := kfind_del k j l
    unfold kfind kdel at *
    rw [List.filter_cons]
    by_cases h1 : key x = k
    · simp only [h1, ne_eq, not_true, decide_false, Bool.false_eq_true, if_false]
      rw [ih, List.find?_cons]
      by_cases h2 : j = k
      · simp [h2]
      · have h3 : ¬ key x = j := fun e => h2 (e.symm.trans h1)
        have h4 : ¬ k = j := fun e => h2 e.symm
        simp [h2, h1, h4]
    · simp only [ne_eq, h1, not_false_eq_true, decide_true, if_true]
      rw [List.find?_cons, List.find?_cons, ih]
      by_cases h2 : j = k
      · subst h2; simp [h1]
      · by_cases h3 : key x = j <;> simp [h3, h2]
theorem kfind_app (j : Int) (l : List α) (x : α) : kfind key j (l ++ [x]) = (kfind key j l).or (if key x = j then some x else none) := by
  unfold kfind; rw [List.find?_append]; congr 1
  by_cases h : key x = j <;> simp [h]
theorem kupd_keys (k : Int) (f : α → α) (hf : ∀ x, key (f x) = key x) (l : List α) : (kupd key k f l).map key = l.map key := by
  unfold kupd; rw [List.map_map]; apply List.map_congr_left; intro x _; simp only [Function.comp]; split <;> simp [hf]
theorem kupd_length (k : Int) (f : α → α) (l : List α) : (kupd key k f l).length = l.length := by unfold kupd; rw [List.length_map]
theorem kdel_length (k : Int) (l : List α) : (kdel key k l).length ≤ l.length := List.length_filter_le ..
theorem kdel_nodup {l : List α} (h : (l.map key).Nodup) (k : Int) : ((kdel key k l).map key).Nodup := h.sublist (List.filter_sublist.map _)
theorem kupd_nodup {l : List α} (h : (l.map key).Nodup) (k : Int) (f : α → α) (hf : ∀ x, key (f x) = key x) : ((kupd key k f l).map key).Nodup := by rw [kupd_keys key k f hf]; exact h
theorem kapp_nodup {l : List α} (h : (l.map key).Nodup) {x : α} (hx : kfind key (key x) l = none) : ((l ++ [x]).map key).Nodup := by
  rw [List.map_append, List.nodup_append]
  refine ⟨h, by simp, fun a ha b hb => ?_⟩
  simp at hb; subst hb
  obtain ⟨y, hy, rfl⟩ := List.mem_map.1 ha
  exact (kfind_none key).1 hx y hy
theorem kfind_of_mem {l : List α} (h : (l.map key).Nodup) {x : α} (hx : x ∈ l) : kfind key (key x) l = some x := by
  cases hf : kfind key (key x) l with
  | none => exact absurd rfl ((kfind_none key).1 hf x hx)
  | some y => rw [nodup_inj h (kfind_mem key hf) hx (kfind_key key hf)]
/-- what a map holds is what the list holds -/
theorem mperm {es : List ME} {c : Nat} (hm : MOk es c) {l : List α} (hl : (l.map key).Nodup) {v : α → Value} (h : ∀ k, mget k es = (kfind key k l).map v) :
    (es.map fun y => (y.1, y.2.1)).Perm (l.map fun x => (key x, v x)) := by
  have h1 : (es.map fun y => (y.1, y.2.1)).Nodup := by
    have := hm.k
    exact List.pairwise_map.2 ((List.pairwise_map.1 this).imp fun {a b} hne (e : (a.1, a.2.1) = (b.1, b.2.1)) => hne (Prod.mk.inj e).1)
  have h2 : (l.map fun x => (key x, v x)).Nodup := by
    exact List.pairwise_map.2 ((List.pairwise_map.1 hl).imp fun {a b} hne (e : (key a, v a) = (key b, v b)) => hne (Prod.mk.inj e).1)
  refine (List.perm_ext_iff_of_nodup h1 h2).2 fun z => ⟨fun hz => ?_, fun hz => ?_⟩
  · obtain ⟨y, hy, rfl⟩ := List.mem_map.1 hz
    have hg := hm.get hy
    rw [h] at hg
    obtain ⟨x, hx, hv⟩ := Option.map_eq_some_iff.1 hg
    exact List.mem_map.2 ⟨x, kfind_mem key hx, by rw [kfind_key key hx, hv]⟩
  · obtain ⟨x, hx, rfl⟩ := List.mem_map.1 hz
    have hg : mget (key x) es = some (v x) := by rw [h, kfind_of_mem key hl hx]; rfl
    obtain ⟨y, hy, e1, e2⟩ := mget_some hg
    exact List.mem_map.2 ⟨y, hy, by rw [e1, e2]⟩
end
/-! ### a desk -/
structure RL where
  ord : Int
  op : Int
  cnt : Int
  pos : Int
  wor : Int
abbrev RL.cells (l : RL) : List Value := [.int .u64 l.ord, .int .u64 l.op, .int .i64 l.cnt, .int .u64 l.pos, .int .u64 l.wor]
abbrev rl0 : RL := ⟨0, 0, 0, 0, 0⟩
structure RM where
  n : Int
  st : Bool
  kl : Bool
  l : RL
  b : Int
  s : Int
abbrev RM.cells (m : RM) : List Value := [.bool m.st, .bool m.kl, .int .u64 m.l.ord, .int .u64 m.l.op, .int .i64 m.l.cnt, .int .u64 m.l.pos, .int .u64 m.l.wor, .int .u64 m.b, .int .u64 m.s]
abbrev rm0 (n : Int) : RM := ⟨n, false, false, rl0, 0, 0⟩
structure RO where
  id : Int
  mb : Int
  sd : Int
  r : Int
abbrev RO.cells (o : RO) : List Value := [.int .u32 o.mb, .int .i64 o.sd, .int .u64 o.r]
structure Dk where
  M : List RM
  O : List RO
def Dk.new : Dk := ⟨[], []⟩
def Dk.mem (D : Dk) (n : Int) : RM := (kfind RM.n n D.M).getD (rm0 n)
def Dk.ord (D : Dk) (id : Int) : Option RO := kfind RO.id id D.O
/-- a member's entry is turned, or made -/
def Dk.put (D : Dk) (n : Int) (f : RM → RM) : Dk := match kfind RM.n n D.M with
  | some _ => ⟨kupd RM.n n f D.M, D.O⟩
  | none => ⟨D.M ++ [f (rm0 n)], D.O⟩
def Dk.set (D : Dk) (n : Int) (l : RL) : Dk := D.put n fun m => { m with st := true, l := l }
def Dk.stop (D : Dk) (n : Int) (k : Bool) : Dk := D.put n fun m => { m with kl := k }
def Dk.del (D : Dk) (id : Int) : Dk := ⟨D.M, kdel RO.id id D.O⟩
def Dk.less (D : Dk) (id q : Int) : Dk := match D.ord id with
  | none => D
  | some o => if o.r ≤ q then D.del id else ⟨D.M, kupd RO.id id (fun o => { o with r := (o.r - q) % 18446744073709551616 }) D.O⟩
def Dk.trades (D : Dk) (id q : Int) (buys : Bool) : Dk := match D.ord id with
  | none => D
  | some o => (D.put o.mb fun m => if buys then { m with b := (m.b + q) % 18446744073709551616 } else { m with s := (m.s + q) % 18446744073709551616 }).less id q
def Dk.ev (D : Dk) (e : Ev) : Dk :=
  if e.kind = 1 then (if 0 < e.q then ⟨D.M, kdel RO.id e.id D.O ++ [⟨e.id, e.mb, e.sd, e.q⟩]⟩ else D.del e.id)
  else if e.kind = 3 then (D.trades e.id e.q (decide (e.sd = 1))).trades e.other e.q (decide (e.sd ≠ 1))
  else if e.kind = 4 then D.less e.id e.q
  else D
def Dk.behind (D : Dk) (l : List Ev) : Dk := l.foldl Dk.ev D
def Dk.mine (D : Dk) (n : Int) : List RO := D.O.filter fun o => decide (o.mb = n)
def obuys (n : Int) (O : List RO) : Int := (((O.filter fun o => decide (o.mb = n)).filter fun o => decide (o.sd = 1)).map RO.r).sum
def osells (n : Int) (O : List RO) : Int := (((O.filter fun o => decide (o.mb = n)).filter fun o => decide (o.sd ≠ 1)).map RO.r).sum
def ocnt (n : Int) (O : List RO) : Nat := (O.filter fun o => decide (o.mb = n)).length
/-- how a member stands -/
structure Sg where
  l : RL
  kl : Bool
  bu : Int
  se : Int
  c : Int
  b : Int
  s : Int
abbrev Sg.cells (x : Sg) : List Value := [.int .u64 x.l.ord, .int .u64 x.l.op, .int .i64 x.l.cnt, .int .u64 x.l.pos, .int .u64 x.l.wor, .bool x.kl, .int .u64 x.bu, .int .u64 x.se, .int .i64 x.c, .int .u64 x.b, .int .u64 x.s]
abbrev sg0 : Sg := ⟨rl0, false, 0, 0, 0, 0, 0⟩
def stOf (m : RM) (n : Int) (O : List RO) : Sg := ⟨m.l, m.kl, obuys n O % 18446744073709551616, osells n O % 18446744073709551616, ocnt n O, m.b, m.s⟩
def Dk.stand (D : Dk) (n : Int) : Sg := stOf (D.mem n) n D.O
theorem perm_sum : ∀ {a b : List Int}, a.Perm b → a.sum = b.sum := by
  intro a b h
  induction h with
  | nil => rfl
  | cons x _ ih => rw [List.sum_cons, List.sum_cons, ih]
  | swap x y l => simp only [List.sum_cons]; omega
  | trans _ _ ih1 ih2 => exact ih1.trans ih2
theorem stOf_perm {m : RM} {n : Int} {a b : List RO} (h : a.Perm b) : stOf m n a = stOf m n b := by
  unfold stOf obuys osells ocnt
  rw [perm_sum (((h.filter _).filter _).map RO.r), perm_sum (((h.filter _).filter fun o => decide (o.sd ≠ 1)).map RO.r), (h.filter _).length_eq]
theorem ocnt_le (n : Int) (O : List RO) : ocnt n O ≤ O.length := List.length_filter_le ..
theorem stOf_no {m : RM} {n : Int} {O : List RO} {o : RO} (h : o.mb ≠ n) : stOf m n (O ++ [o]) = stOf m n O := by
  unfold stOf obuys osells ocnt
  rw [List.filter_append, List.filter_cons_of_neg (by simpa using h), List.filter_nil, List.append_nil]
theorem stOf_buy {m : RM} {n : Int} {O : List RO} {o : RO} (h : o.mb = n) (hs : o.sd = 1) : stOf m n (O ++ [o]) = { stOf m n O with bu := ((stOf m n O).bu + o.r) % 18446744073709551616, c := (stOf m n O).c + 1 } := by
  unfold stOf obuys osells ocnt
  rw [List.filter_append, List.filter_cons_of_pos (by simpa using h), List.filter_nil, List.filter_append, List.filter_append, List.filter_cons_of_pos (by simpa using hs), List.filter_cons_of_neg (by simpa using hs)]
  simp only [List.filter_nil, List.map_append, List.map_cons, List.map_nil, List.sum_append, List.sum_cons, List.sum_nil, List.length_append, List.length_cons, List.length_nil, List.append_nil]
  congr 1
  · omega
theorem stOf_sell {m : RM} {n : Int} {O : List RO} {o : RO} (h : o.mb = n) (hs : o.sd ≠ 1) : stOf m n (O ++ [o]) = { stOf m n O with se := ((stOf m n O).se + o.r) % 18446744073709551616, c := (stOf m n O).c + 1 } := by
  unfold stOf obuys osells ocnt
  rw [List.filter_append, List.filter_cons_of_pos (by simpa using h), List.filter_nil, List.filter_append, List.filter_append, List.filter_cons_of_neg (by simpa using hs), List.filter_cons_of_pos (by simpa using hs)]
  simp only [List.filter_nil, List.map_append, List.map_cons, List.map_nil, List.sum_append, List.sum_cons, List.sum_nil, List.length_append, List.length_cons, List.length_nil, List.append_nil]
  congr 1
  · omega
/-! ### each key once -/
structure Dk.Ok (D : Dk) : Prop where
  m : (D.M.map RM.n).Nodup
  o : (D.O.map RO.id).Nodup
theorem Dk.Ok.new : Dk.Ok Dk.new := ⟨by simp [Dk.new], by simp [Dk.new]⟩
theorem Dk.put_O (D : Dk) (n : Int) (f : RM → RM) : (D.put n f).O = D.O := by unfold Dk.put; split <;> rfl
theorem Dk.put_find (D : Dk) (n : Int) (f : RM → RM) (hf : ∀ x, (f x).n = x.n) (j : Int) : kfind RM.n j (D.put n f).M = if j = n then some (f (D.mem n)) else kfind RM.n j D.M := by
  unfold Dk.put Dk.mem
  split
  case h_1 m hm =>
    show kfind RM.n j (kupd RM.n n f D.M) = _
    rw [kfind_upd _ _ _ hf, hm]; rfl
  case h_2 hm =>
    show kfind RM.n j (D.M ++ [f (rm0 n)]) = _
    rw [kfind_app, hf, hm]
    by_cases h : j = n
    · subst h; rw [hm, if_pos rfl, if_pos rfl]; rfl
    · rw [if_neg (fun e => h e.symm), if_neg h, Option.or_none]
theorem Dk.Ok.put {D : Dk} (h : D.Ok) (n : Int) (f : RM → RM) (hf : ∀ x, (f x).n = x.n) : (D.put n f).Ok := by
  refine ⟨?_, by rw [Dk.put_O]; exact h.o⟩
  unfold Dk.put
  split
  · exact kupd_nodup _ h.m _ _ hf
  case h_2 hm => exact kapp_nodup _ h.m (by rw [hf]; exact hm)
theorem Dk.Ok.del {D : Dk} (h : D.Ok) (id : Int) : (D.del id).Ok := ⟨h.m, kdel_nodup _ h.o _⟩
theorem Dk.Ok.less {D : Dk} (h : D.Ok) (id q : Int) : (D.less id q).Ok := by
  unfold Dk.less
  split
  · exact h
  · split
    · exact h.del id
    · exact ⟨h.m, kupd_nodup RO.id h.o id _ (fun _ => rfl)⟩
theorem Dk.Ok.trades {D : Dk} (h : D.Ok) (id q : Int) (b : Bool) : (D.trades id q b).Ok := by
  unfold Dk.trades
  split
  · exact h
  · exact (h.put _ _ (fun x => by split <;> rfl)).less id q
theorem Dk.Ok.ev {D : Dk} (h : D.Ok) (e : Ev) : (D.ev e).Ok := by
  unfold Dk.ev
  split
  · split
    · refine ⟨h.m, kapp_nodup RO.id (h.del e.id).o ?_⟩
      show kfind RO.id e.id (kdel RO.id e.id D.O) = none
      rw [kfind_del, if_pos rfl]
    · exact h.del _
  · split
    · exact (h.trades _ _ _).trades _ _ _
    · split
      · exact h.less _ _
      · exact h
theorem Dk.Ok.behind {D : Dk} (h : D.Ok) : ∀ l : List Ev, (D.behind l).Ok := fun l => by
  induction l generalizing D with
  | nil => exact h
  | cons e l ih => exact ih (h.ev e)
/-! ### how long the lists are -/
theorem Dk.less_len (D : Dk) (id q : Int) : (D.less id q).O.length ≤ D.O.length ∧ (D.less id q).M = D.M := by
  unfold Dk.less
  split
  · exact ⟨Nat.le_refl _, rfl⟩
  · split
    · exact ⟨kdel_length _ _ _, rfl⟩
    · exact ⟨by show (kupd _ _ _ _).length ≤ _; rw [kupd_length]; exact Nat.le_refl _, rfl⟩
theorem Dk.put_len (D : Dk) (n : Int) (f : RM → RM) : (D.put n f).M.length ≤ D.M.length + 1 := by
  unfold Dk.put
  split
  · show (kupd _ _ _ _).length ≤ _; rw [kupd_length]; omega
  · simp
theorem Dk.trades_len (D : Dk) (id q : Int) (b : Bool) : (D.trades id q b).O.length ≤ D.O.length ∧ (D.trades id q b).M.length ≤ D.M.length + 1 := by
  unfold Dk.trades
  split
  · exact ⟨Nat.le_refl _, Nat.le_succ _⟩
  · have h1 := Dk.less_len (D.put ‹RO›.mb fun m => if b then { m with b := (m.b + q) % 18446744073709551616 } else { m with s := (m.s + q) % 18446744073709551616 }) id q
    rw [Dk.put_O] at h1
    exact ⟨h1.1, by rw [h1.2]; exact Dk.put_len ..⟩
theorem Dk.ev_len (D : Dk) (e : Ev) : (D.ev e).O.length ≤ D.O.length + 1 ∧ (D.ev e).M.length ≤ D.M.length + 2 := by
  unfold Dk.ev
  have h0 := kdel_length RO.id e.id D.O
  split
  · split
    · refine ⟨?_, by show D.M.length ≤ _; omega⟩
      show (kdel RO.id e.id D.O ++ _).length ≤ _
      simp only [List.length_append, List.length_cons, List.length_nil]; omega
    · exact ⟨by show (kdel RO.id e.id D.O).length ≤ _; omega, by show D.M.length ≤ _; omega⟩
  · split
    · have h1 := Dk.trades_len D e.id e.q (decide (e.sd = 1))
      have h2 := Dk.trades_len (D.trades e.id e.q (decide (e.sd = 1))) e.other e.q (decide (e.sd ≠ 1))
      exact ⟨by omega, by omega⟩
    · split
      · have h1 := Dk.less_len D e.id e.q
        exact ⟨by omega, by rw [h1.2]; omega⟩
      · exact ⟨by omega, by omega⟩
theorem Dk.behind_len (l : List Ev) (D : Dk) : (D.behind l).O.length ≤ D.O.length + l.length ∧ (D.behind l).M.length ≤ D.M.length + 2 * l.length := by
  induction l generalizing D with
  | nil => exact ⟨Nat.le_refl _, Nat.le_refl _⟩
  | cons e l ih =>
    have h1 := ih (D.ev e)
    have h2 := Dk.ev_len D e
    show ((D.ev e).behind l).O.length ≤ _ ∧ ((D.ev e).behind l).M.length ≤ _
    rw [List.length_cons]
    exact ⟨by omega, by omega⟩
end Go.Proofs.Ytfajjkolhajldaa

/- VD: regions with one store at their end, in which two effects may come up in either order. -/
namespace Go
namespace V
open Go.RowKit
set_option linter.unusedVariables false
set_option linter.unusedSimpArgs false

/-- number i comes up now -/
def JT (P : Program) (n : Nat) (w0 : World) (own : List Nat) (ops : Array Oper) (F : Hp) (z : Nat) (m : Nat) (listed : Array Bool) (e : Env) (hs : Hp) (K : Env → Hp → Prop) (i : Nat) : Prop :=
  ∀ a w, Rep n a e → Sat w0 own hs w → (listed.getD z true = false → F ⊆ hs) →
    wpOp P ops (QN fun a' w' => ∃ e' hs', Rep n a' e' ∧ Sat w0 own hs' w' ∧ K e' hs') i (fun a' w' => ((listed.setIfInBounds i true).getD z true = false → Keeps w0 own F w') ∧ Upto P ops (QN fun a' w' => ∃ e' hs', Rep n a' e' ∧ Sat w0 own hs' w' ∧ K e' hs') (Keeps w0 own F) z m (listed.setIfInBounds i true) a' w') a w
section
variable {P : Program} {n : Nat} {w0 : World} {own : List Nat} {e : Env} {hs F : Hp} {K : Env → Hp → Prop} {z m : Nat} {listed : Array Bool}
variable {d : Nat} {ty : TypeId} {pos : String} {aft : Array Edge} {g : Option (Nat × Bool)}
theorem JZ.two {ops : Array Oper} (i j : Nat) (hr : (Region.ready .any ops listed == [i, j]) = true) (h1 : JT P n w0 own ops F z m listed e hs K i) (h2 : JT P n w0 own ops F z m listed e hs K j) : JZ P n w0 own ops F z (m + 1) listed e hs K := by
  intro a w hr' s hf
  have hr : Region.ready .any ops listed = [i, j] := by simpa using hr
  refine ⟨fun h0 => (by rw [hr] at h0; cases h0), fun k hk => ?_⟩
  rw [hr] at hk
  simp only [List.mem_cons, List.not_mem_nil, or_false] at hk
  rcases hk with rfl | rfl
  · exact h1 a w hr' s hf
  · exact h2 a w hr' s hf
theorem JT.ef {ops : Array Oper} {i : Nat} {op : Op} {R : Value → Hp → Prop} (hi : ops[i]? = some ⟨some d, op, ty, pos, aft, g⟩) (h : Eff P n w0 own e hs op R) (hF : ∀ v hs', R v hs' → F ⊆ hs → F ⊆ hs')
    (k : ∀ v hs', R v hs' → JZ P n w0 own ops F z m (listed.setIfInBounds i true) ((d, v) :: e) hs' K) (hdn : Nat.blt d n = true := by rfl) (hg : wantB ops e g = some true := by rfl) : JT P n w0 own ops F z m listed e hs K i := by
  intro a w hr s hf
  unfold wpOp
  simp only [hi]
  rw [if_pos (wanted_of hr hg)]
  have hsub : ∀ v hs', R v hs' → (listed.setIfInBounds i true).getD z true = false → F ⊆ hs' := by
    intro v hs' r hz'
    have hzj : z ≠ i := by
      intro e
      subst e
      rcases Nat.lt_or_ge z listed.size with h' | h'
      · simp [h'] at hz'
      · simp [h'] at hz'
    rw [getD_set_ne true (Ne.symm hzj)] at hz'
    exact hF v hs' r (hf hz')
  exact .inl (h a w _ _ _ _ _ _ _ hr s fun v hs' w' r s' => ⟨fun hz' => ⟨hs', s', hsub v hs' r hz'⟩, k v hs' r _ _ (hr.put (Nat.le_of_ble_eq_true hdn) v) s' (hsub v hs' r)⟩)
/-- the first operations, in an order of ours; then by hand -/
theorem JC.drawW {id : Nat} {Q : Post} {l : List Oper} (z : Nat) (is : List Nat) (F : Hp) (hF : F ⊆ hs) (hm : P.follows .mixedOrders = true)
    (hB : (ordZ l.toArray z (pickL l is) is (Array.replicate l.length false) && Nat.beq (pickL l is).length is.length && Nat.ble is.length l.length && Nat.blt z l.length) = true)
    (h : JQ P n w0 own l.toArray F z false (pickL l is) e hs (fun _ e' hs' => JZ P n w0 own l.toArray F z (l.length - is.length) (marks_ is (Array.replicate l.length false)) e' hs' (fun e hs => Q .normal e hs))) : JC P n w0 own (.region id l.toArray true) e hs Q := by
  rw [Bool.and_eq_true, Bool.and_eq_true, Bool.and_eq_true] at hB
  obtain ⟨⟨⟨h1, h2⟩, h3⟩, h4⟩ := hB
  have h2 := Nat.eq_of_beq_eq_true h2
  have h3 := Nat.le_of_ble_eq_true h3
  have h4 : z < l.length := Nat.le_of_ble_eq_true h4
  refine JC.drawZ z F hF hm ?_
  have := h (l.length - is.length) is (Array.replicate l.length false) (fun e hs => Q .normal e hs) (pickL_nums' is h2) h1 (by simp) (by simp [h4]) (fun _ => hF) (fun _ e' hs' _ _ ke => ke)
  rw [h2, show is.length + (l.length - is.length) = l.length by omega] at this
  simpa using this
/-- the others, in an order of ours -/
theorem JZ.run {l : List Oper} (is : List Nat) (hF : F ⊆ hs) (hB : (ordZ l.toArray z (pickL l is) is listed && doneB l.toArray (marks_ is listed) && Nat.beq (pickL l is).length is.length && Nat.beq is.length m && Nat.beq listed.size l.length && !listed.getD z true) = true)
    (h : JQ P n w0 own l.toArray F z false (pickL l is) e hs (fun _ e hs => K e hs)) : JZ P n w0 own l.toArray F z m listed e hs K := by
  simp only [Bool.and_eq_true] at hB
  obtain ⟨⟨⟨⟨⟨h1, h2⟩, h3⟩, h4⟩, h5⟩, h6⟩ := hB
  have h3 := Nat.eq_of_beq_eq_true h3
  have h4 := Nat.eq_of_beq_eq_true h4
  have h5 := Nat.eq_of_beq_eq_true h5
  have := h 0 is listed K (pickL_nums' is h3) h1 (by simpa using h5) (by simpa using h6) (fun _ => hF) (fun _ e' hs' _ _ ke => JZ.done h2 ke)
  rw [h3, h4] at this
  simpa using this
end
end V
end Go

/- VE: drawn regions in which blocks are let go. -/
namespace Go
namespace V
open Go.RowKit
set_option linter.unusedVariables false
section
variable {P : Program} {n : Nat} {w0 : World} {own : List Nat} {e : Env} {hs hs2 F : Hp} {ops : Array Oper} {l : List Oper} {K : Env → Hp → Prop}
/-- some of what lies there is let go -/
theorem JK.heap (k : ∀ w, Sat w0 own hs w → Sat w0 own hs2 w) (hF : F ⊆ hs → F ⊆ hs2) (h : JK P n w0 own ops F l e hs2 K) : JK P n w0 own ops F l e hs K :=
  fun m is listed Z h1 h2 h3 hz a w hr s hf => h m is listed Z h1 h2 (hF h3) hz a w hr (k w s) (hF hf)
theorem JK.dropA {h : Hp} (hF : F ⊆ hs) (k : JK P n w0 own ops F l e hs K) : JK P n w0 own ops F l e (h ++ hs) K :=
  JK.heap (fun w s => s.sub (List.sublist_append_right _ _)) (fun _ => hF) k
end
end V
end Go

/- VYN: as VY, where a check against nil may come up at any time too. -/
namespace Go
namespace V
open Go.RowKit
set_option linter.unusedVariables false
set_option linter.unusedSimpArgs false
/-- does the operation touch no memory? -/
def noMemN (o : Oper) : Bool := match o.op with
  | .move _ => true
  | .indexAddr .. => true
  | .fieldAddr .. => true
  | .binOp .. => true
  | .extract .. => true
  | .nilCheck _ => true
  | _ => false
section
variable {P : Program} {n : Nat} {w0 : World} {own : List Nat} {e : Env} {hs F : Hp} {ops : Array Oper} {K : Env → Hp → Prop} {z m : Nat} {listed : Array Bool}
variable {d : Nat} {ty : TypeId} {pos : String} {aft : Array Edge} {g : Option (Nat × Bool)}
theorem JZ.xN {op : Op} {v : Value} (i : Nat) (hi : ops[i]? = some ⟨some d, op, ty, pos, aft, g⟩) (hf : firstB ops listed i = true) (hzi : z ≠ i)
    (h : ∀ w, Val P n w [] e [] op v) (k : JZ P n w0 own ops F z m (listed.setIfInBounds i true) ((d, v) :: e) hs K)
    (hdn : Nat.blt d n = true := by rfl) (hg : wantB ops e g = some true := by rfl) : JZ P n w0 own ops F z (m + 1) listed e hs K := by
  intro a w hr s hF
  unfold firstB at hf
  rw [Bool.and_eq_true, Bool.and_eq_true] at hf
  obtain ⟨⟨f1, f2⟩, f3⟩ := hf
  exact Upto.firstX hi (Region.noSelect_spec f1) (fun _ _ _ h => h) hzi m listed a w (Region.free_spec hi f2) (by simpa using f3)
    (.inl ⟨wanted_of hr hg, fun w' _ => h w' a w' _ _ _ _ _ hr (Sat.begin0 w')⟩) (fun hz => ⟨hs, s, hF hz⟩)
    (k _ _ (hr.put (Nat.le_of_ble_eq_true hdn) v) s fun hz => hF (by rw [getD_set_ne true (Ne.symm hzi)] at hz; exact hz))
end

def ordN (ops : Array Oper) (z : Nat) : List Oper → List Nat → Array Bool → Bool
  | [], [], _ => true
  | o :: l, i :: is, listed => (onlyB ops listed i || (!isEff o && firstZ ops z listed i) || (noMemN o && firstB ops listed i && !Nat.beq z i)) && (o.dst.isSome || Nat.beq i z || listed.getD z true) && ordN ops z l is (listed.setIfInBounds i true)
  | _, _, _ => false
/-- the operations in their order; 'late': the first store has been -/
def JN (P : Program) (n : Nat) (w0 : World) (own : List Nat) (ops : Array Oper) (F : Hp) (z : Nat) (late : Bool) (l : List Oper) (e : Env) (hs : Hp) (K : Bool → Env → Hp → Prop) : Prop :=
  ∀ (m : Nat) (is : List Nat) (listed : Array Bool) (Z : Env → Hp → Prop), Nums ops l is → ordN ops z l is listed = true → listed.size = ops.size → listed.getD z true = late → (late = false → F ⊆ hs) →
    (∀ late' e' hs', (marks_ is listed).getD z true = late' → (late' = false → F ⊆ hs') → K late' e' hs' → JZ P n w0 own ops F z m (marks_ is listed) e' hs' Z) → JZ P n w0 own ops F z (l.length + m) listed e hs Z

theorem eff_memN {o : Oper} (h : isEff o = true) : noMemN o = false := by
  unfold isEff at h; unfold noMemN
  split <;> simp_all
section
variable {P : Program} {n : Nat} {w0 : World} {own : List Nat} {e : Env} {hs F : Hp} {ops : Array Oper} {rest l : List Oper} {K : Bool → Env → Hp → Prop} {z : Nat} {late : Bool} {m : Nat} {listed : Array Bool} {Z : Env → Hp → Prop}
variable {d : Nat} {ty : TypeId} {pos : String} {aft : Array Edge} {g : Option (Nat × Bool)}

theorem JC.drawN {id : Nat} {Q : Post} {l : List Oper} (z : Nat) (is : List Nat) (F : Hp) (hF : F ⊆ hs) (hm : P.follows .mixedOrders = true)
    (hB : (ordN l.toArray z (pickL l is) is (Array.replicate l.length false) && doneB l.toArray (marks_ is (Array.replicate l.length false)) && Nat.beq (pickL l is).length l.length && Nat.beq is.length l.length && Nat.blt z l.length) = true)
    (h : JN P n w0 own l.toArray F z false (pickL l is) e hs (fun _ e' hs' => Q .normal e' hs')) : JC P n w0 own (.region id l.toArray true) e hs Q := by
  rw [Bool.and_eq_true, Bool.and_eq_true, Bool.and_eq_true, Bool.and_eq_true] at hB
  obtain ⟨⟨⟨⟨h1, h2⟩, h3⟩, h4⟩, h5⟩ := hB
  have h3 := Nat.eq_of_beq_eq_true h3
  have h4 := Nat.eq_of_beq_eq_true h4
  have h5 : z < l.length := Nat.le_of_ble_eq_true h5
  have key : ∀ (is : List Nat), (pickL l is).length = is.length → Nums l.toArray (pickL l is) is := by
    intro is
    induction is with
    | nil => intro _; trivial
    | cons i is ih =>
      intro hl
      unfold pickL at hl ⊢
      cases ho : l[i]? with
      | none => rw [ho] at hl; simp at hl
      | some o =>
        rw [ho] at hl
        simp only at hl ⊢
        exact ⟨by simpa using ho, ih (by simpa using hl)⟩
  refine JC.drawZ z F hF hm ?_
  have := h 0 is (Array.replicate l.length false) (fun e hs => Q .normal e hs) (key _ (by omega)) h1 (by simp) (by simp [h5]) (fun _ => hF) (fun _ e' hs' _ _ ke => JZ.done h2 ke)
  rw [h3] at this
  simpa using this
theorem JN.nil (h : K late e hs) : JN P n w0 own ops F z late [] e hs K := fun m is listed Z hn _ hsz hl hF hz => by
  cases is with
  | nil => rw [List.length_nil, Nat.zero_add]; exact hz late e hs hl hF h
  | cons i is => exact hn.elim
theorem JN.mono {K' : Bool → Env → Hp → Prop} (h : JN P n w0 own ops F z late l e hs K) (kk : ∀ b e hs, K b e hs → K' b e hs) : JN P n w0 own ops F z late l e hs K' :=
  fun m k listed Z h1 h2 h3 h4 h5 hz => h m k listed Z h1 h2 h3 h4 h5 fun b e' hs' f1 f ke => hz b e' hs' f1 f (kk b e' hs' ke)
theorem JN.sub {e2 : Env} (hs' : Sub e2 e) (h : JN P n w0 own ops F z late l e2 hs K) : JN P n w0 own ops F z late l e hs K :=
  fun m k listed Z h1 h2 h3 h4 h5 hz a w hr s hF => h m k listed Z h1 h2 h3 h4 h5 hz a w (hr.sub hs') s hF
theorem JN.splitB {t : Nat} {b : Bool} (ht : get e t = some (.bool b)) (h1 : b = true → JN P n w0 own ops F z late l ((t, .bool true) :: e) hs K)
    (h0 : b = false → JN P n w0 own ops F z late l ((t, .bool false) :: e) hs K) : JN P n w0 own ops F z late l e hs K := by
  cases b
  · exact JN.sub (sub_same' ht) (h0 rfl)
  · exact JN.sub (sub_same' ht) (h1 rfl)
/-- a value, ahead of the first store -/
theorem JN.v {op : Op} {v : Value} (h : ∀ hs', F ⊆ hs' → Val P n w0 own e hs' op v) (kk : JN P n w0 own ops F z false rest ((d, v) :: e) hs K) (hdn : Nat.blt d n = true := by rfl) (hg : wantB ops e g = some true := by rfl)
    (hzo : ((ops[z]?).map (·.dst.isNone)) = some true := by rfl) (hx : noMemN ⟨some d, op, ty, pos, aft, g⟩ = false := by rfl) :
    JN P n w0 own ops F z false (⟨some d, op, ty, pos, aft, g⟩ :: rest) e hs K := by
  intro m is listed Z h1 h2 h3 h4 h5 hz
  cases is with
  | nil => exact h1.elim
  | cons k is =>
  obtain ⟨h0, h1⟩ := h1
  unfold ordN at h2
  rw [Bool.and_eq_true, Bool.and_eq_true] at h2
  obtain ⟨⟨h2a, _⟩, h2b⟩ := h2
  rw [hx, Bool.false_and, Bool.false_and, Bool.or_false, Bool.or_eq_true, Bool.and_eq_true] at h2a
  have h2 := And.intro h2a h2b
  have hkz : k ≠ z := by rintro rfl; rw [h0] at hzo; simp at hzo
  have tail : JZ P n w0 own ops F z (rest.length + m) (listed.setIfInBounds k true) ((d, v) :: e) hs Z := kk m is _ Z h1 h2.2 (by simpa using h3) (set_lt h4 (.inr hkz)) h5 hz
  rw [show (⟨some d, op, ty, pos, aft, g⟩ :: rest : List Oper).length + m = (rest.length + m) + 1 from by simp; omega]
  rcases h2.1 with ho | ⟨_, hf⟩
  · exact JZ.v1 k h0 ho (h hs (h5 rfl)) tail rfl hdn hg
  · exact JZ.v k h0 hf h tail hdn hg
/-- a value behind it -/
theorem JN.w {op : Op} {v : Value} (h : Val P n w0 own e hs op v) (kk : JN P n w0 own ops F z true rest ((d, v) :: e) hs K) (hdn : Nat.blt d n = true := by rfl) (hg : wantB ops e g = some true := by rfl) (hx : noMemN ⟨some d, op, ty, pos, aft, g⟩ = false := by rfl) :
    JN P n w0 own ops F z true (⟨some d, op, ty, pos, aft, g⟩ :: rest) e hs K := by
  intro m is listed Z h1 h2 h3 h4 h5 hz
  cases is with
  | nil => exact h1.elim
  | cons k is =>
  obtain ⟨h0, h1⟩ := h1
  unfold ordN at h2
  rw [Bool.and_eq_true, Bool.and_eq_true] at h2
  obtain ⟨⟨h2a, _⟩, h2b⟩ := h2
  rw [hx, Bool.false_and, Bool.false_and, Bool.or_false, Bool.or_eq_true, Bool.and_eq_true] at h2a
  have h2 := And.intro h2a h2b
  have tail : JZ P n w0 own ops F z (rest.length + m) (listed.setIfInBounds k true) ((d, v) :: e) hs Z := kk m is _ Z h1 h2.2 (by simpa using h3) (set_lt h4 (.inl rfl)) (fun h => by cases h) hz
  rw [show (⟨some d, op, ty, pos, aft, g⟩ :: rest : List Oper).length + m = (rest.length + m) + 1 from by simp; omega]
  rcases h2.1 with ho | ⟨_, hf⟩
  · exact JZ.v1 k h0 ho h tail rfl hdn hg
  · unfold firstZ at hf
    rw [h4] at hf
    simp at hf
/-- what touches no memory, at any time -/
theorem JN.x {op : Op} {v : Value} (h : ∀ w0 own hs, Val P n w0 own e hs op v) (kk : JN P n w0 own ops F z late rest ((d, v) :: e) hs K) (hdn : Nat.blt d n = true := by rfl) (hg : wantB ops e g = some true := by rfl)
    (hzo : ((ops[z]?).map (·.dst.isNone)) = some true := by rfl) :
    JN P n w0 own ops F z late (⟨some d, op, ty, pos, aft, g⟩ :: rest) e hs K := by
  intro m is listed Z h1 h2 h3 h4 h5 hz
  cases is with
  | nil => exact h1.elim
  | cons k is =>
  obtain ⟨h0, h1⟩ := h1
  unfold ordN at h2
  rw [Bool.and_eq_true, Bool.and_eq_true] at h2
  obtain ⟨⟨h2a, _⟩, h2b⟩ := h2
  rw [Bool.or_eq_true, Bool.or_eq_true, Bool.and_eq_true, Bool.and_eq_true, Bool.and_eq_true] at h2a
  have hkz : k ≠ z := by rintro rfl; rw [h0] at hzo; simp at hzo
  have tail : JZ P n w0 own ops F z (rest.length + m) (listed.setIfInBounds k true) ((d, v) :: e) hs Z := kk m is _ Z h1 h2b (by simpa using h3) (set_lt h4 (.inr hkz)) h5 hz
  rw [show (⟨some d, op, ty, pos, aft, g⟩ :: rest : List Oper).length + m = (rest.length + m) + 1 from by simp; omega]
  rcases h2a with (ho | ⟨_, hf⟩) | ⟨⟨_, hf⟩, _⟩
  · exact JZ.v1 k h0 ho (h _ _ _) tail rfl hdn hg
  · exact JZ.v k h0 hf (fun hs' _ => h _ _ _) tail hdn hg
  · exact JZ.xN k h0 hf (Ne.symm hkz) (fun w => h _ _ _) tail hdn hg
/-- what works on memory, and leaves a value -/
theorem JN.ef {op : Op} {R : Value → Hp → Prop} (h : Eff P n w0 own e hs op R) (hF : ∀ v hs', R v hs' → F ⊆ hs → F ⊆ hs') (kk : ∀ v hs', R v hs' → JN P n w0 own ops F z late rest ((d, v) :: e) hs' K)
    (hE : isEff ⟨some d, op, ty, pos, aft, g⟩ = true := by rfl) (hdn : Nat.blt d n = true := by rfl) (hg : wantB ops e g = some true := by rfl) (hzo : ((ops[z]?).map (·.dst.isNone)) = some true := by rfl) : JN P n w0 own ops F z late (⟨some d, op, ty, pos, aft, g⟩ :: rest) e hs K := by
  intro m is listed Z h1 h2 h3 h4 h5 hz
  cases is with
  | nil => exact h1.elim
  | cons k is =>
  obtain ⟨h0, h1⟩ := h1
  unfold ordN at h2
  rw [Bool.and_eq_true, Bool.and_eq_true] at h2
  obtain ⟨⟨h2a, _⟩, h2b⟩ := h2
  rw [Bool.or_eq_true, Bool.or_eq_true, hE, eff_memN hE] at h2a
  have h2 := And.intro h2a h2b
  have hkz : k ≠ z := by rintro rfl; rw [h0] at hzo; simp at hzo
  have ho : onlyB ops listed k = true := by
    rcases h2.1 with (h | h) | h
    · exact h
    · simp at h
    · simp at h
  rw [show (⟨some d, op, ty, pos, aft, g⟩ :: rest : List Oper).length + m = (rest.length + m) + 1 from by simp; omega]
  exact JZ.ef k h0 ho h (fun v hs' r => kk v hs' r m is _ Z h1 h2.2 (by simpa using h3) (set_lt h4 (.inr hkz)) (fun e => hF v hs' r (h5 e)) hz) hF rfl hdn hg
/-- the first store -/
theorem JN.st {op : Op} {hs' : Hp} (h : Eff P n w0 own e hs op (fun v h => v = undef ∧ h = hs')) (kk : JN P n w0 own ops F z true rest e hs' K)
    (hE : isEff ⟨none, op, ty, pos, aft, g⟩ = true := by rfl) (hg : wantB ops e g = some true := by rfl) : JN P n w0 own ops F z false (⟨none, op, ty, pos, aft, g⟩ :: rest) e hs K := by
  intro m is listed Z h1 h2 h3 h4 h5 hz
  cases is with
  | nil => exact h1.elim
  | cons k is =>
  obtain ⟨h0, h1⟩ := h1
  unfold ordN at h2
  rw [Bool.and_eq_true, Bool.and_eq_true] at h2
  obtain ⟨⟨h2a, h2c⟩, h2b⟩ := h2
  rw [Bool.or_eq_true, Bool.or_eq_true, hE, eff_memN hE] at h2a
  have h2 := And.intro h2a h2b
  obtain rfl : k = z := by
    rw [h4] at h2c
    exact Nat.eq_of_beq_eq_true (by simpa using h2c)
  have ho : onlyB ops listed k = true := by
    rcases h2.1 with (h | h) | h
    · exact h
    · simp at h
    · simp at h
  have hk : k < listed.size := by rw [h3]; exact (Array.getElem?_eq_some_iff.1 h0).1
  rw [show (⟨none, op, ty, pos, aft, g⟩ :: rest : List Oper).length + m = (rest.length + m) + 1 from by simp; omega]
  refine JZ.st h0 ho (Nat.ble_eq_true_of_le hk) h (kk m is _ Z h1 h2.2 (by simpa using h3) (by simp [hk]) (fun h => by cases h) hz) hg
/-- a store behind it -/
theorem JN.st2 {op : Op} {hs' : Hp} (h : Eff P n w0 own e hs op (fun v h => v = undef ∧ h = hs')) (kk : JN P n w0 own ops F z true rest e hs' K)
    (hE : isEff ⟨none, op, ty, pos, aft, g⟩ = true := by rfl) (hg : wantB ops e g = some true := by rfl) : JN P n w0 own ops F z true (⟨none, op, ty, pos, aft, g⟩ :: rest) e hs K := by
  intro m is listed Z h1 h2 h3 h4 h5 hz
  cases is with
  | nil => exact h1.elim
  | cons k is =>
  obtain ⟨h0, h1⟩ := h1
  unfold ordN at h2
  rw [Bool.and_eq_true, Bool.and_eq_true] at h2
  obtain ⟨⟨h2a, h2c⟩, h2b⟩ := h2
  rw [Bool.or_eq_true, Bool.or_eq_true, hE, eff_memN hE] at h2a
  have h2 := And.intro h2a h2b
  have ho : onlyB ops listed k = true := by
    rcases h2.1 with (h | h) | h
    · exact h
    · simp at h
    · simp at h
  rw [show (⟨none, op, ty, pos, aft, g⟩ :: rest : List Oper).length + m = (rest.length + m) + 1 from by simp; omega]
  have hl := set_lt (k := k) (listed := listed) (z := z) h4 (.inl rfl)
  rcases Decidable.em (z = k) with rfl | hne
  · -- z has been: it cannot come up again
    have hr : Region.ready .any ops listed = [z] := by simpa [onlyB] using ho
    have hm : z ∈ Region.ready .any ops listed := by rw [hr]; simp
    obtain ⟨hu, _⟩ := mem_ready.1 hm
    have hk : z < listed.size := by rw [h3]; exact (Array.getElem?_eq_some_iff.1 h0).1
    simp [hk] at hu h4
    rw [hu] at h4; cases h4
  · exact JZ.st2 k h0 ho h4 (by cases h : Nat.beq z k; rfl; exact absurd (Nat.eq_of_beq_eq_true h) hne) h (kk m is _ Z h1 h2.2 (by simpa using h3) hl (fun h => by cases h) hz) hg
end
section
variable {P : Program} {n : Nat} {w0 : World} {own : List Nat} {e : Env} {hs F : Hp} {ops : Array Oper} {K : Bool → Env → Hp → Prop} {z : Nat} {late : Bool} {rest : List Oper}
variable {d : Nat} {ty : TypeId} {pos : String} {aft : Array Edge} {g : Option (Nat × Bool)}
/-- a call that leaves a value alone -/
theorem JQ.pc {f : Nat} {fo : Operand} {args : List Operand} {at_ : Array TypeId} {cap vals : List Value} {v : Value}
    (hf : ev e fo = some (.func (.func f) #[] ⟨cap⟩)) (ha : evs e args = some vals) (hc : ∀ w, Sat w0 own hs w → Is P f (vals ++ cap) w v) (kk : JQ P n w0 own ops F z late rest ((d, v) :: e) hs K) [hg : FnT P f]
    (hdn : Nat.blt d n = true := by rfl) (hw : wantB ops e g = some true := by rfl) (hzo : ((ops[z]?).map (·.dst.isNone)) = some true := by rfl) :
    JQ P n w0 own ops F z late (⟨some d, .call { callee := .value fo, args := ⟨args⟩, argTypes := at_ }, ty, pos, aft, g⟩ :: rest) e hs K :=
  JQ.ef (.call0 hf ha hc) (fun _ _ ⟨_, ⟨_, h2⟩, h3⟩ f => by subst h2; subst h3; exact f) (fun _ _ ⟨_, ⟨h1, h2⟩, h3⟩ => by subst h1; subst h2; subst h3; exact kk) rfl hdn hw hzo
theorem JN.pc {f : Nat} {fo : Operand} {args : List Operand} {at_ : Array TypeId} {cap vals : List Value} {v : Value}
    (hf : ev e fo = some (.func (.func f) #[] ⟨cap⟩)) (ha : evs e args = some vals) (hc : ∀ w, Sat w0 own hs w → Is P f (vals ++ cap) w v) (kk : JN P n w0 own ops F z late rest ((d, v) :: e) hs K) [hg : FnT P f]
    (hdn : Nat.blt d n = true := by rfl) (hw : wantB ops e g = some true := by rfl) (hzo : ((ops[z]?).map (·.dst.isNone)) = some true := by rfl) :
    JN P n w0 own ops F z late (⟨some d, .call { callee := .value fo, args := ⟨args⟩, argTypes := at_ }, ty, pos, aft, g⟩ :: rest) e hs K :=
  JN.ef (.call0 hf ha hc) (fun _ _ ⟨_, ⟨_, h2⟩, h3⟩ f => by subst h2; subst h3; exact f) (fun _ _ ⟨_, ⟨h1, h2⟩, h3⟩ => by subst h1; subst h2; subst h3; exact kk) rfl hdn hw hzo
end
end V
end Go

/- VPK: guards that are known: picks with a known condition, runs of operations that are passed over. -/
namespace Go
namespace V
open Go.RowKit
set_option linter.unusedVariables false
set_option linter.unusedSimpArgs false

section
variable {P : Program} {n : Nat} {w0 : World} {own : List Nat} {e : Env} {hs F : Hp} {ops : Array Oper} {l : List Oper} {K : Env → Hp → Prop}
theorem Val.pickT {c x y : Operand} {u v : Value} (hc : ev e c = some (.bool true)) (hx : ev e x = some u) (hy : ev e y = some v) : Val P n w0 own e hs (.pick c x y) u := by
  have := Val.pick (P := P) (n := n) (w0 := w0) (own := own) (hs := hs) hc hx hy
  simpa using this
theorem Val.pickF {c x y : Operand} {u v : Value} (hc : ev e c = some (.bool false)) (hx : ev e x = some u) (hy : ev e y = some v) : Val P n w0 own e hs (.pick c x y) v := by
  have := Val.pick (P := P) (n := n) (w0 := w0) (own := own) (hs := hs) hc hx hy
  simpa using this
theorem Val.yes {op : Op} {p : Prop} [Decidable p] (h : Val P n w0 own e hs op (.bool (decide p))) (hp : p) : Val P n w0 own e hs op (.bool true) := by rwa [decide_eq_true hp] at h
theorem Val.no {op : Op} {p : Prop} [Decidable p] (h : Val P n w0 own e hs op (.bool (decide p))) (hp : ¬ p) : Val P n w0 own e hs op (.bool false) := by rwa [decide_eq_false hp] at h
theorem Val.convE {T U : Nat} {x : Operand} {q r : IntKind} {i : Int} (j : Int) (hx : ev e x = some (.int q i)) [hT : IntT P T q] [hU : IntT P U r] (hj : r.wrap i = j) : Val P n w0 own e hs (.convert T U x) (.int r j) := hj ▸ Val.conv hx
/-- k operations are passed over -/
theorem JK.skn {e1 : Env} (k : Nat) (h : skB ops n (l.take k) e = some e1) (kk : JK P n w0 own ops F (l.drop k) e hs K) : JK P n w0 own ops F l e hs K := by
  rw [← List.take_append_drop k l]
  exact JK.app (JK.skips h fun e1' hs' => .nil (JK.sub hs' kk))
theorem JL.skn {e1 : Env} (k : Nat) (h : skB ops n (l.take k) e = some e1) (kk : JL P n w0 own ops (l.drop k) e hs K) : JL P n w0 own ops l e hs K := by
  rw [← List.take_append_drop k l]
  exact JL.app (JL.skips h fun e1' hs' => .nil (fun a w hr s => kk a w (hr.sub hs') s))
end
end V
end Go

/- VSF: one field of one record of an own slice is turned. -/
namespace Go
namespace V
open Go.RowKit
set_option linter.unusedVariables false
set_option linter.unusedSimpArgs false

theorem rows_setF {α : Type} (f : α → List Value) (m : Nat) (hm : ∀ a, (f a).length = m) {l : List α} {i k : Nat} (hi : i < l.length) (hk : k < m) {a' : α} {v : Value} (ha : f a' = (f l[i]).set k v) :
    (l.set i a').flatMap f = (l.flatMap f).set (i * m + k) v := by
  have e1 : l.set i a' = l.take i ++ a' :: l.drop (i + 1) := by rw [List.set_eq_take_append_cons_drop, if_pos hi]
  have e2 : l = l.take i ++ l[i] :: l.drop (i + 1) := by rw [← List.drop_eq_getElem_cons hi, List.take_append_drop]
  have hl : ((l.take i).flatMap f).length = i * m := by rw [flatMap_length f m hm, List.length_take]; congr 1; omega
  rw [e1]
  conv => rhs; rw [e2]
  rw [List.flatMap_append, List.flatMap_cons, List.flatMap_append, List.flatMap_cons, List.set_append, if_neg (by rw [hl]; omega), hl, List.set_append, if_pos (by rw [hm]; omega), ha]
  congr 3; omega
/-- a whole record -/
theorem rows_setR {α : Type} (f : α → List Value) (m : Nat) (hm : ∀ a, (f a).length = m) {l : List α} {i : Nat} (hi : i < l.length) (a' : α) : (l.set i a').flatMap f = splice (l.flatMap f) (i * m) (f a') := by
  have e1 : l.set i a' = l.take i ++ a' :: l.drop (i + 1) := by rw [List.set_eq_take_append_cons_drop, if_pos hi]
  have e2 : l = l.take i ++ l[i] :: l.drop (i + 1) := by rw [← List.drop_eq_getElem_cons hi, List.take_append_drop]
  have hl : ((l.take i).flatMap f).length = i * m := by rw [flatMap_length f m hm, List.length_take]; congr 1; omega
  unfold splice
  rw [e1]
  conv => rhs; rw [e2]
  rw [List.flatMap_append, List.flatMap_cons, List.flatMap_append, List.flatMap_cons, hm, List.take_left' hl, ← List.append_assoc (List.flatMap f (l.take i)) (f l[i]), List.drop_left' (by rw [List.length_append, hl, hm]), List.append_assoc]
theorem OwnS.setR {α : Type} (f : α → List Value) {m : Nat} (hm : ∀ a, (f a).length = m) {E b o c n' : Nat} {l : List α} {lc : List Value} (h : OwnS E m (.slice (some ⟨b, o, none⟩) n' c) l.length (l.flatMap f) [(b, .cells lc E)]) {i : Nat} (hi : i < l.length) (a' : α) :
    OwnS E m (.slice (some ⟨b, o, none⟩) n' c) (l.set i a').length ((l.set i a').flatMap f) [(b, .cells (splice lc (o + i * m) (f a')) E)] := by
  have hlt : i * m + (f a').length ≤ l.length * m := by
    have : (i + 1) * m ≤ l.length * m := Nat.mul_le_mul_right _ hi
    rw [Nat.add_mul, Nat.one_mul] at this
    rw [hm]; omega
  have := OwnS.spliceAt (i := i * m) (us := f a') h hlt
  rw [rows_setR f m hm hi, List.length_set]
  exact this
theorem OwnS.setF {α : Type} (f : α → List Value) {m : Nat} (hm : ∀ a, (f a).length = m) {E b o c n' : Nat} {l : List α} {lc : List Value} (h : OwnS E m (.slice (some ⟨b, o, none⟩) n' c) l.length (l.flatMap f) [(b, .cells lc E)]) {i : Nat} (k : Nat) (hi : i < l.length) (hk : k < m) {a' : α} {v : Value} (ha : f a' = (f l[i]).set k v) :
    OwnS E m (.slice (some ⟨b, o, none⟩) n' c) (l.set i a').length ((l.set i a').flatMap f) [(b, .cells (lc.set (o + i * m + k) v) E)] := by
  have hlt : i * m + k < l.length * m := by
    have : (i + 1) * m ≤ l.length * m := Nat.mul_le_mul_right _ hi
    rw [Nat.add_mul, Nat.one_mul] at this
    omega
  have := OwnS.setAt (i := i * m + k) (v := v) h hlt
  rw [rows_setF f m hm hi hk ha, List.length_set, Nat.add_assoc]
  exact this
theorem getP {vs us : List Value} (i : Nat) (h : (vs.drop i).take us.length = us) : ∀ (j : Nat) (v : Value), us[j]? = some v → vs[i + j]? = some v := by
  intro j v hj
  have e : us[j]? = ((vs.drop i).take us.length)[j]? := by rw [h]
  rw [e, List.getElem?_take] at hj
  split at hj
  · rw [List.getElem?_drop] at hj; exact hj
  · cases hj
section
variable {P : Program} {n : Nat} {w0 : World} {own : List Nat} {e : Env} {hs F : Hp} {ops : Array Oper} {K : Env → Hp → Prop} {m : Nat} {listed : Array Bool}
theorem JD.three (i j k : Nat) (hr : (Region.ready .any ops listed == [i, j, k]) = true) (h1 : JS P n w0 own ops F m listed e hs K i) (h2 : JS P n w0 own ops F m listed e hs K j) (h3 : JS P n w0 own ops F m listed e hs K k) : JD P n w0 own ops F (m + 1) listed e hs K := by
  intro a w hr' s hf
  refine wpAnyH_all (rs := [i, j, k]) (by simpa using hr) (by simp) fun x hx => ?_
  simp only [List.mem_cons, List.not_mem_nil, or_false] at hx
  rcases hx with rfl | rfl | rfl
  · exact h1 a w hr' s hf
  · exact h2 a w hr' s hf
  · exact h3 a w hr' s hf
end
end V
end Go

/- Risk: a desk in memory; its members and orders, changed. -/
namespace Go.Proofs.Ytfajjkolhajldaa
open Go.V
set_option linter.unusedVariables false
set_option linter.unusedSimpArgs false

/-- where a desk lies -/
structure RP where
  b : Nat
  mm : Nat
  mo : Nat
/-- what lies there -/
structure RZ where
  em : List ME
  cm : Nat
  eo : List ME
  co : Nat
abbrev R32 (m : Nat) (es : List ME) (c : Nat) : Nat × Ch := (m, Ch.obj (mapOf .u32 es c))
abbrev R64 (m : Nat) (es : List ME) (c : Nat) : Nat × Ch := (m, Ch.obj (mapOf .u64 es c))
abbrev Rb (p : RP) : Nat × Ch := (p.b, .cells [.map (some p.mm), .map (some p.mo)] 80)
abbrev RZ.H (p : RP) (z : RZ) : Hp := [Rb p, R32 p.mm z.em z.cm, R64 p.mo z.eo z.co]
abbrev Omb (b : Nat) (m : RM) : Nat × Ch := (b, .cells m.cells 82)
abbrev Oob (b : Nat) (o : RO) : Nat × Ch := (b, .cells o.cells 84)
structure RI (D : Dk) (z : RZ) : Prop where
  mo : MOk z.em z.cm
  m : ∀ n, mget n z.em = (kfind RM.n n D.M).map fun x => .agg ⟨x.cells⟩
  oo : MOk z.eo z.co
  o : ∀ id, mget id z.eo = (kfind RO.id id D.O).map fun x => .agg ⟨x.cells⟩
  ok : D.Ok
theorem RI.new : RI Dk.new ⟨[], 0, [], 0⟩ := ⟨MOk.nil, fun _ => rfl, MOk.nil, fun _ => rfl, Dk.Ok.new⟩
theorem RI.mem {D : Dk} {z : RZ} (h : RI D z) (n : Int) : (mget n z.em).getD (.agg ⟨(rm0 n).cells⟩) = .agg ⟨(D.mem n).cells⟩ := by
  rw [h.m]; unfold Dk.mem
  cases kfind RM.n n D.M <;> rfl
theorem RI.put {D : Dk} {z : RZ} (h : RI D z) (n : Int) (f : RM → RM) (hf : ∀ x, (f x).n = x.n) : RI (D.put n f) ⟨(mset n (.agg ⟨(f (D.mem n)).cells⟩) z.em z.cm).1, (mset n (.agg ⟨(f (D.mem n)).cells⟩) z.em z.cm).2, z.eo, z.co⟩ := by
  refine ⟨h.mo.set _ _, fun j => ?_, h.oo, ?_, h.ok.put n f hf⟩
  · rw [D.put_find n f hf]
    dsimp only
    rw [mget_set]
    split
    · rfl
    · exact h.m j
  · rw [Dk.put_O]; exact h.o
theorem RI.del {D : Dk} {z : RZ} (h : RI D z) (id : Int) : RI (D.del id) ⟨z.em, z.cm, mdel id z.eo, z.co⟩ := by
  refine ⟨h.mo, h.m, h.oo.del _, fun j => ?_, h.ok.del id⟩
  show _ = (kfind RO.id j (kdel RO.id id D.O)).map _
  rw [kfind_del]
  dsimp only
  rw [mget_del h.oo]
  split
  · rfl
  · exact h.o j
theorem RI.take {D : Dk} {z : RZ} (h : RI D z) (id q : Int) {o : RO} (ho : D.ord id = some o) (hq : ¬ o.r ≤ q) : RI (D.less id q) ⟨z.em, z.cm, (mset id (.agg ⟨(⟨o.id, o.mb, o.sd, (o.r - q) % 18446744073709551616⟩ : RO).cells⟩) z.eo z.co).1, (mset id (.agg ⟨(⟨o.id, o.mb, o.sd, (o.r - q) % 18446744073709551616⟩ : RO).cells⟩) z.eo z.co).2⟩ := by
  have hl := h.ok.less id q
  unfold Dk.less at hl ⊢
  rw [ho] at hl ⊢
  dsimp only at hl ⊢
  rw [if_neg hq] at hl ⊢
  refine ⟨h.mo, h.m, h.oo.set _ _, fun j => ?_, hl⟩
  dsimp only
  unfold Dk.ord at ho
  rw [mget_set, kfind_upd RO.id id (fun o => { o with r := (o.r - q) % 18446744073709551616 }) (fun _ => rfl), ho]
  split
  · rfl
  · exact h.o j
theorem RI.ack {D : Dk} {z : RZ} (h : RI D z) (id mb sd q : Int) : RI ⟨D.M, kdel RO.id id D.O ++ [⟨id, mb, sd, q⟩]⟩ ⟨z.em, z.cm, (mset id (.agg ⟨(⟨id, mb, sd, q⟩ : RO).cells⟩) (mdel id z.eo) z.co).1, (mset id (.agg ⟨(⟨id, mb, sd, q⟩ : RO).cells⟩) (mdel id z.eo) z.co).2⟩ := by
  have hd := h.del id
  refine ⟨h.mo, h.m, hd.oo.set _ _, fun j => ?_, ⟨h.ok.m, kapp_nodup RO.id hd.ok.o ?_⟩⟩
  · dsimp only
    rw [mget_set, kfind_app]
    have := hd.o j
    dsimp only at this
    rw [this]
    show _ = Option.map _ ((kfind RO.id j (kdel RO.id id D.O)).or _)
    by_cases hj : j = id
    · subst hj
      rw [kfind_del]; simp
    · rw [if_neg hj, if_neg (fun e => hj e.symm), Option.or_none]; rfl
  · show kfind RO.id id (kdel RO.id id D.O) = none
    rw [kfind_del, if_pos rfl]
theorem rk_wrap (x : Int) : IntKind.u64.wrap x = x % 18446744073709551616 := by simp [IntKind.wrap, IntKind.signed, IntKind.bits]
/-! ### the desk's functions -/
theorem RNew_ok (w : World) : Does Try.prog 7 [] [] w (fun v hs => ∃ p, v = .pointer (some ⟨p.b, 0, none⟩) ∧ hs = RZ.H p ⟨[], 0, [], 0⟩) := by
  refine Does.less (Does.of (n := 5) Try.func7 rfl rfl rfl rfl ?_)
  refine .seq ((.region (.v (.assign rfl) (.nil ?_))))
  refine .seq ((.region (.ef (.makeMap .u32) ?_)))
  rintro _ _ ⟨mm, rfl, rfl⟩
  refine .ef (.makeMap .u64) ?_
  rintro _ _ ⟨mo, rfl, rfl⟩
  refine .v (.build (out := [.map (some mm), .map (some mo)]) rfl rfl) (.nw (.box (l := [.map (some mm), .map (some mo)]) rfl rfl) fun b4 => (.v (.assign rfl) (.nil ?_)))
  exact .ret ⟨[_], ⟨rfl, trivial⟩, RZ.H ⟨b4, mm, mo⟩ ⟨[], 0, [], 0⟩, fun _ s => s.take, ⟨b4, mm, mo⟩, rfl, rfl⟩
abbrev setV (n c : Int) : Int := if n = 0 ∨ c < 0 then 1 else 0
abbrev Dk.doSet (D : Dk) (n : Int) (l : RL) : Dk := if n = 0 ∨ l.cnt < 0 then D else D.set n l
set_option maxRecDepth 20000 in
theorem RSet_ok (w : World) (p : RP) (D : Dk) (z : RZ) (hI : RI D z) (n : Int) (l : RL) :
    Does Try.prog 8 [.pointer (some ⟨p.b, 0, none⟩), .int .u32 n, .agg ⟨l.cells⟩] (z.H p) w (fun v hs => ∃ z', (v = .int .i64 (setV n l.cnt) ∧ RI (D.doSet n l) z') ∧ hs = z'.H p) := by
  obtain ⟨b, mm, mo⟩ := p
  obtain ⟨em, cm, eo, co⟩ := z
  have hM := hI.mem n
  dsimp only at hM ⊢
  refine Does.less (Does.of (n := 30) Try.func8 rfl rfl rfl rfl ?_)
  refine .seq ((.region (.nw (.box (l := l.cells) rfl rfl) fun b5 => (.v (.assign rfl) (.nil ?_)))))
  refine .seq (.seq ((.region (.v (.move rfl) (.v (.eqi rfl rfl) (.v (.move rfl) (.or (b2 := decide (l.cnt < 0)) 10 13 3 3 rfl rfl (fun g1 => .v (.fieldAddr rfl) (.v (.load (v := .int .i64 l.cnt) rfl (.one rfl)) (.v (.lss rfl rfl) (.nil ⟨rfl, rfl, rfl, rfl⟩)))) (.nil ?_))))))))
  refine .cond rfl (fun h1 => ?_) (fun h1 => .skip ?_)
  · have h1' : n = 0 ∨ l.cnt < 0 := by simpa using h1
    refine .seq ((.region (.v (.assign rfl) (.nil ?_))))
    exact .ret ⟨[_], ⟨rfl, trivial⟩, RZ.H ⟨b, mm, mo⟩ ⟨em, cm, eo, co⟩, fun _ s => s.take, ⟨em, cm, eo, co⟩, ⟨by rw [setV, if_pos h1']; rfl, by rw [Dk.doSet, if_pos h1']; exact hI⟩, rfl⟩
  · have h1' : ¬ (n = 0 ∨ l.cnt < 0) := by simpa using h1
    refine .seq ((.region (.v (.move rfl) (.v (.nilCheck rfl) (.v (.fieldAddr rfl) (.v (.load (v := .map (some mm)) rfl (.one rfl)) (.v (.move rfl) (.v (.lookupE (es := em) (c := cm) (v := .agg ⟨(D.mem n).cells⟩) rfl rfl hM) (.nw .alloc fun b7 => (.st (.sw rfl rfl) (.nil ?_)))))))))))
    refine .seq ?_
    refine .draw [(b5, .cells l.cells 32)] (by intro y hy; simp at hy ⊢; subst hy; simp) (by kernel_rfl) ?_
    refine .v 0 rfl (by kernel_rfl) (fun _ f => .loadA (vs := l.cells) rfl (.whole (hb := .sub f)) rfl) (.v 1 rfl (by kernel_rfl) (fun _ f => .fieldAddr rfl) (.st 2 rfl (by kernel_rfl) (.storeL rfl rfl rfl) (.v 3 rfl (by kernel_rfl) (fun _ f => .fieldAddr rfl) (.st 4 rfl (by kernel_rfl) (.storeA (b := b7) (vs := l.cells) rfl rfl rfl rfl (by show 7 ≤ 9; omega)) (.heap (hs' := Omb b7 { D.mem n with st := true, l := l } :: (b5, .cells l.cells 32) :: RZ.H ⟨b, mm, mo⟩ ⟨em, cm, eo, co⟩) (fun _ s => s) (by intro y hy; simp at hy; subst hy; simp) (.done (by kernel_rfl) ?_)) (fun _ y hy => by simp at hy; subst hy; simp))) (fun _ y hy => by simp at hy; subst hy; simp)))
    generalize hx : D.mem n = x at hM ⊢
    refine .keep [Omb b7 { x with st := true, l := l }, Rb ⟨b, mm, mo⟩, R32 mm em cm, R64 mo eo co] ?_
    refine .seq ((.drawQ 6 [0, 1, 2, 3, 4, 5, 6] [Omb b7 { x with st := true, l := l }, Rb ⟨b, mm, mo⟩] (by intro y hy; simp at hy ⊢; rcases hy with rfl | rfl <;> simp) (by kernel_rfl) (by kernel_rfl) ?_))
    refine .v (fun _ f => .move rfl) (.v (fun _ f => .nilCheck rfl) (.v (fun _ f => .fieldAddr rfl) (.v (fun _ f => .load (v := .map (some mm)) rfl (.one (hb := .sub f) rfl)) (.v (fun _ f => .move rfl) (.v (fun _ f => .loadA (vs := ({ x with st := true, l := l } : RM).cells) rfl (.whole (hb := .sub f)) rfl) ?_)))))
    refine .st (.mapUpdate (es := em) (c := cm) rfl rfl rfl) (.nil ?_)
    refine .seq ((.region (.v (.assign rfl) (.nil ?_))))
    have hP := hI.put n (fun m => { m with st := true, l := l }) (fun _ => rfl)
    rw [hx] at hP
    exact .ret ⟨[_], ⟨rfl, trivial⟩, RZ.H ⟨b, mm, mo⟩ _, fun _ s => s.take, _, ⟨by rw [setV, if_neg h1']; rfl, by rw [Dk.doSet, if_neg h1']; exact hP⟩, rfl⟩
end Go.Proofs.Ytfajjkolhajldaa

/- Risk: stop, Rest, lessened, trades, Behind. -/
namespace Go.Proofs.Ytfajjkolhajldaa
open Go.V
set_option linter.unusedVariables false
set_option linter.unusedSimpArgs false
set_option maxRecDepth 20000

abbrev Dk.doStop (D : Dk) (n : Int) (k : Bool) : Dk := if (D.mem n).st then D.stop n k else D
abbrev Dk.stopV (D : Dk) (n : Int) : Int := if (D.mem n).st then 0 else 210
theorem RStop_ok (w : World) (p : RP) (D : Dk) (z : RZ) (hI : RI D z) (n : Int) (k : Bool) :
    Does Try.prog 32 [.pointer (some ⟨p.b, 0, none⟩), .int .u32 n, .bool k] (z.H p) w (fun v hs => ∃ z', (v = .int .i64 (D.stopV n) ∧ RI (D.doStop n k) z') ∧ hs = z'.H p) := by
  obtain ⟨b, mm, mo⟩ := p
  obtain ⟨em, cm, eo, co⟩ := z
  have hM := hI.mem n
  dsimp only at hM ⊢
  have hP := hI.put n (fun m => { m with kl := k }) (fun _ => rfl)
  unfold Dk.doStop Dk.stopV Dk.stop
  generalize D.mem n = x at hM hP ⊢
  refine Does.less (Does.of (n := 25) Try.func32 rfl rfl rfl rfl ?_)
  refine .seq ((.region (.v (.assign rfl) (.nil ?_))))
  refine .seq ((.region (.v (.move rfl) (.v (.nilCheck rfl) (.v (.fieldAddr rfl) (.v (.load (v := .map (some mm)) rfl (.one rfl)) (.v (.move rfl) (.v (.lookupE (es := em) (c := cm) (v := .agg ⟨x.cells⟩) rfl rfl hM) (.nw .alloc fun b7 => (.st (.sw rfl rfl) (.nil ?_)))))))))))
  refine .seq (.seq ((.region (.v (.fieldAddr rfl) (.v (.load (v := .bool x.st) rfl (.one rfl)) (.v (.not rfl) (.nil ?_)))))))
  refine .cond rfl (fun h1 => ?_) (fun h1 => .skip ?_)
  · have h1' : ¬ x.st = true := by simpa using h1
    refine .seq ((.region (.v (.assign rfl) (.nil ?_))))
    exact .ret ⟨[_], ⟨rfl, trivial⟩, RZ.H ⟨b, mm, mo⟩ ⟨em, cm, eo, co⟩, fun _ s => s.take, ⟨em, cm, eo, co⟩, ⟨by rw [if_neg h1']; rfl, by rw [if_neg h1']; exact hI⟩, rfl⟩
  · have h1' : x.st = true := by simpa using h1
    refine .seq ((.region (.v (.move rfl) (.v (.fieldAddr rfl) (.st (.storeL rfl rfl rfl) (.nil ?_))))))
    refine .keep [Omb b7 { x with kl := k }, Rb ⟨b, mm, mo⟩, R32 mm em cm, R64 mo eo co] ?_
    refine .seq ((.drawQ 6 [0, 1, 2, 3, 4, 5, 6] [Omb b7 { x with kl := k }, Rb ⟨b, mm, mo⟩] (by intro y hy; simp at hy ⊢; rcases hy with rfl | rfl <;> simp) (by kernel_rfl) (by kernel_rfl) ?_))
    refine .v (fun _ f => .move rfl) (.v (fun _ f => .nilCheck rfl) (.v (fun _ f => .fieldAddr rfl) (.v (fun _ f => .load (v := .map (some mm)) rfl (.one (hb := .sub f) rfl)) (.v (fun _ f => .move rfl) (.v (fun _ f => .loadA (vs := ({ x with kl := k } : RM).cells) rfl (.whole (hb := .sub f)) rfl) ?_)))))
    refine .st (.mapUpdate (es := em) (c := cm) rfl rfl rfl) (.nil ?_)
    refine .seq ((.region (.v (.assign rfl) (.nil ?_))))
    exact .ret ⟨[_], ⟨rfl, trivial⟩, RZ.H ⟨b, mm, mo⟩ _, fun _ s => s.take, _, ⟨by rw [if_pos h1']; rfl, by rw [if_pos h1']; exact hP⟩, rfl⟩
abbrev ro0 : RO := ⟨0, 0, 0, 0⟩
abbrev Dk.restV (D : Dk) (id : Int) : Value := .tuple ⟨[.int .u64 ((D.ord id).getD ro0).r, .bool (D.ord id).isSome]⟩
theorem RI.look {D : Dk} {z : RZ} (h : RI D z) (id : Int) : (mget id z.eo).getD (.agg ⟨ro0.cells⟩) = .agg ⟨((D.ord id).getD ro0).cells⟩ ∧ (mget id z.eo).isSome = (D.ord id).isSome := by
  rw [h.o]; unfold Dk.ord
  cases kfind RO.id id D.O <;> exact ⟨rfl, rfl⟩
theorem RRest_ok (w : World) (p : RP) (D : Dk) (z : RZ) (hI : RI D z) (id : Int) :
    Does Try.prog 46 [.pointer (some ⟨p.b, 0, none⟩), .int .u64 id] (z.H p) w (fun v hs => v = D.restV id ∧ hs = z.H p) := by
  obtain ⟨b, mm, mo⟩ := p
  obtain ⟨em, cm, eo, co⟩ := z
  obtain ⟨hO, hS⟩ := hI.look id
  dsimp only at hO hS ⊢
  unfold Dk.restV
  generalize (D.ord id).getD ro0 = x at hO ⊢
  generalize (D.ord id).isSome = ok at hS ⊢
  refine Does.less (Does.of (n := 20) Try.func46 rfl rfl rfl rfl ?_)
  refine .seq ((.region (.v (.assign rfl) (.v (.assign rfl) (.nil ?_)))))
  refine .seq ((.region (.v (.move rfl) (.v (.nilCheck rfl) (.v (.fieldAddr rfl) (.v (.load (v := .map (some mo)) rfl (.one rfl)) (.v (.move rfl) (.v (.lookup2E (es := eo) (c := co) (v := .agg ⟨x.cells⟩) (ok := ok) rfl rfl hO hS) (.v (.move rfl) (.v (.extract rfl rfl) (.v (.extract rfl rfl) (.nw .alloc fun b6 => (.st (.sw rfl rfl) (.v (.assign rfl) (.nil ?_)))))))))))))))
  refine .seq ((.region (.v (.fieldAddr rfl) (.v (.load (v := .int .u64 x.r) rfl (.one rfl)) (.v (.move rfl) (.v (.assign rfl) (.v (.assign rfl) (.nil ?_))))))))
  exact .ret ⟨[_, _], ⟨rfl, rfl, trivial⟩, RZ.H ⟨b, mm, mo⟩ ⟨em, cm, eo, co⟩, fun _ s => s.take, rfl, rfl⟩
theorem RLess_ok (w : World) (p : RP) (D : Dk) (z : RZ) (hI : RI D z) (id q : Int) :
    Does Try.prog 27 [.pointer (some ⟨p.b, 0, none⟩), .int .u64 id, .int .u64 q] (z.H p) w (fun _ hs => ∃ z', RI (D.less id q) z' ∧ hs = z'.H p) := by
  obtain ⟨b, mm, mo⟩ := p
  obtain ⟨em, cm, eo, co⟩ := z
  obtain ⟨hO, hS⟩ := hI.look id
  dsimp only at hO hS ⊢
  refine Does.less (Does.of (n := 41) Try.func27 rfl rfl rfl rfl ?_)
  cases ho : D.ord id with
  | none =>
    rw [ho] at hO hS
    refine .seq ((.region (.v (.move rfl) (.v (.nilCheck rfl) (.v (.fieldAddr rfl) (.v (.load (v := .map (some mo)) rfl (.one rfl)) (.v (.move rfl) (.v (.lookup2E (es := eo) (c := co) (v := .agg ⟨ro0.cells⟩) (ok := false) rfl rfl hO hS) (.v (.move rfl) (.v (.extract rfl rfl) (.v (.extract rfl rfl) (.nw .alloc fun b6 => (.st (.sw rfl rfl) (.v (.assign rfl) (.nil ?_)))))))))))))))
    refine .block (.seq ((.region (.v (.move rfl) (.v (.not rfl) (.v (.assign rfl) (.nil ?_)))))))
    refine .cond_true rfl (.skip ?_)
    exact ⟨[], trivial, RZ.H ⟨b, mm, mo⟩ ⟨em, cm, eo, co⟩, fun _ s => s.take, ⟨em, cm, eo, co⟩, by unfold Dk.less; rw [ho]; exact hI, rfl⟩
  | some x =>
    rw [ho] at hO hS
    have hP := fun hq => hI.take id q ho hq
    dsimp only [Option.getD, Option.isSome] at hO hS hP
    refine .seq ((.region (.v (.move rfl) (.v (.nilCheck rfl) (.v (.fieldAddr rfl) (.v (.load (v := .map (some mo)) rfl (.one rfl)) (.v (.move rfl) (.v (.lookup2E (es := eo) (c := co) (v := .agg ⟨x.cells⟩) (ok := true) rfl rfl hO hS) (.v (.move rfl) (.v (.extract rfl rfl) (.v (.extract rfl rfl) (.nw .alloc fun b6 => (.st (.sw rfl rfl) (.v (.assign rfl) (.nil ?_)))))))))))))))
    refine .block (.seq ((.region (.v (.move rfl) (.v (.not rfl) (.v (.assign rfl) (.nil ?_)))))))
    refine .cond_false rfl ?_
    refine .seq ((.region (.v (.fieldAddr rfl) (.v (.load (v := .int .u64 x.r) rfl (.one rfl)) (.v (.move rfl) (.v (.leq rfl rfl) (.v (.assign rfl) (.nil ?_))))))))
    refine .cond_dec rfl (fun h2 => ?_) (fun h2 => ?_)
    · refine .region (.v (.move rfl) (.v (.nilCheck rfl) (.v (.fieldAddr rfl) (.v (.load (v := .map (some mo)) rfl (.one rfl)) (.v (.move rfl) (.ef0 (.del (es := eo) (c := co) rfl rfl) ?_))))))
      rintro _ _ ⟨_, rfl⟩
      refine .nil ?_
      exact ⟨[], trivial, RZ.H ⟨b, mm, mo⟩ ⟨em, cm, mdel id eo, co⟩, fun _ s => s.take, ⟨em, cm, mdel id eo, co⟩, by unfold Dk.less; rw [ho]; dsimp only; rw [if_pos h2]; exact hI.del id, rfl⟩
    · have hP := hP h2
      refine .seq ((.region (.v (.fieldAddr rfl) (.v (.load (v := .int .u64 x.r) rfl (.one rfl)) (.v (.move rfl) (.v (.sub_ rfl rfl) (.v (.fieldAddr rfl) (.st (.storeL rfl rfl rfl) (.nil ?_)))))))))
      rw [rk_wrap]
      refine (.drawQ 6 [0, 1, 2, 3, 4, 5, 6] [Oob b6 ⟨x.id, x.mb, x.sd, (x.r - q) % 18446744073709551616⟩, Rb ⟨b, mm, mo⟩] (by intro y hy; simp at hy ⊢; rcases hy with rfl | rfl <;> simp) (by kernel_rfl) (by kernel_rfl) ?_)
      refine .v (fun _ f => .move rfl) (.v (fun _ f => .nilCheck rfl) (.v (fun _ f => .fieldAddr rfl) (.v (fun _ f => .load (v := .map (some mo)) rfl (.one (hb := .sub f) rfl)) (.v (fun _ f => .move rfl) (.v (fun _ f => .loadA (vs := (⟨x.id, x.mb, x.sd, (x.r - q) % 18446744073709551616⟩ : RO).cells) rfl (.whole (hb := .sub f)) rfl) ?_)))))
      refine .st (.mapUpdate (es := eo) (c := co) rfl rfl rfl) (.nil ?_)
      exact ⟨[], trivial, RZ.H ⟨b, mm, mo⟩ _, fun _ s => s.take, _, hP, rfl⟩
end Go.Proofs.Ytfajjkolhajldaa

/- Risk: trades, Behind. -/
namespace Go.Proofs.Ytfajjkolhajldaa
open Go.V
set_option linter.unusedVariables false
set_option linter.unusedSimpArgs false
set_option maxRecDepth 20000

abbrev RM.trd (m : RM) (q : Int) (b : Bool) : RM := if b then { m with b := (m.b + q) % 18446744073709551616 } else { m with s := (m.s + q) % 18446744073709551616 }
theorem RTrades_ok (w : World) (p : RP) (D : Dk) (z : RZ) (hI : RI D z) (id q : Int) (bt : Bool) :
    Does Try.prog 26 [.pointer (some ⟨p.b, 0, none⟩), .int .u64 id, .int .u64 q, .bool bt] (z.H p) w (fun _ hs => ∃ z', RI (D.trades id q bt) z' ∧ hs = z'.H p) := by
  obtain ⟨b, mm, mo⟩ := p
  obtain ⟨em, cm, eo, co⟩ := z
  obtain ⟨hO, hS⟩ := hI.look id
  dsimp only at hO hS ⊢
  refine Does.less (Does.of (n := 51) Try.func26 rfl rfl rfl rfl ?_)
  cases ho : D.ord id with
  | none =>
    rw [ho] at hO hS
    refine .seq ((.region (.v (.move rfl) (.v (.nilCheck rfl) (.v (.fieldAddr rfl) (.v (.load (v := .map (some mo)) rfl (.one rfl)) (.v (.move rfl) (.v (.lookup2E (es := eo) (c := co) (v := .agg ⟨ro0.cells⟩) (ok := false) rfl rfl hO hS) (.v (.move rfl) (.v (.extract rfl rfl) (.v (.extract rfl rfl) (.nw .alloc fun b6 => (.st (.sw rfl rfl) (.v (.assign rfl) (.nil ?_)))))))))))))))
    refine .seq (.seq ((.region (.v (.move rfl) (.v (.not rfl) (.nil ?_))))))
    refine .cond_true rfl ?_
    exact .ret ⟨[], trivial, RZ.H ⟨b, mm, mo⟩ ⟨em, cm, eo, co⟩, fun _ s => s.take, ⟨em, cm, eo, co⟩, by unfold Dk.trades; rw [ho]; exact hI, rfl⟩
  | some x =>
    rw [ho] at hO hS
    have hM := hI.mem x.mb
    have hP := hI.put x.mb (fun m => m.trd q bt) (fun m => by dsimp only [RM.trd]; split <;> rfl)
    dsimp only [Option.getD, Option.isSome] at hO hS hM hP
    have hT : D.trades id q bt = (D.put x.mb (fun m => m.trd q bt)).less id q := by unfold Dk.trades; rw [ho]
    rw [hT]
    generalize D.put x.mb (fun m => m.trd q bt) = D2 at hP ⊢
    clear hT ho hI
    generalize D.mem x.mb = m at hM hP
    refine .seq ((.region (.v (.move rfl) (.v (.nilCheck rfl) (.v (.fieldAddr rfl) (.v (.load (v := .map (some mo)) rfl (.one rfl)) (.v (.move rfl) (.v (.lookup2E (es := eo) (c := co) (v := .agg ⟨x.cells⟩) (ok := true) rfl rfl hO hS) (.v (.move rfl) (.v (.extract rfl rfl) (.v (.extract rfl rfl) (.nw .alloc fun b8 => (.st (.sw rfl rfl) (.v (.assign rfl) (.nil ?_)))))))))))))))
    refine .seq (.seq ((.region (.v (.move rfl) (.v (.not rfl) (.nil ?_))))))
    refine .cond_false rfl (.skip ?_)
    refine .seq ((.drawQ 8 [0, 1, 2, 3, 4, 5, 6, 7, 8] [Oob b8 x, Rb ⟨b, mm, mo⟩, R32 mm em cm] (by intro y hy; simp at hy ⊢; rcases hy with rfl | rfl | rfl <;> simp) (by kernel_rfl) (by kernel_rfl) ?_))
    refine .v (fun _ f => .move rfl) (.v (fun _ f => .nilCheck rfl) (.v (fun _ f => .fieldAddr rfl) (.v (fun _ f => .load (v := .map (some mm)) rfl (.one (hb := .sub f) rfl)) (.v (fun _ f => .fieldAddr rfl) (.v (fun _ f => .load (v := .int .u32 x.mb) rfl (.one (hb := .sub f) rfl)) (.v (fun _ f => .lookupE (es := em) (c := cm) (v := .agg ⟨m.cells⟩) rfl rfl (hb := .sub f) hM) ?_))))))
    refine .ef .alloc (fun v hs' ⟨_, _, e⟩ f => by subst e; exact fun y hy => List.mem_cons_of_mem _ (f hy)) ?_
    rintro _ _ ⟨b10, rfl, rfl⟩
    refine .st (.sw rfl rfl) (.nil ?_)
    refine .mid (X := Unit) (fun _ => [(0, .pointer (some ⟨b, 0, none⟩)), (1, .int .u64 id), (2, .int .u64 q), (8, .pointer (some ⟨b8, 0, none⟩)), (10, .pointer (some ⟨b10, 0, none⟩))]) (fun _ => [Omb b10 (m.trd q bt), Oob b8 x, Rb ⟨b, mm, mo⟩, R32 mm em cm, R64 mo eo co]) (fun _ => True) (.seq ((.region (.v (.move rfl) (.nil ?_))))) ?_
    · refine .cond rfl (fun h2 => ?_) (fun h2 => ?_)
      · refine .region (.v (.fieldAddr rfl) (.v (.load (v := .int .u64 m.b) rfl (.one rfl)) (.v (.move rfl) (.v (.add rfl rfl) (.v (.fieldAddr rfl) (.st (.storeL rfl rfl rfl) (.nil ?_)))))))
        rw [rk_wrap]
        refine ⟨(), trivial, .cons rfl (.cons rfl (.cons rfl (.cons rfl (.cons rfl (.nil _))))), fun w s => ?_⟩
        rw [h2]; exact s
      · refine .region (.v (.fieldAddr rfl) (.v (.load (v := .int .u64 m.s) rfl (.one rfl)) (.v (.move rfl) (.v (.add rfl rfl) (.v (.fieldAddr rfl) (.st (.storeL rfl rfl rfl) (.nil ?_)))))))
        rw [rk_wrap]
        refine ⟨(), trivial, .cons rfl (.cons rfl (.cons rfl (.cons rfl (.cons rfl (.nil _))))), fun w s => ?_⟩
        rw [h2]; exact s
    · rintro ⟨⟩ -
      try dsimp only
      generalize m.trd q bt = m2 at hP ⊢
      refine .seq ((.drawQ 7 [0, 1, 2, 3, 4, 5, 6, 7] [Omb b10 m2, Oob b8 x, Rb ⟨b, mm, mo⟩] (by intro y hy; simp at hy ⊢; rcases hy with rfl | rfl | rfl <;> simp) (by kernel_rfl) (by kernel_rfl) ?_))
      refine .v (fun _ f => .move rfl) (.v (fun _ f => .nilCheck rfl) (.v (fun _ f => .fieldAddr rfl) (.v (fun _ f => .load (v := .map (some mm)) rfl (.one (hb := .sub f) rfl)) (.v (fun _ f => .fieldAddr rfl) (.v (fun _ f => .load (v := .int .u32 x.mb) rfl (.one (hb := .sub f) rfl)) (.v (fun _ f => .loadA (vs := m2.cells) rfl (.whole (hb := .sub f)) rfl) ?_))))))
      refine .st (.mapUpdate (es := em) (c := cm) rfl rfl rfl) (.nil ?_)
      refine .region (.v (.move rfl) (.v (.move rfl) (.v (.move rfl) ?_)))
      refine .ef (.callT (RZ.H ⟨b, mm, mo⟩ ⟨(mset x.mb (.agg ⟨m2.cells⟩) em cm).1, (mset x.mb (.agg ⟨m2.cells⟩) em cm).2, eo, co⟩) rfl rfl fun w s => RLess_ok w ⟨b, mm, mo⟩ D2 _ hP id q) ?_
      rintro _ _ ⟨_, ⟨z', hI', rfl⟩, rfl⟩
      refine .nil ?_
      exact ⟨[], trivial, z'.H ⟨b, mm, mo⟩, fun _ s => s.take, z', hI', rfl⟩
structure RBe where
  i : Nat
  z : RZ
theorem behind_snoc (D : Dk) (l : List Ev) (e : Ev) : D.behind (l ++ [e]) = (D.behind l).ev e := by simp [Dk.behind]
theorem RBehind_ok (w : World) (p : RP) (D : Dk) (z : RZ) (hI : RI D z) (l : List Ev) (A : Option Addr) (cap : Nat) (hA : Rd w [p.b, p.mm, p.mo] A (erows l)) (hl : l.length ≤ 1000000000) :
    Does Try.prog 10 [.pointer (some ⟨p.b, 0, none⟩), .slice A l.length cap] (z.H p) w (fun _ hs => ∃ z', RI (D.behind l) z' ∧ hs = z'.H p) := by
  obtain ⟨b, mm, mo⟩ := p
  dsimp only at hA ⊢
  refine Does.less (Does.of (n := 67) Try.func10 rfl rfl rfl rfl ?_)
  refine .seq ((.region (.v (.move rfl) (.v (.len rfl) (.v (.move rfl) (.nil ?_))))))
  refine .block (.loop (X := RBe) (fun x => [(0, .pointer (some ⟨b, 0, none⟩)), (6, .slice A l.length cap), (7, .int .i64 l.length), (8, .int .i64 x.i)]) (fun x => x.z.H ⟨b, mm, mo⟩) (fun x => x.i ≤ l.length ∧ RI (D.behind (l.take x.i)) x.z) (fun x => l.length - x.i) ⟨0, z⟩ ⟨Nat.zero_le _, hI⟩ (.cons rfl (.cons rfl (.cons rfl (.cons rfl (.nil _))))) (fun _ s => s) ?_)
  clear hI
  rintro ⟨i, z⟩ ⟨hi, hI⟩
  dsimp only at hi hI ⊢
  refine .seq ((.region (.v (.lss rfl rfl) (.nil ?_))))
  refine .seq (.cond_dec rfl (fun h1 => .skip ?_) (fun h1 => .exit ?_))
  · have hil : i < l.length := by omega
    obtain ⟨ba, oa, rfl, hc⟩ := Rd.recs Ev.cells 13 (fun _ => rfl) hA (by omega) (by omega)
    have qr := fun hs' => recAt Ev.cells 13 (fun _ => rfl) (z := (i : Int)) (hc hs') hil
    have hsn : D.behind (l.take (i + 1)) = (D.behind (l.take i)).ev l[i] := by rw [List.take_succ_eq_append_getElem hil, behind_snoc]
    generalize l[i] = e at qr hsn
    generalize D.behind (l.take i) = D1 at hI hsn
    refine .mid (X := RZ) (fun _ => [(0, .pointer (some ⟨b, 0, none⟩)), (6, .slice (some ⟨ba, oa, none⟩) l.length cap), (7, .int .i64 l.length), (8, .int .i64 (i : Nat))]) (fun z => z.H ⟨b, mm, mo⟩) (fun z => RI (D1.ev e) z) (.block (.seq ((.region (.v (.indexAddr rfl rfl (by omega) (by omega)) (.v (.loadA (vs := e.cells) rfl (qr _) rfl) (.nw .alloc fun b5 => (.st (.sw rfl rfl) (.nil ?_))))))))) ?_
    · refine .seq ((.region (.v (.fieldAddr rfl) (.v (.load (v := .int .i64 e.kind) rfl (.one rfl)) (.nil ?_)))))
      refine .block (.seq ((.region (.v (.eqi rfl rfl) (.v (.assign rfl) (.nil ?_))))))
      obtain ⟨em, cm, eo, co⟩ := z
      unfold Dk.ev
      refine .cond_dec rfl (fun h2 => ?_) (fun h2 => ?_)
      · rw [if_pos h2]
        have hD := hI.del e.id
        dsimp only at hD
        refine .seq ((.drawP [0, 4, 5, 1, 2, 3, 6] [(b5, .cells e.cells 40), Rb ⟨b, mm, mo⟩] (by intro y hy; simp at hy ⊢; rcases hy with rfl | rfl <;> simp) (by kernel_rfl) (by kernel_rfl) ?_))
        refine .v (fun _ f => .move rfl) (.v (fun _ f => .fieldAddr rfl) (.v (fun _ f => .load (v := .int .u64 e.id) rfl (.one (hb := .sub f) rfl)) (.v (fun _ f => .nilCheck rfl) (.v (fun _ f => .fieldAddr rfl) (.v (fun _ f => .load (v := .map (some mo)) rfl (.one (hb := .sub f) rfl)) ?_)))))
        refine .ef0 (.del (es := eo) (c := co) rfl rfl) (fun _ _ ⟨_, e⟩ _ => by subst e; intro p hp; simp at hp ⊢; rcases hp with rfl | rfl <;> simp) ?_
        rintro _ _ ⟨rfl, rfl⟩
        refine .nil ?_
        refine .seq ((.region (.v (.fieldAddr rfl) (.v (.load (v := .int .u64 e.q) rfl (.one rfl)) (.v (.gtr rfl rfl) (.nil ?_))))))
        refine .cond_dec rfl (fun h3 => ?_) (fun h3 => .skip ?_)
        · rw [if_pos (by omega)]
          refine (.drawQ 13 [0, 1, 2, 3, 4, 5, 6, 7, 8, 9, 10, 11, 12, 13] [(b5, .cells e.cells 40), Rb ⟨b, mm, mo⟩] (by intro y hy; simp at hy ⊢; rcases hy with rfl | rfl <;> simp) (by kernel_rfl) (by kernel_rfl) ?_)
          refine .v (fun _ f => .move rfl) (.v (fun _ f => .nilCheck rfl) (.v (fun _ f => .fieldAddr rfl) (.v (fun _ f => .load (v := .map (some mo)) rfl (.one (hb := .sub f) rfl)) (.v (fun _ f => .fieldAddr rfl) (.v (fun _ f => .load (v := .int .u64 e.id) rfl (.one (hb := .sub f) rfl)) (.v (fun _ f => .fieldAddr rfl) (.v (fun _ f => .load (v := .int .u32 e.mb) rfl (.one (hb := .sub f) rfl)) (.v (fun _ f => .fieldAddr rfl) (.v (fun _ f => .load (v := .int .i64 e.sd) rfl (.one (hb := .sub f) rfl)) (.v (fun _ f => .fieldAddr rfl) (.v (fun _ f => .load (v := .int .u64 e.q) rfl (.one (hb := .sub f) rfl)) (.v (fun _ f => .build (out := (⟨e.id, e.mb, e.sd, e.q⟩ : RO).cells) rfl rfl) ?_))))))))))))
          refine .st (.mapUpdate (es := mdel e.id eo) (c := co) rfl rfl rfl) (.nil ?_)
          exact ⟨_, hI.ack e.id e.mb e.sd e.q, .cons rfl (.cons rfl (.cons rfl (.cons rfl (.nil _)))), fun _ s => s.take⟩
        · rw [if_neg (by omega)]
          exact ⟨⟨em, cm, mdel e.id eo, co⟩, hD, .cons rfl (.cons rfl (.cons rfl (.cons rfl (.nil _)))), fun _ s => s.take⟩
      · rw [if_neg h2]
        refine .seq ((.region (.v (.eqi rfl rfl) (.v (.assign rfl) (.nil ?_)))))
        refine .cond_dec rfl (fun h3 => ?_) (fun h3 => ?_)
        · rw [if_pos h3]
          refine .seq ((.region (.v (.move rfl) (.v (.fieldAddr rfl) (.v (.load (v := .int .u64 e.id) rfl (.one rfl)) (.v (.fieldAddr rfl) (.v (.load (v := .int .u64 e.q) rfl (.one rfl)) (.v (.fieldAddr rfl) (.v (.load (v := .int .i64 e.sd) rfl (.one rfl)) (.v (.eqi rfl rfl) ?_))))))))))
          refine .ef (.callT (RZ.H ⟨b, mm, mo⟩ ⟨em, cm, eo, co⟩) rfl rfl fun w s => RTrades_ok w ⟨b, mm, mo⟩ D1 ⟨em, cm, eo, co⟩ hI e.id e.q (decide (e.sd = 1))) ?_
          rintro _ _ ⟨_, ⟨z1, hI1, rfl⟩, rfl⟩
          refine .nil ?_
          refine .region (.v (.move rfl) (.v (.fieldAddr rfl) (.v (.load (v := .int .u64 e.other) rfl (.one rfl)) (.v (.fieldAddr rfl) (.v (.load (v := .int .u64 e.q) rfl (.one rfl)) (.v (.fieldAddr rfl) (.v (.load (v := .int .i64 e.sd) rfl (.one rfl)) (.v (.nei rfl rfl) ?_))))))))
          refine .ef (.callT (z1.H ⟨b, mm, mo⟩) rfl rfl fun w s => RTrades_ok w ⟨b, mm, mo⟩ _ z1 hI1 e.other e.q (decide (e.sd ≠ 1))) ?_
          rintro _ _ ⟨_, ⟨z2, hI2, rfl⟩, rfl⟩
          refine .nil ?_
          exact ⟨z2, hI2, .cons rfl (.cons rfl (.cons rfl (.cons rfl (.nil _)))), fun _ s => s.take⟩
        · rw [if_neg h3]
          refine .seq ((.region (.v (.eqi rfl rfl) (.v (.assign rfl) (.nil ?_)))))
          refine .cond_dec rfl (fun h4 => ?_) (fun h4 => .skip ?_)
          · rw [if_pos h4]
            refine .region (.v (.move rfl) (.v (.fieldAddr rfl) (.v (.load (v := .int .u64 e.id) rfl (.one rfl)) (.v (.fieldAddr rfl) (.v (.load (v := .int .u64 e.q) rfl (.one rfl)) ?_)))))
            refine .ef (.callT (RZ.H ⟨b, mm, mo⟩ ⟨em, cm, eo, co⟩) rfl rfl fun w s => RLess_ok w ⟨b, mm, mo⟩ D1 ⟨em, cm, eo, co⟩ hI e.id e.q) ?_
            rintro _ _ ⟨_, ⟨z1, hI1, rfl⟩, rfl⟩
            refine .nil ?_
            exact ⟨z1, hI1, .cons rfl (.cons rfl (.cons rfl (.cons rfl (.nil _)))), fun _ s => s.take⟩
          · rw [if_neg h4]
            exact ⟨⟨em, cm, eo, co⟩, hI, .cons rfl (.cons rfl (.cons rfl (.cons rfl (.nil _)))), fun _ s => s.take⟩
    · rintro z' hI'
      rw [← hsn] at hI'
      refine .region (.v (.addi rfl rfl (by omega)) (.v (.move rfl) (.nil ?_)))
      exact ⟨⟨i + 1, z'⟩, ⟨hil, hI'⟩, by show l.length - (i + 1) < l.length - i; omega, .cons rfl (.cons rfl (.cons rfl (.cons rfl (.nil _)))), fun _ s => s⟩
  · have hiL : i = l.length := by omega
    subst hiL
    rw [List.take_length] at hI
    exact ⟨[], trivial, z.H ⟨b, mm, mo⟩, fun _ s => s.take, z, hI, rfl⟩
end Go.Proofs.Ytfajjkolhajldaa

/- VSO: a row of numbers in memory, as an array: what the library's sorting turns. -/
namespace Go
namespace V
open Go.RowKit
open Go.Sort (swp)
set_option linter.unusedVariables false
set_option linter.unusedSimpArgs false

structure SO (q : IntKind) (E b o c n : Nat) (d : Array Int) (l : List Value) : Prop where
  sz : d.size = n
  own : OwnS E 1 (.slice (some ⟨b, o, none⟩) n c) n (ints q d.toList) [(b, .cells l E)]
section
variable {q : IntKind} {E b o c n : Nat} {d : Array Int} {l : List Value}
theorem ints_get {d : Array Int} {i : Nat} (hi : i < d.size) : (ints q d.toList)[i]? = some (.int q d[i]!) := by
  rw [ints, List.getElem?_map, Array.getElem?_toList, Array.getElem?_eq_getElem hi, getElem!_pos d i hi]; rfl
theorem SO.at_ (k : SO q E b o c n d l) {i : Nat} (hi : i < n) {w0 : World} {own : List Nat} {hs : Hp} (hh : [(b, Ch.cells l E)] ⊆ hs) : At w0 own hs ⟨b, o + i, none⟩ [.int q d[i]!] :=
  k.own.at1 hh (ints_get (by rw [k.sz]; exact hi))
theorem SO.len (k : SO q E b o c n d l) : o + n ≤ l.length := by
  rcases k.own.2 with ⟨_, _, h3⟩ | ⟨b', o', cap, l', h1, h2, h3, h4, h5⟩
  · cases h3
  · cases h1; cases h2; omega
theorem SO.set (k : SO q E b o c n d l) {i : Nat} (hi : i < n) (x : Int) : SO q E b o c n (d.setIfInBounds i x) (l.set (o + i) (.int q x)) := by
  refine ⟨by rw [Array.size_setIfInBounds]; exact k.sz, ?_⟩
  have := OwnS.setAt (v := .int q x) k.own (i := i) (by omega)
  rw [show ints q (d.setIfInBounds i x).toList = (ints q d.toList).set i (.int q x) by rw [Array.toList_setIfInBounds, ints, ints, List.map_set]]
  exact this
theorem SO.swp (k : SO q E b o c n d l) {i j : Nat} (hi : i < n) (hj : j < n) : SO q E b o c n (swp d i j) ((l.set (o + i) (.int q d[j]!)).set (o + j) (.int q d[i]!)) :=
  (k.set hi d[j]!).set hj d[i]!
end
section
variable {P : Program} {m : Nat} {w0 : World} {own : List Nat} {e : Env} {hs : Hp}
theorem Val.indexN {T E b o len cap : Nat} {x y : Operand} (i : Nat) {q : IntKind} (hx : ev e x = some (.slice (some ⟨b, o, none⟩) len cap)) (hy : ev e y = some (.int q i)) [hT : SliceT P T E] [hE : Sz P E 1] (h1 : i < len) :
    Val P m w0 own e hs (.indexAddr T x y) (.pointer (some ⟨b, o + i, none⟩)) := by
  have h := Val.indexAddr1 (P := P) (n := m) (w0 := w0) (own := own) (hs := hs) (T := T) hx hy (by omega) (by omega)
  rw [Int.toNat_natCast] at h; exact h
theorem Val.quoN {T U : Nat} {x y : Operand} {i : Nat} (r : Nat) {j : Int} (hx : ev e x = some (.int .i64 i)) (hy : ev e y = some (.int .i64 j)) (h0 : 0 < j) (hr : (i : Int) / j = r) (hb : i < 4611686018427387904) (hb2 : r < 4611686018427387904) : Val P m w0 own e hs (.binOp .quo T x y U) (.int .i64 r) := by
  have h := Val.quo (P := P) (n := m) (w0 := w0) (own := own) (hs := hs) (T := T) (U := U) hx hy (by omega)
  rw [Int.tdiv_eq_ediv_of_nonneg (by omega), hr, wrap_i64 (by omega)] at h
  exact h
end
end V
end Go

/- slices.insertionSortOrdered, cmp.Less at uint32. -/
namespace Go.Proofs.Ytfajjkolhajldaa
open Go.V
open Go.Sort (ltInt swp insInner insOuter insertionSort)
set_option linter.unusedVariables false
set_option linter.unusedSimpArgs false

abbrev So32 (b o c n : Nat) (d : Array Int) (l : List Value) : Prop := SO .u32 29 b o c n d l
theorem isNaN32_ok (w : World) (x : Int) : Is Try.prog 127 [.int .u32 x] w (.bool false) := by
  refine Does.pure (Does.of (n := 6) Try.func127 rfl rfl rfl rfl ?_)
  refine .seq ((.region (.v (.assign rfl) (.nil ?_))))
  refine .seq ((.region (.v (.move rfl) (.v (.move rfl) (.v (.no (.nei rfl rfl) (by simp)) (.v (.assign rfl) (.nil ?_)))))))
  exact .ret ⟨[_], ⟨rfl, trivial⟩, rfl⟩
theorem less32_ok (w : World) (x y : Int) : Is Try.prog 113 [.int .u32 x, .int .u32 y] w (.bool (ltInt x y)) := by
  refine Does.pure (Does.of (n := 17) Try.func113 rfl rfl rfl rfl ?_)
  refine .seq ((.region (.v (.assign rfl) (.nil ?_))))
  refine .seq ((.region (.v (.move rfl) (.pc (v := .bool false) rfl rfl (fun w s => isNaN32_ok w x) ?_))))
  refine .v (.move rfl) (.and (b2 := true) 7 10 3 3 rfl rfl (fun g1 => absurd g1 (by simp)) (.v (.move rfl) (.or (b2 := ltInt x y) 12 15 3 3 rfl rfl (fun g2 => .v (.move rfl) (.v (.move rfl) (.v (.lss rfl rfl) (.nil ⟨rfl, rfl, rfl, rfl⟩)))) (.v (.assign rfl) (.nil ?_)))))
  exact .ret ⟨[_], ⟨rfl, trivial⟩, vb (by simp)⟩
structure SL where
  i : Nat
  d : Array Int
  l : List Value
set_option maxRecDepth 20000 in
theorem ins32_ok (w : World) {b o c n : Nat} {d : Array Int} {l : List Value} (k : So32 b o c n d l) (a e : Nat) (he : e ≤ n) (ha : a < 4611686018427387904) (hn : n < 4611686018427387904) :
    Does Try.prog 107 [.slice (some ⟨b, o, none⟩) n c, .int .i64 a, .int .i64 e] [(b, .cells l 29)] w (fun _ hs => ∃ l', hs = [(b, .cells l' 29)] ∧ So32 b o c n (insertionSort ltInt d a e) l') := by
  refine Does.of (n := 49) Try.func107 rfl rfl rfl rfl ?_
  refine .seq ((.region (.v (.move rfl) (.v (.addE ((a + 1 : Nat) : Int) rfl rfl (by omega) (by omega)) (.v (.assign rfl) (.nil ?_))))))
  refine .block (.loop (X := SL) (fun x => [(0, .slice (some ⟨b, o, none⟩) n c), (1, .int .i64 a), (2, .int .i64 e), (6, .int .i64 x.i)]) (fun x => [(b, .cells x.l 29)]) (fun x => (a + 1 ≤ x.i ∧ x.i ≤ a + 1 + e) ∧ So32 b o c n x.d x.l ∧ insOuter ltInt a e x.i x.d = insertionSort ltInt d a e) (fun x => a + 1 + e - x.i) ⟨a + 1, d, l⟩ ⟨⟨Nat.le_refl _, by show a + 1 ≤ _; omega⟩, k, rfl⟩ (.cons rfl (.cons rfl (.cons rfl (.cons rfl (.nil _))))) (fun _ s => s) ?_)
  rintro ⟨i, d1, l1⟩ ⟨⟨hi, hi2⟩, k1, h1⟩
  dsimp only at hi hi2 k1 h1 ⊢
  refine .seq (.seq ((.region (.v (.move rfl) (.v (.move rfl) (.v (.lss rfl rfl) (.nil ?_)))))))
  refine .cond_dec rfl (fun g => .skip ?_) (fun g => .exit ?_)
  · have hie : i < e := by omega
    rw [insOuter, if_pos hie] at h1
    refine .seq (.block (.seq ((.region (.v (.move rfl) (.v (.assign rfl) (.nil ?_)))))))
    refine .block (.loop (X := SL) (fun x => [(0, .slice (some ⟨b, o, none⟩) n c), (1, .int .i64 a), (2, .int .i64 e), (6, .int .i64 i), (7, .int .i64 x.i)]) (fun x => [(b, .cells x.l 29)]) (fun x => x.i ≤ i ∧ So32 b o c n x.d x.l ∧ insInner ltInt a x.i x.d = insInner ltInt a i d1) (fun x => x.i) ⟨i, d1, l1⟩ ⟨Nat.le_refl _, k1, rfl⟩ (.cons rfl (.cons rfl (.cons rfl (.cons rfl (.cons rfl (.nil _)))))) (fun _ s => s) ?_)
    rintro ⟨j, d2, l2⟩ ⟨hj, k2, h2⟩
    dsimp only at hj k2 h2 ⊢
    by_cases hja : a < j
    case neg =>
      refine .seq (.seq ((.drawK [(b, .cells l2 29)] (fun _ h => h) (by kernel_rfl) (by kernel_rfl) ?_)))
      refine .v (fun _ f => .move rfl) (.v (fun _ f => .move rfl) (.v (fun _ f => .no (.gtr rfl rfl) (by omega)) (.v (fun _ f => .move rfl) (.and (b2 := true) 19 29 10 10 rfl rfl (fun g1 => absurd g1 (by simp)) (.nil ?_)))))
      refine .cond_false rfl (.exit ?_)
      have hst : insInner ltInt a j d2 = d2 := by
        cases j with
        | zero => rfl
        | succ j => rw [insInner, if_neg]; simp; omega
      rw [hst] at h2
      refine .region (.v (.move rfl) (.v (.addE ((i + 1 : Nat) : Int) rfl rfl (by omega) (by omega)) (.v (.assign rfl) (.nil ?_))))
      exact ⟨⟨i + 1, d2, l2⟩, ⟨⟨by show a + 1 ≤ i + 1; omega, by show i + 1 ≤ _; omega⟩, k2, by rw [h2]; exact h1⟩, by show a + 1 + e - (i + 1) < a + 1 + e - i; omega, .cons rfl (.cons rfl (.cons rfl (.cons rfl (.nil _)))), fun _ s => s⟩
    obtain ⟨j, rfl⟩ : ∃ j', j = j' + 1 := ⟨j - 1, by omega⟩
    have hjn : j + 1 < n := by omega
    have q1 := fun hs' hsub => k2.at_ (w0 := w) (own := [b]) (hs := hs') (i := j + 1) hjn hsub
    have q0 := fun hs' hsub => k2.at_ (w0 := w) (own := [b]) (hs := hs') (i := j) (by omega) hsub
    rw [insInner] at h2
    refine .seq (.seq ((.drawK [(b, .cells l2 29)] (fun _ h => h) (by kernel_rfl) (by kernel_rfl) ?_)))
    refine .v (fun _ f => .move rfl) (.v (fun _ f => .move rfl) (.v (fun _ f => .yes (.gtr rfl rfl) (by omega)) (.v (fun _ f => .move rfl) (.and (b2 := ltInt d2[j + 1]! d2[j]!) 19 29 10 10 rfl rfl (fun g1 => .v (fun _ f => .move rfl) (.v (fun _ f => .move rfl) (.v (fun _ f => .indexN (j + 1) rfl rfl hjn) (.v (fun hs' f => .load (v := .int .u32 d2[j + 1]!) rfl (q1 hs' f)) (.v (fun _ f => .move rfl) (.v (fun _ f => .move rfl) (.v (fun _ f => .subE (j : Int) rfl rfl (by omega) (by omega)) (.v (fun _ f => .indexN j rfl rfl (by omega)) (.v (fun hs' f => .load (v := .int .u32 d2[j]!) rfl (q0 hs' f)) (.pc rfl rfl (fun w s => less32_ok w _ _) (.nil ⟨rfl, rfl, rfl, rfl⟩))))))))))) (.nil ?_)))))
    refine .cond rfl (fun g2 => .skip ?_) (fun g2 => .exit ?_)
    · have g2' : ltInt d2[j + 1]! d2[j]! = true := by simpa using g2
      rw [if_pos (by rw [g2']; simpa using hja)] at h2
      have k3 := k2.swp hjn (show j < n by omega)
      have hlen := k2.len
      generalize hx : d2[j]! = x0 at q0 k3
      generalize hy : d2[j + 1]! = x1 at q1 k3
      refine .seq (.block ((.drawY 15 [0, 1, 2, 3, 4, 5, 6, 7, 8, 9, 10, 11, 12, 13, 14, 15, 16, 17] [(b, .cells l2 29)] (fun _ h => h) (by kernel_rfl) (by kernel_rfl) ?_)))
      refine .x (fun _ _ _ => .move rfl) (.x (fun _ _ _ => .move rfl) (.x (fun _ _ _ => .move rfl) (.x (fun _ _ _ => .move rfl) (.x (fun _ _ _ => .subE (j : Int) rfl rfl (by omega) (by omega)) (.x (fun _ _ _ => .move rfl) (.x (fun _ _ _ => .move rfl) (.x (fun _ _ _ => .subE (j : Int) rfl rfl (by omega) (by omega)) (.x (fun _ _ _ => .indexN j rfl rfl (by omega)) (.v (fun hs' f => .load (v := .int .u32 x0) rfl (q0 hs' f)) (.x (fun _ _ _ => .move rfl) (.x (fun _ _ _ => .move rfl) (.x (fun _ _ _ => .indexN (j + 1) rfl rfl hjn) (.v (fun hs' f => .load (v := .int .u32 x1) rfl (q1 hs' f)) (.x (fun _ _ _ => .indexN (j + 1) rfl rfl hjn) (.st (.store rfl rfl rfl (by omega)) (.x (fun _ _ _ => .indexN j rfl rfl (by omega)) (.st2 (.store rfl rfl rfl (by rw [List.length_set]; omega)) (.nil ?_))))))))))))))))))
      refine .region (.v (.move rfl) (.v (.subE (j : Int) rfl rfl (by omega) (by omega)) (.v (.assign rfl) (.nil ?_))))
      exact ⟨⟨j, swp d2 (j + 1) j, (l2.set (o + (j + 1)) (.int .u32 x0)).set (o + j) (.int .u32 x1)⟩, ⟨by show j ≤ i; omega, k3, h2⟩, by show j < j + 1; omega, .cons rfl (.cons rfl (.cons rfl (.cons rfl (.cons rfl (.nil _))))), fun _ s => s⟩
    · have g2' : ltInt d2[j + 1]! d2[j]! = false := by simpa using g2
      rw [if_neg (by rw [g2']; simp)] at h2
      refine .region (.v (.move rfl) (.v (.addE ((i + 1 : Nat) : Int) rfl rfl (by omega) (by omega)) (.v (.assign rfl) (.nil ?_))))
      exact ⟨⟨i + 1, d2, l2⟩, ⟨⟨by show a + 1 ≤ i + 1; omega, by show i + 1 ≤ _; omega⟩, k2, by rw [h2]; exact h1⟩, by show a + 1 + e - (i + 1) < a + 1 + e - i; omega, .cons rfl (.cons rfl (.cons rfl (.cons rfl (.nil _)))), fun _ s => s⟩
  · rw [insOuter, if_neg (by omega)] at h1
    exact ⟨[], trivial, l1, rfl, by rw [← h1]; exact k1⟩
end Go.Proofs.Ytfajjkolhajldaa

/- slices.siftDownOrdered, heapSortOrdered, reverseRangeOrdered at uint32. -/
namespace Go.Proofs.Ytfajjkolhajldaa
open Go.V
open Go.Sort (ltInt swp siftDown heapBuild heapPop heapSort reverseLoop reverseRange)
set_option linter.unusedVariables false
set_option linter.unusedSimpArgs false

/-- the greater child -/
abbrev Kid (hi first root : Nat) (d : Array Int) (ch : Nat) : Prop := (ch = 2 * root + 2 ∧ 2 * root + 2 < hi ∧ ltInt d[first + (2 * root + 1)]! d[first + (2 * root + 1) + 1]! = true) ∨ (ch = 2 * root + 1 ∧ 2 * root + 1 < hi ∧ ¬ (2 * root + 1 + 1 < hi ∧ ltInt d[first + (2 * root + 1)]! d[first + (2 * root + 1) + 1]! = true))
theorem sift_step {hi first root ch : Nat} {d : Array Int} (h : Kid hi first root d ch) : siftDown ltInt hi first root d = if ltInt d[first + root]! d[first + ch]! = true then siftDown ltInt hi first ch (swp d (first + root) (first + ch)) else d := by
  rcases h with ⟨rfl, h1, h2⟩ | ⟨rfl, h1, h2⟩
  · rw [siftDown, dif_neg (by omega), if_pos (by rw [h2]; simpa using (by omega : 2 * root + 1 + 1 < hi))]
    by_cases hl : ltInt d[first + root]! d[first + (2 * root + 2)]! = true
    · rw [if_neg (by rw [hl]; simp), dif_pos h1, if_pos hl]
    · rw [if_pos (by simpa using hl), if_neg hl]
  · rw [siftDown, dif_neg (by omega), if_neg (by simpa using h2)]
    by_cases hl : ltInt d[first + root]! d[first + (2 * root + 1)]! = true
    · rw [if_neg (by rw [hl]; simp), if_pos hl]
    · rw [if_pos (by simpa using hl), if_neg hl]
set_option maxRecDepth 20000 in
theorem sift32_ok (w : World) {b o c n : Nat} {d : Array Int} {l : List Value} (k : So32 b o c n d l) (lo hi first : Nat) (hf : first + hi ≤ n) (hlo : lo < 2305843009213693952) (hn : n < 2305843009213693952) :
    Does Try.prog 124 [.slice (some ⟨b, o, none⟩) n c, .int .i64 lo, .int .i64 hi, .int .i64 first] [(b, .cells l 29)] w (fun _ hs => ∃ l', hs = [(b, .cells l' 29)] ∧ So32 b o c n (siftDown ltInt hi first lo d) l') := by
  refine Does.of (n := 76) Try.func124 rfl rfl rfl rfl ?_
  refine .seq ((.region (.v (.move rfl) (.v (.assign rfl) (.nil ?_)))))
  refine .block (.loop (X := SL) (fun x => [(0, .slice (some ⟨b, o, none⟩) n c), (2, .int .i64 hi), (3, .int .i64 first), (8, .int .i64 x.i)]) (fun x => [(b, .cells x.l 29)]) (fun x => x.i < 2305843009213693952 ∧ So32 b o c n x.d x.l ∧ siftDown ltInt hi first x.i x.d = siftDown ltInt hi first lo d) (fun x => hi - x.i) ⟨lo, d, l⟩ ⟨hlo, k, rfl⟩ (.cons rfl (.cons rfl (.cons rfl (.cons rfl (.nil _))))) (fun _ s => s) ?_)
  rintro ⟨root, d1, l1⟩ ⟨hr, k1, h1⟩
  dsimp only at hr k1 h1 ⊢
  refine .block (.seq ((.region (.v (.move rfl) (.v (.muli rfl rfl (by omega)) (.v (.addE ((2 * root + 1 : Nat) : Int) rfl rfl (by omega) (by omega)) (.v (.assign rfl) (.nil ?_))))))))
  refine .seq (.seq ((.region (.v (.move rfl) (.v (.move rfl) (.v (.geq rfl rfl) (.nil ?_)))))))
  refine .cond_dec rfl (fun g => .exit ?_) (fun g => .skip ?_)
  · rw [siftDown, dif_pos (by omega)] at h1
    exact ⟨[], trivial, l1, rfl, by rw [← h1]; exact k1⟩
  have hrh : 2 * root + 1 < hi := by omega
  refine .mid (X := Nat) (fun ch => [(0, .slice (some ⟨b, o, none⟩) n c), (2, .int .i64 hi), (3, .int .i64 first), (8, .int .i64 root), (9, .int .i64 ch)]) (fun _ => [(b, .cells l1 29)]) (fun ch => Kid hi first root d1 ch) (.seq ((.drawK [(b, .cells l1 29)] (fun _ h => h) (by kernel_rfl) (by kernel_rfl) ?_))) ?_
  · by_cases hg : 2 * root + 1 + 1 < hi
    case neg =>
      refine .v (fun _ f => .move rfl) (.v (fun _ f => .addE ((2 * root + 1 + 1 : Nat) : Int) rfl rfl (by omega) (by omega)) (.v (fun _ f => .move rfl) (.v (fun _ f => .no (.lss rfl rfl) (by omega)) (.v (fun _ f => .move rfl) (.and (b2 := true) 21 35 14 14 rfl rfl (fun g1 => absurd g1 (by simp)) (.nil ?_))))))
      refine .cond_false rfl (.skip ?_)
      exact ⟨2 * root + 1, .inr ⟨rfl, hrh, fun hh => hg hh.1⟩, .cons rfl (.cons rfl (.cons rfl (.cons rfl (.cons rfl (.nil _))))), fun _ s => s⟩
    have q0 := fun hs' hsub => k1.at_ (w0 := w) (own := [b]) (hs := hs') (i := first + (2 * root + 1)) (by omega) hsub
    have q1 := fun hs' hsub => k1.at_ (w0 := w) (own := [b]) (hs := hs') (i := first + (2 * root + 1) + 1) (by omega) hsub
    refine .v (fun _ f => .move rfl) (.v (fun _ f => .addE ((2 * root + 1 + 1 : Nat) : Int) rfl rfl (by omega) (by omega)) (.v (fun _ f => .move rfl) (.v (fun _ f => .yes (.lss rfl rfl) (by omega)) (.v (fun _ f => .move rfl) (.and (b2 := ltInt d1[first + (2 * root + 1)]! d1[first + (2 * root + 1) + 1]!) 21 35 14 14 rfl rfl (fun g1 => .v (fun _ f => .move rfl) (.v (fun _ f => .move rfl) (.v (fun _ f => .move rfl) (.v (fun _ f => .addE ((first + (2 * root + 1) : Nat) : Int) rfl rfl (by omega) (by omega)) (.v (fun _ f => .indexN (first + (2 * root + 1)) rfl rfl (by omega)) (.v (fun hs' f => .load (v := .int .u32 d1[first + (2 * root + 1)]!) rfl (q0 hs' f)) (.v (fun _ f => .move rfl) (.v (fun _ f => .move rfl) (.v (fun _ f => .move rfl) (.v (fun _ f => .addE ((first + (2 * root + 1) : Nat) : Int) rfl rfl (by omega) (by omega)) (.v (fun _ f => .addE ((first + (2 * root + 1) + 1 : Nat) : Int) rfl rfl (by omega) (by omega)) (.v (fun _ f => .indexN (first + (2 * root + 1) + 1) rfl rfl (by omega)) (.v (fun hs' f => .load (v := .int .u32 d1[first + (2 * root + 1) + 1]!) rfl (q1 hs' f)) (.pc rfl rfl (fun w s => less32_ok w _ _) (.nil ⟨rfl, rfl, rfl, rfl⟩))))))))))))))) (.nil ?_))))))
    refine .cond rfl (fun g2 => ?_) (fun g2 => .skip ?_)
    · have g2' : ltInt d1[first + (2 * root + 1)]! d1[first + (2 * root + 1) + 1]! = true := by simpa using g2
      refine .region (.v (.move rfl) (.v (.addE ((2 * root + 2 : Nat) : Int) rfl rfl (by omega) (by omega)) (.v (.assign rfl) (.nil ?_))))
      exact ⟨2 * root + 2, .inl ⟨rfl, by omega, g2'⟩, .cons rfl (.cons rfl (.cons rfl (.cons rfl (.cons rfl (.nil _))))), fun _ s => s⟩
    · have g2' : ¬ ltInt d1[first + (2 * root + 1)]! d1[first + (2 * root + 1) + 1]! = true := by
        have : ltInt d1[first + (2 * root + 1)]! d1[first + (2 * root + 1) + 1]! = false := by simpa using g2
        rw [this]; simp
      exact ⟨2 * root + 1, .inr ⟨rfl, hrh, fun hh => g2' hh.2⟩, .cons rfl (.cons rfl (.cons rfl (.cons rfl (.cons rfl (.nil _))))), fun _ s => s⟩
  · intro ch hk
    have hch : root < ch ∧ ch < hi := by rcases hk with ⟨h, h2, _⟩ | ⟨h, h2, _⟩ <;> omega
    rw [sift_step hk] at h1
    have q0 := fun hs' hsub => k1.at_ (w0 := w) (own := [b]) (hs := hs') (i := first + root) (by omega) hsub
    have q1 := fun hs' hsub => k1.at_ (w0 := w) (own := [b]) (hs := hs') (i := first + ch) (by omega) hsub
    have k3 := k1.swp (i := first + root) (j := first + ch) (by omega) (by omega)
    have hlen := k1.len
    generalize hx : d1[first + root]! = x0 at q0 k3 h1
    generalize hy : d1[first + ch]! = x1 at q1 k3 h1
    refine .seq (.seq ((.drawK [(b, .cells l1 29)] (fun _ h => h) (by kernel_rfl) (by kernel_rfl) ?_)))
    refine .v (fun _ f => .move rfl) (.v (fun _ f => .move rfl) (.v (fun _ f => .move rfl) (.v (fun _ f => .addE ((first + root : Nat) : Int) rfl rfl (by omega) (by omega)) (.v (fun _ f => .indexN (first + root) rfl rfl (by omega)) (.v (fun hs' f => .load (v := .int .u32 x0) rfl (q0 hs' f)) (.v (fun _ f => .move rfl) (.v (fun _ f => .move rfl) (.v (fun _ f => .move rfl) (.v (fun _ f => .addE ((first + ch : Nat) : Int) rfl rfl (by omega) (by omega)) (.v (fun _ f => .indexN (first + ch) rfl rfl (by omega)) (.v (fun hs' f => .load (v := .int .u32 x1) rfl (q1 hs' f)) (.pc rfl rfl (fun w s => less32_ok w _ _) (.v (fun _ f => .not rfl) (.nil ?_))))))))))))))
    refine .cond rfl (fun g => ?_) (fun g => .skip ?_)
    · rw [if_neg (by simpa using g)] at h1
      exact .ret ⟨[], trivial, l1, rfl, by rw [← h1]; exact k1⟩
    · rw [if_pos (by simpa using g)] at h1
      refine .seq ((.drawY 21 [0, 1, 2, 3, 4, 5, 6, 7, 8, 9, 10, 11, 12, 13, 14, 15, 16, 17, 18, 19, 20, 21, 22, 23] [(b, .cells l1 29)] (fun _ h => h) (by kernel_rfl) (by kernel_rfl) ?_))
      refine .x (fun _ _ _ => .move rfl) (.x (fun _ _ _ => .move rfl) (.x (fun _ _ _ => .move rfl) (.x (fun _ _ _ => .addE ((first + root : Nat) : Int) rfl rfl (by omega) (by omega)) (.x (fun _ _ _ => .move rfl) (.x (fun _ _ _ => .move rfl) (.x (fun _ _ _ => .move rfl) (.x (fun _ _ _ => .addE ((first + ch : Nat) : Int) rfl rfl (by omega) (by omega)) (.x (fun _ _ _ => .move rfl) (.x (fun _ _ _ => .move rfl) (.x (fun _ _ _ => .move rfl) (.x (fun _ _ _ => .addE ((first + ch : Nat) : Int) rfl rfl (by omega) (by omega)) (.x (fun _ _ _ => .indexN (first + ch) rfl rfl (by omega)) (.v (fun hs' f => .load (v := .int .u32 x1) rfl (q1 hs' f)) (.x (fun _ _ _ => .move rfl) (.x (fun _ _ _ => .move rfl) (.x (fun _ _ _ => .move rfl) (.x (fun _ _ _ => .addE ((first + root : Nat) : Int) rfl rfl (by omega) (by omega)) (.x (fun _ _ _ => .indexN (first + root) rfl rfl (by omega)) (.v (fun hs' f => .load (v := .int .u32 x0) rfl (q0 hs' f)) (.x (fun _ _ _ => .indexN (first + root) rfl rfl (by omega)) (.st (.store rfl rfl rfl (by omega)) (.x (fun _ _ _ => .indexN (first + ch) rfl rfl (by omega)) (.st2 (.store rfl rfl rfl (by rw [List.length_set]; omega)) (.nil ?_))))))))))))))))))))))))
      refine .region (.v (.move rfl) (.v (.assign rfl) (.nil ?_)))
      exact ⟨⟨ch, swp d1 (first + root) (first + ch), (l1.set (o + (first + root)) (.int .u32 x1)).set (o + (first + ch)) (.int .u32 x0)⟩, ⟨by show ch < _; omega, k3, h1⟩, by show hi - ch < hi - root; omega, .cons rfl (.cons rfl (.cons rfl (.cons rfl (.nil _)))), fun _ s => s⟩
theorem half_eq (h : Nat) : Int.tdiv ((h : Int) - 1) 2 = (((h - 1) / 2 + 1 : Nat) : Int) - 1 := by
  by_cases h0 : h = 0
  · subst h0; decide
  · rw [Int.tdiv_eq_ediv_of_nonneg (by omega)]; omega
set_option maxRecDepth 20000 in
theorem heap32_ok (w : World) {b o c n : Nat} {d : Array Int} {l : List Value} (k : So32 b o c n d l) (a e : Nat) (hae : a ≤ e) (he : e ≤ n) (hn : n < 2305843009213693952) :
    Does Try.prog 108 [.slice (some ⟨b, o, none⟩) n c, .int .i64 a, .int .i64 e] [(b, .cells l 29)] w (fun _ hs => ∃ l', hs = [(b, .cells l' 29)] ∧ So32 b o c n (heapSort ltInt d a e) l') := by
  obtain ⟨h, rfl⟩ := Nat.exists_eq_add_of_le hae
  have hS : heapSort ltInt d a (a + h) = heapPop ltInt a h (heapBuild ltInt h a ((h - 1) / 2 + 1) d) := by unfold heapSort; rw [Nat.add_sub_cancel_left]
  rw [hS]
  refine Does.of (n := 56) Try.func108 rfl rfl rfl rfl ?_
  refine .seq ((.region (.v (.move rfl) (.v (.assign rfl) (.nil ?_)))))
  refine .seq ((.region (.v (.assign rfl) (.nil ?_))))
  refine .seq ((.region (.v (.move rfl) (.v (.move rfl) (.v (.subE (h : Int) rfl rfl (by omega) (by omega)) (.v (.assign rfl) (.nil ?_)))))))
  refine .seq (.seq ((.region (.v (.move rfl) (.v (.subi rfl rfl (by omega)) (.v (.quo rfl rfl (by decide)) (.v (.assign rfl) (.nil ?_))))))))
  rw [half_eq, wrap_i64 (by omega)]
  generalize hM : heapBuild ltInt h a ((h - 1) / 2 + 1) d = D
  refine .block (.loop (X := SL) (fun x => [(0, .slice (some ⟨b, o, none⟩) n c), (6, .int .i64 a), (7, .int .i64 0), (8, .int .i64 h), (9, .int .i64 ((x.i : Int) - 1))]) (fun x => [(b, .cells x.l 29)]) (fun x => x.i ≤ (h - 1) / 2 + 1 ∧ So32 b o c n x.d x.l ∧ heapBuild ltInt h a x.i x.d = D) (fun x => x.i) ⟨(h - 1) / 2 + 1, d, l⟩ ⟨Nat.le_refl _, k, hM⟩ (.cons rfl (.cons rfl (.cons rfl (.cons rfl (.cons rfl (.nil _)))))) (fun _ s => s) ?_)
  rintro ⟨i, d1, l1⟩ ⟨hi, k1, h1⟩
  dsimp only at hi k1 h1 ⊢
  refine .seq (.seq ((.region (.v (.move rfl) (.v (.geq rfl rfl) (.nil ?_))))))
  refine .cond_dec rfl (fun g => .skip ?_) (fun g => .exit ?_)
  · obtain ⟨i, rfl⟩ : ∃ i', i = i' + 1 := ⟨i - 1, by omega⟩
    rw [show (((i + 1 : Nat) : Int) - 1) = (i : Int) by omega]
    rw [heapBuild] at h1
    refine .seq (.block ((.region (.v (.move rfl) (.v (.move rfl) (.v (.move rfl) (.v (.move rfl) ?_)))))))
    refine .ef (.callT [(b, .cells l1 29)] rfl rfl fun w s => sift32_ok w k1 i h a (by omega) (by omega) hn) ?_
    rintro _ _ ⟨_, ⟨l2, rfl, k2⟩, rfl⟩
    refine .nil ?_
    refine .region (.v (.move rfl) (.v (.subi rfl rfl (by omega)) (.v (.assign rfl) (.nil ?_))))
    exact ⟨⟨i, siftDown ltInt h a i d1, l2⟩, ⟨by show i ≤ _; omega, k2, h1⟩, by show i < i + 1; omega, .cons rfl (.cons rfl (.cons rfl (.cons rfl (.cons rfl (.nil _))))), fun _ s => s.take⟩
  have hi0 : i = 0 := by omega
  subst hi0
  rw [heapBuild] at h1
  subst h1
  refine .seq ((.region (.v (.move rfl) (.v (.subi rfl rfl (by omega)) (.v (.assign rfl) (.nil ?_))))))
  clear hi
  generalize hP : heapPop ltInt a h d1 = D
  refine .block (.loop (X := SL) (fun x => [(0, .slice (some ⟨b, o, none⟩) n c), (6, .int .i64 a), (7, .int .i64 0), (10, .int .i64 ((x.i : Int) - 1))]) (fun x => [(b, .cells x.l 29)]) (fun x => x.i ≤ h ∧ So32 b o c n x.d x.l ∧ heapPop ltInt a x.i x.d = D) (fun x => x.i) ⟨h, d1, l1⟩ ⟨Nat.le_refl _, k1, hP⟩ (.cons rfl (.cons rfl (.cons rfl (.cons rfl (.nil _))))) (fun _ s => s) ?_)
  clear k1 hP
  rintro ⟨i, d1, l1⟩ ⟨hi, k1, h1⟩
  dsimp only at hi k1 h1 ⊢
  refine .seq (.seq ((.region (.v (.move rfl) (.v (.geq rfl rfl) (.nil ?_))))))
  refine .cond_dec rfl (fun g => .skip ?_) (fun g => .exit ?_)
  · obtain ⟨i, rfl⟩ : ∃ i', i = i' + 1 := ⟨i - 1, by omega⟩
    rw [show (((i + 1 : Nat) : Int) - 1) = (i : Int) by omega]
    rw [heapPop] at h1
    have q0 := fun hs' hsub => k1.at_ (w0 := w) (own := [b]) (hs := hs') (i := a) (by omega) hsub
    have q1 := fun hs' hsub => k1.at_ (w0 := w) (own := [b]) (hs := hs') (i := a + i) (by omega) hsub
    have k3 := k1.swp (i := a) (j := a + i) (by omega) (by omega)
    have hlen := k1.len
    generalize hx : d1[a]! = x0 at q0 k3
    generalize hy : d1[a + i]! = x1 at q1 k3
    refine .seq (.block (.seq ((.drawY 17 [0, 1, 2, 3, 4, 5, 6, 7, 8, 9, 10, 11, 12, 13, 14, 15, 16, 17, 18, 19] [(b, .cells l1 29)] (fun _ h => h) (by kernel_rfl) (by kernel_rfl) ?_))))
    refine .x (fun _ _ _ => .move rfl) (.x (fun _ _ _ => .move rfl) (.x (fun _ _ _ => .move rfl) (.x (fun _ _ _ => .move rfl) (.x (fun _ _ _ => .move rfl) (.x (fun _ _ _ => .addE ((a + i : Nat) : Int) rfl rfl (by omega) (by omega)) (.x (fun _ _ _ => .move rfl) (.x (fun _ _ _ => .move rfl) (.x (fun _ _ _ => .move rfl) (.x (fun _ _ _ => .addE ((a + i : Nat) : Int) rfl rfl (by omega) (by omega)) (.x (fun _ _ _ => .indexN (a + i) rfl rfl (by omega)) (.v (fun hs' f => .load (v := .int .u32 x1) rfl (q1 hs' f)) (.x (fun _ _ _ => .move rfl) (.x (fun _ _ _ => .move rfl) (.x (fun _ _ _ => .indexN a rfl rfl (by omega)) (.v (fun hs' f => .load (v := .int .u32 x0) rfl (q0 hs' f)) (.x (fun _ _ _ => .indexN a rfl rfl (by omega)) (.st (.store rfl rfl rfl (by omega)) (.x (fun _ _ _ => .indexN (a + i) rfl rfl (by omega)) (.st2 (.store rfl rfl rfl (by rw [List.length_set]; omega)) (.nil ?_))))))))))))))))))))
    refine .region (.v (.move rfl) (.v (.move rfl) (.v (.move rfl) (.v (.move rfl) ?_))))
    refine .ef (.callT [(b, .cells ((l1.set (o + a) (.int .u32 x1)).set (o + (a + i)) (.int .u32 x0)) 29)] rfl rfl fun w s => sift32_ok w k3 0 i a (by omega) (by omega) hn) ?_
    rintro _ _ ⟨_, ⟨l2, rfl, k2⟩, rfl⟩
    refine .nil ?_
    refine .region (.v (.move rfl) (.v (.subi rfl rfl (by omega)) (.v (.assign rfl) (.nil ?_))))
    exact ⟨⟨i, siftDown ltInt i a 0 (swp d1 a (a + i)), l2⟩, ⟨by show i ≤ _; omega, k2, h1⟩, by show i < i + 1; omega, .cons rfl (.cons rfl (.cons rfl (.cons rfl (.nil _)))), fun _ s => s.take⟩
  · have hi0 : i = 0 := by omega
    subst hi0
    rw [heapPop] at h1
    subst h1
    exact ⟨[], trivial, l1, rfl, k1⟩
set_option maxRecDepth 20000 in
theorem rev32_ok (w : World) {b o c n : Nat} {d : Array Int} {l : List Value} (k : So32 b o c n d l) (a e : Nat) (hae : a < e) (he : e ≤ n) (hn : n < 2305843009213693952) :
    Does Try.prog 111 [.slice (some ⟨b, o, none⟩) n c, .int .i64 a, .int .i64 e] [(b, .cells l 29)] w (fun _ hs => ∃ l', hs = [(b, .cells l' 29)] ∧ So32 b o c n (reverseRange d a e) l') := by
  refine Does.of (n := 32) Try.func111 rfl rfl rfl rfl ?_
  refine .seq ((.region (.v (.move rfl) (.v (.assign rfl) (.nil ?_)))))
  refine .seq ((.region (.v (.move rfl) (.v (.subE ((e - 1 : Nat) : Int) rfl rfl (by omega) (by omega)) (.v (.assign rfl) (.nil ?_))))))
  unfold reverseRange
  generalize hR : reverseLoop a (e - 1) d = D
  refine .block (.loop (X := SL × Nat) (fun x => [(0, .slice (some ⟨b, o, none⟩) n c), (6, .int .i64 x.1.i), (7, .int .i64 x.2)]) (fun x => [(b, .cells x.1.l 29)]) (fun x => (x.1.i ≤ n ∧ x.2 < n) ∧ So32 b o c n x.1.d x.1.l ∧ reverseLoop x.1.i x.2 x.1.d = D) (fun x => x.2 - x.1.i) (⟨a, d, l⟩, e - 1) ⟨⟨by show a ≤ n; omega, by show e - 1 < n; omega⟩, k, hR⟩ (.cons rfl (.cons rfl (.cons rfl (.nil _)))) (fun _ s => s) ?_)
  rintro ⟨⟨i, d1, l1⟩, j⟩ ⟨⟨hi, hj⟩, k1, h1⟩
  dsimp only at hi hj k1 h1 ⊢
  refine .seq (.seq ((.region (.v (.move rfl) (.v (.move rfl) (.v (.lss rfl rfl) (.nil ?_)))))))
  refine .cond_dec rfl (fun g => .skip ?_) (fun g => .exit ?_)
  · have hij : i < j := by omega
    rw [reverseLoop, if_pos hij] at h1
    have q0 := fun hs' hsub => k1.at_ (w0 := w) (own := [b]) (hs := hs') (i := i) (by omega) hsub
    have q1 := fun hs' hsub => k1.at_ (w0 := w) (own := [b]) (hs := hs') (i := j) (by omega) hsub
    have k3 := k1.swp (i := i) (j := j) (by omega) (by omega)
    have hlen := k1.len
    generalize hx : d1[i]! = x0 at q0 k3
    generalize hy : d1[j]! = x1 at q1 k3
    refine .block (.seq ((.drawY 13 [0, 1, 2, 3, 4, 5, 6, 7, 8, 9, 10, 11, 12, 13, 14, 15] [(b, .cells l1 29)] (fun _ h => h) (by kernel_rfl) (by kernel_rfl) ?_)))
    refine .x (fun _ _ _ => .move rfl) (.x (fun _ _ _ => .move rfl) (.x (fun _ _ _ => .move rfl) (.x (fun _ _ _ => .move rfl) (.x (fun _ _ _ => .move rfl) (.x (fun _ _ _ => .move rfl) (.x (fun _ _ _ => .indexN j rfl rfl (by omega)) (.v (fun hs' f => .load (v := .int .u32 x1) rfl (q1 hs' f)) (.x (fun _ _ _ => .move rfl) (.x (fun _ _ _ => .move rfl) (.x (fun _ _ _ => .indexN i rfl rfl (by omega)) (.v (fun hs' f => .load (v := .int .u32 x0) rfl (q0 hs' f)) (.x (fun _ _ _ => .indexN i rfl rfl (by omega)) (.st (.store rfl rfl rfl (by omega)) (.x (fun _ _ _ => .indexN j rfl rfl (by omega)) (.st2 (.store rfl rfl rfl (by rw [List.length_set]; omega)) (.nil ?_))))))))))))))))
    refine .seq ((.region (.v (.move rfl) (.v (.addE ((i + 1 : Nat) : Int) rfl rfl (by omega) (by omega)) (.v (.assign rfl) (.nil ?_))))))
    refine .region (.v (.move rfl) (.v (.subE ((j - 1 : Nat) : Int) rfl rfl (by omega) (by omega)) (.v (.assign rfl) (.nil ?_))))
    exact ⟨(⟨i + 1, swp d1 i j, (l1.set (o + i) (.int .u32 x1)).set (o + j) (.int .u32 x0)⟩, j - 1), ⟨⟨by show i + 1 ≤ n; omega, by show j - 1 < n; omega⟩, k3, h1⟩, by show j - 1 - (i + 1) < j - i; omega, .cons rfl (.cons rfl (.cons rfl (.nil _))), fun _ s => s⟩
  · rw [reverseLoop, if_neg (by omega)] at h1
    exact ⟨[], trivial, l1, rfl, by rw [← h1]; exact k1⟩
end Go.Proofs.Ytfajjkolhajldaa

/- slices.order2Ordered, medianOrdered, medianAdjacentOrdered at uint32. -/
namespace Go.Proofs.Ytfajjkolhajldaa
open Go.V
open Go.Sort (ltInt order2 median medianAdjacent)
set_option linter.unusedVariables false
set_option linter.unusedSimpArgs false

abbrev SwB (bs s : Nat) : Nat × Ch := (bs, .cells [.int .i64 s] 3)
theorem order2_lt (d : Array Int) {x y s n : Nat} (hx : x < n) (hy : y < n) : (order2 ltInt d x y s).1 < n ∧ (order2 ltInt d x y s).2.1 < n ∧ (order2 ltInt d x y s).2.2 ≤ s + 1 := by
  unfold order2; split <;> dsimp only <;> omega
set_option maxRecDepth 20000 in
theorem order32_ok (w : World) {b o c n bs : Nat} {d : Array Int} (hsz : d.size = n) (hR : Rd w [bs] (some ⟨b, o, none⟩) (ints .u32 d.toList)) (x y s : Nat) (hx : x < n) (hy : y < n) (hs : s < 4611686018427387904) (hn : n < 2305843009213693952) :
    Does Try.prog 130 [.slice (some ⟨b, o, none⟩) n c, .int .i64 x, .int .i64 y, .pointer (some ⟨bs, 0, none⟩)] [SwB bs s] w (fun v hs => v = .tuple ⟨[.int .i64 (order2 ltInt d x y s).1, .int .i64 (order2 ltInt d x y s).2.1]⟩ ∧ hs = [SwB bs (order2 ltInt d x y s).2.2]) := by
  refine Does.of (n := 28) Try.func130 rfl rfl rfl rfl ?_
  refine .seq ((.region (.v (.assign rfl) (.v (.assign rfl) (.nil ?_)))))
  have qx := fun hs' => Rd.cell (hs := hs') hR (i := x) (ints_get (q := .u32) (d := d) (by omega))
  have qy := fun hs' => Rd.cell (hs := hs') hR (i := y) (ints_get (q := .u32) (d := d) (by omega))
  unfold order2
  generalize d[x]! = x0 at qx
  generalize d[y]! = x1 at qy
  refine .seq (.seq ((.drawK [] (List.nil_subset _) (by kernel_rfl) (by kernel_rfl) ?_)))
  refine .v (fun _ f => .move rfl) (.v (fun _ f => .move rfl) (.v (fun _ f => .indexN y rfl rfl hy) (.v (fun hs' f => .load (v := .int .u32 x1) rfl (qy hs')) (.v (fun _ f => .move rfl) (.v (fun _ f => .move rfl) (.v (fun _ f => .indexN x rfl rfl hx) (.v (fun hs' f => .load (v := .int .u32 x0) rfl (qx hs')) (.pc rfl rfl (fun w s => less32_ok w _ _) (.nil ?_)))))))))
  refine .cond rfl (fun g => ?_) (fun g => .skip ?_)
  · rw [if_pos g]
    refine .seq ((.region (.v (.move rfl) (.v (.nilCheck rfl) (.v (.load (v := .int .i64 s) rfl (.one rfl)) (.v (.addE ((s + 1 : Nat) : Int) rfl rfl (by omega) (by omega)) (.v (.nilCheck rfl) (.st (.storeL rfl rfl rfl) (.nil ?_)))))))))
    refine .seq ((.region (.v (.move rfl) (.v (.move rfl) (.v (.assign rfl) (.v (.assign rfl) (.nil ?_)))))))
    exact .ret ⟨[_, _], ⟨rfl, rfl, trivial⟩, rfl, rfl⟩
  · rw [if_neg (by rw [g]; simp)]
    refine .seq ((.region (.v (.move rfl) (.v (.move rfl) (.v (.assign rfl) (.v (.assign rfl) (.nil ?_)))))))
    exact .ret ⟨[_, _], ⟨rfl, rfl, trivial⟩, rfl, rfl⟩
theorem median_lt (d : Array Int) {x y z s n : Nat} (hx : x < n) (hy : y < n) (hz : z < n) : (median ltInt d x y z s).1 < n ∧ (median ltInt d x y z s).2 ≤ s + 3 := by
  unfold median
  dsimp only
  obtain ⟨a1, a2, a3⟩ := order2_lt d (s := s) hx hy
  generalize order2 ltInt d x y s = r1 at a1 a2 a3
  obtain ⟨b1, b2, b3⟩ := order2_lt d (s := r1.2.2) a2 hz
  generalize order2 ltInt d r1.2.1 z r1.2.2 = r2 at b1 b2 b3
  obtain ⟨c1, c2, c3⟩ := order2_lt d (s := r2.2.2) a1 b1
  exact ⟨c2, by omega⟩
set_option maxRecDepth 20000 in
theorem median32_ok (w : World) {b o c n bs : Nat} {d : Array Int} (hsz : d.size = n) (hR : Rd w [bs] (some ⟨b, o, none⟩) (ints .u32 d.toList)) (x y z s : Nat) (hx : x < n) (hy : y < n) (hz : z < n) (hs : s < 4611686018427387900) (hn : n < 2305843009213693952) :
    Does Try.prog 126 [.slice (some ⟨b, o, none⟩) n c, .int .i64 x, .int .i64 y, .int .i64 z, .pointer (some ⟨bs, 0, none⟩)] [SwB bs s] w (fun v hs => v = .int .i64 (median ltInt d x y z s).1 ∧ hs = [SwB bs (median ltInt d x y z s).2]) := by
  refine Does.of (n := 36) Try.func126 rfl rfl rfl rfl ?_
  refine .seq ((.region (.v (.assign rfl) (.nil ?_))))
  unfold median
  dsimp only
  obtain ⟨a1, a2, a3⟩ := order2_lt d (s := s) hx hy
  refine .seq ((.region (.v (.move rfl) (.v (.move rfl) (.v (.move rfl) (.v (.move rfl) ?_))))))
  refine .ef (.callT [SwB bs s] rfl rfl fun w' k => order32_ok w' hsz (hR.keep k (by simp [bl])) x y s hx hy (by omega) hn) ?_
  generalize order2 ltInt d x y s = r1 at a1 a2 a3
  rintro _ _ ⟨_, ⟨rfl, rfl⟩, rfl⟩
  refine .v (.move rfl) (.v (.extract rfl rfl) (.v (.extract rfl rfl) (.v (.assign rfl) (.v (.assign rfl) (.nil ?_)))))
  obtain ⟨b1, b2, b3⟩ := order2_lt d (s := r1.2.2) a2 hz
  refine .seq ((.region (.v (.move rfl) (.v (.move rfl) (.v (.move rfl) (.v (.move rfl) ?_))))))
  refine .ef (.callT [SwB bs r1.2.2] rfl rfl fun w' k => order32_ok w' hsz (hR.keep k (by simp [bl])) r1.2.1 z r1.2.2 a2 hz (by omega) hn) ?_
  generalize order2 ltInt d r1.2.1 z r1.2.2 = r2 at b1 b2 b3
  rintro _ _ ⟨_, ⟨rfl, rfl⟩, rfl⟩
  refine .v (.move rfl) (.v (.extract rfl rfl) (.v (.extract rfl rfl) (.v (.assign rfl) (.v (.assign rfl) (.nil ?_)))))
  obtain ⟨c1, c2, c3⟩ := order2_lt d (s := r2.2.2) a1 b1
  refine .seq ((.region (.v (.move rfl) (.v (.move rfl) (.v (.move rfl) (.v (.move rfl) ?_))))))
  refine .ef (.callT [SwB bs r2.2.2] rfl rfl fun w' k => order32_ok w' hsz (hR.keep k (by simp [bl])) r1.1 r2.1 r2.2.2 a1 b1 (by omega) hn) ?_
  generalize order2 ltInt d r1.1 r2.1 r2.2.2 = r3 at c1 c2 c3
  rintro _ _ ⟨_, ⟨rfl, rfl⟩, rfl⟩
  refine .v (.move rfl) (.v (.extract rfl rfl) (.v (.extract rfl rfl) (.v (.assign rfl) (.v (.assign rfl) (.nil ?_)))))
  refine .seq ((.region (.v (.move rfl) (.v (.assign rfl) (.nil ?_)))))
  exact .ret ⟨[_], ⟨rfl, trivial⟩, rfl, rfl⟩
set_option maxRecDepth 20000 in
theorem adjacent32_ok (w : World) {b o c n bs : Nat} {d : Array Int} (hsz : d.size = n) (hR : Rd w [bs] (some ⟨b, o, none⟩) (ints .u32 d.toList)) (x s : Nat) (h0 : 0 < x) (hx : x + 1 < n) (hs : s < 4611686018427387900) (hn : n < 2305843009213693952) :
    Does Try.prog 125 [.slice (some ⟨b, o, none⟩) n c, .int .i64 x, .pointer (some ⟨bs, 0, none⟩)] [SwB bs s] w (fun v hs => v = .int .i64 (medianAdjacent ltInt d x s).1 ∧ hs = [SwB bs (medianAdjacent ltInt d x s).2]) := by
  refine Does.of (n := 15) Try.func125 rfl rfl rfl rfl ?_
  refine .seq ((.region (.v (.assign rfl) (.nil ?_))))
  unfold medianAdjacent
  refine .seq ((.region (.v (.move rfl) (.v (.move rfl) (.v (.subE ((x - 1 : Nat) : Int) rfl rfl (by omega) (by omega)) (.v (.move rfl) (.v (.move rfl) (.v (.addE ((x + 1 : Nat) : Int) rfl rfl (by omega) (by omega)) (.v (.move rfl) ?_)))))))))
  refine .ef (.callT [SwB bs s] rfl rfl fun w' k => median32_ok w' hsz (hR.keep k (by simp [bl])) (x - 1) x (x + 1) s (by omega) (by omega) hx hs hn) ?_
  generalize median ltInt d (x - 1) x (x + 1) s = r
  rintro _ _ ⟨_, ⟨rfl, rfl⟩, rfl⟩
  refine .v (.assign rfl) (.nil ?_)
  exact .ret ⟨[_], ⟨rfl, trivial⟩, rfl, rfl⟩
end Go.Proofs.Ytfajjkolhajldaa

/- slices.choosePivotOrdered at uint32. -/
namespace Go.Proofs.Ytfajjkolhajldaa
open Go.V
open Go.Sort (ltInt order2 median medianAdjacent choosePivot Hint)
set_option linter.unusedVariables false
set_option linter.unusedSimpArgs false

def hintV : Hint → Int
  | .unknown => 0
  | .increasing => 1
  | .decreasing => 2
def cpR (d : Array Int) (a e : Nat) : Nat × Nat :=
  if e - a ≥ 8 then
    if e - a ≥ 50 then
      let ri := medianAdjacent ltInt d (a + (e - a) / 4 * 1) 0
      let rj := medianAdjacent ltInt d (a + (e - a) / 4 * 2) ri.2
      let rk := medianAdjacent ltInt d (a + (e - a) / 4 * 3) rj.2
      median ltInt d ri.1 rj.1 rk.1 rk.2
    else median ltInt d (a + (e - a) / 4 * 1) (a + (e - a) / 4 * 2) (a + (e - a) / 4 * 3) 0
  else (a + (e - a) / 4 * 2, 0)
theorem cp_eq (d : Array Int) (a e : Nat) : choosePivot ltInt d a e = ((cpR d a e).1, if (cpR d a e).2 = 0 then .increasing else if (cpR d a e).2 = 12 then .decreasing else .unknown) := rfl
theorem adj_lt (d : Array Int) {x s n : Nat} (h0 : 0 < x) (hx : x + 1 < n) : (medianAdjacent ltInt d x s).1 < n ∧ (medianAdjacent ltInt d x s).2 ≤ s + 3 := median_lt d (by omega) (by omega) hx
structure C4 where
  x : Nat
  y : Nat
  z : Nat
  s : Nat
set_option maxRecDepth 20000 in
theorem choose32_ok (w : World) {b o c n : Nat} {d : Array Int} (hsz : d.size = n) (hR : Rd w [] (some ⟨b, o, none⟩) (ints .u32 d.toList)) (a e : Nat) (hae : a < e) (he : e ≤ n) (hn : n < 2305843009213693952) :
    Does Try.prog 110 [.slice (some ⟨b, o, none⟩) n c, .int .i64 a, .int .i64 e] [] w (fun v hs => v = .tuple ⟨[.int .i64 (choosePivot ltInt d a e).1, .int .i64 (hintV (choosePivot ltInt d a e).2)]⟩ ∧ hs = []) := by
  refine Does.less (Does.of (n := 57) Try.func110 rfl rfl rfl rfl ?_)
  obtain ⟨h, rfl⟩ := Nat.exists_eq_add_of_le (Nat.le_of_lt hae)
  rw [cp_eq]
  have hr : cpR d a (a + h) = if h ≥ 8 then if h ≥ 50 then median ltInt d (medianAdjacent ltInt d (a + h / 4 * 1) 0).1 (medianAdjacent ltInt d (a + h / 4 * 2) (medianAdjacent ltInt d (a + h / 4 * 1) 0).2).1 (medianAdjacent ltInt d (a + h / 4 * 3) (medianAdjacent ltInt d (a + h / 4 * 2) (medianAdjacent ltInt d (a + h / 4 * 1) 0).2).2).1 (medianAdjacent ltInt d (a + h / 4 * 3) (medianAdjacent ltInt d (a + h / 4 * 2) (medianAdjacent ltInt d (a + h / 4 * 1) 0).2).2).2 else median ltInt d (a + h / 4 * 1) (a + h / 4 * 2) (a + h / 4 * 3) 0 else (a + h / 4 * 2, 0) := by
    unfold cpR; rw [Nat.add_sub_cancel_left]
  generalize cpR d a (a + h) = R at hr ⊢
  generalize hq : h / 4 = q at hr
  have hq4 : (h : Int) / 4 = (q : Int) := by omega
  refine .seq ((.region (.v (.assign rfl) (.v (.assign rfl) (.nil ?_)))))
  refine .seq ((.region (.v (.move rfl) (.v (.move rfl) (.v (.subE (h : Int) rfl rfl (by omega) (by omega)) (.v (.assign rfl) (.nil ?_)))))))
  refine .seq ((.region (.nw .alloc fun b9 => (.nil ?_))))
  refine .seq ((.region (.v (.move rfl) (.v (.move rfl) (.v (.quoN q rfl rfl (by decide) hq4 (by omega) (by omega)) (.v (.muli rfl rfl (by omega)) (.v (.addE ((a + q * 1 : Nat) : Int) rfl rfl (by omega) (by omega)) (.v (.assign rfl) (.nil ?_)))))))))
  refine .seq ((.region (.v (.move rfl) (.v (.move rfl) (.v (.quoN q rfl rfl (by decide) hq4 (by omega) (by omega)) (.v (.muli rfl rfl (by omega)) (.v (.addE ((a + q * 2 : Nat) : Int) rfl rfl (by omega) (by omega)) (.v (.assign rfl) (.nil ?_)))))))))
  refine .seq ((.region (.v (.move rfl) (.v (.move rfl) (.v (.quoN q rfl rfl (by decide) hq4 (by omega) (by omega)) (.v (.muli rfl rfl (by omega)) (.v (.addE ((a + q * 3 : Nat) : Int) rfl rfl (by omega) (by omega)) (.v (.assign rfl) (.nil ?_)))))))))
  refine .keep [SwB b9 0] ?_
  refine .mid (X := Nat × Nat) (fun x => [(9, .pointer (some ⟨b9, 0, none⟩)), (11, .int .i64 x.1)]) (fun x => [SwB b9 x.2]) (fun x => x = R ∧ x.2 ≤ 12) (.seq ((.region (.v (.move rfl) (.v (.geq rfl rfl) (.nil ?_)))))) ?_
  · refine .cond_dec rfl (fun h1 => ?_) (fun h1 => .skip ?_)
    · have h8 : h ≥ 8 := by omega
      rw [if_pos h8] at hr
      refine .mid (X := C4) (fun x => [(0, .slice (some ⟨b, o, none⟩) n c), (9, .pointer (some ⟨b9, 0, none⟩)), (10, .int .i64 x.x), (11, .int .i64 x.y), (12, .int .i64 x.z)]) (fun x => [SwB b9 x.s]) (fun x => R = median ltInt d x.x x.y x.z x.s ∧ (x.x < n ∧ x.y < n ∧ x.z < n ∧ x.s ≤ 9)) (.seq ((.region (.v (.move rfl) (.v (.geq rfl rfl) (.nil ?_)))))) ?_
      · refine .cond_dec rfl (fun h2 => ?_) (fun h2 => .skip ?_)
        · have h50 : h ≥ 50 := by omega
          rw [if_pos h50] at hr
          obtain ⟨u1, u2⟩ := adj_lt d (x := a + q * 1) (s := 0) (n := n) (by omega) (by omega)
          refine .seq ((.region (.v (.move rfl) (.v (.move rfl) ?_))))
          refine .ef (.callT [SwB b9 0] rfl rfl fun w' k => adjacent32_ok w' hsz (hR.keep k (fun y hy => k.mine y (by simp at hy; subst hy; simp [bl]))) (a + q * 1) 0 (by omega) (by omega) (by omega) hn) ?_
          generalize medianAdjacent ltInt d (a + q * 1) 0 = r1 at u1 u2 hr
          rintro _ _ ⟨_, ⟨rfl, rfl⟩, rfl⟩
          refine .v (.assign rfl) (.nil ?_)
          obtain ⟨v1, v2⟩ := adj_lt d (x := a + q * 2) (s := r1.2) (n := n) (by omega) (by omega)
          refine .seq ((.region (.v (.move rfl) (.v (.move rfl) ?_))))
          refine .ef (.callT [SwB b9 r1.2] rfl rfl fun w' k => adjacent32_ok w' hsz (hR.keep k (fun y hy => k.mine y (by simp at hy; subst hy; simp [bl]))) (a + q * 2) r1.2 (by omega) (by omega) (by omega) hn) ?_
          generalize medianAdjacent ltInt d (a + q * 2) r1.2 = r2 at v1 v2 hr
          rintro _ _ ⟨_, ⟨rfl, rfl⟩, rfl⟩
          refine .v (.assign rfl) (.nil ?_)
          obtain ⟨x1, x2⟩ := adj_lt d (x := a + q * 3) (s := r2.2) (n := n) (by omega) (by omega)
          refine .region (.v (.move rfl) (.v (.move rfl) ?_))
          refine .ef (.callT [SwB b9 r2.2] rfl rfl fun w' k => adjacent32_ok w' hsz (hR.keep k (fun y hy => k.mine y (by simp at hy; subst hy; simp [bl]))) (a + q * 3) r2.2 (by omega) (by omega) (by omega) hn) ?_
          generalize medianAdjacent ltInt d (a + q * 3) r2.2 = r3 at x1 x2 hr
          rintro _ _ ⟨_, ⟨rfl, rfl⟩, rfl⟩
          refine .v (.assign rfl) (.nil ?_)
          exact ⟨⟨r1.1, r2.1, r3.1, r3.2⟩, ⟨hr, u1, v1, x1, by show r3.2 ≤ 9; omega⟩, .cons rfl (.cons rfl (.cons rfl (.cons rfl (.cons rfl (.nil _))))), fun _ s => s.take⟩
        · rw [if_neg (by omega)] at hr
          exact ⟨⟨a + q * 1, a + q * 2, a + q * 3, 0⟩, ⟨hr, by show a + q * 1 < n; omega, by show a + q * 2 < n; omega, by show a + q * 3 < n; omega, by show 0 ≤ 9; omega⟩, .cons rfl (.cons rfl (.cons rfl (.cons rfl (.cons rfl (.nil _))))), fun _ s => s.take⟩
      · rintro ⟨x, y, z, s⟩ ⟨hm, hx, hy, hz, hs⟩
        dsimp only at hm hx hy hz hs ⊢
        obtain ⟨m1, m2⟩ := median_lt d (s := s) hx hy hz
        refine .region (.v (.move rfl) (.v (.move rfl) (.v (.move rfl) (.v (.move rfl) ?_))))
        refine .ef (.callT [SwB b9 s] rfl rfl fun w' k => median32_ok w' hsz (hR.keep k (fun y hy => k.mine y (by simp at hy; subst hy; simp [bl]))) x y z s hx hy hz (by omega) hn) ?_
        generalize median ltInt d x y z s = r at m1 m2 hm
        rintro _ _ ⟨_, ⟨rfl, rfl⟩, rfl⟩
        refine .v (.assign rfl) (.nil ?_)
        exact ⟨r, ⟨hm.symm, by omega⟩, .cons rfl (.cons rfl (.nil _)), fun _ s => s.take⟩
    · rw [if_neg (by omega)] at hr
      exact ⟨(a + q * 2, 0), ⟨hr.symm, Nat.zero_le _⟩, .cons rfl (.cons rfl (.nil _)), fun _ s => s.take⟩
  · rintro ⟨j, s⟩ ⟨hx, hs⟩
    subst hx
    dsimp only at hs ⊢
    refine .seq ((.region (.v (.load (v := .int .i64 s) rfl (.one rfl)) (.nil ?_))))
    refine .block (.seq ((.region (.v (.eqi rfl rfl) (.v (.assign rfl) (.nil ?_))))))
    refine .cond_dec rfl (fun h3 => ?_) (fun h3 => ?_)
    · rw [if_pos (by omega)]
      refine .seq ((.region (.v (.move rfl) (.v (.assign rfl) (.v (.assign rfl) (.nil ?_))))))
      exact .ret ⟨[_, _], ⟨rfl, rfl, trivial⟩, [], fun _ s => s.sub (List.nil_sublist _), rfl, rfl⟩
    · rw [if_neg (by omega)]
      refine .seq ((.region (.v (.eqi rfl rfl) (.v (.assign rfl) (.nil ?_)))))
      refine .cond_dec rfl (fun h4 => ?_) (fun h4 => ?_)
      · rw [if_pos (by omega)]
        refine .seq ((.region (.v (.move rfl) (.v (.assign rfl) (.v (.assign rfl) (.nil ?_))))))
        exact .ret ⟨[_, _], ⟨rfl, rfl, trivial⟩, [], fun _ s => s.sub (List.nil_sublist _), rfl, rfl⟩
      · rw [if_neg (by omega)]
        refine .seq ((.region (.v (.move rfl) (.v (.assign rfl) (.v (.assign rfl) (.nil ?_))))))
        exact .ret ⟨[_, _], ⟨rfl, rfl, trivial⟩, [], fun _ s => s.sub (List.nil_sublist _), rfl, rfl⟩
end Go.Proofs.Ytfajjkolhajldaa

/- slices.xorshift.Next, loosely: some number comes. -/
namespace Go.Proofs.Ytfajjkolhajldaa
open Go.V
set_option linter.unusedVariables false
set_option linter.unusedSimpArgs false

theorem wrap_u64_rng (x : Int) : 0 ≤ IntKind.u64.wrap x ∧ IntKind.u64.wrap x ≤ 18446744073709551615 := by
  simp only [IntKind.wrap, IntKind.bits, IntKind.signed]
  constructor <;> simp <;> omega
theorem bop_rng (x y : Int) : 0 ≤ bop BinOp.xor IntKind.u64 x y ∧ bop BinOp.xor IntKind.u64 x y ≤ 18446744073709551615 := by
  unfold bop
  first | exact wrap_u64_rng _ | (simp; exact wrap_u64_rng _)
theorem next_ok (w : World) (bs : Nat) (x : Int) :
    Does Try.prog 120 [.pointer (some ⟨bs, 0, none⟩)] [(bs, .cells [.int .u64 x] 188)] w (fun v hs => ∃ y, (0 ≤ y ∧ y ≤ 18446744073709551615) ∧ v = .int .u64 y ∧ hs = [(bs, .cells [.int .u64 y] 188)]) := by
  refine Does.of (n := 33) Try.func120 rfl rfl rfl rfl ?_
  refine .seq ((.region (.v (.assign rfl) (.nil ?_))))
  refine .seq ((.drawQ 9 [0, 1, 2, 3, 4, 5, 6, 7, 8, 9] _ (fun _ h => h) (by kernel_rfl) (by kernel_rfl) ?_))
  refine .v (fun _ f => .move rfl) (.v (fun _ f => .nilCheck rfl) (.v (fun _ f => .load (v := .int .u64 x) rfl (.one (hb := .sub f) rfl)) (.v (fun _ f => .move rfl) (.v (fun _ f => .nilCheck rfl) (.v (fun _ f => .load (v := .int .u64 x) rfl (.one (hb := .sub f) rfl)) (.v (fun _ f => .shl rfl rfl (by omega)) (.v (fun _ f => .xor rfl rfl) (.v (fun _ f => .nilCheck rfl) (.st (.storeL rfl rfl rfl) (.nil ?_))))))))))
  generalize bop BinOp.xor IntKind.u64 _ _ = x1
  refine .seq ((.drawQ 9 [0, 1, 2, 3, 4, 5, 6, 7, 8, 9] _ (fun _ h => h) (by kernel_rfl) (by kernel_rfl) ?_))
  refine .v (fun _ f => .move rfl) (.v (fun _ f => .nilCheck rfl) (.v (fun _ f => .load (v := .int .u64 x1) rfl (.one (hb := .sub f) rfl)) (.v (fun _ f => .move rfl) (.v (fun _ f => .nilCheck rfl) (.v (fun _ f => .load (v := .int .u64 x1) rfl (.one (hb := .sub f) rfl)) (.v (fun _ f => .shr rfl rfl (by omega)) (.v (fun _ f => .xor rfl rfl) (.v (fun _ f => .nilCheck rfl) (.st (.storeL rfl rfl rfl) (.nil ?_))))))))))
  generalize bop BinOp.xor IntKind.u64 _ _ = x2
  refine .seq ((.drawQ 9 [0, 1, 2, 3, 4, 5, 6, 7, 8, 9] _ (fun _ h => h) (by kernel_rfl) (by kernel_rfl) ?_))
  refine .v (fun _ f => .move rfl) (.v (fun _ f => .nilCheck rfl) (.v (fun _ f => .load (v := .int .u64 x2) rfl (.one (hb := .sub f) rfl)) (.v (fun _ f => .move rfl) (.v (fun _ f => .nilCheck rfl) (.v (fun _ f => .load (v := .int .u64 x2) rfl (.one (hb := .sub f) rfl)) (.v (fun _ f => .shl rfl rfl (by omega)) (.v (fun _ f => .xor rfl rfl) (.v (fun _ f => .nilCheck rfl) (.st (.storeL rfl rfl rfl) (.nil ?_))))))))))
  have hr := bop_rng x2 (IntKind.u64.wrap (x2 * 2 ^ min (17 : Int).toNat IntKind.u64.bits))
  generalize bop BinOp.xor IntKind.u64 _ _ = x3 at hr ⊢
  refine .seq ((.region (.v (.move rfl) (.v (.nilCheck rfl) (.v (.load (v := .int .u64 x3) rfl (.one rfl)) (.v (.assign rfl) (.nil ?_)))))))
  exact .ret ⟨[_], ⟨rfl, trivial⟩, x3, hr, rfl, rfl⟩
end Go.Proofs.Ytfajjkolhajldaa

/- math/bits.Len64, Len, slices.nextPowerOfTwo, loosely: 2 ^ Len(x) <= 2 x. -/
namespace Go
namespace V
open Go.RowKit
set_option linter.unusedVariables false
set_option linter.unusedSimpArgs false
section
variable {P : Program} {n : Nat} {w0 : World} {own : List Nat} {e : Env} {hs : Hp}
theorem Val.indexS {T : Nat} {x y : Operand} {i : Int} {q : IntKind} {s : ByteArray} {b : UInt8} (hx : ev e x = some (.string s)) (hy : ev e y = some (.int q i)) [hT : StrT P T]
    (h0 : 0 ≤ i) (hv : s[i.toNat]? = some b) : Val P n w0 own e hs (.index T x y) (.int .u8 b.toNat) := fun a w ty pos aft g d hr s => by
  simp [execOp, hr.eval hx, hr.eval hy, Instr.index, asIntOf, run_underlying hT.out, h0, hv]
theorem Val.shrE {T U : Nat} {x y : Operand} {q r : IntKind} {i j : Int} (z : Int) (hx : ev e x = some (.int q i)) (hy : ev e y = some (.int r j)) (h0 : 0 ≤ j) (hz : i.fdiv (2 ^ min j.toNat q.bits) = z) :
    Val P n w0 own e hs (.binOp .shr T x y U) (.int q z) := hz ▸ Val.shr hx hy h0
theorem Val.shlE {T U : Nat} {x y : Operand} {q r : IntKind} {i j : Int} (z : Int) (hx : ev e x = some (.int q i)) (hy : ev e y = some (.int r j)) (h0 : 0 ≤ j) (hz : q.wrap (i * 2 ^ min j.toNat q.bits) = z) :
    Val P n w0 own e hs (.binOp .shl T x y U) (.int q z) := hz ▸ Val.shl hx hy h0
end
theorem fdiv_nat (x k : Nat) : (x : Int).fdiv (k : Int) = ((x / k : Nat) : Int) := by
  rw [Int.fdiv_eq_ediv_of_nonneg _ (by omega)]; rfl
theorem and_rng {y z : Int} (h0 : 0 ≤ z) (h1 : z ≤ 18446744073709551615) : 0 ≤ bop .and .u64 y z ∧ bop .and .u64 y z ≤ z := by
  have e1 : bop .and .u64 y z = IntKind.u64.wrap ((BitVec.ofInt 64 y &&& BitVec.ofInt 64 z).toNat : Int) := rfl
  have h2 : (BitVec.ofInt 64 y &&& BitVec.ofInt 64 z).toNat ≤ (BitVec.ofInt 64 z).toNat := by rw [BitVec.toNat_and]; exact Nat.and_le_right
  have h3 : ((BitVec.ofInt 64 z).toNat : Int) = z := by rw [BitVec.toNat_ofInt]; omega
  rw [e1, wrap_u64_in (by omega)]
  omega
end V
end Go
namespace Go.Proofs.Ytfajjkolhajldaa
open Go.V
set_option linter.unusedVariables false
set_option linter.unusedSimpArgs false
instance : StrT Try.prog 9 := ⟨by kernel_rfl⟩
def t8 : ByteArray := { data := ((([0, 1, 2, 2, 3, 3, 3, 3, 4, 4, 4, 4, 4, 4, 4, 4, 5, 5, 5, 5, 5, 5, 5, 5, 5, 5, 5, 5, 5, 5, 5, 5, 6, 6, 6, 6, 6, 6, 6, 6, 6, 6, 6, 6, 6, 6, 6, 6, 6, 6, 6, 6, 6, 6, 6, 6, 6, 6, 6, 6, 6, 6, 6, 6] : List UInt8).append [7, 7, 7, 7, 7, 7, 7, 7, 7, 7, 7, 7, 7, 7, 7, 7, 7, 7, 7, 7, 7, 7, 7, 7, 7, 7, 7, 7, 7, 7, 7, 7, 7, 7, 7, 7, 7, 7, 7, 7, 7, 7, 7, 7, 7, 7, 7, 7, 7, 7, 7, 7, 7, 7, 7, 7, 7, 7, 7, 7, 7, 7, 7, 7]).append ([8, 8, 8, 8, 8, 8, 8, 8, 8, 8, 8, 8, 8, 8, 8, 8, 8, 8, 8, 8, 8, 8, 8, 8, 8, 8, 8, 8, 8, 8, 8, 8, 8, 8, 8, 8, 8, 8, 8, 8, 8, 8, 8, 8, 8, 8, 8, 8, 8, 8, 8, 8, 8, 8, 8, 8, 8, 8, 8, 8, 8, 8, 8, 8].append [8, 8, 8, 8, 8, 8, 8, 8, 8, 8, 8, 8, 8, 8, 8, 8, 8, 8, 8, 8, 8, 8, 8, 8, 8, 8, 8, 8, 8, 8, 8, 8, 8, 8, 8, 8, 8, 8, 8, 8, 8, 8, 8, 8, 8, 8, 8, 8, 8, 8, 8, 8, 8, 8, 8, 8, 8, 8, 8, 8, 8, 8, 8, 8])).toArray }
theorem t8_all : (List.range 256).all (fun i => match t8[i]? with | some b => decide ((b.toNat ≤ 8) ∧ ((i = 0 ∧ b.toNat = 0) ∨ 2 ^ b.toNat ≤ 2 * i)) | none => false) = true := by decide +kernel
theorem t8_get {i : Nat} (h : i < 256) : ∃ b : UInt8, t8[i]? = some b ∧ b.toNat ≤ 8 ∧ ((i = 0 ∧ b.toNat = 0) ∨ 2 ^ b.toNat ≤ 2 * i) := by
  have h1 := List.all_eq_true.1 t8_all i (List.mem_range.2 h)
  cases hb : t8[i]? with
  | none => rw [hb] at h1; cases h1
  | some b => rw [hb] at h1; exact ⟨b, rfl, (of_decide_eq_true h1).1, (of_decide_eq_true h1).2⟩
/-- (what is left, what was counted) -/
abbrev LenI (x B K : Nat) (y : Nat × Nat) : Prop := y.1 < B ∧ y.2 ≤ K ∧ 2 ^ y.2 * y.1 ≤ x ∧ (0 < x → 0 < y.1) ∧ (x = 0 → y.2 = 0)
theorem LenI.next {x K B' k : Nat} {y : Nat × Nat} (h : LenI x (2 ^ k * B') K y) (hg : 2 ^ k ≤ y.1) : LenI x B' (K + k) (y.1 / 2 ^ k, y.2 + k) := by
  obtain ⟨h1, h2, h3, h4, h5⟩ := h
  have hp : 0 < 2 ^ k := Nat.pos_of_ne_zero (by simp)
  have hy : 0 < y.1 := by omega
  have hx : 0 < x := by
    have : 0 < 2 ^ y.2 * y.1 := Nat.mul_pos (Nat.pos_of_ne_zero (by simp)) hy
    omega
  refine ⟨(Nat.div_lt_iff_lt_mul hp).2 (by rw [Nat.mul_comm]; exact h1), Nat.add_le_add_right h2 k, ?_, fun _ => Nat.div_pos hg hp, fun h => by omega⟩
  show 2 ^ (y.2 + k) * (y.1 / 2 ^ k) ≤ x
  rw [Nat.pow_add, Nat.mul_assoc]
  exact Nat.le_trans (Nat.mul_le_mul_left _ (Nat.mul_div_le _ _)) h3
theorem LenI.stay {x B K B' K' : Nat} {y : Nat × Nat} (h : LenI x B K y) (hg : y.1 < B') (hk : K ≤ K') : LenI x B' K' y := ⟨hg, Nat.le_trans h.2.1 hk, h.2.2⟩
set_option maxRecDepth 20000 in
theorem len64_ok (w : World) (x : Nat) (hx : x < 18446744073709551616) : Does Try.prog 106 [.int .u64 x] [] w (fun v hs => ∃ k : Nat, k ≤ 64 ∧ (0 < x → 2 ^ k ≤ 2 * x) ∧ v = .int .i64 k ∧ hs = []) := by
  refine Does.of (n := 25) Try.func106 rfl rfl rfl rfl ?_
  refine .seq ((.region (.v (.assign rfl) (.nil ?_))))
  have i0 : LenI x 18446744073709551616 0 (x, 0) := ⟨hx, Nat.le_refl _, by show 2 ^ 0 * x ≤ x; omega, fun h => h, fun _ => rfl⟩
  refine .mid (X := Nat × Nat) (fun y => [(0, .int .u64 y.1), (2, .int .i64 y.2)]) (fun _ => []) (LenI x 4294967296 32) (.seq ((.region (.v (.move rfl) (.v (.geq rfl rfl) (.nil ?_)))))) ?_
  · refine .cond_dec rfl (fun h1 => ?_) (fun h1 => .skip ?_)
    · refine .seq ((.region (.v (.move rfl) (.v (.shrE ((x / 4294967296 : Nat) : Int) rfl rfl (by omega) (fdiv_nat x 4294967296)) (.v (.assign rfl) (.nil ?_))))))
      refine .region (.v (.assign rfl) (.nil ?_))
      exact ⟨(x / 4294967296, 32), LenI.next (x := x) (K := 0) (k := 32) (B' := 4294967296) (y := (x, 0)) i0 (show 2 ^ 32 ≤ x by omega), .cons rfl (.cons rfl (.nil _)), fun _ s => s⟩
    · exact ⟨(x, 0), i0.stay (show x < _ by omega) (by omega), .cons rfl (.cons rfl (.nil _)), fun _ s => s⟩
  rintro ⟨x1, k1⟩ i1
  dsimp only at ⊢
  have b1 := i1.2.1
  dsimp only at b1
  refine .mid (X := Nat × Nat) (fun y => [(0, .int .u64 y.1), (2, .int .i64 y.2)]) (fun _ => []) (LenI x 65536 48) (.seq ((.region (.v (.move rfl) (.v (.geq rfl rfl) (.nil ?_)))))) ?_
  · refine .cond_dec rfl (fun h1 => ?_) (fun h1 => .skip ?_)
    · refine .seq ((.region (.v (.move rfl) (.v (.shrE ((x1 / 65536 : Nat) : Int) rfl rfl (by omega) (fdiv_nat x1 65536)) (.v (.assign rfl) (.nil ?_))))))
      refine .region (.v (.move rfl) (.v (.addE ((k1 + 16 : Nat) : Int) rfl rfl (by omega) (by omega)) (.v (.assign rfl) (.nil ?_))))
      exact ⟨(x1 / 65536, k1 + 16), LenI.next (x := x) (K := 32) (k := 16) (B' := 65536) (y := (x1, k1)) i1 (show 2 ^ 16 ≤ x1 by omega), .cons rfl (.cons rfl (.nil _)), fun _ s => s⟩
    · exact ⟨(x1, k1), i1.stay (show x1 < _ by omega) (by omega), .cons rfl (.cons rfl (.nil _)), fun _ s => s⟩
  clear b1 i1 i0 hx
  rintro ⟨x2, k2⟩ i2
  dsimp only at ⊢
  have b2 := i2.2.1
  dsimp only at b2
  refine .mid (X := Nat × Nat) (fun y => [(0, .int .u64 y.1), (2, .int .i64 y.2)]) (fun _ => []) (LenI x 256 56) (.seq ((.region (.v (.move rfl) (.v (.geq rfl rfl) (.nil ?_)))))) ?_
  · refine .cond_dec rfl (fun h1 => ?_) (fun h1 => .skip ?_)
    · refine .seq ((.region (.v (.move rfl) (.v (.shrE ((x2 / 256 : Nat) : Int) rfl rfl (by omega) (fdiv_nat x2 256)) (.v (.assign rfl) (.nil ?_))))))
      refine .region (.v (.move rfl) (.v (.addE ((k2 + 8 : Nat) : Int) rfl rfl (by omega) (by omega)) (.v (.assign rfl) (.nil ?_))))
      exact ⟨(x2 / 256, k2 + 8), LenI.next (x := x) (K := 48) (k := 8) (B' := 256) (y := (x2, k2)) i2 (show 2 ^ 8 ≤ x2 by omega), .cons rfl (.cons rfl (.nil _)), fun _ s => s⟩
    · exact ⟨(x2, k2), i2.stay (show x2 < _ by omega) (by omega), .cons rfl (.cons rfl (.nil _)), fun _ s => s⟩
  clear b2 i2
  rintro ⟨x3, k3⟩ ⟨i1, i2, i3, i4, i5⟩
  dsimp only at i1 i2 i3 i4 i5 ⊢
  obtain ⟨c, hc, hc8, hc2⟩ := t8_get i1
  refine .seq ((.region (.v (.move rfl) (.v (.move rfl) (.v (.convE (x3 : Int) rfl (by simp [IntKind.wrap, IntKind.bits, IntKind.signed]; omega)) (.v (.indexS rfl rfl (by omega) hc) (.v (.convE (c.toNat : Int) rfl (wrap_i64 (by omega))) (.v (.addE ((k3 + c.toNat : Nat) : Int) rfl rfl (by omega) (by omega)) (.v (.assign rfl) (.nil ?_))))))))))
  refine .ret ?_
  refine ⟨[_], ⟨rfl, trivial⟩, k3 + c.toNat, by omega, fun h => ?_, rfl, rfl⟩
  have h3 := i4 h
  rcases hc2 with ⟨h, _⟩ | hc2
  · omega
  · rw [Nat.pow_add]
    have := Nat.mul_le_mul_left (2 ^ k3) hc2
    rw [show 2 ^ k3 * (2 * x3) = 2 * (2 ^ k3 * x3) by rw [Nat.mul_left_comm]] at this
    omega
set_option maxRecDepth 20000 in
theorem len_ok (w : World) (x : Nat) (hx : x < 18446744073709551616) : Does Try.prog 87 [.int .u64 x] [] w (fun v hs => ∃ k : Nat, k ≤ 64 ∧ (0 < x → 2 ^ k ≤ 2 * x) ∧ v = .int .i64 k ∧ hs = []) := by
  refine Does.of (n := 8) Try.func87 rfl rfl rfl rfl ?_
  refine .seq ((.region (.v (.assign rfl) (.nil ?_))))
  refine .seq (.cond_false rfl (.skip ?_))
  refine .seq ((.region (.v (.move rfl) ?_)))
  refine .ef (.call0 rfl rfl fun w s => len64_ok w x hx) ?_
  rintro _ _ ⟨_, ⟨k, h1, h2, rfl, rfl⟩, rfl⟩
  refine .v (.assign rfl) (.nil ?_)
  exact .ret ⟨[_], ⟨rfl, trivial⟩, k, h1, h2, rfl, rfl⟩
set_option maxRecDepth 20000 in
theorem nextPow_ok (w : World) (x : Nat) (h0 : 0 < x) (hx : x < 2305843009213693952) : Does Try.prog 119 [.int .i64 x] [] w (fun v hs => ∃ m : Nat, 0 < m ∧ m ≤ 2 * x ∧ v = .int .u64 m ∧ hs = []) := by
  refine Does.of (n := 7) Try.func119 rfl rfl rfl rfl ?_
  refine .seq ((.region (.v (.assign rfl) (.nil ?_))))
  refine .seq ((.region (.v (.move rfl) (.v (.convE (x : Int) rfl (wrap_u64_in (by omega))) ?_))))
  refine .ef (.call0 rfl rfl fun w s => len_ok w x (by omega)) ?_
  rintro _ _ ⟨_, ⟨k, h1, h2, rfl, rfl⟩, rfl⟩
  have h3 := h2 h0
  have hp : 0 < 2 ^ k := Nat.pos_of_ne_zero (by simp)
  refine .v (.shlE ((2 ^ k : Nat) : Int) rfl rfl (by omega) ?_) (.v (.assign rfl) (.nil ?_))
  · rw [show min ((k : Int).toNat) IntKind.u64.bits = k by rw [Int.toNat_natCast]; exact Nat.min_eq_left h1, Int.one_mul]
    rw [show ((2 : Int) ^ k) = ((2 ^ k : Nat) : Int) by simp]
    exact wrap_u64_in (by omega)
  exact .ret ⟨[_], ⟨rfl, trivial⟩, 2 ^ k, hp, h3, rfl, rfl⟩
end Go.Proofs.Ytfajjkolhajldaa

/- slices.partitionOrdered, partitionEqualOrdered at uint32 (printed by wip/gen/gen_part.py). -/
namespace Go.Proofs.Ytfajjkolhajldaa
open Go.V
open Go.Sort (ltInt swp scanUp scanDown partLoop partEqLoop partition partitionEqual)
set_option linter.unusedVariables false
set_option linter.unusedSimpArgs false
section
variable {p : Int → Bool} {d : Array Int} {i j : Nat}
theorem su_go (h : i ≤ j) (hp : p d[i]! = true) : scanUp p d j i = scanUp p d j (i + 1) := by rw [scanUp, if_pos]; simp [h, hp]
theorem su_end (h : j < i) : scanUp p d j i = i := by rw [scanUp, if_neg]; simp; omega
theorem su_stop (hp : p d[i]! = false) : scanUp p d j i = i := by rw [scanUp, if_neg]; simp [hp]
theorem sd_go (h : i ≤ j + 1) (hp : p d[j + 1]! = true) : scanDown p d i (j + 1) = scanDown p d i j := by rw [scanDown, if_pos]; simp [h, hp]
theorem sd_end (h : j < i) : scanDown p d i j = j := by
  cases j with
  | zero => rw [scanDown]
  | succ j => rw [scanDown, if_neg]; simp; omega
theorem sd_stop (hp : p d[j]! = false) : scanDown p d i j = j := by
  cases j with
  | zero => rw [scanDown]
  | succ j => rw [scanDown, if_neg]; simp [hp]
end
structure ParS where
  i : Nat
  j : Nat
  d : Array Int
  l : List Value
set_option maxRecDepth 20000 in
theorem partition32_ok (w : World) {b o c n : Nat} {d : Array Int} {l : List Value} (k : So32 b o c n d l) (a e p : Nat) (hap : a ≤ p) (hpe : p < e) (he : e ≤ n) (hn : n < 2305843009213693952) :
    Does Try.prog 115 [.slice (some ⟨b, o, none⟩) n c, .int .i64 a, .int .i64 e, .int .i64 p] [(b, .cells l 29)] w (fun v hs => ∃ l' f, v = .tuple ⟨[.int .i64 (partition ltInt d a e p).1, .bool f]⟩ ∧ hs = [(b, .cells l' 29)] ∧ So32 b o c n (partition ltInt d a e p).2.2 l') := by
  rw [Go.Sort.partition_fst, Go.Sort.partition_arr]
  generalize hPL : partLoop ltInt a (a + 1) (e - 1) (swp d a p) = PL
  refine Does.of (n := 168) Try.func115 rfl rfl rfl rfl ?_
  refine .seq ((.region (.v (.assign rfl) (.v (.assign rfl) (.nil ?_)))))
  refine .mid (X := Array Int × List Value) (fun _ => [(0, .slice (some ⟨b, o, none⟩) n c), (1, .int .i64 a), (2, .int .i64 e)]) (fun x => [(b, .cells x.2 29)]) (fun x => x.1 = swp d a p ∧ So32 b o c n x.1 x.2) ?_ ?_
  · have ks := k.swp (i := a) (j := p) (by omega) (by omega)
    have q0 := fun hs' hsub => k.at_ (w0 := w) (own := [b]) (hs := hs') (i := a) (by omega) hsub
    have q1 := fun hs' hsub => k.at_ (w0 := w) (own := [b]) (hs := hs') (i := p) (by omega) hsub
    have hlen := k.len
    have ex : ∃ d' : Array Int, d' = swp d a p := ⟨_, rfl⟩
    generalize d[a]! = x0 at q0 ks
    generalize d[p]! = x1 at q1 ks
    refine .drawY 13 [0, 1, 2, 3, 4, 5, 6, 7, 8, 9, 10, 11, 12, 13, 14, 15] [(b, .cells l 29)] (fun _ h => h) (by kernel_rfl) (by kernel_rfl) ?_
    refine .x (fun _ _ _ => .move rfl) (.x (fun _ _ _ => .move rfl) (.x (fun _ _ _ => .move rfl) (.x (fun _ _ _ => .move rfl) (.x (fun _ _ _ => .move rfl) (.x (fun _ _ _ => .move rfl) (.x (fun _ _ _ => .indexN (p) rfl rfl (by omega)) (.v (fun hs' f => .load (v := .int .u32 x1) rfl (q1 hs' f)) (.x (fun _ _ _ => .move rfl) (.x (fun _ _ _ => .move rfl) (.x (fun _ _ _ => .indexN (a) rfl rfl (by omega)) (.v (fun hs' f => .load (v := .int .u32 x0) rfl (q0 hs' f)) (.x (fun _ _ _ => .indexN (a) rfl rfl (by omega)) (.st (.store rfl rfl rfl (by omega)) (.x (fun _ _ _ => .indexN (p) rfl rfl (by omega)) (.st2 (.store rfl rfl rfl (by rw [List.length_set]; omega)) (.nil ?_))))))))))))))))
    exact ⟨(swp d (a) (p), (l.set (o + (a)) (.int .u32 x1)).set (o + (p)) (.int .u32 x0)), ⟨rfl, ks⟩, .cons rfl (.cons rfl (.cons rfl (.nil _))), fun _ s => s⟩
  rintro ⟨d1, l1⟩ ⟨hd1, kd1⟩
  try dsimp only at hd1 kd1 ⊢
  have zd1 := kd1.sz
  rw [← hd1] at hPL
  clear hd1 k
  refine .seq ((.region (.v (.move rfl) (.v (.addE ((a + 1 : Nat) : Int) rfl rfl (by omega) (by omega)) (.v (.move rfl) (.v (.subE ((e - 1 : Nat) : Int) rfl rfl (by omega) (by omega)) (.v (.assign rfl) (.v (.assign rfl) (.nil ?_)))))))))
  refine .mid (X := Nat) (fun x => [(0, .slice (some ⟨b, o, none⟩) n c), (1, .int .i64 a), (10, .int .i64 ((x : Nat) : Int)), (11, .int .i64 (((e - 1) : Nat) : Int))]) (fun _ => [(b, .cells l1 29)]) (fun x => x = scanUp (fun x => ltInt x d1[a]!) d1 ((e - 1)) (a + 1)) (.block (.loop (X := Nat) (fun x => [(0, .slice (some ⟨b, o, none⟩) n c), (1, .int .i64 a), (10, .int .i64 ((x : Nat) : Int)), (11, .int .i64 (((e - 1) : Nat) : Int))]) (fun _ => [(b, .cells l1 29)]) (fun x => (a + 1 ≤ x ∧ x ≤ (e - 1) + 1) ∧ scanUp (fun x => ltInt x d1[a]!) d1 ((e - 1)) x = scanUp (fun x => ltInt x d1[a]!) d1 ((e - 1)) (a + 1)) (fun x => (e - 1) + 1 - x) (a + 1) ⟨⟨by omega, by omega⟩, rfl⟩ (.cons rfl (.cons rfl (.cons rfl (.cons rfl (.nil _))))) (fun _ s => s) ?_)) ?_
  · rintro y ⟨⟨hy1, hy2⟩, h1⟩
    try dsimp only at hy1 hy2 h1 ⊢
    by_cases hg : y ≤ (e - 1)
    case neg =>
      refine .seq (.seq (.drawK [(b, .cells l1 29)] (fun _ h => h) (by kernel_rfl) (by kernel_rfl) ?_))
      refine .v (fun _ f => .move rfl) (.v (fun _ f => .move rfl) (.v (fun _ f => .no (.leq rfl rfl) (by omega)) (.v (fun _ f => .move rfl) (.and (b2 := true) 33 42 9 9 rfl rfl (fun g1 => absurd g1 (by simp)) (.nil ?_)))))
      refine .cond_false rfl (.exit ?_)
      rw [su_end (by omega)] at h1
      exact ⟨y, h1, .cons rfl (.cons rfl (.cons rfl (.cons rfl (.nil _)))), fun _ s => s⟩
    have q0 := fun hs' hsub => kd1.at_ (w0 := w) (own := [b]) (hs := hs') (i := y) (by omega) hsub
    have q1 := fun hs' hsub => kd1.at_ (w0 := w) (own := [b]) (hs := hs') (i := a) (by omega) hsub
    refine .seq (.seq (.drawK [(b, .cells l1 29)] (fun _ h => h) (by kernel_rfl) (by kernel_rfl) ?_))
    refine .v (fun _ f => .move rfl) (.v (fun _ f => .move rfl) (.v (fun _ f => .yes (.leq rfl rfl) (by omega)) (.v (fun _ f => .move rfl) (.and (b2 := ltInt d1[y]! d1[a]!) 33 42 9 9 rfl rfl (fun g1 => .v (fun _ f => .move rfl) (.v (fun _ f => .move rfl) (.v (fun _ f => .indexN (y) rfl rfl (by omega)) (.v (fun hs' f => .load (v := .int .u32 d1[y]!) rfl (q0 hs' f)) (.v (fun _ f => .move rfl) (.v (fun _ f => .move rfl) (.v (fun _ f => .indexN (a) rfl rfl (by omega)) (.v (fun hs' f => .load (v := .int .u32 d1[a]!) rfl (q1 hs' f)) (.pc rfl rfl (fun w s => less32_ok w _ _) (.nil ⟨rfl, rfl, rfl, rfl⟩)))))))))) (.nil ?_)))))
    refine .cond rfl (fun g2 => .skip ?_) (fun g2 => .exit ?_)
    · have g2' : (ltInt d1[y]! d1[a]!) = true := by simpa using g2
      refine .block (.region (.v (.move rfl) (.v (.addE ((y + 1 : Nat) : Int) rfl rfl (by omega) (by omega)) (.v (.assign rfl) (.nil ?_)))))
      exact ⟨y + 1, ⟨⟨by omega, by omega⟩, by rw [← h1]; exact (su_go hg g2').symm⟩, by omega, .cons rfl (.cons rfl (.cons rfl (.cons rfl (.nil _)))), fun _ s => s⟩
    · have g2' : (ltInt d1[y]! d1[a]!) = false := by simpa using g2
      exact ⟨y, by rw [← h1]; exact (su_stop (p := (fun x => ltInt x d1[a]!)) g2').symm, .cons rfl (.cons rfl (.cons rfl (.cons rfl (.nil _)))), fun _ s => s⟩
  rintro i2 hi2
  try dsimp only at hi2 ⊢
  have hf := Go.Sort.round_facts (fun x => ltInt x d1[a]!) (fun x => !ltInt x d1[a]!) (fun x => by simp) d1 (a + 1 - 1) ((e - 1) + 1) (a + 1) ((e - 1)) (by omega) (by omega) (fun t h1 h2 => by omega) (fun t h1 h2 => by omega)
  rw [← hi2] at hf
  obtain ⟨f1, f2, f3, f4, _, _, f7⟩ := hf
  refine .mid (X := Nat) (fun x => [(0, .slice (some ⟨b, o, none⟩) n c), (1, .int .i64 a), (10, .int .i64 ((i2 : Nat) : Int)), (11, .int .i64 ((x : Nat) : Int))]) (fun _ => [(b, .cells l1 29)]) (fun x => x = scanDown (fun x => !ltInt x d1[a]!) d1 (i2) ((e - 1))) (.block (.loop (X := Nat) (fun x => [(0, .slice (some ⟨b, o, none⟩) n c), (1, .int .i64 a), (10, .int .i64 ((i2 : Nat) : Int)), (11, .int .i64 ((x : Nat) : Int))]) (fun _ => [(b, .cells l1 29)]) (fun x => (i2 ≤ x + 1 ∧ x ≤ (e - 1)) ∧ scanDown (fun x => !ltInt x d1[a]!) d1 (i2) x = scanDown (fun x => !ltInt x d1[a]!) d1 (i2) ((e - 1))) (fun x => x) ((e - 1)) ⟨⟨by omega, by omega⟩, rfl⟩ (.cons rfl (.cons rfl (.cons rfl (.cons rfl (.nil _))))) (fun _ s => s) ?_)) ?_
  · rintro y ⟨⟨hy1, hy2⟩, h1⟩
    try dsimp only at hy1 hy2 h1 ⊢
    by_cases hg : i2 ≤ y
    case neg =>
      refine .seq (.seq (.drawK [(b, .cells l1 29)] (fun _ h => h) (by kernel_rfl) (by kernel_rfl) ?_))
      refine .v (fun _ f => .move rfl) (.v (fun _ f => .move rfl) (.v (fun _ f => .no (.leq rfl rfl) (by omega)) (.v (fun _ f => .move rfl) (.and (b2 := true) 49 59 10 10 rfl rfl (fun g1 => absurd g1 (by simp)) (.nil ?_)))))
      refine .cond_false rfl (.exit ?_)
      rw [sd_end (by omega)] at h1
      exact ⟨y, h1, .cons rfl (.cons rfl (.cons rfl (.cons rfl (.nil _)))), fun _ s => s⟩
    obtain ⟨y, rfl⟩ : ∃ y', y = y' + 1 := ⟨y - 1, by omega⟩
    have q0 := fun hs' hsub => kd1.at_ (w0 := w) (own := [b]) (hs := hs') (i := y + 1) (by omega) hsub
    have q1 := fun hs' hsub => kd1.at_ (w0 := w) (own := [b]) (hs := hs') (i := a) (by omega) hsub
    refine .seq (.seq (.drawK [(b, .cells l1 29)] (fun _ h => h) (by kernel_rfl) (by kernel_rfl) ?_))
    refine .v (fun _ f => .move rfl) (.v (fun _ f => .move rfl) (.v (fun _ f => .yes (.leq rfl rfl) (by omega)) (.v (fun _ f => .move rfl) (.and (b2 := !ltInt d1[y + 1]! d1[a]!) 49 59 10 10 rfl rfl (fun g1 => .v (fun _ f => .move rfl) (.v (fun _ f => .move rfl) (.v (fun _ f => .indexN (y + 1) rfl rfl (by omega)) (.v (fun hs' f => .load (v := .int .u32 d1[y + 1]!) rfl (q0 hs' f)) (.v (fun _ f => .move rfl) (.v (fun _ f => .move rfl) (.v (fun _ f => .indexN (a) rfl rfl (by omega)) (.v (fun hs' f => .load (v := .int .u32 d1[a]!) rfl (q1 hs' f)) (.pc rfl rfl (fun w s => less32_ok w _ _) (.v (fun _ f => .not rfl) (.nil ⟨rfl, rfl, rfl, rfl⟩))))))))))) (.nil ?_)))))
    refine .cond rfl (fun g2 => .skip ?_) (fun g2 => .exit ?_)
    · have g2' : (!ltInt d1[y + 1]! d1[a]!) = true := by simpa using g2
      refine .block (.region (.v (.move rfl) (.v (.subE (y : Int) rfl rfl (by omega) (by omega)) (.v (.assign rfl) (.nil ?_)))))
      exact ⟨y, ⟨⟨by omega, by omega⟩, by rw [← h1]; exact (sd_go hg g2').symm⟩, by omega, .cons rfl (.cons rfl (.cons rfl (.cons rfl (.nil _)))), fun _ s => s⟩
    · have g2' : (!ltInt d1[y + 1]! d1[a]!) = false := by simpa using g2
      exact ⟨y + 1, by rw [← h1]; exact (sd_stop (p := (fun x => !ltInt x d1[a]!)) g2').symm, .cons rfl (.cons rfl (.cons rfl (.cons rfl (.nil _)))), fun _ s => s⟩
  rintro j2 hj2
  try dsimp only at hj2 ⊢
  rw [← hj2] at f3 f4 f7
  refine .seq (.seq ((.region (.v (.move rfl) (.v (.move rfl) (.v (.gtr rfl rfl) (.nil ?_)))))))
  rw [Go.Sort.partLoop_eq, ← hi2, ← hj2] at hPL
  refine .cond_dec rfl (fun h3 => ?_) (fun h3 => .skip ?_)
  · rw [if_pos (by omega)] at hPL
    subst hPL
    refine .mid (X := Array Int × List Value) (fun _ => [(11, .int .i64 j2)]) (fun x => [(b, .cells x.2 29)]) (fun x => x.1 = swp d1 j2 a ∧ So32 b o c n x.1 x.2) ?_ ?_
    · have ks := kd1.swp (i := j2) (j := a) (by omega) (by omega)
      have q0 := fun hs' hsub => kd1.at_ (w0 := w) (own := [b]) (hs := hs') (i := j2) (by omega) hsub
      have q1 := fun hs' hsub => kd1.at_ (w0 := w) (own := [b]) (hs := hs') (i := a) (by omega) hsub
      have hlen := kd1.len
      have ex : ∃ d' : Array Int, d' = swp d1 j2 a := ⟨_, rfl⟩
      generalize d1[j2]! = x0 at q0 ks
      generalize d1[a]! = x1 at q1 ks
      refine .drawY 13 [0, 1, 2, 3, 4, 5, 6, 7, 8, 9, 10, 11, 12, 13, 14, 15] [(b, .cells l1 29)] (fun _ h => h) (by kernel_rfl) (by kernel_rfl) ?_
      refine .x (fun _ _ _ => .move rfl) (.x (fun _ _ _ => .move rfl) (.x (fun _ _ _ => .move rfl) (.x (fun _ _ _ => .move rfl) (.x (fun _ _ _ => .move rfl) (.x (fun _ _ _ => .move rfl) (.x (fun _ _ _ => .indexN (a) rfl rfl (by omega)) (.v (fun hs' f => .load (v := .int .u32 x1) rfl (q1 hs' f)) (.x (fun _ _ _ => .move rfl) (.x (fun _ _ _ => .move rfl) (.x (fun _ _ _ => .indexN (j2) rfl rfl (by omega)) (.v (fun hs' f => .load (v := .int .u32 x0) rfl (q0 hs' f)) (.x (fun _ _ _ => .indexN (j2) rfl rfl (by omega)) (.st (.store rfl rfl rfl (by omega)) (.x (fun _ _ _ => .indexN (a) rfl rfl (by omega)) (.st2 (.store rfl rfl rfl (by rw [List.length_set]; omega)) (.nil ?_))))))))))))))))
      exact ⟨(swp d1 (j2) (a), (l1.set (o + (j2)) (.int .u32 x1)).set (o + (a)) (.int .u32 x0)), ⟨rfl, ks⟩, .cons rfl (.nil _), fun _ s => s⟩
    rintro ⟨d2, l2⟩ ⟨hd2, kd2⟩
    try dsimp only at hd2 kd2 ⊢
    have zd2 := kd2.sz
    refine .seq ((.region (.v (.move rfl) (.v (.assign rfl) (.v (.assign rfl) (.nil ?_))))))
    exact .ret ⟨[_, _], ⟨rfl, rfl, trivial⟩, l2, _, rfl, rfl, hd2 ▸ kd2⟩
  · rw [if_neg (by omega)] at hPL
    have f8 := (f7 (by omega)).2.2
    refine .mid (X := Array Int × List Value) (fun _ => [(0, .slice (some ⟨b, o, none⟩) n c), (1, .int .i64 a), (10, .int .i64 ((i2 : Nat) : Int)), (11, .int .i64 ((j2 : Nat) : Int))]) (fun x => [(b, .cells x.2 29)]) (fun x => x.1 = swp d1 i2 j2 ∧ So32 b o c n x.1 x.2) ?_ ?_
    · have ks := kd1.swp (i := i2) (j := j2) (by omega) (by omega)
      have q0 := fun hs' hsub => kd1.at_ (w0 := w) (own := [b]) (hs := hs') (i := i2) (by omega) hsub
      have q1 := fun hs' hsub => kd1.at_ (w0 := w) (own := [b]) (hs := hs') (i := j2) (by omega) hsub
      have hlen := kd1.len
      have ex : ∃ d' : Array Int, d' = swp d1 i2 j2 := ⟨_, rfl⟩
      generalize d1[i2]! = x0 at q0 ks
      generalize d1[j2]! = x1 at q1 ks
      refine .drawY 13 [0, 1, 2, 3, 4, 5, 6, 7, 8, 9, 10, 11, 12, 13, 14, 15] [(b, .cells l1 29)] (fun _ h => h) (by kernel_rfl) (by kernel_rfl) ?_
      refine .x (fun _ _ _ => .move rfl) (.x (fun _ _ _ => .move rfl) (.x (fun _ _ _ => .move rfl) (.x (fun _ _ _ => .move rfl) (.x (fun _ _ _ => .move rfl) (.x (fun _ _ _ => .move rfl) (.x (fun _ _ _ => .indexN (j2) rfl rfl (by omega)) (.v (fun hs' f => .load (v := .int .u32 x1) rfl (q1 hs' f)) (.x (fun _ _ _ => .move rfl) (.x (fun _ _ _ => .move rfl) (.x (fun _ _ _ => .indexN (i2) rfl rfl (by omega)) (.v (fun hs' f => .load (v := .int .u32 x0) rfl (q0 hs' f)) (.x (fun _ _ _ => .indexN (i2) rfl rfl (by omega)) (.st (.store rfl rfl rfl (by omega)) (.x (fun _ _ _ => .indexN (j2) rfl rfl (by omega)) (.st2 (.store rfl rfl rfl (by rw [List.length_set]; omega)) (.nil ?_))))))))))))))))
      exact ⟨(swp d1 (i2) (j2), (l1.set (o + (i2)) (.int .u32 x1)).set (o + (j2)) (.int .u32 x0)), ⟨rfl, ks⟩, .cons rfl (.cons rfl (.cons rfl (.cons rfl (.nil _)))), fun _ s => s⟩
    rintro ⟨d2, l2⟩ ⟨hd2, kd2⟩
    try dsimp only at hd2 kd2 ⊢
    have zd2 := kd2.sz
    rw [← hd2] at hPL
    clear f7 hi2 hj2 hd2 kd1 zd1
    refine .seq ((.region (.v (.move rfl) (.v (.addE ((i2 + 1 : Nat) : Int) rfl rfl (by omega) (by omega)) (.v (.assign rfl) (.nil ?_))))))
    refine .seq ((.region (.v (.move rfl) (.v (.subE ((j2 - 1 : Nat) : Int) rfl rfl (by omega) (by omega)) (.v (.assign rfl) (.nil ?_))))))
    refine .seq (.block (.loop (X := ParS) (fun x => [(0, .slice (some ⟨b, o, none⟩) n c), (1, .int .i64 a), (10, .int .i64 ((x.i : Nat) : Int)), (11, .int .i64 ((x.j : Nat) : Int))]) (fun x => [(b, .cells x.l 29)]) (fun x => (a + 1 ≤ x.i ∧ x.i ≤ x.j + 1 ∧ x.j < e) ∧ So32 b o c n x.d x.l ∧ partLoop ltInt a x.i x.j x.d = PL) (fun x => x.j + 1 - x.i) ⟨i2 + 1, j2 - 1, d2, l2⟩ ⟨⟨by show a + 1 ≤ i2 + 1; omega, by show i2 + 1 ≤ j2 - 1 + 1; omega, by show j2 - 1 < e; omega⟩, kd2, hPL⟩ (.cons rfl (.cons rfl (.cons rfl (.cons rfl (.nil _))))) (fun _ s => s) ?_))
    clear hPL
    rintro ⟨i, j, d3, l3⟩ ⟨⟨g1, g2, g3⟩, k3, hPL⟩
    try dsimp only at g1 g2 g3 k3 hPL ⊢
    refine .block ?_
    clear f1 f2 f3 f4 f8 h3 kd2 zd2
    refine .mid (X := Nat) (fun x => [(0, .slice (some ⟨b, o, none⟩) n c), (1, .int .i64 a), (10, .int .i64 ((x : Nat) : Int)), (11, .int .i64 ((j : Nat) : Int))]) (fun _ => [(b, .cells l3 29)]) (fun x => x = scanUp (fun x => ltInt x d3[a]!) d3 (j) (i)) (.block (.loop (X := Nat) (fun x => [(0, .slice (some ⟨b, o, none⟩) n c), (1, .int .i64 a), (10, .int .i64 ((x : Nat) : Int)), (11, .int .i64 ((j : Nat) : Int))]) (fun _ => [(b, .cells l3 29)]) (fun x => (i ≤ x ∧ x ≤ j + 1) ∧ scanUp (fun x => ltInt x d3[a]!) d3 (j) x = scanUp (fun x => ltInt x d3[a]!) d3 (j) (i)) (fun x => j + 1 - x) (i) ⟨⟨by omega, by omega⟩, rfl⟩ (.cons rfl (.cons rfl (.cons rfl (.cons rfl (.nil _))))) (fun _ s => s) ?_)) ?_
    · rintro y ⟨⟨hy1, hy2⟩, h1⟩
      try dsimp only at hy1 hy2 h1 ⊢
      by_cases hg : y ≤ j
      case neg =>
        refine .seq (.seq (.drawK [(b, .cells l3 29)] (fun _ h => h) (by kernel_rfl) (by kernel_rfl) ?_))
        refine .v (fun _ f => .move rfl) (.v (fun _ f => .move rfl) (.v (fun _ f => .no (.leq rfl rfl) (by omega)) (.v (fun _ f => .move rfl) (.and (b2 := true) 102 111 9 9 rfl rfl (fun g1 => absurd g1 (by simp)) (.nil ?_)))))
        refine .cond_false rfl (.exit ?_)
        rw [su_end (by omega)] at h1
        exact ⟨y, h1, .cons rfl (.cons rfl (.cons rfl (.cons rfl (.nil _)))), fun _ s => s⟩
      have q0 := fun hs' hsub => k3.at_ (w0 := w) (own := [b]) (hs := hs') (i := y) (by omega) hsub
      have q1 := fun hs' hsub => k3.at_ (w0 := w) (own := [b]) (hs := hs') (i := a) (by omega) hsub
      refine .seq (.seq (.drawK [(b, .cells l3 29)] (fun _ h => h) (by kernel_rfl) (by kernel_rfl) ?_))
      refine .v (fun _ f => .move rfl) (.v (fun _ f => .move rfl) (.v (fun _ f => .yes (.leq rfl rfl) (by omega)) (.v (fun _ f => .move rfl) (.and (b2 := ltInt d3[y]! d3[a]!) 102 111 9 9 rfl rfl (fun g1 => .v (fun _ f => .move rfl) (.v (fun _ f => .move rfl) (.v (fun _ f => .indexN (y) rfl rfl (by omega)) (.v (fun hs' f => .load (v := .int .u32 d3[y]!) rfl (q0 hs' f)) (.v (fun _ f => .move rfl) (.v (fun _ f => .move rfl) (.v (fun _ f => .indexN (a) rfl rfl (by omega)) (.v (fun hs' f => .load (v := .int .u32 d3[a]!) rfl (q1 hs' f)) (.pc rfl rfl (fun w s => less32_ok w _ _) (.nil ⟨rfl, rfl, rfl, rfl⟩)))))))))) (.nil ?_)))))
      refine .cond rfl (fun g2 => .skip ?_) (fun g2 => .exit ?_)
      · have g2' : (ltInt d3[y]! d3[a]!) = true := by simpa using g2
        refine .block (.region (.v (.move rfl) (.v (.addE ((y + 1 : Nat) : Int) rfl rfl (by omega) (by omega)) (.v (.assign rfl) (.nil ?_)))))
        exact ⟨y + 1, ⟨⟨by omega, by omega⟩, by rw [← h1]; exact (su_go hg g2').symm⟩, by omega, .cons rfl (.cons rfl (.cons rfl (.cons rfl (.nil _)))), fun _ s => s⟩
      · have g2' : (ltInt d3[y]! d3[a]!) = false := by simpa using g2
        exact ⟨y, by rw [← h1]; exact (su_stop (p := (fun x => ltInt x d3[a]!)) g2').symm, .cons rfl (.cons rfl (.cons rfl (.cons rfl (.nil _)))), fun _ s => s⟩
    rintro i2 hi2
    try dsimp only at hi2 ⊢
    have hf := Go.Sort.round_facts (fun x => ltInt x d3[a]!) (fun x => !ltInt x d3[a]!) (fun x => by simp) d3 (i - 1) (j + 1) (i) (j) (by omega) (by omega) (fun t h1 h2 => by omega) (fun t h1 h2 => by omega)
    rw [← hi2] at hf
    obtain ⟨f1, f2, f3, f4, _, _, f7⟩ := hf
    refine .mid (X := Nat) (fun x => [(0, .slice (some ⟨b, o, none⟩) n c), (1, .int .i64 a), (10, .int .i64 ((i2 : Nat) : Int)), (11, .int .i64 ((x : Nat) : Int))]) (fun _ => [(b, .cells l3 29)]) (fun x => x = scanDown (fun x => !ltInt x d3[a]!) d3 (i2) (j)) (.block (.loop (X := Nat) (fun x => [(0, .slice (some ⟨b, o, none⟩) n c), (1, .int .i64 a), (10, .int .i64 ((i2 : Nat) : Int)), (11, .int .i64 ((x : Nat) : Int))]) (fun _ => [(b, .cells l3 29)]) (fun x => (i2 ≤ x + 1 ∧ x ≤ j) ∧ scanDown (fun x => !ltInt x d3[a]!) d3 (i2) x = scanDown (fun x => !ltInt x d3[a]!) d3 (i2) (j)) (fun x => x) (j) ⟨⟨by omega, by omega⟩, rfl⟩ (.cons rfl (.cons rfl (.cons rfl (.cons rfl (.nil _))))) (fun _ s => s) ?_)) ?_
    · rintro y ⟨⟨hy1, hy2⟩, h1⟩
      try dsimp only at hy1 hy2 h1 ⊢
      by_cases hg : i2 ≤ y
      case neg =>
        refine .seq (.seq (.drawK [(b, .cells l3 29)] (fun _ h => h) (by kernel_rfl) (by kernel_rfl) ?_))
        refine .v (fun _ f => .move rfl) (.v (fun _ f => .move rfl) (.v (fun _ f => .no (.leq rfl rfl) (by omega)) (.v (fun _ f => .move rfl) (.and (b2 := true) 118 128 10 10 rfl rfl (fun g1 => absurd g1 (by simp)) (.nil ?_)))))
        refine .cond_false rfl (.exit ?_)
        rw [sd_end (by omega)] at h1
        exact ⟨y, h1, .cons rfl (.cons rfl (.cons rfl (.cons rfl (.nil _)))), fun _ s => s⟩
      obtain ⟨y, rfl⟩ : ∃ y', y = y' + 1 := ⟨y - 1, by omega⟩
      have q0 := fun hs' hsub => k3.at_ (w0 := w) (own := [b]) (hs := hs') (i := y + 1) (by omega) hsub
      have q1 := fun hs' hsub => k3.at_ (w0 := w) (own := [b]) (hs := hs') (i := a) (by omega) hsub
      refine .seq (.seq (.drawK [(b, .cells l3 29)] (fun _ h => h) (by kernel_rfl) (by kernel_rfl) ?_))
      refine .v (fun _ f => .move rfl) (.v (fun _ f => .move rfl) (.v (fun _ f => .yes (.leq rfl rfl) (by omega)) (.v (fun _ f => .move rfl) (.and (b2 := !ltInt d3[y + 1]! d3[a]!) 118 128 10 10 rfl rfl (fun g1 => .v (fun _ f => .move rfl) (.v (fun _ f => .move rfl) (.v (fun _ f => .indexN (y + 1) rfl rfl (by omega)) (.v (fun hs' f => .load (v := .int .u32 d3[y + 1]!) rfl (q0 hs' f)) (.v (fun _ f => .move rfl) (.v (fun _ f => .move rfl) (.v (fun _ f => .indexN (a) rfl rfl (by omega)) (.v (fun hs' f => .load (v := .int .u32 d3[a]!) rfl (q1 hs' f)) (.pc rfl rfl (fun w s => less32_ok w _ _) (.v (fun _ f => .not rfl) (.nil ⟨rfl, rfl, rfl, rfl⟩))))))))))) (.nil ?_)))))
      refine .cond rfl (fun g2 => .skip ?_) (fun g2 => .exit ?_)
      · have g2' : (!ltInt d3[y + 1]! d3[a]!) = true := by simpa using g2
        refine .block (.region (.v (.move rfl) (.v (.subE (y : Int) rfl rfl (by omega) (by omega)) (.v (.assign rfl) (.nil ?_)))))
        exact ⟨y, ⟨⟨by omega, by omega⟩, by rw [← h1]; exact (sd_go hg g2').symm⟩, by omega, .cons rfl (.cons rfl (.cons rfl (.cons rfl (.nil _)))), fun _ s => s⟩
      · have g2' : (!ltInt d3[y + 1]! d3[a]!) = false := by simpa using g2
        exact ⟨y + 1, by rw [← h1]; exact (sd_stop (p := (fun x => !ltInt x d3[a]!)) g2').symm, .cons rfl (.cons rfl (.cons rfl (.cons rfl (.nil _)))), fun _ s => s⟩
    rintro j2 hj2
    try dsimp only at hj2 ⊢
    rw [← hj2] at f3 f4 f7
    refine .seq (.seq ((.region (.v (.move rfl) (.v (.move rfl) (.v (.gtr rfl rfl) (.nil ?_)))))))
    rw [Go.Sort.partLoop_eq, ← hi2, ← hj2] at hPL
    refine .cond_dec rfl (fun h3 => .exit ?_) (fun h3 => .skip ?_)
    · rw [if_pos (by omega)] at hPL
      subst hPL
      refine .mid (X := Array Int × List Value) (fun _ => [(11, .int .i64 j2)]) (fun x => [(b, .cells x.2 29)]) (fun x => x.1 = swp d3 j2 a ∧ So32 b o c n x.1 x.2) ?_ ?_
      · have ks := k3.swp (i := j2) (j := a) (by omega) (by omega)
        have q0 := fun hs' hsub => k3.at_ (w0 := w) (own := [b]) (hs := hs') (i := j2) (by omega) hsub
        have q1 := fun hs' hsub => k3.at_ (w0 := w) (own := [b]) (hs := hs') (i := a) (by omega) hsub
        have hlen := k3.len
        have ex : ∃ d' : Array Int, d' = swp d3 j2 a := ⟨_, rfl⟩
        generalize d3[j2]! = x0 at q0 ks
        generalize d3[a]! = x1 at q1 ks
        refine .drawY 13 [0, 1, 2, 3, 4, 5, 6, 7, 8, 9, 10, 11, 12, 13, 14, 15] [(b, .cells l3 29)] (fun _ h => h) (by kernel_rfl) (by kernel_rfl) ?_
        refine .x (fun _ _ _ => .move rfl) (.x (fun _ _ _ => .move rfl) (.x (fun _ _ _ => .move rfl) (.x (fun _ _ _ => .move rfl) (.x (fun _ _ _ => .move rfl) (.x (fun _ _ _ => .move rfl) (.x (fun _ _ _ => .indexN (a) rfl rfl (by omega)) (.v (fun hs' f => .load (v := .int .u32 x1) rfl (q1 hs' f)) (.x (fun _ _ _ => .move rfl) (.x (fun _ _ _ => .move rfl) (.x (fun _ _ _ => .indexN (j2) rfl rfl (by omega)) (.v (fun hs' f => .load (v := .int .u32 x0) rfl (q0 hs' f)) (.x (fun _ _ _ => .indexN (j2) rfl rfl (by omega)) (.st (.store rfl rfl rfl (by omega)) (.x (fun _ _ _ => .indexN (a) rfl rfl (by omega)) (.st2 (.store rfl rfl rfl (by rw [List.length_set]; omega)) (.nil ?_))))))))))))))))
        exact ⟨(swp d3 (j2) (a), (l3.set (o + (j2)) (.int .u32 x1)).set (o + (a)) (.int .u32 x0)), ⟨rfl, ks⟩, .cons rfl (.nil _), fun _ s => s⟩
      rintro ⟨d4, l4⟩ ⟨hd4, kd4⟩
      try dsimp only at hd4 kd4 ⊢
      have zd4 := kd4.sz
      refine .seq ((.region (.v (.move rfl) (.v (.assign rfl) (.v (.assign rfl) (.nil ?_))))))
      exact .ret ⟨[_, _], ⟨rfl, rfl, trivial⟩, l4, _, rfl, rfl, hd4 ▸ kd4⟩
    · rw [if_neg (by omega)] at hPL
      have f8 := (f7 (by omega)).2.2
      refine .mid (X := Array Int × List Value) (fun _ => [(0, .slice (some ⟨b, o, none⟩) n c), (1, .int .i64 a), (10, .int .i64 ((i2 : Nat) : Int)), (11, .int .i64 ((j2 : Nat) : Int))]) (fun x => [(b, .cells x.2 29)]) (fun x => x.1 = swp d3 i2 j2 ∧ So32 b o c n x.1 x.2) ?_ ?_
      · have ks := k3.swp (i := i2) (j := j2) (by omega) (by omega)
        have q0 := fun hs' hsub => k3.at_ (w0 := w) (own := [b]) (hs := hs') (i := i2) (by omega) hsub
        have q1 := fun hs' hsub => k3.at_ (w0 := w) (own := [b]) (hs := hs') (i := j2) (by omega) hsub
        have hlen := k3.len
        have ex : ∃ d' : Array Int, d' = swp d3 i2 j2 := ⟨_, rfl⟩
        generalize d3[i2]! = x0 at q0 ks
        generalize d3[j2]! = x1 at q1 ks
        refine .drawY 13 [0, 1, 2, 3, 4, 5, 6, 7, 8, 9, 10, 11, 12, 13, 14, 15] [(b, .cells l3 29)] (fun _ h => h) (by kernel_rfl) (by kernel_rfl) ?_
        refine .x (fun _ _ _ => .move rfl) (.x (fun _ _ _ => .move rfl) (.x (fun _ _ _ => .move rfl) (.x (fun _ _ _ => .move rfl) (.x (fun _ _ _ => .move rfl) (.x (fun _ _ _ => .move rfl) (.x (fun _ _ _ => .indexN (j2) rfl rfl (by omega)) (.v (fun hs' f => .load (v := .int .u32 x1) rfl (q1 hs' f)) (.x (fun _ _ _ => .move rfl) (.x (fun _ _ _ => .move rfl) (.x (fun _ _ _ => .indexN (i2) rfl rfl (by omega)) (.v (fun hs' f => .load (v := .int .u32 x0) rfl (q0 hs' f)) (.x (fun _ _ _ => .indexN (i2) rfl rfl (by omega)) (.st (.store rfl rfl rfl (by omega)) (.x (fun _ _ _ => .indexN (j2) rfl rfl (by omega)) (.st2 (.store rfl rfl rfl (by rw [List.length_set]; omega)) (.nil ?_))))))))))))))))
        exact ⟨(swp d3 (i2) (j2), (l3.set (o + (i2)) (.int .u32 x1)).set (o + (j2)) (.int .u32 x0)), ⟨rfl, ks⟩, .cons rfl (.cons rfl (.cons rfl (.cons rfl (.nil _)))), fun _ s => s⟩
      rintro ⟨d4, l4⟩ ⟨hd4, kd4⟩
      try dsimp only at hd4 kd4 ⊢
      have zd4 := kd4.sz
      rw [← hd4] at hPL
      refine .seq ((.region (.v (.move rfl) (.v (.addE ((i2 + 1 : Nat) : Int) rfl rfl (by omega) (by omega)) (.v (.assign rfl) (.nil ?_))))))
      refine .region (.v (.move rfl) (.v (.subE ((j2 - 1 : Nat) : Int) rfl rfl (by omega) (by omega)) (.v (.assign rfl) (.nil ?_))))
      exact ⟨⟨i2 + 1, j2 - 1, d4, l4⟩, ⟨⟨by show a + 1 ≤ i2 + 1; omega, by show i2 + 1 ≤ j2 - 1 + 1; omega, by show j2 - 1 < e; omega⟩, kd4, hPL⟩, by show j2 - 1 + 1 - (i2 + 1) < j + 1 - i; omega, .cons rfl (.cons rfl (.cons rfl (.cons rfl (.nil _)))), fun _ s => s⟩
set_option maxRecDepth 20000 in
theorem partEq32_ok (w : World) {b o c n : Nat} {d : Array Int} {l : List Value} (k : So32 b o c n d l) (a e p : Nat) (hap : a ≤ p) (hpe : p < e) (he : e ≤ n) (hn : n < 2305843009213693952) :
    Does Try.prog 114 [.slice (some ⟨b, o, none⟩) n c, .int .i64 a, .int .i64 e, .int .i64 p] [(b, .cells l 29)] w (fun v hs => ∃ l', v = .int .i64 (partitionEqual ltInt d a e p).1 ∧ hs = [(b, .cells l' 29)] ∧ So32 b o c n (partitionEqual ltInt d a e p).2 l') := by
  generalize hPL : partitionEqual ltInt d a e p = PL
  replace hPL : partEqLoop ltInt a (a + 1) (e - 1) (swp d a p) = PL := hPL
  refine Does.of (n := 84) Try.func114 rfl rfl rfl rfl ?_
  refine .seq ((.region (.v (.assign rfl) (.nil ?_))))
  refine .mid (X := Array Int × List Value) (fun _ => [(0, .slice (some ⟨b, o, none⟩) n c), (1, .int .i64 a), (2, .int .i64 e)]) (fun x => [(b, .cells x.2 29)]) (fun x => x.1 = swp d a p ∧ So32 b o c n x.1 x.2) ?_ ?_
  · have ks := k.swp (i := a) (j := p) (by omega) (by omega)
    have q0 := fun hs' hsub => k.at_ (w0 := w) (own := [b]) (hs := hs') (i := a) (by omega) hsub
    have q1 := fun hs' hsub => k.at_ (w0 := w) (own := [b]) (hs := hs') (i := p) (by omega) hsub
    have hlen := k.len
    have ex : ∃ d' : Array Int, d' = swp d a p := ⟨_, rfl⟩
    generalize d[a]! = x0 at q0 ks
    generalize d[p]! = x1 at q1 ks
    refine .drawY 13 [0, 1, 2, 3, 4, 5, 6, 7, 8, 9, 10, 11, 12, 13, 14, 15] [(b, .cells l 29)] (fun _ h => h) (by kernel_rfl) (by kernel_rfl) ?_
    refine .x (fun _ _ _ => .move rfl) (.x (fun _ _ _ => .move rfl) (.x (fun _ _ _ => .move rfl) (.x (fun _ _ _ => .move rfl) (.x (fun _ _ _ => .move rfl) (.x (fun _ _ _ => .move rfl) (.x (fun _ _ _ => .indexN (p) rfl rfl (by omega)) (.v (fun hs' f => .load (v := .int .u32 x1) rfl (q1 hs' f)) (.x (fun _ _ _ => .move rfl) (.x (fun _ _ _ => .move rfl) (.x (fun _ _ _ => .indexN (a) rfl rfl (by omega)) (.v (fun hs' f => .load (v := .int .u32 x0) rfl (q0 hs' f)) (.x (fun _ _ _ => .indexN (a) rfl rfl (by omega)) (.st (.store rfl rfl rfl (by omega)) (.x (fun _ _ _ => .indexN (p) rfl rfl (by omega)) (.st2 (.store rfl rfl rfl (by rw [List.length_set]; omega)) (.nil ?_))))))))))))))))
    exact ⟨(swp d (a) (p), (l.set (o + (a)) (.int .u32 x1)).set (o + (p)) (.int .u32 x0)), ⟨rfl, ks⟩, .cons rfl (.cons rfl (.cons rfl (.nil _))), fun _ s => s⟩
  rintro ⟨d1, l1⟩ ⟨hd1, kd1⟩
  try dsimp only at hd1 kd1 ⊢
  have zd1 := kd1.sz
  rw [← hd1] at hPL
  clear hd1 k
  refine .seq ((.region (.v (.move rfl) (.v (.addE ((a + 1 : Nat) : Int) rfl rfl (by omega) (by omega)) (.v (.move rfl) (.v (.subE ((e - 1 : Nat) : Int) rfl rfl (by omega) (by omega)) (.v (.assign rfl) (.v (.assign rfl) (.nil ?_)))))))))
  refine .seq (.block (.loop (X := ParS) (fun x => [(0, .slice (some ⟨b, o, none⟩) n c), (1, .int .i64 a), (9, .int .i64 ((x.i : Nat) : Int)), (10, .int .i64 ((x.j : Nat) : Int))]) (fun x => [(b, .cells x.l 29)]) (fun x => (a + 1 ≤ x.i ∧ x.i ≤ x.j + 1 ∧ x.j < e) ∧ So32 b o c n x.d x.l ∧ partEqLoop ltInt a x.i x.j x.d = PL) (fun x => x.j + 1 - x.i) ⟨a + 1, e - 1, d1, l1⟩ ⟨⟨by show a + 1 ≤ a + 1; omega, by show a + 1 ≤ e - 1 + 1; omega, by show e - 1 < e; omega⟩, kd1, hPL⟩ (.cons rfl (.cons rfl (.cons rfl (.cons rfl (.nil _))))) (fun _ s => s) ?_))
  clear hPL
  rintro ⟨i, j, d3, l3⟩ ⟨⟨g1, g2, g3⟩, k3, hPL⟩
  try dsimp only at g1 g2 g3 k3 hPL ⊢
  refine .block ?_
  clear kd1 zd1
  refine .mid (X := Nat) (fun x => [(0, .slice (some ⟨b, o, none⟩) n c), (1, .int .i64 a), (9, .int .i64 ((x : Nat) : Int)), (10, .int .i64 ((j : Nat) : Int))]) (fun _ => [(b, .cells l3 29)]) (fun x => x = scanUp (fun x => !ltInt d3[a]! x) d3 (j) (i)) (.block (.loop (X := Nat) (fun x => [(0, .slice (some ⟨b, o, none⟩) n c), (1, .int .i64 a), (9, .int .i64 ((x : Nat) : Int)), (10, .int .i64 ((j : Nat) : Int))]) (fun _ => [(b, .cells l3 29)]) (fun x => (i ≤ x ∧ x ≤ j + 1) ∧ scanUp (fun x => !ltInt d3[a]! x) d3 (j) x = scanUp (fun x => !ltInt d3[a]! x) d3 (j) (i)) (fun x => j + 1 - x) (i) ⟨⟨by omega, by omega⟩, rfl⟩ (.cons rfl (.cons rfl (.cons rfl (.cons rfl (.nil _))))) (fun _ s => s) ?_)) ?_
  · rintro y ⟨⟨hy1, hy2⟩, h1⟩
    try dsimp only at hy1 hy2 h1 ⊢
    by_cases hg : y ≤ j
    case neg =>
      refine .seq (.seq (.drawK [(b, .cells l3 29)] (fun _ h => h) (by kernel_rfl) (by kernel_rfl) ?_))
      refine .v (fun _ f => .move rfl) (.v (fun _ f => .move rfl) (.v (fun _ f => .no (.leq rfl rfl) (by omega)) (.v (fun _ f => .move rfl) (.and (b2 := true) 32 42 10 10 rfl rfl (fun g1 => absurd g1 (by simp)) (.nil ?_)))))
      refine .cond_false rfl (.exit ?_)
      rw [su_end (by omega)] at h1
      exact ⟨y, h1, .cons rfl (.cons rfl (.cons rfl (.cons rfl (.nil _)))), fun _ s => s⟩
    have q0 := fun hs' hsub => k3.at_ (w0 := w) (own := [b]) (hs := hs') (i := y) (by omega) hsub
    have q1 := fun hs' hsub => k3.at_ (w0 := w) (own := [b]) (hs := hs') (i := a) (by omega) hsub
    refine .seq (.seq (.drawK [(b, .cells l3 29)] (fun _ h => h) (by kernel_rfl) (by kernel_rfl) ?_))
    refine .v (fun _ f => .move rfl) (.v (fun _ f => .move rfl) (.v (fun _ f => .yes (.leq rfl rfl) (by omega)) (.v (fun _ f => .move rfl) (.and (b2 := !ltInt d3[a]! d3[y]!) 32 42 10 10 rfl rfl (fun g1 => .v (fun _ f => .move rfl) (.v (fun _ f => .move rfl) (.v (fun _ f => .indexN (a) rfl rfl (by omega)) (.v (fun hs' f => .load (v := .int .u32 d3[a]!) rfl (q1 hs' f)) (.v (fun _ f => .move rfl) (.v (fun _ f => .move rfl) (.v (fun _ f => .indexN (y) rfl rfl (by omega)) (.v (fun hs' f => .load (v := .int .u32 d3[y]!) rfl (q0 hs' f)) (.pc rfl rfl (fun w s => less32_ok w _ _) (.v (fun _ f => .not rfl) (.nil ⟨rfl, rfl, rfl, rfl⟩))))))))))) (.nil ?_)))))
    refine .cond rfl (fun g2 => .skip ?_) (fun g2 => .exit ?_)
    · have g2' : (!ltInt d3[a]! d3[y]!) = true := by simpa using g2
      refine .block (.region (.v (.move rfl) (.v (.addE ((y + 1 : Nat) : Int) rfl rfl (by omega) (by omega)) (.v (.assign rfl) (.nil ?_)))))
      exact ⟨y + 1, ⟨⟨by omega, by omega⟩, by rw [← h1]; exact (su_go hg g2').symm⟩, by omega, .cons rfl (.cons rfl (.cons rfl (.cons rfl (.nil _)))), fun _ s => s⟩
    · have g2' : (!ltInt d3[a]! d3[y]!) = false := by simpa using g2
      exact ⟨y, by rw [← h1]; exact (su_stop (p := (fun x => !ltInt d3[a]! x)) g2').symm, .cons rfl (.cons rfl (.cons rfl (.cons rfl (.nil _)))), fun _ s => s⟩
  rintro i2 hi2
  try dsimp only at hi2 ⊢
  have hf := Go.Sort.round_facts (fun x => !ltInt d3[a]! x) (fun x => ltInt d3[a]! x) (fun x => by simp) d3 (i - 1) (j + 1) (i) (j) (by omega) (by omega) (fun t h1 h2 => by omega) (fun t h1 h2 => by omega)
  rw [← hi2] at hf
  obtain ⟨f1, f2, f3, f4, _, _, f7⟩ := hf
  refine .mid (X := Nat) (fun x => [(0, .slice (some ⟨b, o, none⟩) n c), (1, .int .i64 a), (9, .int .i64 ((i2 : Nat) : Int)), (10, .int .i64 ((x : Nat) : Int))]) (fun _ => [(b, .cells l3 29)]) (fun x => x = scanDown (fun x => ltInt d3[a]! x) d3 (i2) (j)) (.block (.loop (X := Nat) (fun x => [(0, .slice (some ⟨b, o, none⟩) n c), (1, .int .i64 a), (9, .int .i64 ((i2 : Nat) : Int)), (10, .int .i64 ((x : Nat) : Int))]) (fun _ => [(b, .cells l3 29)]) (fun x => (i2 ≤ x + 1 ∧ x ≤ j) ∧ scanDown (fun x => ltInt d3[a]! x) d3 (i2) x = scanDown (fun x => ltInt d3[a]! x) d3 (i2) (j)) (fun x => x) (j) ⟨⟨by omega, by omega⟩, rfl⟩ (.cons rfl (.cons rfl (.cons rfl (.cons rfl (.nil _))))) (fun _ s => s) ?_)) ?_
  · rintro y ⟨⟨hy1, hy2⟩, h1⟩
    try dsimp only at hy1 hy2 h1 ⊢
    by_cases hg : i2 ≤ y
    case neg =>
      refine .seq (.seq (.drawK [(b, .cells l3 29)] (fun _ h => h) (by kernel_rfl) (by kernel_rfl) ?_))
      refine .v (fun _ f => .move rfl) (.v (fun _ f => .move rfl) (.v (fun _ f => .no (.leq rfl rfl) (by omega)) (.v (fun _ f => .move rfl) (.and (b2 := true) 49 58 9 9 rfl rfl (fun g1 => absurd g1 (by simp)) (.nil ?_)))))
      refine .cond_false rfl (.exit ?_)
      rw [sd_end (by omega)] at h1
      exact ⟨y, h1, .cons rfl (.cons rfl (.cons rfl (.cons rfl (.nil _)))), fun _ s => s⟩
    obtain ⟨y, rfl⟩ : ∃ y', y = y' + 1 := ⟨y - 1, by omega⟩
    have q0 := fun hs' hsub => k3.at_ (w0 := w) (own := [b]) (hs := hs') (i := y + 1) (by omega) hsub
    have q1 := fun hs' hsub => k3.at_ (w0 := w) (own := [b]) (hs := hs') (i := a) (by omega) hsub
    refine .seq (.seq (.drawK [(b, .cells l3 29)] (fun _ h => h) (by kernel_rfl) (by kernel_rfl) ?_))
    refine .v (fun _ f => .move rfl) (.v (fun _ f => .move rfl) (.v (fun _ f => .yes (.leq rfl rfl) (by omega)) (.v (fun _ f => .move rfl) (.and (b2 := ltInt d3[a]! d3[y + 1]!) 49 58 9 9 rfl rfl (fun g1 => .v (fun _ f => .move rfl) (.v (fun _ f => .move rfl) (.v (fun _ f => .indexN (a) rfl rfl (by omega)) (.v (fun hs' f => .load (v := .int .u32 d3[a]!) rfl (q1 hs' f)) (.v (fun _ f => .move rfl) (.v (fun _ f => .move rfl) (.v (fun _ f => .indexN (y + 1) rfl rfl (by omega)) (.v (fun hs' f => .load (v := .int .u32 d3[y + 1]!) rfl (q0 hs' f)) (.pc rfl rfl (fun w s => less32_ok w _ _) (.nil ⟨rfl, rfl, rfl, rfl⟩)))))))))) (.nil ?_)))))
    refine .cond rfl (fun g2 => .skip ?_) (fun g2 => .exit ?_)
    · have g2' : (ltInt d3[a]! d3[y + 1]!) = true := by simpa using g2
      refine .block (.region (.v (.move rfl) (.v (.subE (y : Int) rfl rfl (by omega) (by omega)) (.v (.assign rfl) (.nil ?_)))))
      exact ⟨y, ⟨⟨by omega, by omega⟩, by rw [← h1]; exact (sd_go hg g2').symm⟩, by omega, .cons rfl (.cons rfl (.cons rfl (.cons rfl (.nil _)))), fun _ s => s⟩
    · have g2' : (ltInt d3[a]! d3[y + 1]!) = false := by simpa using g2
      exact ⟨y + 1, by rw [← h1]; exact (sd_stop (p := (fun x => ltInt d3[a]! x)) g2').symm, .cons rfl (.cons rfl (.cons rfl (.cons rfl (.nil _)))), fun _ s => s⟩
  rintro j2 hj2
  try dsimp only at hj2 ⊢
  rw [← hj2] at f3 f4 f7
  refine .seq (.seq ((.region (.v (.move rfl) (.v (.move rfl) (.v (.gtr rfl rfl) (.nil ?_)))))))
  rw [Go.Sort.partEqLoop_eq, ← hi2, ← hj2] at hPL
  refine .cond_dec rfl (fun h3 => .exit ?_) (fun h3 => .skip ?_)
  · rw [if_pos (by omega)] at hPL
    subst hPL
    refine .seq ((.region (.v (.move rfl) (.v (.assign rfl) (.nil ?_)))))
    exact .ret ⟨[_], ⟨rfl, trivial⟩, l3, rfl, rfl, k3⟩
  · rw [if_neg (by omega)] at hPL
    have f8 := (f7 (by omega)).2.2
    refine .mid (X := Array Int × List Value) (fun _ => [(0, .slice (some ⟨b, o, none⟩) n c), (1, .int .i64 a), (9, .int .i64 ((i2 : Nat) : Int)), (10, .int .i64 ((j2 : Nat) : Int))]) (fun x => [(b, .cells x.2 29)]) (fun x => x.1 = swp d3 i2 j2 ∧ So32 b o c n x.1 x.2) ?_ ?_
    · have ks := k3.swp (i := i2) (j := j2) (by omega) (by omega)
      have q0 := fun hs' hsub => k3.at_ (w0 := w) (own := [b]) (hs := hs') (i := i2) (by omega) hsub
      have q1 := fun hs' hsub => k3.at_ (w0 := w) (own := [b]) (hs := hs') (i := j2) (by omega) hsub
      have hlen := k3.len
      have ex : ∃ d' : Array Int, d' = swp d3 i2 j2 := ⟨_, rfl⟩
      generalize d3[i2]! = x0 at q0 ks
      generalize d3[j2]! = x1 at q1 ks
      refine .drawY 13 [0, 1, 2, 3, 4, 5, 6, 7, 8, 9, 10, 11, 12, 13, 14, 15] [(b, .cells l3 29)] (fun _ h => h) (by kernel_rfl) (by kernel_rfl) ?_
      refine .x (fun _ _ _ => .move rfl) (.x (fun _ _ _ => .move rfl) (.x (fun _ _ _ => .move rfl) (.x (fun _ _ _ => .move rfl) (.x (fun _ _ _ => .move rfl) (.x (fun _ _ _ => .move rfl) (.x (fun _ _ _ => .indexN (j2) rfl rfl (by omega)) (.v (fun hs' f => .load (v := .int .u32 x1) rfl (q1 hs' f)) (.x (fun _ _ _ => .move rfl) (.x (fun _ _ _ => .move rfl) (.x (fun _ _ _ => .indexN (i2) rfl rfl (by omega)) (.v (fun hs' f => .load (v := .int .u32 x0) rfl (q0 hs' f)) (.x (fun _ _ _ => .indexN (i2) rfl rfl (by omega)) (.st (.store rfl rfl rfl (by omega)) (.x (fun _ _ _ => .indexN (j2) rfl rfl (by omega)) (.st2 (.store rfl rfl rfl (by rw [List.length_set]; omega)) (.nil ?_))))))))))))))))
      exact ⟨(swp d3 (i2) (j2), (l3.set (o + (i2)) (.int .u32 x1)).set (o + (j2)) (.int .u32 x0)), ⟨rfl, ks⟩, .cons rfl (.cons rfl (.cons rfl (.cons rfl (.nil _)))), fun _ s => s⟩
    rintro ⟨d4, l4⟩ ⟨hd4, kd4⟩
    try dsimp only at hd4 kd4 ⊢
    have zd4 := kd4.sz
    rw [← hd4] at hPL
    refine .seq ((.region (.v (.move rfl) (.v (.addE ((i2 + 1 : Nat) : Int) rfl rfl (by omega) (by omega)) (.v (.assign rfl) (.nil ?_))))))
    refine .region (.v (.move rfl) (.v (.subE ((j2 - 1 : Nat) : Int) rfl rfl (by omega) (by omega)) (.v (.assign rfl) (.nil ?_))))
    exact ⟨⟨i2 + 1, j2 - 1, d4, l4⟩, ⟨⟨by show a + 1 ≤ i2 + 1; omega, by show i2 + 1 ≤ j2 - 1 + 1; omega, by show j2 - 1 < e; omega⟩, kd4, hPL⟩, by show j2 - 1 + 1 - (i2 + 1) < j + 1 - i; omega, .cons rfl (.cons rfl (.cons rfl (.cons rfl (.nil _)))), fun _ s => s⟩
end Go.Proofs.Ytfajjkolhajldaa

/- slices.breakPatternsOrdered (loosely), partialInsertionSortOrdered at uint32 (printed by wip/gen/gen_pis.py). -/
namespace Go.Proofs.Ytfajjkolhajldaa
open Go.V
open Go.Sort (ltInt swp scanSorted shiftDown shiftUp fixDown fixUp partialIns partialInsertionSort PermIn)
set_option linter.unusedVariables false
set_option linter.unusedSimpArgs false
section
variable {d : Array Int} {i b : Nat}
theorem ss_go (h : i < b) (hp : (!ltInt d[i]! d[i - 1]!) = true) : scanSorted ltInt d b i = scanSorted ltInt d b (i + 1) := by rw [scanSorted, if_pos]; simp [h] at hp ⊢; exact hp
theorem ss_end (h : b ≤ i) : scanSorted ltInt d b i = i := by rw [scanSorted, if_neg]; simp; omega
theorem ss_stop (hp : (!ltInt d[i]! d[i - 1]!) = false) : scanSorted ltInt d b i = i := by rw [scanSorted, if_neg]; simp at hp; simp [hp]
end
structure BrkS where
  x : Int
  j : Nat
  d : Array Int
  l : List Value
set_option maxRecDepth 20000 in
theorem break32_ok (w : World) {b o c n : Nat} {d : Array Int} {l : List Value} (k : So32 b o c n d l) (a e : Nat) (hae : a ≤ e) (he : e ≤ n) (hn : n < 2305843009213693952) :
    Does Try.prog 109 [.slice (some ⟨b, o, none⟩) n c, .int .i64 a, .int .i64 e] [(b, .cells l 29)] w (fun _ hs => ∃ d' l', hs = [(b, .cells l' 29)] ∧ So32 b o c n d' l' ∧ PermIn a e d d') := by
  obtain ⟨h, rfl⟩ := Nat.exists_eq_add_of_le hae
  refine Does.less (Does.of (n := 65) Try.func109 rfl rfl rfl rfl ?_)
  refine .seq ((.region (.v (.move rfl) (.v (.move rfl) (.v (.subE (h : Int) rfl rfl (by omega) (by omega)) (.v (.assign rfl) (.nil ?_)))))))
  refine .seq ((.region (.v (.move rfl) (.v (.geq rfl rfl) (.nil ?_)))))
  refine .cond_dec rfl (fun h1 => ?_) (fun h1 => .skip ?_)
  case refine_2 => exact ⟨[], trivial, [(b, .cells l 29)], fun _ s => s.take, d, l, rfl, k, Go.Sort.permIn_refl d a (a + h)⟩
  refine .seq ((.region (.v (.move rfl) (.v (.convE (h : Int) rfl (wrap_u64_in (by omega))) (.nw .alloc fun b7 => (.st (.storeL rfl rfl rfl) (.nil ?_)))))))
  refine .keep [(b7, .cells [.int .u64 (h : Int)] 188), (b, .cells l 29)] ?_
  refine .seq ((.region (.v (.move rfl) ?_)))
  refine .ef (.call0 rfl rfl fun w s => nextPow_ok w h (by omega) (by omega)) ?_
  rintro _ _ ⟨_, ⟨mo, m1, m2, rfl, rfl⟩, rfl⟩
  refine .v (.assign rfl) (.nil ?_)
  obtain ⟨q, hq⟩ : ∃ q, h / 4 = q := ⟨_, rfl⟩
  have hq4 : (h : Int) / 4 = (q : Int) := by omega
  refine .seq ((.region (.v (.move rfl) (.v (.move rfl) (.v (.quoN q rfl rfl (by decide) hq4 (by omega) (by omega)) (.v (.muli rfl rfl (by omega)) (.v (.addE ((a + q * 2 : Nat) : Int) rfl rfl (by omega) (by omega)) (.v (.subE ((a + q * 2 - 1 : Nat) : Int) rfl rfl (by omega) (by omega)) (.v (.assign rfl) (.nil ?_))))))))))
  refine .block (.loop (X := BrkS) (fun x => [(0, .slice (some ⟨b, o, none⟩) n c), (1, .int .i64 a), (6, .int .i64 h), (7, .pointer (some ⟨b7, 0, none⟩)), (8, .int .u64 mo), (9, .int .i64 x.j)]) (fun x => [(b7, .cells [.int .u64 x.x] 188), (b, .cells x.l 29)]) (fun x => (a + q * 2 - 1 ≤ x.j ∧ x.j ≤ a + q * 2 + 2) ∧ So32 b o c n x.d x.l ∧ PermIn a (a + h) d x.d) (fun x => a + q * 2 + 2 - x.j) ⟨h, a + q * 2 - 1, d, l⟩ ⟨⟨Nat.le_refl _, by show a + q * 2 - 1 ≤ _; omega⟩, k, Go.Sort.permIn_refl d a (a + h)⟩ (.cons rfl (.cons rfl (.cons rfl (.cons rfl (.cons rfl (.cons rfl (.nil _))))))) (fun _ s => s) ?_)
  rintro ⟨x, j, d1, l1⟩ ⟨⟨hj1, hj2⟩, k1, hp⟩
  dsimp only at hj1 hj2 k1 hp ⊢
  refine .seq (.seq ((.region (.v (.move rfl) (.v (.move rfl) (.v (.move rfl) (.v (.quoN q rfl rfl (by decide) hq4 (by omega) (by omega)) (.v (.muli rfl rfl (by omega)) (.v (.addE ((a + q * 2 : Nat) : Int) rfl rfl (by omega) (by omega)) (.v (.addE ((a + q * 2 + 1 : Nat) : Int) rfl rfl (by omega) (by omega)) (.v (.leq rfl rfl) (.nil ?_))))))))))))
  refine .cond_dec rfl (fun h2 => .skip ?_) (fun h2 => .exit ?_)
  case refine_2 => exact ⟨[], trivial, [(b, .cells l1 29)], fun _ s => s.take, d1, l1, rfl, k1, hp⟩
  refine .seq (.block (.seq ((.region ?_))))
  refine .ef (.callT [(b7, .cells [.int .u64 x] 188)] rfl rfl fun w s => next_ok w b7 x) ?_
  rintro _ _ ⟨_, ⟨y, hy, rfl, rfl⟩, rfl⟩
  have hr := and_rng (y := y) (z := (mo : Int) - 1) (by omega) (by omega)
  obtain ⟨r, hr2⟩ : ∃ r : Nat, bop .and .u64 y ((mo : Int) - 1) = (r : Int) := ⟨(bop .and .u64 y ((mo : Int) - 1)).toNat, by omega⟩
  refine .v (.move rfl) (.v (.subU ((mo : Int) - 1) rfl rfl rfl (by omega)) (.v (.and rfl rfl) (.v (.convE (r : Int) rfl (by rw [hr2]; exact wrap_i64 (by omega))) (.v (.assign rfl) (.nil ?_)))))
  refine .mid (X := Nat) (fun t => [(0, .slice (some ⟨b, o, none⟩) n c), (1, .int .i64 a), (6, .int .i64 h), (7, .pointer (some ⟨b7, 0, none⟩)), (8, .int .u64 mo), (9, .int .i64 j), (10, .int .i64 t)]) (fun _ => [(b7, .cells [.int .u64 y] 188), (b, .cells l1 29)]) (fun t => t < h) (.seq ((.region (.v (.move rfl) (.v (.move rfl) (.v (.geq rfl rfl) (.nil ?_))))))) ?_
  · refine .cond_dec rfl (fun h3 => ?_) (fun h3 => .skip ?_)
    · refine .region (.v (.move rfl) (.v (.move rfl) (.v (.subE ((r - h : Nat) : Int) rfl rfl (by omega) (by omega)) (.v (.assign rfl) (.nil ?_)))))
      exact ⟨r - h, by omega, .cons rfl (.cons rfl (.cons rfl (.cons rfl (.cons rfl (.cons rfl (.cons rfl (.nil _))))))), fun _ s => s.take⟩
    · exact ⟨r, by omega, .cons rfl (.cons rfl (.cons rfl (.cons rfl (.cons rfl (.cons rfl (.cons rfl (.nil _))))))), fun _ s => s.take⟩
  rintro t ht
  try dsimp only at ht ⊢
  have k3 := k1.swp (i := j) (j := a + t) (by omega) (by omega)
  have p3 := Go.Sort.permIn_trans _ _ _ a (a + h) hp (Go.Sort.swp_permIn d1 a (a + h) j (a + t) (by omega) (by omega) (by omega) (by omega) (by rw [k1.sz]; exact he))
  have q0 := fun hs' hsub => k1.at_ (w0 := w) (own := [b]) (hs := hs') (i := j) (by omega) hsub
  have q1 := fun hs' hsub => k1.at_ (w0 := w) (own := [b]) (hs := hs') (i := a + t) (by omega) hsub
  have hlen := k1.len
  generalize hD : swp d1 j (a + t) = D at k3 p3
  generalize d1[j]! = x0 at q0 k3
  generalize d1[a + t]! = x1 at q1 k3
  refine .drawY 17 [0, 1, 2, 3, 4, 5, 6, 7, 8, 9, 10, 11, 12, 13, 14, 15, 16, 17, 18, 19] [(b, .cells l1 29)] (fun _ h => .tail _ h) (by kernel_rfl) (by kernel_rfl) ?_
  refine .x (fun _ _ _ => .move rfl) (.x (fun _ _ _ => .move rfl) (.x (fun _ _ _ => .move rfl) (.x (fun _ _ _ => .move rfl) (.x (fun _ _ _ => .move rfl) (.x (fun _ _ _ => .addE ((a + t : Nat) : Int) rfl rfl (by omega) (by omega)) (.x (fun _ _ _ => .move rfl) (.x (fun _ _ _ => .move rfl) (.x (fun _ _ _ => .move rfl) (.x (fun _ _ _ => .addE ((a + t : Nat) : Int) rfl rfl (by omega) (by omega)) (.x (fun _ _ _ => .indexN (a + t) rfl rfl (by omega)) (.v (fun hs' f => .load (v := .int .u32 x1) rfl (q1 hs' f)) (.x (fun _ _ _ => .move rfl) (.x (fun _ _ _ => .move rfl) (.x (fun _ _ _ => .indexN (j) rfl rfl (by omega)) (.v (fun hs' f => .load (v := .int .u32 x0) rfl (q0 hs' f)) (.x (fun _ _ _ => .indexN (j) rfl rfl (by omega)) (.st (.store rfl rfl rfl (by omega)) (.x (fun _ _ _ => .indexN (a + t) rfl rfl (by omega)) (.st2 (.store rfl rfl rfl (by rw [List.length_set]; omega)) (.nil ?_))))))))))))))))))))
  refine .region (.v (.move rfl) (.v (.addE ((j + 1 : Nat) : Int) rfl rfl (by omega) (by omega)) (.v (.assign rfl) (.nil ?_))))
  exact ⟨⟨y, j + 1, D, (l1.set (o + j) (.int .u32 x1)).set (o + (a + t)) (.int .u32 x0)⟩, ⟨⟨by show _ ≤ j + 1; omega, by show j + 1 ≤ _; omega⟩, k3, p3⟩, by show a + q * 2 + 2 - (j + 1) < a + q * 2 + 2 - j; omega, .cons rfl (.cons rfl (.cons rfl (.cons rfl (.cons rfl (.cons rfl (.nil _)))))), fun _ s => s.take⟩
structure IS where
  t : Nat
  i : Nat
  d : Array Int
  l : List Value
set_option maxRecDepth 20000 in
theorem partial32_ok (w : World) {b o c n : Nat} {d : Array Int} {l : List Value} (k : So32 b o c n d l) (a e : Nat) (hae : a < e) (he : e ≤ n) (hn : n < 2305843009213693952) :
    Does Try.prog 112 [.slice (some ⟨b, o, none⟩) n c, .int .i64 a, .int .i64 e] [(b, .cells l 29)] w (fun v hs => ∃ l', v = .bool (partialInsertionSort ltInt d a e).2 ∧ hs = [(b, .cells l' 29)] ∧ So32 b o c n (partialInsertionSort ltInt d a e).1 l') := by
  generalize hR : partialInsertionSort ltInt d a e = R
  replace hR : partialIns ltInt a e 5 (a + 1) d = R := hR
  refine Does.of (n := 133) Try.func112 rfl rfl rfl rfl ?_
  refine .seq ((.region (.v (.assign rfl) (.nil ?_))))
  refine .seq ((.region (.v (.move rfl) (.v (.addE ((a + 1 : Nat) : Int) rfl rfl (by omega) (by omega)) (.v (.assign rfl) (.nil ?_))))))
  refine .seq (.seq ((.region (.v (.assign rfl) (.nil ?_)))))
  refine (.block (.loop (X := IS) (fun x => [(0, .slice (some ⟨b, o, none⟩) n c), (1, .int .i64 a), (2, .int .i64 e), (7, .int .i64 x.i), (8, .int .i64 x.t)]) (fun x => [(b, .cells x.l 29)]) (fun x => (x.t ≤ 5 ∧ a + 1 ≤ x.i ∧ x.i ≤ e) ∧ So32 b o c n x.d x.l ∧ partialIns ltInt a e (5 - x.t) x.i x.d = R) (fun x => 5 - x.t) ⟨0, a + 1, d, l⟩ ⟨⟨by show 0 ≤ 5; omega, by show a + 1 ≤ a + 1; omega, by show a + 1 ≤ e; omega⟩, k, hR⟩ (.cons rfl (.cons rfl (.cons rfl (.cons rfl (.cons rfl (.nil _)))))) (fun _ s => s) ?_))
  clear hR k
  rintro ⟨t, i, d1, l1⟩ ⟨⟨ht, hi1, hi2⟩, k1, hR⟩
  dsimp only at ht hi1 hi2 k1 hR ⊢
  refine .seq (.seq ((.region (.v (.move rfl) (.v (.lss rfl rfl) (.nil ?_))))))
  refine .cond_dec rfl (fun g => .skip ?_) (fun g => .exit ?_)
  case refine_2 =>
    rw [show 5 - t = 0 by omega] at hR
    subst hR
    refine .seq ((.region (.v (.assign rfl) (.nil ?_))))
    exact .ret ⟨[_], ⟨rfl, trivial⟩, l1, rfl, rfl, k1⟩
  rw [show 5 - t = (5 - (t + 1)) + 1 by omega, Go.Sort.partialIns_succ] at hR
  refine .mid (X := IS) (fun x => [(0, .slice (some ⟨b, o, none⟩) n c), (1, .int .i64 a), (2, .int .i64 e), (7, .int .i64 x.i), (8, .int .i64 t)]) (fun x => [(b, .cells x.l 29)]) (fun x => (a + 1 ≤ x.i ∧ x.i ≤ e) ∧ So32 b o c n x.d x.l ∧ partialIns ltInt a e (5 - (t + 1)) x.i x.d = R) (.block ?_) ?_
  case refine_2 =>
    rintro ⟨_, i, d2, l2⟩ ⟨⟨hi1, hi2⟩, k2, hR⟩
    try dsimp only at hi1 hi2 k2 hR ⊢
    refine .region (.v (.move rfl) (.v (.addE ((t + 1 : Nat) : Int) rfl rfl (by omega) (by omega)) (.v (.assign rfl) (.nil ?_))))
    exact ⟨⟨t + 1, i, d2, l2⟩, ⟨⟨by show t + 1 ≤ 5; omega, hi1, hi2⟩, k2, hR⟩, by show 5 - (t + 1) < 5 - t; omega, .cons rfl (.cons rfl (.cons rfl (.cons rfl (.cons rfl (.nil _))))), fun _ s => s⟩
  refine .mid (X := Nat) (fun x => [(0, .slice (some ⟨b, o, none⟩) n c), (1, .int .i64 a), (2, .int .i64 e), (7, .int .i64 x), (8, .int .i64 t)]) (fun _ => [(b, .cells l1 29)]) (fun x => (i ≤ x ∧ x ≤ e) ∧ x = scanSorted ltInt d1 e i) (.block (.loop (X := Nat) (fun x => [(0, .slice (some ⟨b, o, none⟩) n c), (1, .int .i64 a), (2, .int .i64 e), (7, .int .i64 x), (8, .int .i64 t)]) (fun _ => [(b, .cells l1 29)]) (fun x => (i ≤ x ∧ x ≤ e) ∧ scanSorted ltInt d1 e x = scanSorted ltInt d1 e i) (fun x => e - x) i ⟨⟨Nat.le_refl _, hi2⟩, rfl⟩ (.cons rfl (.cons rfl (.cons rfl (.cons rfl (.cons rfl (.nil _)))))) (fun _ s => s) ?_)) ?_
  · rintro y ⟨⟨hy1, hy2⟩, h1⟩
    try dsimp only at hy1 hy2 h1 ⊢
    by_cases hg : y < e
    case neg =>
      refine .seq (.seq (.drawK [(b, .cells l1 29)] (fun _ h => h) (by kernel_rfl) (by kernel_rfl) ?_))
      refine .v (fun _ f => .move rfl) (.v (fun _ f => .move rfl) (.v (fun _ f => .no (.lss rfl rfl) (by omega)) (.v (fun _ f => .move rfl) (.and (b2 := true) 20 31 11 11 rfl rfl (fun g1 => absurd g1 (by simp)) (.nil ?_)))))
      refine .cond_false rfl (.exit ?_)
      rw [ss_end (by omega)] at h1
      exact ⟨y, ⟨⟨hy1, hy2⟩, h1⟩, .cons rfl (.cons rfl (.cons rfl (.cons rfl (.cons rfl (.nil _))))), fun _ s => s⟩
    have q0 := fun hs' hsub => k1.at_ (w0 := w) (own := [b]) (hs := hs') (i := y) (by omega) hsub
    have q1 := fun hs' hsub => k1.at_ (w0 := w) (own := [b]) (hs := hs') (i := y - 1) (by omega) hsub
    refine .seq (.seq (.drawK [(b, .cells l1 29)] (fun _ h => h) (by kernel_rfl) (by kernel_rfl) ?_))
    refine .v (fun _ f => .move rfl) (.v (fun _ f => .move rfl) (.v (fun _ f => .yes (.lss rfl rfl) (by omega)) (.v (fun _ f => .move rfl) (.and (b2 := !ltInt d1[y]! d1[y - 1]!) 20 31 11 11 rfl rfl (fun g1 => .v (fun _ f => .move rfl) (.v (fun _ f => .move rfl) (.v (fun _ f => .indexN (y) rfl rfl (by omega)) (.v (fun hs' f => .load (v := .int .u32 d1[y]!) rfl (q0 hs' f)) (.v (fun _ f => .move rfl) (.v (fun _ f => .move rfl) (.v (fun _ f => .subE ((y - 1 : Nat) : Int) rfl rfl (by omega) (by omega)) (.v (fun _ f => .indexN (y - 1) rfl rfl (by omega)) (.v (fun hs' f => .load (v := .int .u32 d1[y - 1]!) rfl (q1 hs' f)) (.pc rfl rfl (fun w s => less32_ok w _ _) (.v (fun _ f => .not rfl) (.nil ⟨rfl, rfl, rfl, rfl⟩)))))))))))) (.nil ?_)))))
    refine .cond rfl (fun g2 => .skip ?_) (fun g2 => .exit ?_)
    · have g2' : (!ltInt d1[y]! d1[y - 1]!) = true := by simpa using g2
      refine .block (.region (.v (.move rfl) (.v (.addE ((y + 1 : Nat) : Int) rfl rfl (by omega) (by omega)) (.v (.assign rfl) (.nil ?_)))))
      exact ⟨y + 1, ⟨⟨by omega, by omega⟩, by rw [← h1]; exact (ss_go hg g2').symm⟩, by omega, .cons rfl (.cons rfl (.cons rfl (.cons rfl (.cons rfl (.nil _))))), fun _ s => s⟩
    · have g2' : (!ltInt d1[y]! d1[y - 1]!) = false := by simpa using g2
      exact ⟨y, ⟨⟨hy1, hy2⟩, by rw [← h1]; exact (ss_stop g2').symm⟩, .cons rfl (.cons rfl (.cons rfl (.cons rfl (.cons rfl (.nil _))))), fun _ s => s⟩
  rintro i2 ⟨⟨f1, f2⟩, hi3⟩
  try dsimp only at f1 f2 hi3 ⊢
  rw [← hi3] at hR
  clear hi3
  refine .seq (.seq ((.region (.v (.move rfl) (.v (.move rfl) (.v (.eqi rfl rfl) (.nil ?_)))))))
  refine .cond_dec rfl (fun g3 => ?_) (fun g3 => .skip ?_)
  · rw [if_pos (by omega)] at hR
    subst hR
    refine .seq ((.region (.v (.assign rfl) (.nil ?_))))
    exact .ret ⟨[_], ⟨rfl, trivial⟩, l1, rfl, rfl, k1⟩
  rw [if_neg (by omega)] at hR
  refine .seq (.seq ((.region (.v (.move rfl) (.v (.move rfl) (.v (.subE ((e - a : Nat) : Int) rfl rfl (by omega) (by omega)) (.v (.lss rfl rfl) (.nil ?_))))))))
  refine .cond_dec rfl (fun g4 => ?_) (fun g4 => .skip ?_)
  · rw [if_pos (by omega)] at hR
    subst hR
    refine .seq ((.region (.v (.assign rfl) (.nil ?_))))
    exact .ret ⟨[_], ⟨rfl, trivial⟩, l1, rfl, rfl, k1⟩
  rw [if_neg (by omega)] at hR
  refine .mid (X := Array Int × List Value) (fun _ => [(0, .slice (some ⟨b, o, none⟩) n c), (1, .int .i64 a), (2, .int .i64 e), (7, .int .i64 i2), (8, .int .i64 t)]) (fun x => [(b, .cells x.2 29)]) (fun x => x.1 = swp d1 i2 (i2 - 1) ∧ So32 b o c n x.1 x.2) ?_ ?_
  ·
    have k3 := k1.swp (i := i2) (j := i2 - 1) (by omega) (by omega)
    have q0 := fun hs' hsub => k1.at_ (w0 := w) (own := [b]) (hs := hs') (i := i2 - 1) (by omega) hsub
    have q1 := fun hs' hsub => k1.at_ (w0 := w) (own := [b]) (hs := hs') (i := i2) (by omega) hsub
    have hlen := k1.len
    generalize d1[i2 - 1]! = x0 at q0 k3
    generalize d1[i2]! = x1 at q1 k3
    refine .drawY 15 [0, 1, 2, 3, 4, 5, 6, 7, 8, 9, 10, 11, 12, 13, 14, 15, 16, 17] [(b, .cells l1 29)] (fun _ h => h) (by kernel_rfl) (by kernel_rfl) ?_
    refine .x (fun _ _ _ => .move rfl) (.x (fun _ _ _ => .move rfl) (.x (fun _ _ _ => .move rfl) (.x (fun _ _ _ => .move rfl) (.x (fun _ _ _ => .subE ((i2 - 1 : Nat) : Int) rfl rfl (by omega) (by omega)) (.x (fun _ _ _ => .move rfl) (.x (fun _ _ _ => .move rfl) (.x (fun _ _ _ => .subE ((i2 - 1 : Nat) : Int) rfl rfl (by omega) (by omega)) (.x (fun _ _ _ => .indexN (i2 - 1) rfl rfl (by omega)) (.v (fun hs' f => .load (v := .int .u32 x0) rfl (q0 hs' f)) (.x (fun _ _ _ => .move rfl) (.x (fun _ _ _ => .move rfl) (.x (fun _ _ _ => .indexN (i2) rfl rfl (by omega)) (.v (fun hs' f => .load (v := .int .u32 x1) rfl (q1 hs' f)) (.x (fun _ _ _ => .indexN (i2) rfl rfl (by omega)) (.st (.store rfl rfl rfl (by omega)) (.x (fun _ _ _ => .indexN (i2 - 1) rfl rfl (by omega)) (.st2 (.store rfl rfl rfl (by rw [List.length_set]; omega)) (.nil ?_))))))))))))))))))
    exact ⟨(swp d1 i2 (i2 - 1), (l1.set (o + (i2)) (.int .u32 x0)).set (o + (i2 - 1)) (.int .u32 x1)), ⟨rfl, k3⟩, .cons rfl (.cons rfl (.cons rfl (.cons rfl (.cons rfl (.nil _))))), fun _ s => s⟩
  rintro ⟨d2, l2⟩ ⟨hd2, k2⟩
  try dsimp only at hd2 k2 ⊢
  rw [← hd2] at hR
  clear hd2 k1
  refine .mid (X := Array Int × List Value) (fun _ => [(0, .slice (some ⟨b, o, none⟩) n c), (1, .int .i64 a), (2, .int .i64 e), (7, .int .i64 i2), (8, .int .i64 t)]) (fun x => [(b, .cells x.2 29)]) (fun x => x.1 = fixDown ltInt a i2 d2 ∧ So32 b o c n x.1 x.2) (.seq ((.region (.v (.move rfl) (.v (.move rfl) (.v (.subE ((i2 - a : Nat) : Int) rfl rfl (by omega) (by omega)) (.v (.geq rfl rfl) (.nil ?_)))))))) ?_
  · refine .cond_dec rfl (fun g5 => ?_) (fun g5 => .skip ?_)
    case refine_2 =>
      have hf : d2 = fixDown ltInt a i2 d2 := by unfold fixDown; rw [if_neg (by omega)]
      exact ⟨(d2, l2), ⟨hf, k2⟩, .cons rfl (.cons rfl (.cons rfl (.cons rfl (.cons rfl (.nil _))))), fun _ s => s⟩
    have hf : fixDown ltInt a i2 d2 = shiftDown ltInt (i2 - 1) d2 := by unfold fixDown; rw [if_pos (by omega)]
    refine .seq ((.region (.v (.move rfl) (.v (.subE ((i2 - 1 : Nat) : Int) rfl rfl (by omega) (by omega)) (.v (.assign rfl) (.nil ?_))))))
    refine .block (.loop (X := SL) (fun x => [(0, .slice (some ⟨b, o, none⟩) n c), (1, .int .i64 a), (2, .int .i64 e), (7, .int .i64 i2), (8, .int .i64 t), (9, .int .i64 x.i)]) (fun x => [(b, .cells x.l 29)]) (fun x => x.i ≤ i2 - 1 ∧ So32 b o c n x.d x.l ∧ shiftDown ltInt x.i x.d = fixDown ltInt a i2 d2) (fun x => x.i) ⟨i2 - 1, d2, l2⟩ ⟨by show i2 - 1 ≤ i2 - 1; omega, k2, hf.symm⟩ (.cons rfl (.cons rfl (.cons rfl (.cons rfl (.cons rfl (.cons rfl (.nil _))))))) (fun _ s => s) ?_)
    clear hf
    rintro ⟨y, d5, l5⟩ ⟨hy, k5, h1⟩
    try dsimp only at hy k5 h1 ⊢
    refine .seq (.seq ((.region (.v (.move rfl) (.v (.geq rfl rfl) (.nil ?_))))))
    refine .cond_dec rfl (fun g6 => .skip ?_) (fun g6 => .exit ?_)
    case refine_2 =>
      have y0 : y = 0 := by omega
      subst y0
      rw [shiftDown] at h1
      exact ⟨(d5, l5), ⟨h1, k5⟩, .cons rfl (.cons rfl (.cons rfl (.cons rfl (.cons rfl (.nil _))))), fun _ s => s⟩
    obtain ⟨y, rfl⟩ : ∃ y', y = y' + 1 := ⟨y - 1, by omega⟩
    rw [shiftDown] at h1
    have q0 := fun hs' hsub => k5.at_ (w0 := w) (own := [b]) (hs := hs') (i := y + 1) (by omega) hsub
    have q1 := fun hs' hsub => k5.at_ (w0 := w) (own := [b]) (hs := hs') (i := y) (by omega) hsub
    refine .seq (.block (.seq (.seq (.drawK [(b, .cells l5 29)] (fun _ h => h) (by kernel_rfl) (by kernel_rfl) ?_))))
    refine .v (fun _ f => .move rfl) (.v (fun _ f => .move rfl) (.v (fun _ f => .indexN (y + 1) rfl rfl (by omega)) (.v (fun hs' f => .load (v := .int .u32 d5[y + 1]!) rfl (q0 hs' f)) (.v (fun _ f => .move rfl) (.v (fun _ f => .move rfl) (.v (fun _ f => .subE ((y : Nat) : Int) rfl rfl (by omega) (by omega)) (.v (fun _ f => .indexN (y) rfl rfl (by omega)) (.v (fun hs' f => .load (v := .int .u32 d5[y]!) rfl (q1 hs' f)) (.pc rfl rfl (fun w s => less32_ok w _ _) (.v (fun _ f => .not rfl) (.nil ?_)))))))))))
    refine .cond rfl (fun g2 => .exit ?_) (fun g2 => .skip ?_)
    · rw [if_pos (by simpa using g2)] at h1
      exact ⟨(d5, l5), ⟨h1, k5⟩, .cons rfl (.cons rfl (.cons rfl (.cons rfl (.cons rfl (.nil _))))), fun _ s => s⟩
    rw [if_neg (by simpa using g2)] at h1
    clear q0 q1
    have k6 := k5.swp (i := y + 1) (j := y) (by omega) (by omega)
    have q0 := fun hs' hsub => k5.at_ (w0 := w) (own := [b]) (hs := hs') (i := y) (by omega) hsub
    have q1 := fun hs' hsub => k5.at_ (w0 := w) (own := [b]) (hs := hs') (i := y + 1) (by omega) hsub
    have hlen := k5.len
    generalize hD : swp d5 (y + 1) y = D at k6 h1
    generalize d5[y]! = x0 at q0 k6
    generalize d5[y + 1]! = x1 at q1 k6
    refine .drawY 15 [0, 1, 2, 3, 4, 5, 6, 7, 8, 9, 10, 11, 12, 13, 14, 15, 16, 17] [(b, .cells l5 29)] (fun _ h => h) (by kernel_rfl) (by kernel_rfl) ?_
    refine .x (fun _ _ _ => .move rfl) (.x (fun _ _ _ => .move rfl) (.x (fun _ _ _ => .move rfl) (.x (fun _ _ _ => .move rfl) (.x (fun _ _ _ => .subE ((y : Nat) : Int) rfl rfl (by omega) (by omega)) (.x (fun _ _ _ => .move rfl) (.x (fun _ _ _ => .move rfl) (.x (fun _ _ _ => .subE ((y : Nat) : Int) rfl rfl (by omega) (by omega)) (.x (fun _ _ _ => .indexN (y) rfl rfl (by omega)) (.v (fun hs' f => .load (v := .int .u32 x0) rfl (q0 hs' f)) (.x (fun _ _ _ => .move rfl) (.x (fun _ _ _ => .move rfl) (.x (fun _ _ _ => .indexN (y + 1) rfl rfl (by omega)) (.v (fun hs' f => .load (v := .int .u32 x1) rfl (q1 hs' f)) (.x (fun _ _ _ => .indexN (y + 1) rfl rfl (by omega)) (.st (.store rfl rfl rfl (by omega)) (.x (fun _ _ _ => .indexN (y) rfl rfl (by omega)) (.st2 (.store rfl rfl rfl (by rw [List.length_set]; omega)) (.nil ?_))))))))))))))))))
    refine .region (.v (.move rfl) (.v (.subE ((y : Nat) : Int) rfl rfl (by omega) (by omega)) (.v (.assign rfl) (.nil ?_))))
    exact ⟨⟨y, D, (l5.set (o + (y + 1)) (.int .u32 x0)).set (o + (y)) (.int .u32 x1)⟩, ⟨by show y ≤ i2 - 1; omega, k6, h1⟩, by show y < y + 1; omega, .cons rfl (.cons rfl (.cons rfl (.cons rfl (.cons rfl (.cons rfl (.nil _)))))), fun _ s => s⟩
  rintro ⟨d3, l3⟩ ⟨hd3, k3⟩
  try dsimp only at hd3 k3 ⊢
  rw [← hd3] at hR
  clear hd3 k2
  refine .seq ((.region (.v (.move rfl) (.v (.move rfl) (.v (.subE ((e - i2 : Nat) : Int) rfl rfl (by omega) (by omega)) (.v (.geq rfl rfl) (.nil ?_)))))))
  refine .cond_dec rfl (fun g5 => ?_) (fun g5 => .skip ?_)
  case refine_2 =>
    have hf : d3 = fixUp ltInt e i2 d3 := by unfold fixUp; rw [if_neg (by omega)]
    exact ⟨⟨0, i2, d3, l3⟩, ⟨⟨by show a + 1 ≤ i2; omega, f2⟩, k3, by show partialIns ltInt a e (5 - (t + 1)) i2 d3 = R; rw [← hR]; exact congrArg _ (hf)⟩, .cons rfl (.cons rfl (.cons rfl (.cons rfl (.cons rfl (.nil _))))), fun _ s => s⟩
  have hf : fixUp ltInt e i2 d3 = shiftUp ltInt e (i2 + 1) d3 := by unfold fixUp; rw [if_pos (by omega)]
  refine .seq ((.region (.v (.move rfl) (.v (.addE ((i2 + 1 : Nat) : Int) rfl rfl (by omega) (by omega)) (.v (.assign rfl) (.nil ?_))))))
  refine .block (.loop (X := SL) (fun x => [(0, .slice (some ⟨b, o, none⟩) n c), (1, .int .i64 a), (2, .int .i64 e), (7, .int .i64 i2), (8, .int .i64 t), (10, .int .i64 x.i)]) (fun x => [(b, .cells x.l 29)]) (fun x => (i2 + 1 ≤ x.i ∧ x.i ≤ e) ∧ So32 b o c n x.d x.l ∧ shiftUp ltInt e x.i x.d = fixUp ltInt e i2 d3) (fun x => e - x.i) ⟨i2 + 1, d3, l3⟩ ⟨⟨by show i2 + 1 ≤ i2 + 1; omega, by show i2 + 1 ≤ e; omega⟩, k3, hf.symm⟩ (.cons rfl (.cons rfl (.cons rfl (.cons rfl (.cons rfl (.cons rfl (.nil _))))))) (fun _ s => s) ?_)
  clear hf
  rintro ⟨y, d5, l5⟩ ⟨⟨hy1, hy2⟩, k5, h1⟩
  try dsimp only at hy1 hy2 k5 h1 ⊢
  refine .seq (.seq ((.region (.v (.move rfl) (.v (.move rfl) (.v (.lss rfl rfl) (.nil ?_)))))))
  refine .cond_dec rfl (fun g6 => .skip ?_) (fun g6 => .exit ?_)
  case refine_2 =>
    rw [shiftUp, if_neg (by omega)] at h1
    exact ⟨⟨0, i2, d5, l5⟩, ⟨⟨by show a + 1 ≤ i2; omega, f2⟩, k5, by show partialIns ltInt a e (5 - (t + 1)) i2 d5 = R; rw [← hR]; exact congrArg _ (h1)⟩, .cons rfl (.cons rfl (.cons rfl (.cons rfl (.cons rfl (.nil _))))), fun _ s => s⟩
  rw [shiftUp, if_pos (by omega)] at h1
  have q0 := fun hs' hsub => k5.at_ (w0 := w) (own := [b]) (hs := hs') (i := y) (by omega) hsub
  have q1 := fun hs' hsub => k5.at_ (w0 := w) (own := [b]) (hs := hs') (i := y - 1) (by omega) hsub
  refine .seq (.block (.seq (.seq (.drawK [(b, .cells l5 29)] (fun _ h => h) (by kernel_rfl) (by kernel_rfl) ?_))))
  refine .v (fun _ f => .move rfl) (.v (fun _ f => .move rfl) (.v (fun _ f => .indexN (y) rfl rfl (by omega)) (.v (fun hs' f => .load (v := .int .u32 d5[y]!) rfl (q0 hs' f)) (.v (fun _ f => .move rfl) (.v (fun _ f => .move rfl) (.v (fun _ f => .subE ((y - 1 : Nat) : Int) rfl rfl (by omega) (by omega)) (.v (fun _ f => .indexN (y - 1) rfl rfl (by omega)) (.v (fun hs' f => .load (v := .int .u32 d5[y - 1]!) rfl (q1 hs' f)) (.pc rfl rfl (fun w s => less32_ok w _ _) (.v (fun _ f => .not rfl) (.nil ?_)))))))))))
  refine .cond rfl (fun g2 => .exit ?_) (fun g2 => .skip ?_)
  · rw [if_pos (by simpa using g2)] at h1
    exact ⟨⟨0, i2, d5, l5⟩, ⟨⟨by show a + 1 ≤ i2; omega, f2⟩, k5, by show partialIns ltInt a e (5 - (t + 1)) i2 d5 = R; rw [← hR]; exact congrArg _ (h1)⟩, .cons rfl (.cons rfl (.cons rfl (.cons rfl (.cons rfl (.nil _))))), fun _ s => s⟩
  rw [if_neg (by simpa using g2)] at h1
  clear q0 q1
  have k6 := k5.swp (i := y) (j := y - 1) (by omega) (by omega)
  have q0 := fun hs' hsub => k5.at_ (w0 := w) (own := [b]) (hs := hs') (i := y - 1) (by omega) hsub
  have q1 := fun hs' hsub => k5.at_ (w0 := w) (own := [b]) (hs := hs') (i := y) (by omega) hsub
  have hlen := k5.len
  generalize hD : swp d5 (y) (y - 1) = D at k6 h1
  generalize d5[y - 1]! = x0 at q0 k6
  generalize d5[y]! = x1 at q1 k6
  refine .drawY 15 [0, 1, 2, 3, 4, 5, 6, 7, 8, 9, 10, 11, 12, 13, 14, 15, 16, 17] [(b, .cells l5 29)] (fun _ h => h) (by kernel_rfl) (by kernel_rfl) ?_
  refine .x (fun _ _ _ => .move rfl) (.x (fun _ _ _ => .move rfl) (.x (fun _ _ _ => .move rfl) (.x (fun _ _ _ => .move rfl) (.x (fun _ _ _ => .subE ((y - 1 : Nat) : Int) rfl rfl (by omega) (by omega)) (.x (fun _ _ _ => .move rfl) (.x (fun _ _ _ => .move rfl) (.x (fun _ _ _ => .subE ((y - 1 : Nat) : Int) rfl rfl (by omega) (by omega)) (.x (fun _ _ _ => .indexN (y - 1) rfl rfl (by omega)) (.v (fun hs' f => .load (v := .int .u32 x0) rfl (q0 hs' f)) (.x (fun _ _ _ => .move rfl) (.x (fun _ _ _ => .move rfl) (.x (fun _ _ _ => .indexN (y) rfl rfl (by omega)) (.v (fun hs' f => .load (v := .int .u32 x1) rfl (q1 hs' f)) (.x (fun _ _ _ => .indexN (y) rfl rfl (by omega)) (.st (.store rfl rfl rfl (by omega)) (.x (fun _ _ _ => .indexN (y - 1) rfl rfl (by omega)) (.st2 (.store rfl rfl rfl (by rw [List.length_set]; omega)) (.nil ?_))))))))))))))))))
  refine .region (.v (.move rfl) (.v (.addE ((y + 1 : Nat) : Int) rfl rfl (by omega) (by omega)) (.v (.assign rfl) (.nil ?_))))
  exact ⟨⟨y + 1, D, (l5.set (o + (y)) (.int .u32 x0)).set (o + (y - 1)) (.int .u32 x1)⟩, ⟨⟨by show i2 + 1 ≤ y + 1; omega, by show y + 1 ≤ e; omega⟩, k6, h1⟩, by show e - (y + 1) < e - y; omega, .cons rfl (.cons rfl (.cons rfl (.cons rfl (.cons rfl (.cons rfl (.nil _)))))), fun _ s => s⟩
end Go.Proofs.Ytfajjkolhajldaa

/- slices.pdqsortOrdered, Sort at uint32 (printed by wip/gen/gen_pdq.py). -/
namespace Go.Proofs.Ytfajjkolhajldaa
open Go.V
open Go.Sort (ltInt swp insertionSort heapSort reverseRange choosePivot partition partitionEqual partialInsertionSort PermIn SortedIn Below permIn_trans permIn_refl swo_ltInt)
set_option linter.unusedVariables false
set_option linter.unusedSimpArgs false
structure DS where
  a : Nat
  e : Nat
  t : Nat
  wb : Bool
  wp : Bool
  d : Array Int
  l : List Value
structure RS where
  p : Nat
  h : Int
  d : Array Int
  l : List Value
abbrev PdqR (b o c n a e : Nat) (d : Array Int) (hs : Hp) : Prop := ∃ d' l', hs = [(b, .cells l' 29)] ∧ So32 b o c n d' l' ∧ PermIn a e d d' ∧ SortedIn ltInt a e d'
set_option maxRecDepth 20000 in
theorem pdq32_ok : ∀ (N : Nat) (w : World) {b o c n : Nat} {d : Array Int} {l : List Value} (k : So32 b o c n d l) (a e t : Nat) (hN : e - a ≤ N) (hae : a ≤ e) (he : e ≤ n) (hn : n < 2305843009213693952) (ht : t < 2305843009213693952) (hB : Below ltInt a e d),
    Does Try.prog 89 [.slice (some ⟨b, o, none⟩) n c, .int .i64 a, .int .i64 e, .int .i64 t] [(b, .cells l 29)] w (fun _ hs => PdqR b o c n a e d hs) := by
  intro N
  induction N using Nat.strongRecOn with
  | ind N IH =>
  intro w b o c n d l k a e t hN hae he hn ht hB
  refine Does.of (n := 134) Try.func89 rfl rfl rfl rfl ?_
  refine .seq ((.region (.v (.assign rfl) (.nil ?_))))
  refine .seq ((.region (.v (.assign rfl) (.nil ?_))))
  refine .block (.loop (X := DS) (fun x => [(0, .slice (some ⟨b, o, none⟩) n c), (1, .int .i64 x.a), (2, .int .i64 x.e), (3, .int .i64 x.t), (8, .bool x.wb), (9, .bool x.wp)]) (fun x => [(b, .cells x.l 29)]) (fun x => (x.a ≤ x.e ∧ x.e ≤ n ∧ x.e - x.a ≤ N ∧ x.t < 2305843009213693952) ∧ So32 b o c n x.d x.l ∧ Below ltInt x.a x.e x.d ∧ ∀ R, PermIn x.a x.e x.d R → SortedIn ltInt x.a x.e R → PermIn a e d R ∧ SortedIn ltInt a e R) (fun x => x.e - x.a) ⟨a, e, t, true, true, d, l⟩ ⟨⟨hae, he, hN, ht⟩, k, hB, fun R h1 h2 => ⟨h1, h2⟩⟩ (.cons rfl (.cons rfl (.cons rfl (.cons rfl (.cons rfl (.cons rfl (.nil _))))))) (fun _ s => s) ?_)
  clear hN hae he ht hB k
  rintro ⟨a1, e1, t1, wb, wp, d1, l1⟩ ⟨⟨hae, he, hN, ht⟩, k1, hB, hC⟩
  dsimp only at hae he hN ht k1 hB hC ⊢
  have z1 : e1 ≤ d1.size := by rw [k1.sz]; exact he
  refine .block (.seq ((.region (.v (.move rfl) (.v (.move rfl) (.v (.subE ((e1 - a1 : Nat) : Int) rfl rfl (by omega) (by omega)) (.v (.assign rfl) (.nil ?_))))))))
  refine .seq (.seq ((.region (.v (.move rfl) (.v (.leq rfl rfl) (.nil ?_))))))
  refine .cond_dec rfl (fun h1 => ?_) (fun h1 => .skip ?_)
  · refine .seq ((.region (.v (.move rfl) (.v (.move rfl) (.v (.move rfl) ?_)))))
    refine .ef (.callT [(b, .cells l1 29)] rfl rfl fun w s => ins32_ok w k1 a1 e1 he (by omega) (by omega)) ?_
    rintro _ _ ⟨_, ⟨l2, rfl, k2⟩, rfl⟩
    obtain ⟨p2, s2⟩ := Go.Sort.insertionSort_holds (lt := ltInt) swo_ltInt d1 a1 e1 hae z1
    refine .nil ?_
    exact .ret ⟨[], trivial, _, l2, rfl, k2, hC _ p2 s2⟩
  refine .seq (.seq ((.region (.v (.move rfl) (.v (.eqi rfl rfl) (.nil ?_))))))
  refine .cond_dec rfl (fun h2 => ?_) (fun h2 => .skip ?_)
  · refine .seq ((.region (.v (.move rfl) (.v (.move rfl) (.v (.move rfl) ?_)))))
    refine .ef (.callT [(b, .cells l1 29)] rfl rfl fun w s => heap32_ok w k1 a1 e1 hae he hn) ?_
    rintro _ _ ⟨_, ⟨l2, rfl, k2⟩, rfl⟩
    obtain ⟨p2, s2⟩ := Go.Sort.heapSort_holds (lt := ltInt) swo_ltInt d1 a1 e1 hae z1
    refine .nil ?_
    exact .ret ⟨[], trivial, _, l2, rfl, k2, hC _ p2 s2⟩
  refine .mid (X := RS) (fun x => [(0, .slice (some ⟨b, o, none⟩) n c), (1, .int .i64 a1), (2, .int .i64 e1), (3, .int .i64 x.p), (8, .bool wb), (9, .bool wp), (10, .int .i64 ((e1 - a1 : Nat) : Int))]) (fun x => [(b, .cells x.l 29)]) (fun x => x.p < 2305843009213693952 ∧ So32 b o c n x.d x.l ∧ PermIn a1 e1 d1 x.d) (.seq ((.region (.v (.move rfl) (.v (.not rfl) (.nil ?_)))))) ?_
  · refine .cond rfl (fun h3 => ?_) (fun h3 => .skip ?_)
    · refine .seq ((.region (.v (.move rfl) (.v (.move rfl) (.v (.move rfl) ?_)))))
      refine .ef (.callT [(b, .cells l1 29)] rfl rfl fun w s => break32_ok w k1 a1 e1 hae he hn) ?_
      rintro _ _ ⟨_, ⟨d2, l2, rfl, k2, p2⟩, rfl⟩
      refine .nil ?_
      refine .region (.v (.move rfl) (.v (.subE ((t1 - 1 : Nat) : Int) rfl rfl (by omega) (by omega)) (.v (.assign rfl) (.nil ?_))))
      exact ⟨⟨t1 - 1, 0, d2, l2⟩, ⟨by show t1 - 1 < _; omega, k2, p2⟩, .cons rfl (.cons rfl (.cons rfl (.cons rfl (.cons rfl (.cons rfl (.cons rfl (.nil _))))))), fun _ s => s.take⟩
    · exact ⟨⟨t1, 0, d1, l1⟩, ⟨ht, k1, permIn_refl d1 a1 e1⟩, .cons rfl (.cons rfl (.cons rfl (.cons rfl (.cons rfl (.cons rfl (.cons rfl (.nil _))))))), fun _ s => s⟩
  rintro ⟨t2, _, d2, l2⟩ ⟨ht2, k2, p2⟩
  dsimp only at ht2 k2 p2 ⊢
  have z2 : e1 ≤ d2.size := by rw [k2.sz]; exact he
  refine .seq ((.region (.v (.move rfl) (.v (.move rfl) (.v (.move rfl) ?_)))))
  refine .ef (.call0 rfl rfl fun w s => choose32_ok w k2.sz (OwnS.rd k2.own s (no := []) (fun y hy => by simp at hy; subst hy; simp) (by simp)) a1 e1 (by omega) he hn) ?_
  rintro _ _ ⟨_, ⟨rfl, rfl⟩, rfl⟩
  have hc := Go.Sort.choosePivot_holds ltInt d2 a1 e1 (by omega)
  refine .v (.move rfl) (.v (.extract rfl rfl) (.v (.extract rfl rfl) (.v (.assign rfl) (.v (.assign rfl) (.nil ?_)))))
  generalize choosePivot ltInt d2 a1 e1 = cp at hc ⊢
  obtain ⟨pv, hint⟩ := cp
  dsimp only at hc ⊢
  generalize hintV hint = hv
  refine .mid (X := RS) (fun x => [(0, .slice (some ⟨b, o, none⟩) n c), (1, .int .i64 a1), (2, .int .i64 e1), (3, .int .i64 t2), (8, .bool wb), (9, .bool wp), (10, .int .i64 ((e1 - a1 : Nat) : Int)), (11, .int .i64 x.p), (12, .int .i64 x.h)]) (fun x => [(b, .cells x.l 29)]) (fun x => (a1 ≤ x.p ∧ x.p < e1) ∧ So32 b o c n x.d x.l ∧ PermIn a1 e1 d1 x.d) (.seq ((.region (.v (.move rfl) (.v (.eqi rfl rfl) (.nil ?_)))))) ?_
  · refine .cond_dec rfl (fun h4 => ?_) (fun h4 => .skip ?_)
    · refine .seq ((.region (.v (.move rfl) (.v (.move rfl) (.v (.move rfl) ?_)))))
      refine .ef (.callT [(b, .cells l2 29)] rfl rfl fun w s => rev32_ok w k2 a1 e1 (by omega) he hn) ?_
      rintro _ _ ⟨_, ⟨l3, rfl, k3⟩, rfl⟩
      have p3 := Go.Sort.reverseRange_holds d2 a1 e1 hae z2
      refine .nil ?_
      refine .seq ((.region (.v (.move rfl) (.v (.subE ((e1 - 1 : Nat) : Int) rfl rfl (by omega) (by omega)) (.v (.move rfl) (.v (.move rfl) (.v (.subE ((pv - a1 : Nat) : Int) rfl rfl (by omega) (by omega)) (.v (.subE ((e1 - 1 - (pv - a1) : Nat) : Int) rfl rfl (by omega) (by omega)) (.v (.assign rfl) (.nil ?_))))))))))
      refine .region (.v (.assign rfl) (.nil ?_))
      exact ⟨⟨e1 - 1 - (pv - a1), 1, _, l3⟩, ⟨⟨by show a1 ≤ e1 - 1 - (pv - a1); omega, by show e1 - 1 - (pv - a1) < e1; omega⟩, k3, permIn_trans _ _ _ _ _ p2 p3⟩, .cons rfl (.cons rfl (.cons rfl (.cons rfl (.cons rfl (.cons rfl (.cons rfl (.cons rfl (.cons rfl (.nil _))))))))), fun _ s => s.take⟩
    · exact ⟨⟨pv, hv, d2, l2⟩, ⟨hc, k2, p2⟩, .cons rfl (.cons rfl (.cons rfl (.cons rfl (.cons rfl (.cons rfl (.cons rfl (.cons rfl (.cons rfl (.nil _))))))))), fun _ s => s.take⟩
  clear hc k2 p2 z2
  rintro ⟨p, hv, d3, l3⟩ ⟨⟨hp1, hp2⟩, k3, p3⟩
  dsimp only at hp1 hp2 k3 p3 ⊢
  have z3 : e1 ≤ d3.size := by rw [k3.sz]; exact he
  have B3 := hB.perm z1 p3
  refine .mid (X := RS) (fun x => [(0, .slice (some ⟨b, o, none⟩) n c), (1, .int .i64 a1), (2, .int .i64 e1), (3, .int .i64 t2), (8, .bool wb), (9, .bool wp), (10, .int .i64 ((e1 - a1 : Nat) : Int)), (11, .int .i64 p)]) (fun x => [(b, .cells x.l 29)]) (fun x => So32 b o c n x.d x.l ∧ PermIn a1 e1 d1 x.d) (.seq ((.region (.v (.move rfl) (.v (.move rfl) (.and (b2 := wp) 62 63 1 1 rfl rfl (fun g1 => .v (.move rfl) (.nil ⟨rfl, rfl, rfl, rfl⟩)) (.v (.move rfl) (.and (b2 := decide (hv = 1)) 65 67 2 2 rfl rfl (fun g2 => .v (.move rfl) (.v (.eqi rfl rfl) (.nil ⟨rfl, rfl, rfl, rfl⟩))) (.nil ?_))))))))) ?_
  · refine .cond rfl (fun h5 => ?_) (fun h5 => .skip ?_)
    · refine .seq ((.region (.v (.move rfl) (.v (.move rfl) (.v (.move rfl) ?_)))))
      refine .ef (.callT [(b, .cells l3 29)] rfl rfl fun w s => partial32_ok w k3 a1 e1 (by omega) he hn) ?_
      rintro _ _ ⟨_, ⟨l4, rfl, rfl, k4⟩, rfl⟩
      obtain ⟨p4, s4⟩ := Go.Sort.partialInsertionSort_holds (lt := ltInt) swo_ltInt d3 a1 e1 (by omega) z3 B3
      refine .nil ?_
      refine .cond rfl (fun h6 => ?_) (fun h6 => .skip ?_)
      · exact .ret ⟨[], trivial, _, l4, rfl, k4, hC _ (permIn_trans _ _ _ _ _ p3 p4) (s4 h6)⟩
      · exact ⟨⟨0, 0, _, l4⟩, ⟨k4, permIn_trans _ _ _ _ _ p3 p4⟩, .cons rfl (.cons rfl (.cons rfl (.cons rfl (.cons rfl (.cons rfl (.cons rfl (.cons rfl (.nil _)))))))), fun _ s => s.take⟩
    · exact ⟨⟨0, 0, d3, l3⟩, ⟨k3, p3⟩, .cons rfl (.cons rfl (.cons rfl (.cons rfl (.cons rfl (.cons rfl (.cons rfl (.cons rfl (.nil _)))))))), fun _ s => s⟩
  clear k3 p3 z3 B3 h1 h2
  rintro ⟨_, _, d3, l3⟩ ⟨k3, p3⟩
  dsimp only at k3 p3 ⊢
  have z3 : e1 ≤ d3.size := by rw [k3.sz]; exact he
  have B3 := hB.perm z1 p3
  refine .mid (X := Unit) (fun _ => [(0, .slice (some ⟨b, o, none⟩) n c), (1, .int .i64 a1), (2, .int .i64 e1), (3, .int .i64 t2), (8, .bool wb), (9, .bool wp), (10, .int .i64 ((e1 - a1 : Nat) : Int)), (11, .int .i64 p)]) (fun _ => [(b, .cells l3 29)]) (fun _ => True) (.seq (.drawK [(b, .cells l3 29)] (fun _ h => h) (by kernel_rfl) (by kernel_rfl) ?_)) ?_
  · by_cases hg : 0 < a1
    case neg =>
      refine .v (fun _ f => .move rfl) (.v (fun _ f => .no (.gtr rfl rfl) (by omega)) (.v (fun _ f => .move rfl) (.and (b2 := true) 75 86 11 11 rfl rfl (fun g1 => absurd g1 (by simp)) (.nil ?_))))
      refine .cond_false rfl (.skip ?_)
      exact ⟨(), trivial, .cons rfl (.cons rfl (.cons rfl (.cons rfl (.cons rfl (.cons rfl (.cons rfl (.cons rfl (.nil _)))))))), fun _ s => s⟩
    have q0 := fun hs' hsub => k3.at_ (w0 := w) (own := [b]) (hs := hs') (i := a1 - 1) (by omega) hsub
    have q1 := fun hs' hsub => k3.at_ (w0 := w) (own := [b]) (hs := hs') (i := p) (by omega) hsub
    refine .v (fun _ f => .move rfl) (.v (fun _ f => .yes (.gtr rfl rfl) (by omega)) (.v (fun _ f => .move rfl) (.and (b2 := !ltInt d3[a1 - 1]! d3[p]!) 75 86 11 11 rfl rfl (fun g1 => .v (fun _ f => .move rfl) (.v (fun _ f => .move rfl) (.v (fun _ f => .subE ((a1 - 1 : Nat) : Int) rfl rfl (by omega) (by omega)) (.v (fun _ f => .indexN (a1 - 1) rfl rfl (by omega)) (.v (fun hs' f => .load (v := .int .u32 d3[a1 - 1]!) rfl (q0 hs' f)) (.v (fun _ f => .move rfl) (.v (fun _ f => .move rfl) (.v (fun _ f => .indexN p rfl rfl (by omega)) (.v (fun hs' f => .load (v := .int .u32 d3[p]!) rfl (q1 hs' f)) (.pc rfl rfl (fun w s => less32_ok w _ _) (.v (fun _ f => .not rfl) (.nil ⟨rfl, rfl, rfl, rfl⟩)))))))))))) (.nil ?_))))
    refine .cond rfl (fun h7 => ?_) (fun h7 => .skip ?_)
    · have h7' : ltInt d3[a1 - 1]! d3[p]! = false := by simpa using h7
      obtain ⟨r1, r2, r3, r4, r5⟩ := Go.Sort.round_eq (lt := ltInt) swo_ltInt (Go.Sort.partitionEqual_holds _) hg hp1 hp2 z3 B3 h7' (mid := (partitionEqual ltInt d3 a1 e1 p).1) (d4 := (partitionEqual ltInt d3 a1 e1 p).2) rfl
      refine .seq ((.region (.v (.move rfl) (.v (.move rfl) (.v (.move rfl) (.v (.move rfl) ?_))))))
      refine .ef (.callT [(b, .cells l3 29)] rfl rfl fun w s => partEq32_ok w k3 a1 e1 p hp1 hp2 he hn) ?_
      generalize partitionEqual ltInt d3 a1 e1 p = pe at r1 r2 r3 r4 r5
      rintro _ _ ⟨_, ⟨l4, rfl, rfl, k4⟩, rfl⟩
      refine .v (.assign rfl) (.nil ?_)
      refine .seq ((.region (.v (.move rfl) (.v (.assign rfl) (.nil ?_)))))
      refine .exit ?_
      exact ⟨⟨pe.1, e1, t2, wb, wp, pe.2, l4⟩, ⟨⟨r2, he, by show e1 - pe.1 ≤ N; omega, ht2⟩, k4, r4, fun R u1 u2 => by obtain ⟨v1, v2⟩ := r5 R u1 u2; exact hC R (permIn_trans _ _ _ _ _ p3 v1) v2⟩, by show e1 - pe.1 < e1 - a1; omega, .cons rfl (.cons rfl (.cons rfl (.cons rfl (.cons rfl (.cons rfl (.nil _)))))), fun _ s => s.take⟩
    · exact ⟨(), trivial, .cons rfl (.cons rfl (.cons rfl (.cons rfl (.cons rfl (.cons rfl (.cons rfl (.cons rfl (.nil _)))))))), fun _ s => s⟩
  rintro _ _
  try dsimp only
  obtain ⟨r1, r2, r3, r4, r5, r6, r7⟩ := Go.Sort.round_part (lt := ltInt) swo_ltInt (Go.Sort.partition_holds _) hp1 hp2 z3 B3 (mid := (partition ltInt d3 a1 e1 p).1) (ap := (partition ltInt d3 a1 e1 p).2.1) (d4 := (partition ltInt d3 a1 e1 p).2.2) rfl
  refine .seq ((.region (.v (.move rfl) (.v (.move rfl) (.v (.move rfl) (.v (.move rfl) ?_))))))
  refine .ef (.callT [(b, .cells l3 29)] rfl rfl fun w s => partition32_ok w k3 a1 e1 p hp1 hp2 he hn) ?_
  generalize partition ltInt d3 a1 e1 p = pe at r1 r2 r3 r4 r5 r6 r7
  obtain ⟨m, _, d4⟩ := pe
  dsimp only at r1 r2 r3 r4 r5 r6 r7
  rintro _ _ ⟨_, ⟨l4, f, rfl, rfl, k4⟩, rfl⟩
  dsimp only at k4
  have z4 : e1 ≤ d4.size := by rw [k4.sz]; exact he
  refine .v (.move rfl) (.v (.extract rfl rfl) (.v (.extract rfl rfl) (.v (.assign rfl) (.v (.assign rfl) (.nil ?_)))))
  refine .seq ((.region (.v (.move rfl) (.v (.assign rfl) (.nil ?_)))))
  refine .seq ((.region (.v (.move rfl) (.v (.move rfl) (.v (.subE ((m - a1 : Nat) : Int) rfl rfl (by omega) (by omega)) (.v (.move rfl) (.v (.move rfl) (.v (.subE ((e1 - m : Nat) : Int) rfl rfl (by omega) (by omega)) (.v (.assign rfl) (.v (.assign rfl) (.nil ?_)))))))))))
  refine .seq ((.region (.v (.move rfl) (.v (.quoN ((e1 - a1) / 8) rfl rfl (by decide) rfl (by omega) (by omega)) (.v (.assign rfl) (.nil ?_))))))
  refine .seq ((.region (.v (.move rfl) (.v (.move rfl) (.v (.lss rfl rfl) (.nil ?_))))))
  refine .cond_dec rfl (fun h8 => ?_) (fun h8 => ?_)
  · refine .seq ((.region (.v (.move rfl) (.v (.move rfl) (.v (.geq rfl rfl) (.v (.assign rfl) (.nil ?_)))))))
    refine .seq ((.region (.v (.move rfl) (.v (.move rfl) (.v (.move rfl) (.v (.move rfl) ?_))))))
    refine .ef (.callT [(b, .cells l4 29)] rfl rfl fun w s => IH (m - a1) (by omega) w k4 a1 m t2 (Nat.le_refl _) r1 (by omega) hn ht2 r4) ?_
    rintro _ _ ⟨_, ⟨d5, l5, rfl, k5, p5, s5⟩, rfl⟩
    obtain ⟨u1, u2⟩ := r6 d5 p5 s5
    refine .nil ?_
    refine .region (.v (.move rfl) (.v (.addE ((m + 1 : Nat) : Int) rfl rfl (by omega) (by omega)) (.v (.assign rfl) (.nil ?_))))
    exact ⟨⟨m + 1, e1, t2, _, f, d5, l5⟩, ⟨⟨by show m + 1 ≤ e1; omega, he, by show e1 - (m + 1) ≤ N; omega, ht2⟩, k5, u1, fun R v1 v2 => by obtain ⟨x1, x2⟩ := u2 R v1 v2; exact hC R (permIn_trans _ _ _ _ _ p3 x1) x2⟩, by show e1 - (m + 1) < e1 - a1; omega, .cons rfl (.cons rfl (.cons rfl (.cons rfl (.cons rfl (.cons rfl (.nil _)))))), fun _ s => s.take⟩
  · refine .seq ((.region (.v (.move rfl) (.v (.move rfl) (.v (.geq rfl rfl) (.v (.assign rfl) (.nil ?_)))))))
    refine .seq ((.region (.v (.move rfl) (.v (.move rfl) (.v (.addE ((m + 1 : Nat) : Int) rfl rfl (by omega) (by omega)) (.v (.move rfl) (.v (.move rfl) ?_)))))))
    refine .ef (.callT [(b, .cells l4 29)] rfl rfl fun w s => IH (e1 - (m + 1)) (by omega) w k4 (m + 1) e1 t2 (Nat.le_refl _) (by omega) he hn ht2 r5) ?_
    rintro _ _ ⟨_, ⟨d5, l5, rfl, k5, p5, s5⟩, rfl⟩
    obtain ⟨u1, u2⟩ := r7 d5 p5 s5
    refine .nil ?_
    refine .region (.v (.move rfl) (.v (.assign rfl) (.nil ?_)))
    exact ⟨⟨a1, m, t2, _, f, d5, l5⟩, ⟨⟨r1, by show m ≤ n; omega, by show m - a1 ≤ N; omega, ht2⟩, k5, u1, fun R v1 v2 => by obtain ⟨x1, x2⟩ := u2 R v1 v2; exact hC R (permIn_trans _ _ _ _ _ p3 x1) x2⟩, by show m - a1 < e1 - a1; omega, .cons rfl (.cons rfl (.cons rfl (.cons rfl (.cons rfl (.cons rfl (.nil _)))))), fun _ s => s.take⟩
/-- what sorting makes of a row of numbers -/
def srt (z : List Int) : List Int := z.mergeSort (fun x y => !ltInt y x)
theorem srt_len (z : List Int) : (srt z).length = z.length := List.length_mergeSort ..
set_option maxRecDepth 20000 in
theorem sort32_ok (w : World) {b o c : Nat} {z : List Int} {l : List Value} (k : OwnS 29 1 (.slice (some ⟨b, o, none⟩) z.length c) z.length (ints .u32 z) [(b, .cells l 29)]) (hn : z.length < 2305843009213693952) :
    Does Try.prog 67 [.slice (some ⟨b, o, none⟩) z.length c] [(b, .cells l 29)] w (fun _ hs => ∃ l', hs = [(b, .cells l' 29)] ∧ OwnS 29 1 (.slice (some ⟨b, o, none⟩) z.length c) z.length (ints .u32 (srt z)) [(b, .cells l' 29)]) := by
  have k0 : So32 b o c z.length z.toArray l := ⟨by simp, by simpa using k⟩
  refine Does.of (n := 11) Try.func67 rfl rfl rfl rfl ?_
  refine .seq ((.region (.v (.move rfl) (.v (.len rfl) (.v (.assign rfl) (.nil ?_))))))
  refine .region (.v (.move rfl) (.v (.move rfl) (.v (.move rfl) (.v (.convE (z.length : Int) rfl (wrap_u64_in (by omega))) ?_))))
  refine .ef (.call0 rfl rfl fun w s => len_ok w z.length (by omega)) ?_
  rintro _ _ ⟨_, ⟨t, h1, h2, rfl, rfl⟩, rfl⟩
  refine .ef (.callT [(b, .cells l 29)] rfl rfl fun w s => pdq32_ok z.length w k0 0 z.length t (Nat.le_refl _) (Nat.zero_le _) (Nat.le_refl _) hn (by omega) (.inl rfl)) ?_
  rintro _ _ ⟨_, ⟨d', l', rfl, k2, p2, s2⟩, rfl⟩
  refine .nil ?_
  have e1 := Go.Sort.sorted_unique_holds (lt := ltInt) swo_ltInt (fun x y h1 h2 => by simp [ltInt] at h1 h2; omega) z.toArray d' (by simpa using p2) (by simpa using s2)
  refine ⟨[], trivial, l', rfl, ?_⟩
  have := k2.own
  rw [e1] at this
  exact this
end Go.Proofs.Ytfajjkolhajldaa
