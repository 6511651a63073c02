/- Texts that the row RFeedFinds stands on: QRest, QOrd, QRValid, QClone, QCopy, QCopied, QOrders, QBooks, QNew, QValid, QValid2, QChecks, QBk, QRef, QSlices, QTell, FPub, FDepth, FDepthP, QRests, QMeets, QTSpec, QTrades, QTFun, QWhole, QComes, QDoS. -/
import Derived.Test.YtinmhhonpflojaaYFeedFindsB
import Derived.Test.YtinmhhonpflojaaYFeedFindsA
/- rules.canRest and the document's order; better: what they compute. -/
namespace Go.Proofs.Ytinmhhonpflojaa
open Go.V
set_option linter.unusedVariables false
set_option linter.unusedSimpArgs false

/-- a resting order's cells -/
def rcells (id mb ty pr v hd pk : Int) : List Value := [.int .u64 id, .int .u32 mb, .int .i64 ty, .int .i64 pr, .int .u64 v, .int .u64 hd, .int .u64 pk]
/-- can it rest? -/
def Rests (id ty pr v hd pk high : Int) : Prop :=
  (1 ≤ id ∧ id ≤ high) ∧ (ty = 1 ∨ ty = 5) ∧ (0 ≤ pr ∧ pr < 262144) ∧ (1 ≤ v ∧ v ≤ 4294967295) ∧ pk ≤ 4294967295 ∧ v + hd ≤ 4294967295 ∧ (pk = 0 ∧ hd = 0 ∨ 0 < pk ∧ v ≤ pk ∧ v + hd ≤ 256 * pk)
instance (id ty pr v hd pk high : Int) : Decidable (Rests id ty pr v hd pk high) := by unfold Rests; infer_instance
/-- u64 -/
def U (x : Int) : Prop := 0 ≤ x ∧ x ≤ 18446744073709551615
theorem better_ok (w : World) (s p q : Int) : Is Try.prog 87 [.int .i64 s, .int .i64 p, .int .i64 q] w (.bool (if s = 1 then decide (q < p) else decide (p < q))) := by
  refine Does.pure (Does.of (n := 15) Try.func87 rfl rfl rfl rfl ?_)
  refine .seq ((.region (.v (.assign rfl) (.nil ?_))))
  refine .seq (.seq ((.region (.v (.move rfl) (.v (.eqi rfl rfl) (.nil ?_))))))
  refine .cond_dec rfl (fun h1 => ?_) (fun h1 => .skip ?_)
  · refine .seq ((.region (.v (.move rfl) (.v (.move rfl) (.v (.gtr rfl rfl) (.v (.assign rfl) (.nil ?_)))))))
    exact .ret ⟨[_], ⟨rfl, trivial⟩, by rw [if_pos h1]; rfl⟩
  · refine .seq ((.region (.v (.move rfl) (.v (.move rfl) (.v (.lss rfl rfl) (.v (.assign rfl) (.nil ?_)))))))
    exact .ret ⟨[_], ⟨rfl, trivial⟩, by rw [if_neg h1]; rfl⟩
end Go.Proofs.Ytinmhhonpflojaa

/- Sides of a book: lists of resting orders; the document's twice and sorted. -/
namespace Go.Proofs.Ytinmhhonpflojaa
open Go.V
set_option linter.unusedVariables false
set_option linter.unusedSimpArgs false

structure Ord where
  id : Int
  mb : Int
  ty : Int
  pr : Int
  v : Int
  hd : Int
  pk : Int
def Ord.cells (o : Ord) : List Value := rcells o.id o.mb o.ty o.pr o.v o.hd o.pk
def rows (l : List Ord) : List Value := l.flatMap Ord.cells
theorem rows_length (l : List Ord) : (rows l).length = l.length * 7 := flatMap_length _ 7 (fun _ => rfl) l
theorem rows_get (l : List Ord) (i j : Nat) (hi : i < l.length) (hj : j < 7) : (rows l)[i * 7 + j]? = (l[i].cells)[j]? := flatMap_get _ 7 (fun _ => rfl) l i j hi hj
/-- an order's field, where a side is read -/
theorem Rd.ord {w : World} {no : List Nat} {A : Option Addr} {l : List Ord} (h : Rd w no A (rows l)) (hn : 0 < l.length) :
    ∃ b o, A = some ⟨b, o, none⟩ ∧ b ∉ no ∧ ∀ (i : Nat) (hi : i < l.length) (j : Nat) (v : Value), j < 7 → (l[i].cells)[j]? = some v → w.cell? ⟨b, o + i * 7 + j, none⟩ = some v := by
  obtain ⟨b, o, e, hb, hc⟩ := h.base (by rw [rows_length]; omega)
  refine ⟨b, o, e, hb, fun i hi j v hj hv => ?_⟩
  have := hc (i * 7 + j) v (by rw [rows_get l i j hi hj]; exact hv)
  rw [Nat.add_assoc]; exact this
def bet (s p q : Int) : Bool := if s = 1 then decide (q < p) else decide (p < q)
/-- no number stands twice -/
def Dist (l : List Ord) : Prop := ∀ i, (hi : i < l.length) → ∀ j, (hj : j < i) → l[i].id ≠ l[j].id
instance (l : List Ord) : Decidable (Dist l) := by unfold Dist; infer_instance
/-- in their priority, as far as prices tell -/
def Srt (s : Int) (l : List Ord) : Prop := ∀ i, (hi : i < l.length) → 0 < i → bet s l[i].pr l[i - 1].pr = false
instance (s : Int) (l : List Ord) : Decidable (Srt s l) := by unfold Srt; infer_instance
end Go.Proofs.Ytinmhhonpflojaa

/- The document's Valid: what it computes. -/
namespace Go.Proofs.Ytinmhhonpflojaa
open Go.V
set_option linter.unusedVariables false
set_option linter.unusedSimpArgs false

/-- a book's cells -/
def bcells (cap meet : Int) (B S : Value) (high seq : Int) : List Value := [.int .i64 cap, .int .i64 meet, B, S, .int .u64 high, .int .u64 seq]
def Ord.wf (o : Ord) : Prop := U o.id ∧ U o.v ∧ U o.hd ∧ U o.pk
def Ord.rests (o : Ord) (high : Int) : Prop := Rests o.id o.ty o.pr o.v o.hd o.pk high
instance (o : Ord) (high : Int) : Decidable (o.rests high) := by unfold Ord.rests; infer_instance
def crossB : List Ord → List Ord → Bool
  | b :: _, s :: _ => decide (s.pr ≤ b.pr)
  | _, _ => false
def Vld (cap meet high : Int) (bs ss : List Ord) : Prop :=
  (1 ≤ cap ∧ cap ≤ 4096 ∧ 0 ≤ meet ∧ meet ≤ 3) ∧ (bs.length : Int) ≤ 4096 ∧ (ss.length : Int) ≤ 4096 ∧ (bs.length : Int) + (ss.length : Int) ≤ cap ∧ (∀ o ∈ bs ++ ss, o.rests high) ∧ Dist (bs ++ ss) ∧ Srt 1 bs ∧ Srt 2 ss ∧ crossB bs ss = false
instance (cap meet high : Int) (bs ss : List Ord) : Decidable (Vld cap meet high bs ss) := by unfold Vld; infer_instance
def vld (cap meet high : Int) (bs ss : List Ord) : Int := if Vld cap meet high bs ss then 0 else 120
theorem rows_app (a b : List Ord) : rows (a ++ b) = rows a ++ rows b := by simp [rows]
theorem rows_ones (l : List Ord) : ones (rows l) = true := by
  induction l with
  | nil => rfl
  | cons a l ih =>
    have e : rows (a :: l) = a.cells ++ rows l := rfl
    have h1 : ones a.cells = true := rfl
    simp only [ones] at *
    rw [e, List.all_append, h1, ih]; rfl
end Go.Proofs.Ytinmhhonpflojaa

/- slices.Clone of a side. -/
namespace Go.Proofs.Ytinmhhonpflojaa
open Go.V
set_option linter.unusedVariables false
set_option linter.unusedSimpArgs false

set_option maxRecDepth 10000 in
theorem clone_ok (w : World) (A : Option Addr) (len cap : Nat) (l : List Ord) (hx : Rd w [] A (rows l)) (hl : len = l.length) (hb : len ≤ 2513169434843) :
    Does Try.prog 95 [.slice A len cap] [] w (fun v hs => OwnS 134 7 v l.length (rows l) hs) := by
  refine Does.less (Does.of (n := 8) Try.func95 rfl rfl rfl rfl ?_)
  refine .seq ((.region (.v (.assign rfl) (.nil ?_))))
  refine .seq (.seq ((.region (.v (.move rfl) (.v (.eql_slice_nil rfl rfl) (.nil ?_))))))
  refine .cond rfl (fun h1 => ?_) (fun h1 => .skip ?_)
  · have hA : A = none := by simpa using h1
    subst hA
    have h0 : l.length = 0 := by
      have := congrArg List.length hx.empty
      rw [rows_length] at this
      simp only [List.length_nil] at this; omega
    have hl0 : l = [] := List.eq_nil_of_length_eq_zero h0
    subst hl0
    refine .seq ((.region (.v (.assign rfl) (.nil ?_))))
    exact .ret ⟨[_], ⟨rfl, trivial⟩, [], fun _ s => s, OwnS.nil _ _⟩
  · refine .seq ((.region (.ef (.buildSlice (out := []) rfl (by decide) rfl rfl) ?_)))
    rintro _ _ ⟨b6, rfl, rfl⟩
    refine .v (.move rfl) ?_
    refine .ef (.append (c := 0) (k := len) (vs := []) (news := rows l) (h := [(b6, .cells [] 134)]) (fr := []) rfl rfl ⟨rfl, .inr ⟨b6, 0, 0, [], rfl, rfl, by omega, by simp, by simp⟩⟩ (by exact List.Perm.refl _)
      (fun w' s => (hx.keep0 s).src (by rw [rows_length, hl]) (by omega)) (by rw [rows_length, hl]) (rows_ones _) (by omega) (by omega)) ?_
    rintro v _ ⟨h', k', rfl⟩
    refine .v (.assign rfl) (.nil ?_)
    refine .ret ⟨[_], ⟨rfl, trivial⟩, h', fun _ s => by simpa using s, ?_⟩
    rw [Nat.zero_add, hl] at k'
    exact k'
end Go.Proofs.Ytinmhhonpflojaa

/- bourseref09.Copy; (*rules.Book).Len. -/
namespace Go.Proofs.Ytinmhhonpflojaa
open Go.V
set_option linter.unusedVariables false
set_option linter.unusedSimpArgs false

set_option maxRecDepth 10000 in
theorem Len_ok (w : World) (b : Nat) (cap meet high seq : Int) (A1 A2 : Option Addr) (n1 n2 c1 c2 : Nat) (hn1 : n1 ≤ 2513169434843) (hn2 : n2 ≤ 2513169434843) :
    Does Try.prog 79 [.pointer (some ⟨b, 0, none⟩)] [(b, .cells (bcells cap meet (.slice A1 n1 c1) (.slice A2 n2 c2) high seq) 126)] w
      (fun u hs => u = .int .i64 (n1 + n2) ∧ hs = [(b, .cells (bcells cap meet (.slice A1 n1 c1) (.slice A2 n2 c2) high seq) 126)]) := by
  refine Does.of (n := 16) Try.func79 rfl rfl rfl rfl ?_
  refine .seq ((.region (.v (.assign rfl) (.nil ?_))))
  refine .seq ((.drawS (by kernel_rfl) (by kernel_rfl) (.v (.move rfl) (.v (.nilCheck rfl) (.v (.fieldAddr rfl) (.v (.fieldAddr rfl) (.v (.load rfl (.one rfl)) (.v (.len rfl) (.v (.move rfl) (.v (.nilCheck rfl) (.v (.fieldAddr rfl) (.v (.fieldAddr rfl) (.v (.load rfl (.one rfl)) (.v (.len rfl) (.v (.addi rfl rfl (by omega)) (.v (.assign rfl) (.nil ?_)))))))))))))))))
  exact .ret ⟨[_], ⟨rfl, trivial⟩, rfl, rfl⟩

end Go.Proofs.Ytinmhhonpflojaa

/- rules.copied and (*rules.Book).Book. -/
namespace Go.Proofs.Ytinmhhonpflojaa
open Go.V
set_option linter.unusedVariables false
set_option linter.unusedSimpArgs false

/-- a book whose sides are new -/
def NewBook (cap meet high seq : Int) (bs ss : List Ord) (v : Value) (hs : Hp) : Prop :=
  ∃ A1 A2 d1 d2 k1 k2, v = .agg ⟨bcells cap meet (.slice A1 bs.length d1) (.slice A2 ss.length d2) high seq⟩ ∧ hs = k2 ++ k1 ∧ OwnS 134 7 (.slice A1 bs.length d1) bs.length (rows bs) k1 ∧ OwnS 134 7 (.slice A2 ss.length d2) ss.length (rows ss) k2
theorem OwnS.sl {E m n : Nat} {v : Value} {vs : List Value} {h : Hp} (k : OwnS E m v n vs h) : ∃ A c, v = .slice A n c := by
  obtain ⟨A, c, rfl⟩ := k.slice
  exact ⟨A, c, rfl⟩
set_option maxRecDepth 10000 in
theorem copied_ok (w : World) (cap meet high seq : Int) (A1 A2 : Option Addr) (c1 c2 : Nat) (bs ss : List Ord) (h1 : Rd w [] A1 (rows bs)) (h2 : Rd w [] A2 (rows ss)) (hb1 : bs.length ≤ 2513169434843) (hb2 : ss.length ≤ 2513169434843) :
    Does Try.prog 88 [.agg ⟨bcells cap meet (.slice A1 bs.length c1) (.slice A2 ss.length c2) high seq⟩] [] w (NewBook cap meet high seq bs ss) := by
  refine Does.less (Does.of (n := 12) Try.func88 rfl rfl rfl rfl ?_)
  refine .seq ((.region (.nw (.box rfl rfl) fun b1 => (.nw .alloc fun b2 => (.nil ?_)))))
  refine .seq (.drawZ 7 [(b1, .cells (bcells cap meet (.slice A1 bs.length c1) (.slice A2 ss.length c2) high seq) 124)] (by intro p hp; simp at hp; subst hp; simp) (by kernel_rfl) ?_)
  refine .v 0 rfl (by kernel_rfl) (fun hs' f => .fieldAddr rfl) ?_
  refine .v 1 rfl (by kernel_rfl) (fun hs' f => .load (v := .slice A1 bs.length c1) rfl (.one (hb := .sub f) rfl)) ?_
  refine .v 3 rfl (by kernel_rfl) (fun hs' f => .fieldAddr rfl) ?_
  refine .v 4 rfl (by kernel_rfl) (fun hs' f => .load (v := .slice A2 ss.length c2) rfl (.one (hb := .sub f) rfl)) ?_
  refine .ef 2 rfl (by kernel_rfl) (.call0 rfl rfl fun w s => clone_ok w A1 bs.length c1 bs (h1.keep0 s) rfl hb1) ?_ (fun v hs' ⟨h, _, e⟩ f => by subst e; exact fun p hp => List.mem_append_right _ (f hp)) rfl
  rintro v1 _ ⟨k1, o1, rfl⟩
  refine .v 6 rfl (by kernel_rfl) (fun hs' f => .fieldAddr rfl) ?_
  refine .ef 5 rfl (by kernel_rfl) (.call0 rfl rfl fun w s => clone_ok w A2 ss.length c2 ss (h2.keep0 s) rfl hb2) ?_ (fun v hs' ⟨h, _, e⟩ f => by subst e; exact fun p hp => List.mem_append_right _ (f hp)) rfl
  rintro v2 _ ⟨k2, o2, rfl⟩
  obtain ⟨B1, d1, rfl⟩ := OwnS.sl o1
  obtain ⟨B2, d2, rfl⟩ := OwnS.sl o2
  refine .st rfl (by kernel_rfl) rfl (.store rfl rfl rfl (by simp [bcells])) ?_
  refine .v1 8 rfl (by kernel_rfl) (.fieldAddr rfl) ?_ rfl
  refine .st2 9 rfl (by kernel_rfl) rfl rfl (.store rfl rfl rfl (by simp [bcells])) ?_
  refine .done (by kernel_rfl) ?_
  refine .seq ((.region (.v (.loadA (vs := bcells cap meet (.slice B1 bs.length d1) (.slice B2 ss.length d2) high seq) rfl .whole rfl) (.st (.sw rfl rfl) (.nil ?_)))))
  refine .ret ⟨[_], ⟨⟨_, rfl, .inr ⟨6, _, inferInstance, rfl, rfl, .whole⟩⟩, trivial⟩, k2 ++ k1, fun _ s => s.sub ?_, B1, B2, d1, d2, k1, k2, rfl, rfl, o1, o2⟩
  exact List.Sublist.append_left (List.sublist_append_left _ _) _
end Go.Proofs.Ytinmhhonpflojaa

/- Two sides that read alike are alike. -/
namespace Go.Proofs.Ytinmhhonpflojaa
open Go.V
set_option linter.unusedVariables false
set_option linter.unusedSimpArgs false

abbrev OL : List Lf := [.i .u64, .i .u32, .i .i64, .i .i64, .i .u64, .i .u64, .i .u64]
theorem Ord.oks (o : Ord) : V.oks OL o.cells := ⟨rfl, rfl, rfl, rfl, rfl, rfl, rfl, trivial⟩
end Go.Proofs.Ytinmhhonpflojaa

/- Two books that read alike are alike. -/
namespace Go.Proofs.Ytinmhhonpflojaa
open Go.V
set_option linter.unusedVariables false
set_option linter.unusedSimpArgs false

theorem cfg_oks (c m : Int) : oks [.i .i64, .i .i64] [.int .i64 c, .int .i64 m] := ⟨rfl, rfl, trivial⟩
end Go.Proofs.Ytinmhhonpflojaa

/- rules.New and the document's. -/
namespace Go.Proofs.Ytinmhhonpflojaa
open Go.V
set_option linter.unusedVariables false
set_option linter.unusedSimpArgs false

def Cfg (c m : Int) : Prop := 1 ≤ c ∧ c ≤ 4096 ∧ 0 ≤ m ∧ m ≤ 3
instance (c m : Int) : Decidable (Cfg c m) := by unfold Cfg; infer_instance
/-- a book of a config without orders -/
def bnew (c m : Int) : List Value := bcells c m (.slice none 0 0) (.slice none 0 0) 0 0
theorem New_ok (w : World) (c m : Int) : Does Try.prog 30 [.agg ⟨[.int .i64 c, .int .i64 m]⟩] [] w (fun v hs => if Cfg c m then ∃ b, v = .tuple ⟨[.pointer (some ⟨b, 0, none⟩), .int .i64 0]⟩ ∧ hs = [(b, .cells (bnew c m) 126)] else v = .tuple ⟨[.pointer none, .int .i64 1]⟩ ∧ hs = []) := by
  refine Does.less (Does.of (n := 11) Try.func30 rfl rfl rfl rfl ?_)
  refine .seq ((.region (.nw (.box rfl rfl) fun b1 => (.v (.assign rfl) (.v (.assign rfl) (.nil ?_))))))
  refine .seq (.seq ((.region (.v (.loadA rfl .whole rfl) (.pc (v := .bool (decide (Cfg c m))) rfl rfl (fun w _ => configured_ok w c m) (.v (.not rfl) (.nil ?_)))))))
  refine .cond rfl (fun h1 => ?_) (fun h1 => .skip ?_)
  · have hc : ¬ Cfg c m := by simpa using h1
    refine .seq ((.region (.v (.assign rfl) (.v (.assign rfl) (.nil ?_)))))
    exact .ret ⟨[_, _], ⟨rfl, rfl, trivial⟩, [], fun _ s => s.sub (List.nil_sublist _), by rw [if_neg hc]; exact ⟨rfl, rfl⟩⟩
  · have hc : Cfg c m := by simpa using h1
    refine .seq ((.region (.v (.loadA rfl .whole rfl) (.v (.build (out := bnew c m) rfl rfl) (.v (.build (out := bnew c m) rfl rfl) (.nw (.box rfl rfl) fun b10 => (.v (.assign rfl) (.v (.assign rfl) (.nil ?_)))))))))
    exact .ret ⟨[_, _], ⟨rfl, rfl, trivial⟩, [(b10, .cells (bnew c m) 126)], fun _ s => s.sub (.cons_cons _ (List.nil_sublist _)), by rw [if_pos hc]; exact ⟨b10, rfl, rfl⟩⟩
end Go.Proofs.Ytinmhhonpflojaa

/- rules.Valid: what it computes. -/
namespace Go.Proofs.Ytinmhhonpflojaa
open Go.V
set_option linter.unusedVariables false
set_option linter.unusedSimpArgs false

/-- the numbers that were seen -/
def seenFrom (n : Nat) : List Ord → List ME
  | [] => []
  | o :: l => (o.id, .bool true, n) :: seenFrom (n + 1) l
theorem seen_app : ∀ (l : List Ord) (o : Ord) (n : Nat), seenFrom n (l ++ [o]) = seenFrom n l ++ [(o.id, .bool true, n + l.length)]
  | [], o, n => rfl
  | a :: l, o, n => by
    simp only [List.cons_append, seenFrom, seen_app l o (n + 1), List.length_cons]
    rw [show n + 1 + l.length = n + (l.length + 1) from by omega]
theorem mfind_seen (k : Int) : ∀ (l : List Ord) (n i : Nat), (mfind k (seenFrom n l) i).map (·.2) = if ∃ o ∈ l, o.id = k then some (.bool true) else none
  | [], n, i => by simp [seenFrom, mfind]
  | a :: l, n, i => by
    unfold seenFrom mfind
    by_cases h : k = a.id
    · subst h; simp
    · have hb : (k == a.id) = false := by simpa using h
      simp only [hb, Bool.false_eq_true, if_false]
      rw [mfind_seen k l (n + 1) (i + 1)]
      have : (∃ o ∈ a :: l, o.id = k) ↔ (∃ o ∈ l, o.id = k) := by
        constructor
        · rintro ⟨o, ho, e⟩
          rcases List.mem_cons.1 ho with rfl | ho
          · exact absurd e.symm h
          · exact ⟨o, ho, e⟩
        · rintro ⟨o, ho, e⟩; exact ⟨o, List.mem_cons_of_mem _ ho, e⟩
      by_cases hh : ∃ o ∈ l, o.id = k
      · rw [if_pos hh, if_pos (this.2 hh)]
      · rw [if_neg hh, if_neg (fun q => hh (this.1 q))]
theorem mget_seen (k : Int) (l : List Ord) : (mget k (seenFrom 0 l)).getD (.bool false) = .bool (decide (∃ o ∈ l, o.id = k)) := by
  unfold mget
  rw [mfind_seen]
  by_cases h : ∃ o ∈ l, o.id = k <;> simp [h]
theorem mset_seen (l : List Ord) (o : Ord) (h : ¬ ∃ x ∈ l, x.id = o.id) : mset o.id (.bool true) (seenFrom 0 l) l.length = (seenFrom 0 (l ++ [o]), (l ++ [o]).length) := by
  have hm := mfind_seen o.id l 0 0
  rw [if_neg h] at hm
  have hn : mfind o.id (seenFrom 0 l) 0 = none := by
    cases hf : mfind o.id (seenFrom 0 l) 0 with
    | none => rfl
    | some p => rw [hf] at hm; cases hm
  unfold mset
  rw [hn, seen_app]
  simp
/-- all of a side is right, next to what stood ahead -/
def SideOk (high : Int) (s : Int) (ahead l : List Ord) (n : Nat) : Prop :=
  ∀ i, (hi : i < l.length) → i < n → l[i].rests high ∧ (¬ ∃ x ∈ ahead ++ l.take i, x.id = l[i].id) ∧ (0 < i → bet s l[i].pr l[i - 1].pr = false)
theorem dist_of {ahead l : List Ord} {high s : Int} (h1 : Dist ahead) (h2 : SideOk high s ahead l l.length) : Dist (ahead ++ l) := by
  intro i hi j hj
  by_cases ha : i < ahead.length
  · rw [List.getElem_append_left ha, List.getElem_append_left (by omega)]
    exact h1 i ha j hj
  · have hi' : i - ahead.length < l.length := by simp at hi; omega
    have := (h2 (i - ahead.length) hi' hi').2.1
    rw [List.getElem_append_right (by omega)]
    intro e
    apply this
    refine ⟨(ahead ++ l)[j], ?_, e.symm⟩
    have : (ahead ++ l)[j] ∈ (ahead ++ l).take i := by
      rw [List.mem_iff_getElem]
      exact ⟨j, by simp at hi ⊢; omega, by simp⟩
    rw [List.take_append] at this
    rwa [List.take_of_length_le (by omega)] at this
theorem not_dist {ahead l : List Ord} {i : Nat} (hi : i < l.length) (h : ∃ x ∈ ahead ++ l.take i, x.id = l[i].id) (rest : List Ord) : ¬ Dist (ahead ++ l ++ rest) := by
  intro hd
  obtain ⟨x, hx, e⟩ := h
  obtain ⟨j, hj, rfl⟩ := List.mem_iff_getElem.1 hx
  simp at hj
  have hj2 : j < ahead.length + i := by omega
  refine hd (ahead.length + i) (by simp; omega) j hj2 ?_
  have e1 : (ahead ++ l ++ rest)[ahead.length + i]'(by simp; omega) = l[i] := by
    rw [List.getElem_append_left (by simp; omega), List.getElem_append_right (by omega)]
    simp
  have e2 : (ahead ++ l ++ rest)[j]'(by simp; omega) = (ahead ++ l.take i)[j]'(by simp; omega) := by
    rw [List.getElem_append_left (by simp; omega)]
    by_cases ha : j < ahead.length
    · rw [List.getElem_append_left ha, List.getElem_append_left ha]
    · rw [List.getElem_append_right (by omega), List.getElem_append_right (by omega)]
      simp
  rw [e1, e2, e]
end Go.Proofs.Ytinmhhonpflojaa

/- rules.Valid: the walk. -/
namespace Go.Proofs.Ytinmhhonpflojaa
open Go.V
set_option linter.unusedVariables false
set_option linter.unusedSimpArgs false

def ah (bs ss : List Ord) : Nat → List Ord
  | 0 => []
  | 1 => bs
  | _ => bs ++ ss
theorem side_facts (bs ss : List Ord) (A1 A2 : Option Addr) (c1 c2 : Nat) (high : Int) (w : World) (h1 : Rd w [] A1 (rows bs)) (h2 : Rd w [] A2 (rows ss)) (hb1 : bs.length ≤ 2513169434843) (hb2 : ss.length ≤ 2513169434843) (s : Nat) (hs : s < 2) :
    ∃ (L : List Ord) (A : Option Addr) (c : Nat), ([.slice A1 bs.length c1, .slice A2 ss.length c2] : List Value)[s]? = some (.slice A L.length c) ∧ Rd w [] A (rows L) ∧ L.length ≤ 2513169434843 ∧ (∀ o ∈ L, o ∈ bs ++ ss) ∧
      (∀ (i : Nat) (hi : i < L.length), (∃ x ∈ ah bs ss s ++ L.take i, x.id = L[i].id) → ¬ Dist (bs ++ ss)) ∧ (∀ (i : Nat) (hi : i < L.length), 0 < i → bet ((s : Int) + 1) L[i].pr L[i - 1].pr = true → ¬ (Srt 1 bs ∧ Srt 2 ss)) ∧
      ah bs ss (s + 1) = ah bs ss s ++ L ∧ (SideOk high ((s : Int) + 1) (ah bs ss s) L L.length → (s = 0 → Srt 1 bs) ∧ (s = 1 → Srt 2 ss)) := by
  match s, hs with
  | 0, _ =>
    refine ⟨bs, A1, c1, rfl, h1, hb1, fun o ho => by simp [ho], fun i hi h => ?_, fun i hi h0 hb k => ?_, by simp [ah], fun k => ⟨fun _ i hi h0 => ?_, fun h => by cases h⟩⟩
    · have := not_dist hi h ss
      simpa [ah] using this
    · have := k.1 i hi h0
      simp at hb
      rw [hb] at this; cases this
    · have := (k i hi hi).2.2 h0
      simpa using this
  | 1, _ =>
    refine ⟨ss, A2, c2, rfl, h2, hb2, fun o ho => by simp [ho], fun i hi h => ?_, fun i hi h0 hb k => ?_, rfl, fun k => ⟨fun h => (nomatch h), fun _ i hi h0 => ?_⟩⟩
    · have := not_dist hi h []
      simpa [ah] using this
    · have := k.2 i hi h0
      simp at hb
      rw [hb] at this; cases this
    · have := (k i hi hi).2.2 h0
      simpa using this
end Go.Proofs.Ytinmhhonpflojaa

/- The law RulesChecks: its walk. -/
namespace Go.Proofs.Ytinmhhonpflojaa
open Go.V
set_option linter.unusedVariables false
set_option linter.unusedSimpArgs false

set_option maxRecDepth 10000 in
theorem Len_is (w : World) (b : Nat) (cap meet high seq : Int) (A1 A2 : Option Addr) (n1 n2 c1 c2 : Nat) (hb : Rd w [] (some ⟨b, 0, none⟩) (bcells cap meet (.slice A1 n1 c1) (.slice A2 n2 c2) high seq)) (hn1 : n1 ≤ 2513169434843) (hn2 : n2 ≤ 2513169434843) :
    Is Try.prog 79 [.pointer (some ⟨b, 0, none⟩)] w (.int .i64 (n1 + n2)) := by
  refine Does.pure (Does.of (n := 16) Try.func79 rfl rfl rfl rfl ?_)
  refine .seq ((.region (.v (.assign rfl) (.nil ?_))))
  refine .seq ((.drawS (by kernel_rfl) (by kernel_rfl) (.v (.move rfl) (.v (.nilCheck rfl) (.v (.fieldAddr rfl) (.v (.fieldAddr rfl) (.v (.load (v := .slice A1 n1 c1) rfl (hb.cell (i := 2) rfl)) (.v (.len rfl) (.v (.move rfl) (.v (.nilCheck rfl) (.v (.fieldAddr rfl) (.v (.fieldAddr rfl) (.v (.load (v := .slice A2 n2 c2) rfl (hb.cell (i := 3) rfl)) (.v (.len rfl) (.v (.addi rfl rfl (by omega)) (.v (.assign rfl) (.nil ?_)))))))))))))))))
  exact .ret ⟨[_], ⟨rfl, trivial⟩, rfl⟩

end Go.Proofs.Ytinmhhonpflojaa

/- A book's parts: side, place, reaches, coming. -/
namespace Go.Proofs.Ytinmhhonpflojaa
open Go.V
set_option linter.unusedVariables false
set_option linter.unusedSimpArgs false

theorem side_ok (w : World) (b : Nat) (s : Int) : Is Try.prog 57 [.pointer (some ⟨b, 0, none⟩), .int .i64 s] w (.pointer (if s = 1 then some ⟨b, 2, none⟩ else if s = 2 then some ⟨b, 3, none⟩ else none)) := by
  refine Does.pure (Does.of (n := 18) Try.func57 rfl rfl rfl rfl ?_)
  refine .seq ((.region (.v (.assign rfl) (.nil ?_))))
  refine .seq (.seq ((.region (.v (.move rfl) (.nil ?_)))))
  refine .block (.seq ((.region (.v (.eqi rfl rfl) (.v (.assign rfl) (.nil ?_))))))
  refine .cond_dec rfl (fun h1 => ?_) (fun h1 => ?_)
  · refine .seq ((.region (.v (.move rfl) (.v (.nilCheck rfl) (.v (.fieldAddr rfl) (.v (.fieldAddr rfl) (.v (.assign rfl) (.nil ?_))))))))
    exact .ret ⟨[_], ⟨rfl, trivial⟩, by rw [if_pos h1]; rfl⟩
  · refine .seq ((.region (.v (.eqi rfl rfl) (.v (.assign rfl) (.nil ?_)))))
    refine .cond_dec rfl (fun h2 => ?_) (fun h2 => .skip ?_)
    · refine .seq ((.region (.v (.move rfl) (.v (.nilCheck rfl) (.v (.fieldAddr rfl) (.v (.fieldAddr rfl) (.v (.assign rfl) (.nil ?_))))))))
      exact .ret ⟨[_], ⟨rfl, trivial⟩, by rw [if_neg h1, if_pos h2]; rfl⟩
    · refine .seq ((.region (.v (.assign rfl) (.nil ?_))))
      exact .ret ⟨[_], ⟨rfl, trivial⟩, by rw [if_neg h1, if_neg h2]; rfl⟩
theorem isId_ok (w : World) (b : Nat) (id : Int) (o : Ord) (hb : Rd w [] (some ⟨b, 0, none⟩) [.int .u64 id]) : Is Try.prog 77 [.agg ⟨o.cells⟩, .pointer (some ⟨b, 0, none⟩)] w (.bool (decide (o.id = id))) := by
  refine Does.pure (Does.of (n := 8) Try.func77 rfl rfl rfl rfl ?_)
  refine .seq ((.region (.nw (.box rfl rfl) fun b2 => (.v (.assign rfl) (.nil ?_)))))
  refine .seq ((.region (.v (.fieldAddr rfl) (.v (.load (v := .int .u64 o.id) rfl (.one rfl)) (.v (.load (v := .int .u64 id) rfl (hb.cell (i := 0) rfl)) (.v (.eqi rfl rfl) (.v (.assign rfl) (.nil ?_))))))))
  exact .ret ⟨[_], ⟨rfl, trivial⟩, rfl⟩
/-- where an order of a number stands; -1: nowhere -/
def idx (id : Int) (l : List Ord) : Int := match l.findIdx? (fun o => decide (o.id = id)) with
  | some i => i
  | none => -1
theorem idx_at {id : Int} {l : List Ord} {i : Nat} (hi : i < l.length) (h : l[i].id = id) (hb : ∀ m, (hm : m < l.length) → m < i → l[m].id ≠ id) : idx id l = i := by
  have : l.findIdx? (fun o => decide (o.id = id)) = some i := by
    rw [List.findIdx?_eq_some_iff_getElem]
    exact ⟨hi, by simpa using h, fun j hj => by simpa using hb j (by omega) hj⟩
  unfold idx; rw [this]
theorem idx_no {id : Int} {l : List Ord} (hb : ∀ m, (hm : m < l.length) → l[m].id ≠ id) : idx id l = -1 := by
  have : l.findIdx? (fun o => decide (o.id = id)) = none := by
    rw [List.findIdx?_eq_none_iff]
    intro x hx
    obtain ⟨i, hi, rfl⟩ := List.mem_iff_getElem.1 hx
    simpa using hb i hi
  unfold idx; rw [this]
theorem idx_spec (id : Int) (l : List Ord) : idx id l = -1 ∧ (∀ m, (hm : m < l.length) → l[m].id ≠ id) ∨ ∃ i, ∃ hi : i < l.length, idx id l = i ∧ l[i].id = id ∧ ∀ m, (hm : m < l.length) → m < i → l[m].id ≠ id := by
  cases h : l.findIdx? (fun o => decide (o.id = id)) with
  | none =>
    refine .inl ⟨by unfold idx; rw [h], fun m hm e => ?_⟩
    rw [List.findIdx?_eq_none_iff] at h
    simpa [e] using h l[m] (List.getElem_mem hm)
  | some i =>
    rw [List.findIdx?_eq_some_iff_getElem] at h
    obtain ⟨hi, h1, h2⟩ := h
    have h1 : l[i].id = id := by simpa using h1
    have h2 : ∀ m, (hm : m < l.length) → m < i → l[m].id ≠ id := fun m hm hmi => by simpa using h2 m hmi
    exact .inr ⟨i, hi, idx_at hi h1 h2, h1, h2⟩
set_option maxRecDepth 10000 in
theorem index_ok (w : World) (A : Option Addr) (len cap b : Nat) (id : Int) (l : List Ord) (hx : Rd w [] A (rows l)) (hl : len = l.length) (hlb : len ≤ 2513169434843) (hb : Rd w [] (some ⟨b, 0, none⟩) [.int .u64 id]) :
    Is Try.prog 76 [.slice A len cap, .func (.func 77) #[] ⟨[.pointer (some ⟨b, 0, none⟩)]⟩] w (.int .i64 (idx id l)) := by
  refine Does.pure (Does.of (n := 19) Try.func76 rfl rfl rfl rfl ?_)
  refine .seq ((.region (.v (.assign rfl) (.nil ?_))))
  refine .seq (.seq ((.region (.v (.move rfl) (.v (.len rfl) (.v (.move rfl) (.nil ?_)))))))
  refine .block (.loop (X := Nat) (fun i => [(0, .slice A len cap), (1, .func (.func 77) #[] ⟨[.pointer (some ⟨b, 0, none⟩)]⟩), (7, .int .i64 len), (8, .int .i64 i)]) (fun _ => []) (fun i => i ≤ len ∧ ∀ m, (hm : m < l.length) → m < i → l[m].id ≠ id) (fun i => len - i) 0 ⟨by omega, fun m _ hm => by omega⟩
    (.cons rfl (.cons rfl (.cons rfl (.cons rfl (.nil _))))) (fun _ s => s) ?_)
  rintro i ⟨hi, hI⟩
  refine .seq ((.region (.v (.lss rfl rfl) (.nil ?_))))
  refine .seq (.cond_dec rfl (fun h1 => .skip ?_) (fun h1 => .exit ?_))
  · have hil : i < l.length := by omega
    obtain ⟨b', o', rfl, -, hc⟩ := Rd.ord hx (by omega)
    refine .seq (.block (.seq ((.region (.v (.move rfl) (.v (.assign rfl) (.nil ?_)))))))
    refine .seq ((.region (.v (.move rfl) (.v (.move rfl) (.v (.move rfl) (.v (.indexAddr rfl rfl (by omega) (by omega)) (.v (.loadA (vs := l[i].cells) rfl (.old (fun j v hv => ?_) (by simp [bl])) rfl) (.pc (v := .bool (decide (l[i].id = id))) rfl rfl (fun w s => isId_ok w b id l[i] (hb.keep0 s)) (.nil ?_)))))))))
    · rw [add_none, Int.toNat_natCast]; exact hc i hil j v (List.getElem?_eq_some_iff.1 hv).1 hv
    refine .cond_dec rfl (fun h2 => ?_) (fun h2 => .skip ?_)
    · refine .seq ((.region (.v (.move rfl) (.v (.assign rfl) (.nil ?_)))))
      exact .ret ⟨[_], ⟨rfl, trivial⟩, by rw [idx_at hil h2 hI]; rfl⟩
    · refine .region (.v (.addi rfl rfl (by omega)) (.v (.move rfl) (.nil ?_)))
      refine ⟨i + 1, ⟨by omega, fun m hm hmi => ?_⟩, by omega, .cons rfl (.cons rfl (.cons rfl (.cons rfl (.nil _)))), fun _ s => s⟩
      by_cases e : m = i
      · subst e; exact h2
      · exact hI m hm (by omega)
  · refine .seq ((.region (.v (.assign rfl) (.nil ?_))))
    exact .ret ⟨[_], ⟨rfl, trivial⟩, by rw [idx_no fun m hm => hI m hm (by omega)]; rfl⟩
/-- where an order of a number stands in a book -/
def plc (id : Int) (bs ss : List Ord) : Int × Int × Bool := if 0 ≤ idx id bs then (1, idx id bs, true) else if 0 ≤ idx id ss then (2, idx id ss, true) else (0, 0, false)
def plcV (p : Int × Int × Bool) : Value := .tuple ⟨[.int .i64 p.1, .int .i64 p.2.1, .bool p.2.2]⟩

set_option maxRecDepth 10000 in
theorem place_ok (w : World) (b : Nat) (cap meet high seq id : Int) (A1 A2 : Option Addr) (c1 c2 : Nat) (bs ss : List Ord) (hb : Rd w [] (some ⟨b, 0, none⟩) (bcells cap meet (.slice A1 bs.length c1) (.slice A2 ss.length c2) high seq))
    (h1 : Rd w [] A1 (rows bs)) (h2 : Rd w [] A2 (rows ss)) (hb1 : bs.length ≤ 2513169434843) (hb2 : ss.length ≤ 2513169434843) :
    Is Try.prog 56 [.pointer (some ⟨b, 0, none⟩), .int .u64 id] w (plcV (plc id bs ss)) := by
  refine Does.pure (Does.of (n := 28) Try.func56 rfl rfl rfl rfl ?_)
  refine .seq ((.region (.nw (.box rfl rfl) fun b3 => (.v (.assign rfl) (.v (.assign rfl) (.v (.assign rfl) (.nil ?_)))))))
  refine .seq (.seq ((.region (.ef (.buildSlice (out := [.int .i64 1, .int .i64 2]) rfl (by decide) rfl rfl) ?_))))
  rintro _ _ ⟨b10, rfl, rfl⟩
  refine .v (.len rfl) (.v (.move rfl) (.nil ?_))
  refine .block (.loop (X := Nat) (fun k => [(0, .pointer (some ⟨b, 0, none⟩)), (3, .pointer (some ⟨b3, 0, none⟩)), (10, .slice (some ⟨b10, 0, none⟩) 2 2), (11, .int .i64 2), (12, .int .i64 k)]) (fun _ => [(b10, .cells [.int .i64 1, .int .i64 2] 3), (b3, .cells [.int .u64 id] 22)])
    (fun k => k ≤ 2 ∧ (1 ≤ k → idx id bs = -1) ∧ (2 ≤ k → idx id ss = -1)) (fun k => 2 - k) 0 ⟨by omega, by omega, by omega⟩ (.cons rfl (.cons rfl (.cons rfl (.cons rfl (.cons rfl (.nil _)))))) (fun _ s => s) ?_)
  rintro k ⟨hk, hk1, hk2⟩
  refine .seq ((.region (.v (.lss rfl rfl) (.nil ?_))))
  refine .seq (.cond_dec rfl (fun g1 => .skip ?_) (fun g1 => .exit ?_))
  · have hk' : k = 0 ∨ k = 1 := by omega
    rcases hk' with rfl | rfl
    · refine .seq (.block (.seq ((.region (.v (.indexAddr1 rfl rfl (by omega) (by omega)) (.v (.load (v := .int .i64 1) rfl (.one rfl)) (.v (.assign rfl) (.nil ?_))))))))
      refine .seq ((.region (.v (.move rfl) (.v (.move rfl) (.pc rfl rfl (fun w s => side_ok w b 1) (.v (.nilCheck rfl) (.v (.load (v := .slice A1 bs.length c1) rfl (hb.cell (i := 2) rfl)) (.v (.makeFunc rfl rfl) (.pc rfl rfl (fun w s => index_ok w A1 bs.length c1 b3 id bs (h1.keep0 s) rfl hb1 (Rd.chunk s (l := [.int .u64 id]) (T := 22) (by simp) (fun j v hv => by rw [Nat.zero_add]; exact hv))) (.v (.assign rfl) (.nil ?_)))))))))))
      refine .seq ((.region (.v (.move rfl) (.v (.geq rfl rfl) (.nil ?_)))))
      refine .cond_dec rfl (fun g2 => ?_) (fun g2 => .skip ?_)
      · refine .seq ((.region (.v (.move rfl) (.v (.move rfl) (.v (.assign rfl) (.v (.assign rfl) (.v (.assign rfl) (.nil ?_))))))))
        exact .ret ⟨[_, _, _], ⟨rfl, rfl, rfl, trivial⟩, by rw [plc, if_pos g2]; rfl⟩
      · refine .region (.v (.addi rfl rfl (by omega)) (.v (.move rfl) (.nil ?_)))
        have e : idx id bs = -1 := by
          rcases idx_spec id bs with h | ⟨i, hi, h, _⟩
          · exact h.1
          · omega
        exact ⟨1, ⟨by omega, fun _ => e, by omega⟩, by omega, .cons rfl (.cons rfl (.cons rfl (.cons rfl (.cons rfl (.nil _))))), fun _ s => s⟩
    · refine .seq (.block (.seq ((.region (.v (.indexAddr1 rfl rfl (by omega) (by omega)) (.v (.load (v := .int .i64 2) rfl (.one rfl)) (.v (.assign rfl) (.nil ?_))))))))
      refine .seq ((.region (.v (.move rfl) (.v (.move rfl) (.pc rfl rfl (fun w s => side_ok w b 2) (.v (.nilCheck rfl) (.v (.load (v := .slice A2 ss.length c2) rfl (hb.cell (i := 3) rfl)) (.v (.makeFunc rfl rfl) (.pc rfl rfl (fun w s => index_ok w A2 ss.length c2 b3 id ss (h2.keep0 s) rfl hb2 (Rd.chunk s (l := [.int .u64 id]) (T := 22) (by simp) (fun j v hv => by rw [Nat.zero_add]; exact hv))) (.v (.assign rfl) (.nil ?_)))))))))))
      refine .seq ((.region (.v (.move rfl) (.v (.geq rfl rfl) (.nil ?_)))))
      refine .cond_dec rfl (fun g2 => ?_) (fun g2 => .skip ?_)
      · refine .seq ((.region (.v (.move rfl) (.v (.move rfl) (.v (.assign rfl) (.v (.assign rfl) (.v (.assign rfl) (.nil ?_))))))))
        exact .ret ⟨[_, _, _], ⟨rfl, rfl, rfl, trivial⟩, by rw [plc, if_neg (by rw [hk1 (by omega)]; omega), if_pos g2]; rfl⟩
      · refine .region (.v (.addi rfl rfl (by omega)) (.v (.move rfl) (.nil ?_)))
        have e : idx id ss = -1 := by
          rcases idx_spec id ss with h | ⟨i, hi, h, _⟩
          · exact h.1
          · omega
        exact ⟨2, ⟨by omega, fun _ => hk1 (by omega), fun _ => e⟩, by omega, .cons rfl (.cons rfl (.cons rfl (.cons rfl (.cons rfl (.nil _))))), fun _ s => s⟩
  · refine .seq ((.region (.v (.assign rfl) (.v (.assign rfl) (.v (.assign rfl) (.nil ?_))))))
    exact .ret ⟨[_, _, _], ⟨rfl, rfl, rfl, trivial⟩, by rw [plc, if_neg (by rw [hk1 (by omega)]; omega), if_neg (by rw [hk2 (by omega)]; omega)]; rfl⟩
/-- an order that comes -/
structure Tk where
  o : Ord
  side : Int
  kind : Int
  left : Int
def Tk.cells (t : Tk) : List Value := t.o.cells ++ [.int .i64 t.side, .int .i64 t.kind, .int .u64 t.left]
def tcells (o : List Value) (side kind left : Int) : List Value := o ++ [.int .i64 side, .int .i64 kind, .int .u64 left]
def reach (side kind pr p : Int) : Bool := decide (kind = 2) || !bet side p pr
theorem reaches_ok (w : World) (id mb ty pr v hd pk side kind left p : Int) : Is Try.prog 80 [.agg ⟨[.int .u64 id, .int .u32 mb, .int .i64 ty, .int .i64 pr, .int .u64 v, .int .u64 hd, .int .u64 pk, .int .i64 side, .int .i64 kind, .int .u64 left]⟩, .int .i64 p] w (.bool (reach side kind pr p)) := by
  refine Does.pure (Does.of (n := 18) Try.func80 rfl rfl rfl rfl ?_)
  refine .seq ((.region (.nw (.box rfl rfl) fun b2 => (.v (.assign rfl) (.nil ?_)))))
  refine .seq ((.region (.v (.fieldAddr rfl) (.v (.load rfl (.one rfl)) (.v (.eqi rfl rfl) (.v (.move rfl) (.or 8 16 8 8 rfl rfl (fun g1 => .v (.fieldAddr rfl) (.v (.load rfl (.one rfl)) (.v (.move rfl) (.v (.fieldAddr rfl) (.v (.fieldAddr rfl) (.v (.load rfl (.one rfl)) (.pc rfl rfl (fun w s => better_ok w side p pr) (.v (.not rfl) (.nil ⟨rfl, rfl, rfl, rfl⟩))))))))) (.v (.assign rfl) (.nil ?_)))))))))
  exact .ret ⟨[_], ⟨rfl, trivial⟩, rfl⟩
end Go.Proofs.Ytinmhhonpflojaa

/- coming, refused. -/
namespace Go.Proofs.Ytinmhhonpflojaa
open Go.V
set_option linter.unusedVariables false
set_option linter.unusedSimpArgs false

/-- a command -/
structure Cm where
  k : Int
  id : Int
  tg : Int
  mb : Int
  sd : Int
  ty : Int
  pr : Int
  q : Int
  pk : Int
def Cm.cells (c : Cm) : List Value := ccells c.k c.id c.tg c.mb c.sd c.ty c.pr c.q c.pk
def Cm.chk (c : Cm) : Int := Proofs.Ytinmhhonpflojaa.chk c.k c.id c.sd c.ty c.pr c.q c.pk
/-- the order that comes by a command -/
def cmg (c : Cm) (tg : Option Ord) (side : Int) : Tk :=
  match tg with
  | some o => if c.k = 3 then ⟨⟨c.id, o.mb, o.ty, c.pr, 0, 0, c.pk⟩, side, o.ty, c.q⟩ else ⟨⟨c.id, c.mb, c.ty, c.pr, 0, 0, c.pk⟩, c.sd, c.ty, c.q⟩
  | none => ⟨⟨c.id, c.mb, c.ty, c.pr, 0, 0, c.pk⟩, c.sd, c.ty, c.q⟩
/-- the order that a command speaks of, in memory -/
def TgR (w : World) (no : List Nat) (tp : Option Addr) : Option Ord → Prop
  | none => tp = none
  | some o => ∃ bt, tp = some ⟨bt, 0, none⟩ ∧ Rd w no (some ⟨bt, 0, none⟩) o.cells
theorem TgR.keep0 {w0 w : World} {own : List Nat} {hs : Hp} {tp : Option Addr} {tg : Option Ord} (h : TgR w0 own tp tg) (s : Sat w0 own hs w) : TgR w [] tp tg := by
  cases tg with
  | none => exact h
  | some o => obtain ⟨bt, h1, h2⟩ := h; exact ⟨bt, h1, h2.keep0 s⟩
set_option maxRecDepth 10000 in
theorem coming_ok (w : World) (c : Cm) (tp : Option Addr) (tg : Option Ord) (side : Int) (ht : TgR w [] tp tg) (hk : c.k = 3 → tg ≠ none) :
    Is Try.prog 61 [.agg ⟨c.cells⟩, .pointer tp, .int .i64 side] w (.agg ⟨(cmg c tg side).cells⟩) := by
  obtain ⟨k, id, tgi, mb, sd, ty, pr, q, pk⟩ := c
  refine Does.pure (Does.of (n := 45) Try.func61 rfl rfl rfl rfl ?_)
  refine .seq ((.region (.nw (.box rfl rfl) fun b3 => (.nw .alloc fun b6 => (.nil ?_)))))
  refine .seq ((.region (.v (.fieldAddr rfl) (.v (.load (v := .int .u64 id) rfl (.one rfl)) (.v (.fieldAddr rfl) (.v (.load (v := .int .u32 mb) rfl (.one rfl)) (.v (.fieldAddr rfl) (.v (.load (v := .int .i64 pr) rfl (.one rfl)) (.v (.fieldAddr rfl) (.v (.load (v := .int .u64 pk) rfl (.one rfl)) (.v (.build (out := rcells id mb 0 pr 0 0 pk) rfl rfl) (.v (.fieldAddr rfl) (.v (.load (v := .int .i64 sd) rfl (.one rfl)) (.v (.fieldAddr rfl) (.v (.load (v := .int .i64 ty) rfl (.one rfl)) (.v (.fieldAddr rfl) (.v (.load (v := .int .u64 q) rfl (.one rfl)) (.v (.build (out := [.int .u64 id, .int .u32 mb, .int .i64 0, .int .i64 pr, .int .u64 0, .int .u64 0, .int .u64 pk, .int .i64 sd, .int .i64 ty, .int .u64 q]) rfl rfl) (.nw .alloc fun b7 => (.st (.sw rfl rfl) (.nil ?_)))))))))))))))))))))
  refine .seq (.seq ((.region (.v (.fieldAddr rfl) (.v (.load (v := .int .i64 k) rfl (.one rfl)) (.v (.eqi rfl rfl) (.nil ?_)))))))
  refine .cond_dec rfl (fun h1 => ?_) (fun h1 => .skip ?_)
  · cases tg with
    | none => exact absurd rfl (hk h1)
    | some o =>
      obtain ⟨bt, rfl, ho⟩ := ht
      refine (.drawK [] (List.nil_subset _) (by kernel_rfl) (by kernel_rfl) ?_)
      refine .v (fun _ f => .move rfl) (.v (fun _ f => .nilCheck rfl) (.v (fun _ f => .fieldAddr rfl) (.v (fun _ f => .load (v := .int .u32 o.mb) rfl (ho.cell (i := 1) rfl)) (.v (fun _ f => .move rfl) (.v (fun _ f => .move rfl) (.v (fun _ f => .nilCheck rfl) (.v (fun _ f => .fieldAddr rfl) (.v (fun _ f => .load (v := .int .i64 o.ty) rfl (ho.cell (i := 2) rfl)) (.v (fun _ f => .fieldAddr rfl) (.v (fun _ f => .fieldAddr rfl) ?_))))))))))
      refine .st (.storeL rfl rfl rfl) (fun _ => List.nil_subset _) (.v (fun _ f => .fieldAddr rfl) (.st (.storeL rfl rfl rfl) (fun _ => List.nil_subset _) (.v (fun _ f => .fieldAddr rfl) (.st (.storeL rfl rfl rfl) (fun _ => List.nil_subset _) (.nil ?_)))))
      refine .seq ((.region (.v (.fieldAddr rfl) (.v (.load (v := .int .i64 o.ty) rfl (.one rfl)) (.v (.fieldAddr rfl) (.v (.fieldAddr rfl) (.st (.storeL rfl rfl rfl) (.nil ?_))))))))
      refine .seq ((.region (.v (.loadA rfl .whole rfl) (.st (.sw rfl rfl) (.nil ?_)))))
      exact .ret ⟨[_], ⟨⟨_, rfl, .inr ⟨10, _, inferInstance, rfl, rfl, .whole⟩⟩, trivial⟩, by simp only [cmg]; rw [if_pos h1]; rfl⟩
  · refine .seq ((.region (.v (.fieldAddr rfl) (.v (.load (v := .int .i64 ty) rfl (.one rfl)) (.v (.fieldAddr rfl) (.v (.fieldAddr rfl) (.st (.storeL rfl rfl rfl) (.nil ?_))))))))
    refine .seq ((.region (.v (.loadA rfl .whole rfl) (.st (.sw rfl rfl) (.nil ?_)))))
    refine .ret ⟨[_], ⟨⟨_, rfl, .inr ⟨10, _, inferInstance, rfl, rfl, .whole⟩⟩, trivial⟩, ?_⟩
    cases tg with
    | none => rfl
    | some o => simp only [cmg]; rw [if_neg h1]; rfl
def headReach (side kind pr : Int) : List Ord → Bool
  | [] => false
  | x :: _ => reach side kind pr x.pr
/-- why a command is refused -/
def rfs (cap high : Int) (bs ss : List Ord) (c : Cm) (tg : Option Ord) (side : Int) : Int :=
  if c.chk = 90 then 90
  else if c.k ≠ 1 ∧ tg = none then 91
  else if c.chk ≠ 0 then c.chk
  else if c.k = 2 then 0
  else if c.id ≤ high then 97
  else if c.k = 1 ∧ ((cmg c tg side).kind = 1 ∨ (cmg c tg side).kind = 5) ∧ cap ≤ bs.length + ss.length then 98
  else if (cmg c tg side).kind = 5 ∧ headReach (cmg c tg side).side (cmg c tg side).kind (cmg c tg side).o.pr (if (cmg c tg side).side = 1 then ss else bs) then 99 else 0
theorem chk_kinds {c : Cm} (h : c.chk ≠ 90) : c.k = 1 ∨ c.k = 2 ∨ c.k = 3 := by
  unfold Cm.chk chk at h
  by_cases h1 : c.k = 1
  · exact .inl h1
  · by_cases h3 : c.k = 3
    · exact .inr (.inr h3)
    · by_cases h2 : c.k = 2
      · exact .inr (.inl h2)
      · rw [if_neg h1, if_neg h3, if_neg h2] at h; exact absurd rfl h
theorem chk_side {c : Cm} (h : c.chk = 0) (hk : c.k = 1) : c.sd = 1 ∨ c.sd = 2 := by
  unfold Cm.chk chk at h
  rw [if_pos hk] at h
  by_cases h1 : c.sd ≠ 1 ∧ c.sd ≠ 2
  · rw [if_pos h1] at h; omega
  · omega
set_option maxRecDepth 10000 in
theorem refused_ok (w : World) (b : Nat) (cap meet high seq : Int) (A1 A2 : Option Addr) (c1 c2 : Nat) (bs ss : List Ord) (hb : Rd w [] (some ⟨b, 0, none⟩) (bcells cap meet (.slice A1 bs.length c1) (.slice A2 ss.length c2) high seq))
    (hr1 : Rd w [] A1 (rows bs)) (hr2 : Rd w [] A2 (rows ss)) (hb1 : bs.length ≤ 2513169434843) (hb2 : ss.length ≤ 2513169434843) (c : Cm) (tp : Option Addr) (tg : Option Ord) (side : Int) (ht : TgR w [] tp tg) (hs : tg ≠ none → side = 1 ∨ side = 2) :
    Is Try.prog 58 [.pointer (some ⟨b, 0, none⟩), .agg ⟨c.cells⟩, .pointer tp, .int .i64 side] w (.int .i64 (rfs cap high bs ss c tg side)) := by
  have htn : tp.isNone = decide (tg = none) := by
    cases tg with
    | none => rw [show tp = none from ht]; rfl
    | some o => obtain ⟨bt, rfl, _⟩ := ht; simp
  obtain ⟨k, id, tgi, mb, sd, ty, pr, q, pk⟩ := c
  refine Does.pure (Does.of (n := 94) Try.func58 rfl rfl rfl rfl ?_)
  refine .seq ((.region (.nw (.box rfl rfl) fun b5 => (.v (.assign rfl) (.nil ?_)))))
  refine .seq ((.region (.v (.loadA (vs := ccells k id tgi mb sd ty pr q pk) rfl .whole rfl) (.pc rfl rfl (fun w s => Check_ok w k id tgi mb sd ty pr q pk) (.v (.assign rfl) (.nil ?_))))))
  have ech : chk k id sd ty pr q pk = Cm.chk ⟨k, id, tgi, mb, sd, ty, pr, q, pk⟩ := rfl
  rw [ech]
  generalize hc : (⟨k, id, tgi, mb, sd, ty, pr, q, pk⟩ : Cm) = c
  have ek : k = c.k := by rw [← hc]
  have ecells : ccells k id tgi mb sd ty pr q pk = c.cells := by rw [← hc]; rfl
  refine .seq (.block (.seq ((.region (.v (.move rfl) (.v (.eqi rfl rfl) (.v (.assign rfl) (.nil ?_))))))))
  refine .cond_dec rfl (fun h1 => ?_) (fun h1 => ?_)
  · refine .seq ((.region (.v (.move rfl) (.v (.assign rfl) (.nil ?_)))))
    exact .ret ⟨[_], ⟨rfl, trivial⟩, by rw [rfs, if_pos h1, h1]; rfl⟩
  refine .seq ((.region (.v (.fieldAddr rfl) (.v (.load (v := .int .i64 k) rfl (.one (by rw [← ecells]; rfl))) (.v (.nei rfl rfl) (.v (.move rfl) (.and 22 24 2 2 rfl rfl (fun g1 => .v (.move rfl) (.v (.eql_ptr_nil rfl rfl) (.nil ⟨rfl, rfl, rfl, rfl⟩))) (.v (.assign rfl) (.nil ?_)))))))))
  rw [htn]
  refine .cond rfl (fun h2 => ?_) (fun h2 => ?_)
  · refine .seq ((.region (.v (.assign rfl) (.nil ?_))))
    exact .ret ⟨[_], ⟨rfl, trivial⟩, by rw [rfs, if_neg h1, if_pos (by rw [← ek]; simpa using h2)]; rfl⟩
  have h2' : ¬ (c.k ≠ 1 ∧ tg = none) := by rw [← ek]; simpa using h2
  refine .seq ((.region (.v (.move rfl) (.v (.nei rfl rfl) (.v (.assign rfl) (.nil ?_))))))
  refine .cond_dec rfl (fun h3 => ?_) (fun h3 => ?_)
  · refine .seq ((.region (.v (.move rfl) (.v (.assign rfl) (.nil ?_)))))
    exact .ret ⟨[_], ⟨rfl, trivial⟩, by rw [rfs, if_neg h1, if_neg h2', if_pos h3]; rfl⟩
  refine .seq ((.region (.v (.fieldAddr rfl) (.v (.load (v := .int .i64 k) rfl (.one (by rw [← ecells]; rfl))) (.v (.eqi rfl rfl) (.v (.assign rfl) (.nil ?_)))))))
  refine .cond_dec rfl (fun h4 => ?_) (fun h4 => ?_)
  · refine .seq ((.region (.v (.assign rfl) (.nil ?_))))
    exact .ret ⟨[_], ⟨rfl, trivial⟩, by rw [rfs, if_neg h1, if_neg h2', if_neg h3, if_pos (by rw [← ek]; exact h4)]; rfl⟩
  refine .seq ((.drawK _ (fun _ h => h) (by kernel_rfl) (by kernel_rfl) ?_))
  refine .v (fun _ f => .fieldAddr rfl) (.v (fun _ f => .load (v := .int .u64 id) rfl (.one (hb := .sub f) (by rw [← ecells]; rfl))) (.v (fun _ f => .move rfl) (.v (fun _ f => .nilCheck rfl) (.v (fun _ f => .fieldAddr rfl) (.v (fun _ f => .fieldAddr rfl) (.v (fun _ f => .load (v := .int .u64 high) rfl (hb.cell (i := 4) rfl)) (.v (fun _ f => .leq rfl rfl) (.v (fun _ f => .assign rfl) (.nil ?_)))))))))
  have eid : id = c.id := by rw [← hc]
  refine .cond_dec rfl (fun h5 => ?_) (fun h5 => .skip ?_)
  · refine .seq ((.region (.v (.assign rfl) (.nil ?_))))
    exact .ret ⟨[_], ⟨rfl, trivial⟩, by rw [rfs, if_neg h1, if_neg h2', if_neg h3, if_neg (by rw [← ek]; exact h4), if_pos (by rw [← eid]; exact h5)]; rfl⟩
  have h3' : c.chk = 0 := Decidable.of_not_not h3
  have hk3 : c.k = 3 → tg ≠ none := fun e ht' => h2' ⟨by omega, ht'⟩
  refine .seq ((.region (.v (.loadA (vs := c.cells) rfl .whole (by rw [← ecells]; rfl)) (.v (.move rfl) (.v (.move rfl) ?_)))))
  refine .pc rfl rfl (fun w s => coming_ok w c tp tg side (ht.keep0 s) hk3) ?_
  have hside : (cmg c tg side).side = 1 ∨ (cmg c tg side).side = 2 := by
    have hk := chk_kinds h1
    unfold cmg
    cases tg with
    | none =>
      refine chk_side h3' ?_
      rcases hk with h | h | h
      · exact h
      · exact absurd h (by rw [← ek]; exact h4)
      · exact absurd rfl (hk3 h)
    | some o =>
      simp only
      split
      · exact hs (by simp)
      · rename_i hk'
        refine chk_side h3' ?_
        rcases hk with h | h | h
        · exact h
        · exact absurd h (by rw [← ek]; exact h4)
        · exact absurd h hk'
  generalize htk : cmg c tg side = t at hside ⊢
  obtain ⟨⟨x0, x1, x2, x3, x4, x5, x6⟩, s, kd, lf⟩ := t
  refine .nw .alloc fun b10 => (.st (.sw rfl rfl) (.nil ?_))
  refine .seq (.seq ((.drawP [0, 1, 2, 3, 4, 5, 6, 7, 8, 9, 10, 11, 12, 13, 14, 16, 17, 18, 19, 20, 21, 15, 22, 23] _ (fun _ h => h) (by kernel_rfl) (by kernel_rfl) ?_)))
  refine .v (fun _ f => .fieldAddr rfl) (.v (fun _ f => .load (v := .int .i64 k) rfl (.one (hb := .sub f) (by rw [← ecells]; rfl))) (.v (fun _ f => .eqi rfl rfl) (.v (fun _ f => .move rfl) (.and 50 58 8 5 rfl rfl (fun g2 => .v (fun _ f => .fieldAddr rfl) (.v (fun _ f => .load (v := .int .i64 kd) rfl (.one (hb := .sub f) rfl)) (.v (fun _ f => .eqi rfl rfl) (.v (fun _ f => .move rfl) (.or 54 57 3 3 rfl rfl (fun g3 => .v (fun _ f => .fieldAddr rfl) (.v (fun _ f => .load (v := .int .i64 kd) rfl (.one (hb := .sub f) rfl)) (.v (fun _ f => .eqi rfl rfl) (.nil ⟨rfl, rfl, rfl, rfl⟩)))) (.nil ⟨rfl, rfl, rfl, rfl⟩)))))) (.v (fun _ f => .move rfl) (.and 60 69 9 9 rfl rfl (fun g4 => .v (fun _ f => .move rfl) (.v (fun _ f => .move rfl) (.v (fun _ f => .nilCheck rfl) (.v (fun _ f => .fieldAddr rfl) (.v (fun _ f => .fieldAddr rfl) (.v (fun _ f => .fieldAddr rfl) (.v (fun _ f => .load (v := .int .i64 cap) rfl (hb.cell (i := 0) rfl)) (.pc rfl rfl (fun w s => Len_is w b cap meet high seq A1 A2 bs.length ss.length c1 c2 (hb.keep0 s) hb1 hb2) (.v (fun _ f => .geq rfl rfl) (.nil ⟨rfl, rfl, rfl, rfl⟩)))))))))) (.nil ?_)))))))
  refine .cond rfl (fun h6 => ?_) (fun h6 => .skip ?_) <;> simp only [Bool.and_eq_true, Bool.or_eq_true, Bool.not_eq_true', Bool.and_eq_false_iff, Bool.or_eq_false_iff, Bool.not_eq_false', decide_eq_true_eq, decide_eq_false_iff_not, Bool.false_eq_true, false_iff] at h6
  · refine .seq ((.region (.v (.assign rfl) (.nil ?_))))
    exact .ret ⟨[_], ⟨rfl, trivial⟩, by rw [rfs, if_neg h1, if_neg h2', if_neg h3, if_neg (by rw [← ek]; exact h4), if_neg (by rw [← eid]; exact h5), htk, if_pos (by rw [← ek]; exact ⟨h6.1.1, h6.1.2, h6.2⟩)]; rfl⟩
  have h6' : ¬ (c.k = 1 ∧ (kd = 1 ∨ kd = 5) ∧ cap ≤ bs.length + ss.length) := by rw [← ek]; omega
  have fin : ∀ {r : Int}, r = (if kd = 5 ∧ headReach s kd x3 (if s = 1 then ss else bs) then 99 else 0) → tup [.int .i64 r] = .int .i64 (rfs cap high bs ss c tg side) := fun e => by
    rw [rfs, if_neg h1, if_neg h2', if_neg h3, if_neg (by rw [← ek]; exact h4), if_neg (by rw [← eid]; exact h5), htk, if_neg h6', e]; rfl
  rcases hside with hside | hside
  · have hside : s = 1 := hside
    subst hside
    refine .seq ((.region (.v (.move rfl) (.v (.fieldAddr rfl) (.v (.load (v := .int .i64 1) rfl (.one rfl)) (.v (.subi rfl rfl (by omega)) (.pc rfl rfl (fun w s => side_ok w b 2) (.v (.nilCheck rfl) (.v (.load (v := .slice A2 ss.length c2) rfl (hb.cell (i := 3) rfl)) (.v (.assign rfl) (.nil ?_)))))))))))
    cases hl : ss with
    | nil =>
      subst hl
      refine .seq (.seq ((.drawK _ (fun _ h => h) (by kernel_rfl) (by kernel_rfl) ?_)))
      refine .v (fun _ f => .fieldAddr rfl) (.v (fun _ f => .load (v := .int .i64 kd) rfl (.one (hb := .sub f) rfl)) (.v (fun _ f => .eqi rfl rfl) (.v (fun _ f => .move rfl) (.and 81 84 3 3 rfl rfl (fun g5 => .v (fun _ f => .move rfl) (.v (fun _ f => .len rfl) (.v (fun _ f => .gtr rfl rfl) (.nil ⟨rfl, rfl, rfl, rfl⟩)))) (.v (fun _ f => .move rfl) (.and (b2 := false) 86 92 6 6 rfl rfl (fun g6 => absurd g6 (by simp)) (.nil ?_)))))))
      refine .cond rfl (fun h7 => absurd h7 (by simp)) (fun _ => .skip ?_)
      refine .seq ((.region (.v (.assign rfl) (.nil ?_))))
      exact .ret ⟨[_], ⟨rfl, trivial⟩, fin (by simp [headReach])⟩
    | cons x rest =>
      subst hl
      obtain ⟨b', o', rfl, -, hcx⟩ := Rd.ord hr2 (by simp)
      have hx := hcx 0 (by simp) 3 (.int .i64 x.pr) (by omega) rfl
      refine .seq (.seq ((.drawK _ (fun _ h => h) (by kernel_rfl) (by kernel_rfl) ?_)))
      refine .v (fun _ f => .fieldAddr rfl) (.v (fun _ f => .load (v := .int .i64 kd) rfl (.one (hb := .sub f) rfl)) (.v (fun _ f => .eqi rfl rfl) (.v (fun _ f => .move rfl) (.and 81 84 3 3 rfl rfl (fun g5 => .v (fun _ f => .move rfl) (.v (fun _ f => .len rfl) (.v (fun _ f => .gtr rfl rfl) (.nil ⟨rfl, rfl, rfl, rfl⟩)))) (.v (fun _ f => .move rfl) (.and 86 92 6 6 rfl rfl (fun g6 => .v (fun _ f => .loadA (vs := (⟨⟨x0, x1, x2, x3, x4, x5, x6⟩, 1, kd, lf⟩ : Tk).cells) rfl (.whole (hb := .sub f)) rfl) (.v (fun _ f => .move rfl) (.v (fun _ f => .indexAddr rfl rfl (by simp) (by simp)) (.v (fun _ f => .fieldAddr rfl) (.v (fun _ f => .load (v := .int .i64 x.pr) rfl (.old1 (by simpa using hx) (by simp [bl]))) (.pc (v := .bool (reach 1 kd x3 x.pr)) rfl rfl (fun w s => reaches_ok w x0 x1 x2 x3 x4 x5 x6 1 kd lf x.pr) (.nil ⟨rfl, rfl, rfl, rfl⟩))))))) (.nil ?_)))))))
      refine .cond rfl (fun h7 => ?_) (fun h7 => .skip ?_)
      · refine .seq ((.region (.v (.assign rfl) (.nil ?_))))
        exact .ret ⟨[_], ⟨rfl, trivial⟩, fin (by simp at h7; obtain ⟨k1, k2⟩ := h7; subst k1; simp [headReach, k2])⟩
      · refine .seq ((.region (.v (.assign rfl) (.nil ?_))))
        refine .ret ⟨[_], ⟨rfl, trivial⟩, fin ?_⟩
        rw [if_neg]
        rintro ⟨k1, k2⟩
        subst k1
        simp [headReach] at k2
        simp [k2] at h7
  · have hside : s = 2 := hside
    subst hside
    refine .seq ((.region (.v (.move rfl) (.v (.fieldAddr rfl) (.v (.load (v := .int .i64 2) rfl (.one rfl)) (.v (.subi rfl rfl (by omega)) (.pc rfl rfl (fun w s => side_ok w b 1) (.v (.nilCheck rfl) (.v (.load (v := .slice A1 bs.length c1) rfl (hb.cell (i := 2) rfl)) (.v (.assign rfl) (.nil ?_)))))))))))
    cases hl : bs with
    | nil =>
      subst hl
      refine .seq (.seq ((.drawK _ (fun _ h => h) (by kernel_rfl) (by kernel_rfl) ?_)))
      refine .v (fun _ f => .fieldAddr rfl) (.v (fun _ f => .load (v := .int .i64 kd) rfl (.one (hb := .sub f) rfl)) (.v (fun _ f => .eqi rfl rfl) (.v (fun _ f => .move rfl) (.and 81 84 3 3 rfl rfl (fun g5 => .v (fun _ f => .move rfl) (.v (fun _ f => .len rfl) (.v (fun _ f => .gtr rfl rfl) (.nil ⟨rfl, rfl, rfl, rfl⟩)))) (.v (fun _ f => .move rfl) (.and (b2 := false) 86 92 6 6 rfl rfl (fun g6 => absurd g6 (by simp)) (.nil ?_)))))))
      refine .cond rfl (fun h7 => absurd h7 (by simp)) (fun _ => .skip ?_)
      refine .seq ((.region (.v (.assign rfl) (.nil ?_))))
      exact .ret ⟨[_], ⟨rfl, trivial⟩, fin (by simp [headReach])⟩
    | cons x rest =>
      subst hl
      obtain ⟨b', o', rfl, -, hcx⟩ := Rd.ord hr1 (by simp)
      have hx := hcx 0 (by simp) 3 (.int .i64 x.pr) (by omega) rfl
      refine .seq (.seq ((.drawK _ (fun _ h => h) (by kernel_rfl) (by kernel_rfl) ?_)))
      refine .v (fun _ f => .fieldAddr rfl) (.v (fun _ f => .load (v := .int .i64 kd) rfl (.one (hb := .sub f) rfl)) (.v (fun _ f => .eqi rfl rfl) (.v (fun _ f => .move rfl) (.and 81 84 3 3 rfl rfl (fun g5 => .v (fun _ f => .move rfl) (.v (fun _ f => .len rfl) (.v (fun _ f => .gtr rfl rfl) (.nil ⟨rfl, rfl, rfl, rfl⟩)))) (.v (fun _ f => .move rfl) (.and 86 92 6 6 rfl rfl (fun g6 => .v (fun _ f => .loadA (vs := (⟨⟨x0, x1, x2, x3, x4, x5, x6⟩, 2, kd, lf⟩ : Tk).cells) rfl (.whole (hb := .sub f)) rfl) (.v (fun _ f => .move rfl) (.v (fun _ f => .indexAddr rfl rfl (by simp) (by simp)) (.v (fun _ f => .fieldAddr rfl) (.v (fun _ f => .load (v := .int .i64 x.pr) rfl (.old1 (by simpa using hx) (by simp [bl]))) (.pc (v := .bool (reach 2 kd x3 x.pr)) rfl rfl (fun w s => reaches_ok w x0 x1 x2 x3 x4 x5 x6 2 kd lf x.pr) (.nil ⟨rfl, rfl, rfl, rfl⟩))))))) (.nil ?_)))))))
      refine .cond rfl (fun h7 => ?_) (fun h7 => .skip ?_)
      · refine .seq ((.region (.v (.assign rfl) (.nil ?_))))
        exact .ret ⟨[_], ⟨rfl, trivial⟩, fin (by simp at h7; obtain ⟨k1, k2⟩ := h7; subst k1; simp [headReach, k2])⟩
      · refine .seq ((.region (.v (.assign rfl) (.nil ?_))))
        refine .ret ⟨[_], ⟨rfl, trivial⟩, fin ?_⟩
        rw [if_neg]
        rintro ⟨k1, k2⟩
        subst k1
        simp [headReach] at k2
        simp [k2] at h7
end Go.Proofs.Ytinmhhonpflojaa

/- slices.Delete of one, slices.Insert of one, over orders. -/
namespace Go.Proofs.Ytinmhhonpflojaa
open Go.V
set_option linter.unusedVariables false
set_option linter.unusedSimpArgs false

set_option maxRecDepth 10000 in
theorem delete_ok (w : World) (A : Option Addr) (n c i : Nat) (vs : List Value) (h : Hp) (k : OwnS 134 7 (.slice A n c) n vs h) (hi : i < n) (hb : n ≤ 2513169434843) (h1 : ones vs = true) :
    Does Try.prog 60 [.slice A n c, .int .i64 i, .int .i64 (i + 1)] h w (fun v hs => OwnS 134 7 v (n - 1) (vs.take (i * 7) ++ vs.drop ((i + 1) * 7)) hs) := by
  obtain ⟨b, o, l, rfl, -, rfl, hc, hl, hv⟩ := k.some_ (by omega)
  have hvl := k.1
  refine Does.of (n := 33) Try.func60 rfl rfl rfl rfl ?_
  refine .seq ((.region (.v (.assign rfl) (.nil ?_))))
  refine .seq ((.region (.v (.move rfl) (.v (.move rfl) (.v (.move rfl) (.v (.move rfl) (.v (.len rfl) (.v (.sl3 rfl rfl rfl rfl (by omega) (by omega) (by omega) (by omega)) (.nil ?_)))))))))
  refine .seq (.seq ((.region (.v (.move rfl) (.v (.move rfl) (.v (.eqi rfl rfl) (.nil ?_)))))))
  refine .cond_dec rfl (fun h1 => by omega) (fun _ => .skip ?_)
  refine .seq ((.region (.v (.move rfl) (.v (.len rfl) (.v (.assign rfl) (.nil ?_))))))
  refine .seq (.drawK [] (List.nil_subset _) (by kernel_rfl) (by kernel_rfl) ?_)
  refine .v (fun _ f => .move rfl) (.v (fun _ f => .move rfl) (.v (fun _ f => .slHi rfl rfl (by omega) (by omega)) (.v (fun _ f => .move rfl) (.v (fun _ f => .move rfl) (.v (fun _ f => .slLo rfl rfl (by omega) (by omega)) ?_)))))
  have e1 : ((i : Int)).toNat = i := by omega
  have e2 : ((i : Int) + 1).toNat = i + 1 := by omega
  have hnews : (vs.drop ((i + 1) * 7)).length = (n - (i + 1)) * 7 := by rw [List.length_drop, hvl, Nat.sub_mul]
  have hones : ones (vs.drop ((i + 1) * 7)) = true := by
    simp only [ones, List.all_eq_true] at h1 ⊢
    exact fun x hx => h1 x (List.mem_of_mem_drop hx)
  have kc := k.cut (i := i + 1) (by omega) (by omega)
  refine .ef (.appendIn (c := i) (k := n - (i + 1)) (news := vs.drop ((i + 1) * 7)) (b := b) (o := o) (cap := c) (l := l) rfl rfl
    (fun w s => by simp only [e1, e2]; exact (OwnS.rd kc s (fun p hp => hp) (by simp) (no := [])).src hnews (by omega)) hnews hones (by omega) (by omega)) (fun _ _ ⟨_, h2⟩ _ => List.nil_subset _) ?_
  rintro _ _ ⟨rfl, rfl⟩
  refine .v (fun _ f => .assign rfl) (.nil ?_)
  have e3 : i + (n - (i + 1)) = n - 1 := by omega
  rw [e3]
  refine .seq ((.region (.v (.move rfl) (.v (.move rfl) (.v (.len rfl) (.v (.move rfl) (.v (.slLoHi rfl rfl rfl (by omega) (by omega) (by omega)) ?_)))))))
  have e4 : (((n - 1 : Nat) : Int)).toNat = n - 1 := by omega
  have e5 : ((n : Int)).toNat = n := by omega
  simp only [e4, e5]
  rw [cutA_some (by omega)]
  have hlen2 : (V.splice l (o + i * 7) (vs.drop ((i + 1) * 7))).length = l.length := splice_length _ _ _ (by rw [hnews]; omega)
  refine .ef0 (.clearIn (z := [.int .u64 0, .int .u32 0, .int .i64 0, .int .i64 0, .int .u64 0, .int .u64 0, .int .u64 0]) rfl rfl (by rw [hlen2]; omega)) ?_
  rintro _ _ ⟨rfl, rfl⟩
  refine .nil ?_
  refine .seq ((.region (.v (.move rfl) (.v (.assign rfl) (.nil ?_)))))
  refine .ret ⟨[_], ⟨rfl, trivial⟩, ?_, .inr ⟨b, o, c, _, rfl, rfl, by omega, ?_, ?_⟩⟩
  · rw [List.length_append, List.length_take, hnews, hvl]
    rw [Nat.min_eq_left (Nat.mul_le_mul_right _ (by omega)), ← Nat.add_mul]
    congr 1
  · rw [splice_length _ _ _ (by rw [zeros_length, hlen2]; simp; omega), hlen2]; exact hl
  · rw [splice_keep _ _ o _ _ (Nat.le_refl _) (by rw [hlen2]; omega)]
    have := splice_app l (vs.take (i * 7)) (vs.drop ((i + 1) * 7)) o i 7 (n - (i + 1)) c (by rw [List.length_take, hvl]; omega) hnews (by omega) hl (by rw [← hv, List.take_take]; congr 1; omega)
    rw [e3] at this
    exact this

instance : OvT Try.prog 96 122 4 := ⟨_, Try.func96, by kernel_rfl, by kernel_rfl, by kernel_rfl, by kernel_rfl⟩
theorem ones_take {l : List Value} (h : ones l = true) (k : Nat) : ones (l.take k) = true := by
  simp only [ones, List.all_eq_true] at h ⊢
  exact fun x hx => h x (List.mem_of_mem_take hx)
theorem ones_drop {l : List Value} (h : ones l = true) (k : Nat) : ones (l.drop k) = true := by
  simp only [ones, List.all_eq_true] at h ⊢
  exact fun x hx => h x (List.mem_of_mem_drop hx)
set_option maxRecDepth 10000 in
theorem insert_ok (w : World) (A : Option Addr) (n c i vb : Nat) (vs oc : List Value) (h : Hp) (k : OwnS 134 7 (.slice A n c) n vs h) (hi : i ≤ n) (hb : n + 1 ≤ 2513169434843) (h1 : ones vs = true) (h2 : ones oc = true) (ho : oc.length = 7) :
    Does Try.prog 90 [.slice A n c, .int .i64 i, .slice (some ⟨vb, 0, none⟩) 1 1] (h ++ [(vb, .cells oc 134)]) w
      (fun v hs => OwnS 134 7 v (n + 1) (vs.take (i * 7) ++ oc ++ vs.drop (i * 7)) hs) := by
  have hvl := k.1
  refine Does.less (Does.of (n := 95) Try.func90 rfl rfl rfl rfl ?_)
  refine .seq ((.region (.v (.assign rfl) (.nil ?_))))
  refine .seq ((.region (.v (.move rfl) (.v (.move rfl) (.v (.slLo rfl rfl (by omega) (by omega)) (.nil ?_))))))
  refine .seq ((.region (.v (.move rfl) (.v (.len rfl) (.v (.assign rfl) (.nil ?_))))))
  refine .seq (.seq ((.region (.v (.move rfl) (.v (.eqi rfl rfl) (.nil ?_))))))
  refine .cond_dec rfl (fun h1 => by omega) (fun _ => .skip ?_)
  refine .seq ((.region (.v (.move rfl) (.v (.len rfl) (.v (.assign rfl) (.nil ?_))))))
  refine .seq (.seq ((.region (.v (.move rfl) (.v (.move rfl) (.v (.eqi rfl rfl) (.nil ?_)))))))
  refine .cond_dec rfl (fun g1 => ?_) (fun g1 => .skip ?_)
  · have hin : i = n := by omega
    subst hin
    refine .seq ((.region (.v (.move rfl) (.v (.move rfl) ?_))))
    refine .ef (.append (c := i) (k := 1) (vs := vs) (news := oc) (h := h) (fr := [(vb, .cells oc 134)]) rfl rfl k (by exact List.Perm.refl _) (fun w s => Src.cells (by omega) (fun j v hv => by rw [add_none, s.cell (b := vb) (T := 134) (l := oc) (by simp)]; simpa using hv)) (by omega) h2 (by omega) (by omega)) ?_
    rintro v _ ⟨h', k', rfl⟩
    refine .v (.assign rfl) (.nil ?_)
    refine .ret ⟨[_], ⟨rfl, trivial⟩, h', fun _ s => s.sub (List.sublist_append_left _ _), ?_⟩
    rw [List.take_of_length_le (by omega), List.drop_of_length_le (by omega), List.append_nil]
    exact k'
  · obtain ⟨b, o, l, rfl, -, rfl, hc, hl, hv⟩ := k.some_ (by omega)
    have e1 : ((i : Int)).toNat = i := by omega
    have e2 : ((i : Int) + 1).toNat = i + 1 := by omega
    have hD : (vs.drop (i * 7)).length = (n - i) * 7 := by rw [List.length_drop, hvl, Nat.sub_mul]
    have hT : (vs.take (i * 7)).length = i * 7 := by rw [List.length_take, hvl]; omega
    have hTl : (l.drop o).take (i * 7) = vs.take (i * 7) := by rw [← hv, List.take_take]; congr 1; omega
    have hDg : ∀ (j : Nat) (v : Value), (vs.drop (i * 7))[j]? = some v → l[o + i * 7 + j]? = some v := fun j v hj => by
      rw [← hv, List.getElem?_drop, List.getElem?_take] at hj
      split at hj
      · rw [List.getElem?_drop] at hj; rw [← hj]; congr 1; omega
      · cases hj
    refine .seq (.seq ((.region (.v (.move rfl) (.v (.move rfl) (.v (.addi rfl rfl (by omega)) (.v (.move rfl) (.v (.cap_ rfl) (.v (.gtr rfl rfl) (.nil ?_))))))))))
    refine .cond_dec rfl (fun g2 => ?_) (fun g2 => .skip ?_)
    · refine .seq ((.region (.v (.move rfl) (.v (.move rfl) (.v (.slHi rfl rfl (by omega) (by omega)) (.v (.move rfl) (.v (.move rfl) (.v (.addi rfl rfl (by omega)) (.v (.move rfl) (.v (.subi rfl rfl (by omega)) ?_))))))))))
      have e3 : ((n : Int) + (1 : Nat) - (i : Int)) = ((n + 1 - i : Nat) : Int) := by omega
      rw [e3, e1]
      refine .ef (.appendZ (b := b) (o := o) (c := i) (cap := c) (k := n + 1 - i) (l := l) (vs := vs.take (i * 7)) rfl rfl hTl hl (by omega) (by omega) (by omega) (by omega) (by omega)) ?_
      rintro _ _ ⟨nb, cap', r, rfl, rfl, hc', hr'⟩
      refine .v (.assign rfl) (.nil ?_)
      have e4 : i + (n + 1 - i) = n + 1 := by omega
      rw [e4] at hc' ⊢
      simp only [List.length_append, hT, zeros_length] at hr'
      refine .seq ((.region (.v (.move rfl) (.v (.move rfl) (.v (.slLo rfl rfl (by omega) (by omega)) (.v (.move rfl) ?_))))))
      rw [cutA_some (by omega)]
      have e6 : ((i : Int) + ((1 : Nat) : Int)).toNat = i + 1 := by omega
      have e7 : (i + 1) * 7 = i * 7 + 7 := by omega
      have hlen : (List.take (i * 7) vs ++ zeros [.int .u64 0, .int .u32 0, .int .i64 0, .int .i64 0, .int .u64 0, .int .u64 0, .int .u64 0] (n + 1 - i) ++ r).length = cap' * 7 := by
        simp only [List.length_append, hT, zeros_length]; exact hr'
      refine .ef (.copyIn (b := nb) (o := 0 + i * 7) (dl := n + 1 - i) (dc := cap' - i) (sl := 1) (k := 1) (news := oc) rfl rfl (by omega) (fun w s => run_lenOf_sl) (fun w s => s.first (T := 134) (l := oc) (by omega) (fun j v hv => by simpa using hv)) h2 (by rw [hlen]; omega)) ?_
      rintro _ _ ⟨rfl, rfl⟩
      refine .nil ?_
      refine .seq (.drawK [] (List.nil_subset _) (by kernel_rfl) (by kernel_rfl) ?_)
      refine .v (fun _ f => .move rfl) (.v (fun _ f => .move rfl) (.v (fun _ f => .move rfl) (.v (fun _ f => .addi rfl rfl (by omega)) (.v (fun _ f => .slLo rfl rfl (by omega) (by omega)) (.v (fun _ f => .move rfl) (.v (fun _ f => .move rfl) (.v (fun _ f => .slLo rfl rfl (by omega) (by omega)) ?_)))))))
      rw [e6, e1, cutA_some (by omega), cutA_some (by omega)]
      refine .ef (.copyIn (b := nb) (o := 0 + (i + 1) * 7) (dl := n + 1 - (i + 1)) (dc := cap' - (i + 1)) (sl := n - i) (k := n - i) (news := vs.drop (i * 7)) rfl rfl (by omega) (fun w s => run_lenOf_sl) (fun w s => s.first (T := 134) (l := l) hD hDg) (ones_drop h1 _)
        (by rw [splice_length _ _ _ (by rw [hlen]; omega), hlen, hD]; omega)) (fun _ _ _ _ => List.nil_subset _) ?_
      rintro _ _ ⟨rfl, rfl⟩
      refine .nil ?_
      refine .seq ((.region (.v (.move rfl) (.v (.assign rfl) (.nil ?_)))))
      refine .ret ⟨[_], ⟨rfl, trivial⟩, [(nb, _)], fun _ s => s.sub (.cons_cons _ (List.nil_sublist _)), ?_, .inr ⟨nb, 0, cap', _, rfl, rfl, hc', ?_, ?_⟩⟩
      · simp only [List.length_append, hT, ho, hD]; omega
      · rw [splice_length _ _ _ (by rw [splice_length _ _ _ (by rw [hlen]; omega), hlen, hD]; omega), splice_length _ _ _ (by rw [hlen]; omega), hlen]; omega
      · have := ins_two' (List.take (i * 7) vs ++ zeros [.int .u64 0, .int .u32 0, .int .i64 0, .int .i64 0, .int .u64 0, .int .u64 0, .int .u64 0] (n + 1 - i) ++ r) oc (vs.drop (i * 7)) 0 (i * 7) 7 ho (by rw [hlen, hD]; omega)
        rw [hD] at this
        rw [e7, show (n + 1) * 7 = i * 7 + 7 + (n - i) * 7 from by omega, this]
        congr 2
        rw [List.drop_zero, List.append_assoc, List.take_append_of_le_length (by omega), List.take_of_length_le (by omega)]
    · refine .nd fun hnd => ?_
      have hne : vb ≠ b := by
        simp [bl] at hnd
        exact fun e => hnd e.symm
      refine .seq ((.region (.v (.move rfl) (.v (.move rfl) (.v (.move rfl) (.v (.addi rfl rfl (by omega)) (.v (.slHi rfl rfl (by omega) (by omega)) (.v (.assign rfl) (.nil ?_)))))))))
      have e5 : ((n : Int) + ((1 : Nat) : Int)).toNat = n + 1 := by omega
      have e6 : ((i : Int) + ((1 : Nat) : Int)).toNat = i + 1 := by omega
      have e7 : (i + 1) * 7 = i * 7 + 7 := by omega
      rw [e5]
      refine .seq (.seq ((.region (.v (.move rfl) (.v (.move rfl) (.v (.move rfl) (.v (.move rfl) (.v (.addi rfl rfl (by omega)) (.v (.slLo rfl rfl (by omega) (by omega)) ?_)))))))))
      rw [e6, cutA_some (by omega)]
      refine .v (.overlapsNo rfl rfl (b1 := vb) (b2 := b) (l1 := oc) (l2 := l) (T1 := 134) (T2 := 134) hne (by intro e; subst e; simp at hl; omega)) (.v (.not rfl) (.nil ?_))
      refine .cond_true rfl ?_
      refine .seq (.drawK [] (List.nil_subset _) (by kernel_rfl) (by kernel_rfl) ?_)
      refine .v (fun _ f => .move rfl) (.v (fun _ f => .move rfl) (.v (fun _ f => .move rfl) (.v (fun _ f => .addi rfl rfl (by omega)) (.v (fun _ f => .slLo rfl rfl (by omega) (by omega)) (.v (fun _ f => .move rfl) (.v (fun _ f => .move rfl) (.v (fun _ f => .slLo rfl rfl (by omega) (by omega)) ?_)))))))
      rw [e6, e1, cutA_some (by omega), cutA_some (by omega)]
      refine .ef (.copyIn (b := b) (o := o + (i + 1) * 7) (dl := n + 1 - (i + 1)) (dc := c - (i + 1)) (sl := n + 1 - i) (k := n - i) (news := vs.drop (i * 7)) (l := l) rfl rfl (by omega) (fun w s => run_lenOf_sl) (fun w s => s.first (T := 134) (l := l) hD hDg) (ones_drop h1 _)
        (by rw [hD]; omega)) (fun _ _ _ _ => List.nil_subset _) ?_
      rintro _ _ ⟨rfl, rfl⟩
      refine .nil ?_
      have hlen : (V.splice l (o + (i + 1) * 7) (vs.drop (i * 7))).length = l.length := splice_length _ _ _ (by rw [hD]; omega)
      refine .seq ((.region (.v (.move rfl) (.v (.move rfl) (.v (.slLo rfl rfl (by omega) (by omega)) (.v (.move rfl) ?_))))))
      rw [e1, cutA_some (by omega)]
      refine .ef (.copyIn (b := b) (o := o + i * 7) (dl := n + 1 - i) (dc := c - i) (sl := 1) (k := 1) (news := oc) rfl rfl (by omega) (fun w s => run_lenOf_sl) (fun w s => s.first (T := 134) (l := oc) (by omega) (fun j v hv => by simpa using hv)) h2 (by rw [hlen]; omega)) ?_
      rintro _ _ ⟨rfl, rfl⟩
      refine .nil ?_
      refine .seq ((.region (.v (.move rfl) (.v (.assign rfl) (.nil ?_)))))
      refine .ret ⟨[_], ⟨rfl, trivial⟩, [(b, _)], fun _ s => s.sub (.cons_cons _ (List.nil_sublist _)), ?_, .inr ⟨b, o, c, _, rfl, rfl, by omega, ?_, ?_⟩⟩
      · simp only [List.length_append, hT, ho, hD]; omega
      · rw [splice_length _ _ _ (by rw [hlen]; omega), hlen]; exact hl
      · have := ins_two l oc (vs.drop (i * 7)) o (i * 7) 7 ho (by rw [hD]; omega)
        rw [hD] at this
        rw [e7, show (n + 1) * 7 = i * 7 + 7 + (n - i) * 7 from by omega, this, hTl]
end Go.Proofs.Ytinmhhonpflojaa

/- Events; (*teller).tell. -/
namespace Go.Proofs.Ytinmhhonpflojaa
open Go.V
set_option linter.unusedVariables false
set_option linter.unusedSimpArgs false

structure Ev where
  seq : Int
  kind : Int
  id : Int
  other : Int
  target : Int
  mb : Int
  sd : Int
  ty : Int
  pr : Int
  q : Int
  pk : Int
  reason : Int
  code : Int
abbrev ecells (seq kind id other target mb sd ty pr q pk reason code : Int) : List Value := [.int .u64 seq, .int .i64 kind, .int .u64 id, .int .u64 other, .int .u64 target, .int .u32 mb, .int .i64 sd, .int .i64 ty, .int .i64 pr, .int .u64 q, .int .u64 pk, .int .i64 reason, .int .i64 code]
def Ev.cells (e : Ev) : List Value := ecells e.seq e.kind e.id e.other e.target e.mb e.sd e.ty e.pr e.q e.pk e.reason e.code
/-- an event with its number -/
def Ev.num (e : Ev) (s : Int) : Ev := ⟨s, e.kind, e.id, e.other, e.target, e.mb, e.sd, e.ty, e.pr, e.q, e.pk, e.reason, e.code⟩
def erows (l : List Ev) : List Value := l.flatMap Ev.cells
theorem erows_length (l : List Ev) : (erows l).length = l.length * 13 := flatMap_length _ 13 (fun _ => rfl) l
theorem erows_get (l : List Ev) (i j : Nat) (hi : i < l.length) (hj : j < 13) : (erows l)[i * 13 + j]? = (l[i].cells)[j]? := flatMap_get _ 13 (fun _ => rfl) l i j hi hj
theorem erows_app (a b : List Ev) : erows (a ++ b) = erows a ++ erows b := by simp [erows]
theorem erows_ones (l : List Ev) : ones (erows l) = true := by
  induction l with
  | nil => rfl
  | cons e l ih => rw [show e :: l = [e] ++ l from rfl, erows_app, ones, List.all_append, Bool.and_eq_true]; exact ⟨rfl, ih⟩
theorem Rd.ev {w : World} {no : List Nat} {A : Option Addr} {l : List Ev} (h : Rd w no A (erows l)) (hn : 0 < l.length) :
    ∃ b o, A = some ⟨b, o, none⟩ ∧ b ∉ no ∧ ∀ (i : Nat) (hi : i < l.length) (j : Nat) (v : Value), j < 13 → (l[i].cells)[j]? = some v → w.cell? ⟨b, o + i * 13 + j, none⟩ = some v := by
  obtain ⟨b, o, e, hb, hc⟩ := h.base (by rw [erows_length]; omega)
  refine ⟨b, o, e, hb, fun i hi j v hj hv => ?_⟩
  have := hc (i * 13 + j) v (by rw [erows_get l i j hi hj]; exact hv)
  rw [Nat.add_assoc]; exact this
/-- the next number -/
def nx (s : Int) : Int := IntKind.u64.wrap (s + 1)
/-- a list of events that is somebody's own -/
abbrev Evs (v : Value) (l : List Ev) (h : Hp) : Prop := OwnS 88 13 v l.length (erows l) h
abbrev Tt (t b : Nat) (v : Value) : Nat × Ch := (t, .cells [.pointer (some ⟨b, 0, none⟩), v] 129)
abbrev Tb (b : Nat) (l : List Value) : Nat × Ch := (b, .cells l 126)

set_option maxRecDepth 10000 in
theorem tell_ok (w : World) (t b : Nat) (x0 x1 x2 x3 x4 : Value) (seq : Int) (e : Ev) (evs : List Ev) (v : Value) (ke : Hp) (ho : Evs v evs ke) (hn : evs.length + 1 ≤ 1000000000000) :
    Does Try.prog 59 [.pointer (some ⟨t, 0, none⟩), .agg ⟨e.cells⟩] (Tt t b v :: Tb b [x0, x1, x2, x3, x4, .int .u64 seq] :: ke) w
      (fun _ hs => ∃ v' ke', hs = Tt t b v' :: Tb b [x0, x1, x2, x3, x4, .int .u64 (nx seq)] :: ke' ∧ Evs v' (evs ++ [e.num (nx seq)]) ke') := by
  obtain ⟨A, c, rfl⟩ := OwnS.sl ho
  obtain ⟨q0, q1, q2, q3, q4, q5, q6, q7, q8, q9, q10, q11, q12⟩ := e
  refine Does.less (Does.of (n := 35) Try.func59 rfl rfl rfl rfl ?_)
  refine .seq ((.region (.nw (.box (l := [.int .u64 q0, .int .i64 q1, .int .u64 q2, .int .u64 q3, .int .u64 q4, .int .u32 q5, .int .i64 q6, .int .i64 q7, .int .i64 q8, .int .u64 q9, .int .u64 q10, .int .i64 q11, .int .i64 q12]) rfl rfl) fun b3 => (.nil ?_))))
  refine .seq ((.region (.v (.move rfl) (.v (.nilCheck rfl) (.v (.fieldAddr rfl) (.v (.load (v := .pointer (some ⟨b, 0, none⟩)) rfl (.one rfl)) (.v (.nilCheck rfl) (.v (.fieldAddr rfl) (.v (.fieldAddr rfl) (.v (.load (v := .int .u64 seq) rfl (.one rfl)) (.v (.add rfl rfl) (.v (.nilCheck rfl) (.v (.fieldAddr rfl) (.v (.fieldAddr rfl) (.st (.storeL rfl rfl rfl) (.nil ?_))))))))))))))))
  refine .seq ((.region (.v (.move rfl) (.v (.nilCheck rfl) (.v (.fieldAddr rfl) (.v (.load (v := .pointer (some ⟨b, 0, none⟩)) rfl (.one rfl)) (.v (.nilCheck rfl) (.v (.fieldAddr rfl) (.v (.fieldAddr rfl) (.v (.load (v := .int .u64 (nx seq)) rfl (.one rfl)) (.v (.fieldAddr rfl) (.st (.storeL rfl rfl rfl) (.nil ?_)))))))))))))
  refine (.drawQ 10 [0, 1, 2, 3, 4, 5, 6, 7, 8, 9, 10] [(b3, .cells [.int .u64 (nx seq), .int .i64 q1, .int .u64 q2, .int .u64 q3, .int .u64 q4, .int .u32 q5, .int .i64 q6, .int .i64 q7, .int .i64 q8, .int .u64 q9, .int .u64 q10, .int .i64 q11, .int .i64 q12] 88), Tt t b (.slice A evs.length c)] (by intro p hp; simp at hp ⊢; rcases hp with rfl | rfl <;> simp) (by kernel_rfl) (by kernel_rfl) ?_)
  refine .v (fun _ f => .move rfl) (.v (fun _ f => .move rfl) (.v (fun _ f => .nilCheck rfl) (.v (fun _ f => .fieldAddr rfl) (.v (fun _ f => .load (v := .slice A evs.length c) rfl (.one (b := t) (T := 129) (hb := .sub f) rfl)) (.v (fun _ f => .loadA (vs := [.int .u64 (nx seq), .int .i64 q1, .int .u64 q2, .int .u64 q3, .int .u64 q4, .int .u32 q5, .int .i64 q6, .int .i64 q7, .int .i64 q8, .int .u64 q9, .int .u64 q10, .int .i64 q11, .int .i64 q12]) rfl (.whole (hb := .sub f)) rfl) ?_)))))
  refine .ef (.buildSlice (out := [.int .u64 (nx seq), .int .i64 q1, .int .u64 q2, .int .u64 q3, .int .u64 q4, .int .u32 q5, .int .i64 q6, .int .i64 q7, .int .i64 q8, .int .u64 q9, .int .u64 q10, .int .i64 q11, .int .i64 q12]) rfl (by decide) rfl rfl) (fun v hs' ⟨b, _, e⟩ f => by subst e; exact fun p hp => List.mem_cons_of_mem _ (f hp)) ?_
  rintro _ _ ⟨nb, rfl, rfl⟩
  refine .ef (.append (c := evs.length) (k := 1) (vs := erows evs) (news := [.int .u64 (nx seq), .int .i64 q1, .int .u64 q2, .int .u64 q3, .int .u64 q4, .int .u32 q5, .int .i64 q6, .int .i64 q7, .int .i64 q8, .int .u64 q9, .int .u64 q10, .int .i64 q11, .int .i64 q12]) (h := ke) (fr := (nb, .cells [.int .u64 (nx seq), .int .i64 q1, .int .u64 q2, .int .u64 q3, .int .u64 q4, .int .u32 q5, .int .i64 q6, .int .i64 q7, .int .i64 q8, .int .u64 q9, .int .u64 q10, .int .i64 q11, .int .i64 q12] 88) :: (b3, .cells [.int .u64 (nx seq), .int .i64 q1, .int .u64 q2, .int .u64 q3, .int .u64 q4, .int .u32 q5, .int .i64 q6, .int .i64 q7, .int .i64 q8, .int .u64 q9, .int .u64 q10, .int .i64 q11, .int .i64 q12] 88) :: Tt t b (.slice A evs.length c) :: [Tb b [x0, x1, x2, x3, x4, .int .u64 (nx seq)]]) rfl rfl ho (by exact List.perm_append_comm (l₁ := [_, _, _, _]))
    (fun w s => Src.cells rfl (fun j v hv => by rw [add_none, s.cell (b := nb) (T := 88) (l := [.int .u64 (nx seq), .int .i64 q1, .int .u64 q2, .int .u64 q3, .int .u64 q4, .int .u32 q5, .int .i64 q6, .int .i64 q7, .int .i64 q8, .int .u64 q9, .int .u64 q10, .int .i64 q11, .int .i64 q12]) (by simp)]; simpa using hv)) rfl rfl (by omega) (by omega)) (fun v hs' ⟨h', _, e⟩ _ => by subst e; intro p hp; simp at hp ⊢; rcases hp with rfl | rfl <;> simp) ?_
  rintro v' _ ⟨ke', o', rfl⟩
  obtain ⟨A', c', rfl⟩ := OwnS.sl o'
  refine .v (fun _ f => .nilCheck rfl) (.v (fun _ f => .fieldAddr rfl) (.st (.storeL rfl rfl rfl) (.nil ?_)))
  refine ⟨[], trivial, Tt t b (.slice A' (evs.length + 1) c') :: Tb b [x0, x1, x2, x3, x4, .int .u64 (nx seq)] :: ke', fun _ s => ?_, _, ke', rfl, ?_⟩
  · refine (s.perm (List.perm_append_comm (l₁ := ke'))).sub ?_
    exact .cons _ (.cons _ (.refl _))
  · unfold Evs
    rw [erows_app, List.length_append]
    exact o'
end Go.Proofs.Ytinmhhonpflojaa

/- (*feed.Publisher).Publish and the document's. -/
namespace Go.Proofs.Ytinmhhonpflojaa
open Go.V
set_option linter.unusedVariables false
set_option linter.unusedSimpArgs false

def trd (e : Ev) : Dt := ⟨1, 2, e.sd, e.pr, e.q, 0⟩
def trs (l : List Ev) : List Dt := (l.filter fun e => decide (e.kind = 3)).map trd
def trOk (l : List Ev) : Prop := ∀ e ∈ l, e.kind = 3 → (trd e).can
theorem trs_length (l : List Ev) : (trs l).length ≤ l.length := by
  unfold trs; rw [List.length_map]; exact List.length_filter_le _ _
theorem trs_take {l : List Ev} {i : Nat} (h : i < l.length) : trs (l.take (i + 1)) = trs (l.take i) ++ if l[i].kind = 3 then [trd l[i]] else [] := by
  rw [List.take_succ_eq_append_getElem h]
  unfold trs
  rw [List.filter_append, List.map_append]
  by_cases e : l[i].kind = 3 <;> simp [e]
abbrev okPub (bs ss : List Lv) (evs : List Ev) : Prop := Fit 1 bs ∧ Fit 2 ss ∧ trOk evs
def raw (p : Pc) (bs ss : List Lv) (evs : List Ev) : List Dt := trs evs ++ chg 1 p.bs bs ++ chg 2 p.ss ss
def Pc.next (p : Pc) (bs ss : List Lv) (evs : List Ev) : Pc := ⟨(p.seq + (raw p bs ss evs).length) % 18446744073709551616, bs, ss⟩
abbrev ubcells (depth seq : Int) (v1 v2 : Value) : List Value := [.int .i64 depth, .int .u64 seq, v1, v2]
abbrev Ub (b : Nat) (depth : Int) (p : Pc) (v1 v2 : Value) : Nat × Ch := (b, .cells (ubcells depth p.seq v1 v2) 105)
/-- a publisher in memory -/
def PubH (b : Nat) (depth : Int) (p : Pc) (hs : Hp) : Prop := ∃ v1 v2 k1 k2, hs = Ub b depth p v1 v2 :: (k1 ++ k2) ∧ LOwn v1 p.bs k1 ∧ LOwn v2 p.ss k2
/-- what a Publish leaves and tells -/
noncomputable def Pc.pub (p : Pc) (depth : Nat) (bs ss : List Lv) (evs : List Ev) : Option (Pc × List Dt) :=
  open Classical in if okPub bs ss evs then some (p.next (bs.take depth) (ss.take depth) evs, num p.seq (raw p (bs.take depth) (ss.take depth) evs)) else none
theorem Pc.pub_some {p : Pc} {depth : Nat} {bs ss : List Lv} {evs : List Ev} (h : okPub bs ss evs) : p.pub depth bs ss evs = some (p.next (bs.take depth) (ss.take depth) evs, num p.seq (raw p (bs.take depth) (ss.take depth) evs)) := by
  unfold Pc.pub; rw [if_pos h]
theorem Pc.pub_none {p : Pc} {depth : Nat} {bs ss : List Lv} {evs : List Ev} (h : ¬ okPub bs ss evs) : p.pub depth bs ss evs = none := by
  unfold Pc.pub; rw [if_neg h]
structure TrS where
  i : Nat
  v : Value
  h : Hp
structure TrS.I (evs : List Ev) (x : TrS) : Prop where
  le : x.i ≤ evs.length
  o : DOwn x.v (trs (evs.take x.i)) x.h
  ok : trOk (evs.take x.i)
theorem TrS.I.step {evs : List Ev} {x : TrS} (h : TrS.I evs x) (hi : x.i < evs.length) {e : Ev} (he : evs[x.i] = e) (hk : e.kind = 3 → (trd e).can) : trOk (evs.take (x.i + 1)) := by
  rw [List.take_succ_eq_append_getElem hi, he]
  intro y hy hk'
  rcases List.mem_append.1 hy with hy | hy
  · exact h.ok y hy hk'
  · have : y = e := by simpa using hy
    subst this; exact hk hk'
theorem trOk_full {evs : List Ev} {i : Nat} (h : ¬ i < evs.length) (k : trOk (evs.take i)) : trOk evs := by
  rwa [List.take_of_length_le (by omega)] at k
theorem trOk_not {evs : List Ev} {i : Nat} (hi : i < evs.length) {e : Ev} (he : evs[i] = e) (hk : e.kind = 3) (h : ¬ (trd e).can) : ¬ trOk evs := fun k => h (he ▸ k _ (List.getElem_mem hi) (by rw [he]; exact hk))
/-- numbers are being given -/
structure NmS where
  i : Nat
  h : Hp
  v : Value
def numd (s : Int) (l : List Dt) (i : Nat) : List Dt := num s (l.take i) ++ l.drop i
theorem num_app (s : Int) : ∀ a b : List Dt, num s (a ++ b) = num s a ++ num ((s + a.length) % 18446744073709551616) b
  | [], b => by
    cases b with
    | nil => rfl
    | cons x l => simp [num]
  | x :: a, b => by
    have e : ((s + 1) % 18446744073709551616 + (a.length : Int)) % 18446744073709551616 = (s + ((a.length + 1 : Nat) : Int)) % 18446744073709551616 := by omega
    simp only [List.cons_append, num, num_app _ a b, e, List.length_cons]
theorem numd_succ (s : Int) (l : List Dt) (i : Nat) (h : i < l.length) : numd s l (i + 1) = (numd s l i).set i { l[i] with s := (s + i + 1) % 18446744073709551616 } := by
  unfold numd
  have hl : (num s (l.take i)).length = i := by rw [num_length, List.length_take]; omega
  rw [List.take_succ_eq_append_getElem h, num_app, List.drop_eq_getElem_cons h, List.set_append_right _ _ (by omega), hl, Nat.sub_self, List.set_cons_zero, List.append_assoc]
  congr 1
  rw [List.length_take, Nat.min_eq_left (by omega)]
  have e : ((s + (i : Int)) % 18446744073709551616 + 1) % 18446744073709551616 = (s + i + 1) % 18446744073709551616 := by omega
  simp [num, e]
theorem numd_length (s : Int) (l : List Dt) (i : Nat) : (numd s l i).length = l.length := by
  unfold numd; rw [List.length_append, num_length, List.length_take, List.length_drop]; omega
theorem numd_get (s : Int) (l : List Dt) (i : Nat) (h : i < l.length) : (numd s l i)[i]'(by rw [numd_length]; exact h) = l[i] := by
  have hl : (num s (l.take i)).length = i := by rw [num_length, List.length_take]; omega
  unfold numd
  rw [List.getElem_append_right (by omega)]
  simp [hl]
theorem drows_set {l : List Dt} {i : Nat} {q : Int} (h : i < l.length) : drows (l.set i { l[i] with s := q }) = (drows l).set (i * 6) (.int .u64 q) := by
  apply List.ext_getElem?
  intro k
  by_cases hk : k < l.length * 6
  · have e : k = k / 6 * 6 + k % 6 := by omega
    have hq : k / 6 < l.length := by omega
    have hr : k % 6 < 6 := Nat.mod_lt _ (by omega)
    rw [e, drows_get _ _ _ (by simpa using hq) hr, List.getElem?_set, List.getElem_set, drows_get _ _ _ hq hr, drows_length]
    by_cases e1 : i = k / 6
    · subst e1
      rw [if_pos rfl]
      by_cases e2 : k % 6 = 0
      · rw [if_pos (by omega), if_pos (by omega), e2]; rfl
      · rw [if_neg (by omega)]
        have : ∀ r, r < 6 → r ≠ 0 → (Dt.cells { l[k / 6] with s := q })[r]? = (l[k / 6].cells)[r]? := by
          intro r h1 h2
          match r, h1, h2 with
          | 1, _, _ => rfl
          | 2, _, _ => rfl
          | 3, _, _ => rfl
          | 4, _, _ => rfl
          | 5, _, _ => rfl
        exact this _ hr e2
    · rw [if_neg e1, if_neg (by omega)]
  · rw [List.getElem?_eq_none (by rw [drows_length, List.length_set]; omega), List.getElem?_eq_none (by rw [List.length_set, drows_length]; omega)]

theorem numd_zero (s : Int) (l : List Dt) : numd s l 0 = l := by simp [numd, num]
theorem numd_full (s : Int) (l : List Dt) : numd s l l.length = num s l := by simp [numd]
theorem down_set {l : List Dt} {b o c : Nat} {lc : List Value} {i : Nat} {q : Int} (k : DOwn (.slice (some ⟨b, o, none⟩) l.length c) l [(b, .cells lc 24)]) (h : i < l.length) :
    DOwn (.slice (some ⟨b, o, none⟩) l.length c) (l.set i { l[i] with s := q }) [(b, .cells (lc.set (o + i * 6) (.int .u64 q)) 24)] := by
  have := OwnS.setAt (i := i * 6) (v := .int .u64 q) k (by omega)
  unfold DOwn
  rw [drows_set h, List.length_set]; exact this
structure PbS where
  v1 : Value
  v2 : Value
  k1 : Hp
  k2 : Hp
  v : Value
  h : Hp
set_option maxRecDepth 20000 in
set_option maxHeartbeats 1000000 in
theorem publish_ok (w : World) (b depth : Nat) (hd : depth ≤ 64) (p : Pc) (hq : 0 ≤ p.seq ∧ p.seq < 18446744073709551616) (v1 v2 : Value) (k1 k2 : Hp) (h1 : LOwn v1 p.bs k1) (h2 : LOwn v2 p.ss k2) (B1 B2 Be : Option Addr) (c1 c2 ce : Nat) (bs ss : List Lv) (evs : List Ev)
    (r1 : Rd w (bl (Ub b depth p v1 v2 :: (k1 ++ k2))) B1 (lrows bs)) (r2 : Rd w (bl (Ub b depth p v1 v2 :: (k1 ++ k2))) B2 (lrows ss)) (re : Rd w (bl (Ub b depth p v1 v2 :: (k1 ++ k2))) Be (erows evs)) (hc1 : bs.length ≤ c1) (hc2 : ss.length ≤ c2)
    (hb : bs.length + ss.length + evs.length ≤ 4100000) (hp : p.bs.length + p.ss.length ≤ 1000) :
    Does Try.prog 18 [.pointer (some ⟨b, 0, none⟩), .slice B1 bs.length c1, .slice B2 ss.length c2, .slice Be evs.length ce] (Ub b depth p v1 v2 :: (k1 ++ k2)) w
      (fun v hs => match p.pub depth bs ss evs with
        | none => v = .tuple ⟨[.slice none 0 0, .int .i64 1]⟩ ∧ hs = Ub b depth p v1 v2 :: (k1 ++ k2)
        | some (p', ms) => ∃ vm hm hp, v = .tuple ⟨[vm, .int .i64 0]⟩ ∧ DOwn vm ms hm ∧ hs = hp ++ hm ∧ PubH b depth p' hp) := by
  obtain ⟨A1, a1, rfl⟩ := lown_sl h1
  obtain ⟨A2, a2, rfl⟩ := lown_sl h2
  refine Does.less (Does.of (n := 120) Try.func18 rfl rfl rfl rfl ?_)
  refine .seq ((.region (.v (.assign rfl) (.v (.assign rfl) (.nil ?_)))))
  refine .seq (.seq ((.region (.v (.move rfl) (.pc (v := .bool (decide (Fit 1 bs))) rfl rfl (fun w s => fit_ok w 1 B1 bs.length c1 bs (r1.keep0 s) rfl (by omega)) (.v (.not rfl) (.v (.move rfl) (.or (b2 := !decide (Fit 2 ss)) 18 21 3 3 rfl rfl (fun g1 => .v (.move rfl) (.pc (v := .bool (decide (Fit 2 ss))) rfl rfl (fun w s => fit_ok w 2 B2 ss.length c2 ss (r2.keep0 s) rfl (by omega)) (.v (.not rfl) (.nil ⟨rfl, rfl, rfl, rfl⟩)))) (.nil ?_)))))))))
  refine .cond rfl (fun h1 => ?_) (fun h1 => .skip ?_)
  · simp only [Bool.and_eq_true, Bool.or_eq_true, Bool.not_eq_true', Bool.and_eq_false_iff, Bool.or_eq_false_iff, Bool.not_eq_false', decide_eq_true_eq, decide_eq_false_iff_not, Bool.false_eq_true, false_iff] at h1
    have e : p.pub depth bs ss evs = none := Pc.pub_none fun h => by rcases h1 with h1 | h1; exact h1 h.1; exact h1 h.2.1
    rw [e]
    refine .seq ((.region (.v (.assign rfl) (.v (.assign rfl) (.nil ?_)))))
    exact .ret ⟨[_, _], ⟨rfl, rfl, trivial⟩, _, fun _ s => s, rfl, rfl⟩
  · simp only [Bool.and_eq_true, Bool.or_eq_true, Bool.not_eq_true', Bool.and_eq_false_iff, Bool.or_eq_false_iff, Bool.not_eq_false', decide_eq_true_eq, decide_eq_false_iff_not, Bool.false_eq_true, false_iff] at h1
    refine .seq ((.region (.v (.assign rfl) (.nil ?_))))
    refine .seq (.seq ((.region (.v (.move rfl) (.v (.len rfl) (.v (.move rfl) (.nil ?_)))))))
    refine .block (.loop (X := TrS) (fun x => [(0, .pointer (some ⟨b, 0, none⟩)), (1, .slice B1 bs.length c1), (2, .slice B2 ss.length c2), (10, x.v), (23, .slice Be evs.length ce), (24, .int .i64 evs.length), (25, .int .i64 x.i)]) (fun x => x.h ++ (Ub b depth p (.slice A1 p.bs.length a1) (.slice A2 p.ss.length a2) :: (k1 ++ k2))) (TrS.I evs) (fun x => evs.length - x.i) ⟨0, .slice none 0 0, []⟩ ⟨by simp, OwnS.nil _ _, fun e he => by simp at he⟩ (.cons rfl (.cons rfl (.cons rfl (.cons rfl (.cons rfl (.cons rfl (.cons rfl (.nil _)))))))) (fun _ s => s) ?_)
    intro x hI
    have hle := hI.le
    have htl := trs_length (evs.take x.i)
    rw [List.length_take] at htl
    refine .seq ((.region (.v (.lss rfl rfl) (.nil ?_))))
    refine .seq (.cond_dec rfl (fun h2 => .skip ?_) (fun h2 => .exit ?_))
    · have hil : x.i < evs.length := by omega
      obtain ⟨be, oe, rfl, hc⟩ := Rd.recs Ev.cells 13 (fun _ => rfl) re (by omega) (by omega)
      have q := fun hs => recAt Ev.cells 13 (fun _ => rfl) (z := (x.i : Int)) (hc hs) hil
      have hst := trs_take hil
      obtain ⟨e, he⟩ : ∃ e, evs[x.i] = e := ⟨_, rfl⟩
      rw [he] at q hst
      refine .seq (.block (.seq ((.region (.v (.indexAddr rfl rfl (by omega) (by omega)) (.v (.loadA (vs := e.cells) rfl (q _) rfl) (.nw .alloc fun b12 => (.st (.sw rfl rfl) (.nil ?_)))))))))
      refine .seq (.seq ((.region (.v (.fieldAddr rfl) (.v (.load (v := .int .i64 e.kind) rfl (.one rfl)) (.v (.nei rfl rfl) (.nil ?_)))))))
      refine .cond_dec rfl (fun h3 => .exit ?_) (fun h3 => .skip ?_)
      · refine .region (.v (.addi rfl rfl (by omega)) (.v (.move rfl) (.nil ?_)))
        rw [if_neg (by omega), List.append_nil] at hst
        refine ⟨⟨x.i + 1, x.v, x.h⟩, ⟨by show x.i + 1 ≤ _; omega, ?_, hI.step hil he (fun hk => absurd hk (by omega))⟩, by show evs.length - (x.i + 1) < _; omega, .cons rfl (.cons rfl (.cons rfl (.cons rfl (.cons rfl (.cons rfl (.cons rfl (.nil _))))))), fun _ s => s.take⟩
        rw [hst]; exact hI.o
      · have hk : e.kind = 3 := by omega
        refine .seq ((.region (.v (.fieldAddr rfl) (.v (.load (v := .int .i64 e.sd) rfl (.one rfl)) (.v (.fieldAddr rfl) (.v (.load (v := .int .i64 e.pr) rfl (.one rfl)) (.v (.fieldAddr rfl) (.v (.load (v := .int .u64 e.q) rfl (.one rfl)) (.v (.build (out := (trd e).cells) rfl rfl) (.nw .alloc fun b13 => (.st (.sw rfl rfl) (.nil ?_))))))))))))
        refine .seq (.seq ((.region (.v (.loadA (vs := (trd e).cells) rfl .whole rfl) (.pc (v := .bool (decide (trd e).can)) rfl rfl (fun w s => canBe_ok w 1 2 e.sd e.pr e.q 0) (.v (.not rfl) (.nil ?_)))))))
        refine .cond rfl (fun h4 => ?_) (fun h4 => .skip ?_)
        · simp only [Bool.and_eq_true, Bool.or_eq_true, Bool.not_eq_true', Bool.and_eq_false_iff, Bool.or_eq_false_iff, Bool.not_eq_false', decide_eq_true_eq, decide_eq_false_iff_not, Bool.false_eq_true, false_iff] at h4
          have e1 : p.pub depth bs ss evs = none := Pc.pub_none fun h => trOk_not hil he hk h4 h.2.2
          rw [e1]
          refine .seq ((.region (.v (.assign rfl) (.v (.assign rfl) (.nil ?_)))))
          exact .ret ⟨[_, _], ⟨rfl, rfl, trivial⟩, _, fun _ s => s.take, rfl, rfl⟩
        · simp only [Bool.and_eq_true, Bool.or_eq_true, Bool.not_eq_true', Bool.and_eq_false_iff, Bool.or_eq_false_iff, Bool.not_eq_false', decide_eq_true_eq, decide_eq_false_iff_not, Bool.false_eq_true, false_iff] at h4
          refine .region (.v (.move rfl) (.v (.loadA (vs := (trd e).cells) rfl .whole rfl) (.push (vs := drows (trs (evs.take x.i))) (c := (trs (evs.take x.i)).length) (oc := (trd e).cells) rfl rfl hI.o rfl rfl rfl (by omega) (by omega) ?_)))
          intro b9 v' h' k'
          refine .v (.assign rfl) (.nil ?_)
          refine .region (.v (.addi rfl rfl (by omega)) (.v (.move rfl) (.nil ?_)))
          rw [if_pos hk] at hst
          refine ⟨⟨x.i + 1, v', h'⟩, ⟨by show x.i + 1 ≤ _; omega, ?_, hI.step hil he (fun _ => h4)⟩, by show evs.length - (x.i + 1) < _; omega, .cons rfl (.cons rfl (.cons rfl (.cons rfl (.cons rfl (.cons rfl (.cons rfl (.nil _))))))), fun _ s => s.take⟩
          unfold DOwn
          rw [hst, List.length_append, drows_app]; simpa [drows] using k'
    · have hok : okPub bs ss evs := ⟨h1.1, h1.2, trOk_full (by omega) hI.ok⟩
      have hfull : evs.take x.i = evs := List.take_of_length_le (by omega)
      have ho := hI.o
      rw [hfull] at ho
      rw [Pc.pub_some hok]
      obtain ⟨i0, v0, h0⟩ := x
      dsimp only at ho ⊢
      clear hI hfull hle htl
      have htl := trs_length evs
      refine .seq ((.drawP [0, 1, 2, 3, 4, 5, 6, 7, 8, 10, 11, 12, 13, 14, 15, 16, 17, 18, 9, 19, 20, 21] [Ub b depth p (.slice A1 p.bs.length a1) (.slice A2 p.ss.length a2)] (by intro y hy; simp at hy; subst hy; simp) (by kernel_rfl) (by kernel_rfl) ?_))
      refine .v (fun _ f => .move rfl) (.v (fun _ f => .move rfl) (.v (fun _ f => .len rfl) (.v (fun _ f => .move rfl) (.v (fun _ f => .nilCheck rfl) (.v (fun _ f => .fieldAddr rfl) (.v (fun _ f => .load (v := .int .i64 depth) rfl (.one (hb := .sub f) rfl)) (.v (fun _ f => .min2 rfl rfl) (.v (fun _ f => .slHi rfl rfl (by omega) (by omega)) (.v (fun _ f => .move rfl) (.v (fun _ f => .move rfl) (.v (fun _ f => .len rfl) (.v (fun _ f => .move rfl) (.v (fun _ f => .nilCheck rfl) (.v (fun _ f => .fieldAddr rfl) (.v (fun _ f => .load (v := .int .i64 depth) rfl (.one (hb := .sub f) rfl)) (.v (fun _ f => .min2 rfl rfl) (.v (fun _ f => .slHi rfl rfl (by omega) (by omega)) ?_)))))))))))))))))
      refine .cl rfl rfl (fun w s => lclone_ok w B1 _ c1 (bs.take depth) (by rw [lrows_take]; exact (r1.keep0 s).take _) (by rw [List.length_take]; omega) (by omega)) ?_
      intro n1 q1 o1
      refine .cl rfl rfl (fun w s => lclone_ok w B2 _ c2 (ss.take depth) (by rw [lrows_take]; exact (r2.keep0 s).take _) (by rw [List.length_take]; omega) (by omega)) ?_
      intro n2 q2 o2
      obtain ⟨N1, d1, rfl⟩ := lown_sl o1
      obtain ⟨N2, d2, rfl⟩ := lown_sl o2
      refine .v (fun _ f => .assign rfl) (.v (fun _ f => .assign rfl) (.nil ?_))
      have t1 : (bs.take depth).length ≤ 64 := by rw [List.length_take]; omega
      have t2 : (ss.take depth).length ≤ 64 := by rw [List.length_take]; omega
      generalize bs.take depth = nb at o1 t1 ⊢
      generalize ss.take depth = ns at o2 t2 ⊢
      have cl1 := chg_length 1 p.bs nb
      have cl2 := chg_length 2 p.ss ns
      refine .seq ((.region (.v (.move rfl) (.v (.move rfl) (.v (.nilCheck rfl) (.v (.fieldAddr rfl) (.v (.fieldAddr rfl) (.v (.load (v := .slice A1 p.bs.length a1) rfl (.one rfl)) (.v (.move rfl) ?_)))))))))
      refine .ef (.call0 rfl rfl fun w s => changes_ok w 1 A1 N1 a1 d1 p.bs nb (OwnS.rd ‹LOwn (.slice A1 p.bs.length a1) p.bs k1› s (no := []) (fun y hy => by simp [hy]) (by simp)) (OwnS.rd o1 s (no := []) (fun y hy => by simp [hy]) (by simp)) (OwnS.cap_ ‹LOwn (.slice A1 p.bs.length a1) p.bs k1›).2 (OwnS.cap_ o1).2 2000 (by omega) (by omega)) ?_
      rintro vc _ ⟨hc1', oc1, rfl⟩
      refine .appT (vs := drows (trs evs)) (c := (trs evs).length) (k := (chg 1 p.bs nb).length) (news := drows (chg 1 p.bs nb)) rfl rfl ho (fun w s => oc1.src s (fun y hy => by simp [hy]) (by omega)) (drows_length _) (drows_ones _) (by omega) (by omega) ?_
      intro va ha oa
      refine .v (.assign rfl) (.nil ?_)
      refine .seq ((.region (.v (.move rfl) (.v (.move rfl) (.v (.nilCheck rfl) (.v (.fieldAddr rfl) (.v (.fieldAddr rfl) (.v (.load (v := .slice A2 p.ss.length a2) rfl (.one rfl)) (.v (.move rfl) ?_)))))))))
      refine .ef (.call0 rfl rfl fun w s => changes_ok w 2 A2 N2 a2 d2 p.ss ns (OwnS.rd ‹LOwn (.slice A2 p.ss.length a2) p.ss k2› s (no := []) (fun y hy => by simp [hy]) (by simp)) (OwnS.rd o2 s (no := []) (fun y hy => by simp [hy]) (by simp)) (OwnS.cap_ ‹LOwn (.slice A2 p.ss.length a2) p.ss k2›).2 (OwnS.cap_ o2).2 2000 (by omega) (by omega)) ?_
      rintro vc2 _ ⟨hc2', oc2, rfl⟩
      refine .appT (vs := drows (trs evs) ++ drows (chg 1 p.bs nb)) (c := (trs evs).length + (chg 1 p.bs nb).length) (k := (chg 2 p.ss ns).length) (news := drows (chg 2 p.ss ns)) rfl rfl oa (fun w s => oc2.src s (fun y hy => by simp [hy]) (by omega)) (drows_length _) (drows_ones _) (by omega) (by omega) ?_
      intro vb' hb' ob
      refine .v (.assign rfl) (.nil ?_)
      have obr : DOwn vb' (raw p nb ns evs) hb' := by
        unfold DOwn raw
        rw [List.length_append, List.length_append, drows_app, drows_app]; exact ob
      have hrl : (raw p nb ns evs).length ≤ 4110000 := by unfold raw; rw [List.length_append, List.length_append]; omega
      obtain ⟨M, m, rfl⟩ := OwnS.slice obr
      generalize hraw : raw p nb ns evs = rw_ at obr hrl ⊢
      clear ob oa ho oc1 oc2
      refine .keep (hb' ++ (Ub b depth p (.slice A1 p.bs.length a1) (.slice A2 p.ss.length a2) :: (q1 ++ q2))) ?_
      refine .seq (.seq ((.region (.v (.move rfl) (.v (.len rfl) (.v (.move rfl) (.nil ?_)))))))
      refine .block (.loop (X := Nat × Hp) (fun x => [(0, .pointer (some ⟨b, 0, none⟩)), (1, .slice N1 nb.length d1), (2, .slice N2 ns.length d2), (10, .slice M rw_.length m), (86, .int .i64 rw_.length), (87, .int .i64 x.1)]) (fun x => x.2 ++ (Ub b depth ⟨(p.seq + x.1) % 18446744073709551616, p.bs, p.ss⟩ (.slice A1 p.bs.length a1) (.slice A2 p.ss.length a2) :: (q1 ++ q2)))
        (fun x => x.1 ≤ rw_.length ∧ OwnS 24 6 (.slice M rw_.length m) rw_.length (drows (numd p.seq rw_ x.1)) x.2) (fun x => rw_.length - x.1) ⟨0, hb'⟩ ⟨by simp, by rw [numd_zero]; exact obr⟩ (.cons rfl (.cons rfl (.cons rfl (.cons rfl (.cons rfl (.cons rfl (.nil _))))))) (fun _ s => ?_) ?_)
      · have e0 : (p.seq + ((0 : Nat) : Int)) % 18446744073709551616 = p.seq := by omega
        show Sat _ _ (hb' ++ (Ub b depth ⟨(p.seq + ((0 : Nat) : Int)) % 18446744073709551616, p.bs, p.ss⟩ _ _ :: _)) _
        rw [e0]; exact s
      rintro ⟨i, h⟩ ⟨hi, k'⟩
      dsimp only at hi k' ⊢
      refine .seq ((.region (.v (.lss rfl rfl) (.nil ?_))))
      refine .seq (.cond_dec rfl (fun h5 => .skip ?_) (fun h5 => .exit ?_))
      · have hil : i < rw_.length := by omega
        obtain ⟨bm, om, lm, rfl, -, rfl, hcm, hlm, hvm⟩ := k'.some_ (by omega)
        have hw : IntKind.u64.wrap ((p.seq + (i : Int)) % 18446744073709551616 + 1) = (p.seq + ((i + 1 : Nat) : Int)) % 18446744073709551616 := by rw [u64w]; omega
        refine .seq (.block (.seq ((.region (.v (.move rfl) (.v (.assign rfl) (.nil ?_)))))))
        refine .seq ((.region (.v (.move rfl) (.v (.nilCheck rfl) (.v (.fieldAddr rfl) (.v (.fieldAddr rfl) (.v (.load (v := .int .u64 ((p.seq + (i : Int)) % 18446744073709551616)) rfl (.one rfl)) (.v (.add rfl rfl) (.v (.nilCheck rfl) (.v (.fieldAddr rfl) (.v (.fieldAddr rfl) (.st (.storeL rfl rfl rfl) (.nil ?_)))))))))))))
        rw [hw]
        refine .region (.v (.move rfl) (.v (.move rfl) (.v (.move rfl) (.v (.nilCheck rfl) (.v (.fieldAddr rfl) (.v (.fieldAddr rfl) (.v (.load (v := .int .u64 ((p.seq + ((i + 1 : Nat) : Int)) % 18446744073709551616)) rfl (.one rfl)) (.v (.indexAddr rfl rfl (by omega) (by omega)) (.v (.fieldAddr rfl) (.st (.store (b := bm) (l := lm) rfl rfl rfl (by omega)) (.nil ?_)))))))))))
        refine .region (.v (.addi rfl rfl (by omega)) (.v (.move rfl) (.nil ?_)))
        have hn : numd p.seq rw_ (i + 1) = (numd p.seq rw_ i).set i { (numd p.seq rw_ i)[i]'(by rw [numd_length]; exact hil) with s := (p.seq + ((i + 1 : Nat) : Int)) % 18446744073709551616 } := by
          rw [numd_succ _ _ _ hil, numd_get _ _ _ hil]
          have e : (p.seq + (i : Int) + 1) % 18446744073709551616 = (p.seq + ((i + 1 : Nat) : Int)) % 18446744073709551616 := by omega
          rw [e]
        have k2 : DOwn (.slice (some ⟨bm, om, none⟩) (numd p.seq rw_ i).length m) (numd p.seq rw_ i) [(bm, .cells lm 24)] := by
          unfold DOwn; rw [numd_length]; exact k'
        have k3 := down_set (i := i) (q := (p.seq + ((i + 1 : Nat) : Int)) % 18446744073709551616) k2 (by rw [numd_length]; exact hil)
        rw [← hn] at k3
        unfold DOwn at k3
        rw [numd_length, numd_length] at k3
        refine ⟨⟨i + 1, _⟩, ⟨by show i + 1 ≤ _; omega, k3⟩, by show rw_.length - (i + 1) < _; omega, .cons rfl (.cons rfl (.cons rfl (.cons rfl (.cons rfl (.cons rfl (.nil _)))))), fun _ s => ?_⟩
        rw [Int.toNat_natCast] at s
        exact s
      · have ei : i = rw_.length := by omega
        subst ei
        rw [numd_full] at k'
        refine .seq ((.region (.v (.move rfl) (.v (.move rfl) (.v (.move rfl) (.v (.move rfl) (.v (.nilCheck rfl) (.v (.fieldAddr rfl) (.v (.fieldAddr rfl) (.st (.storeL rfl rfl rfl) (.v (.nilCheck rfl) (.v (.fieldAddr rfl) (.v (.fieldAddr rfl) (.st (.storeL rfl rfl rfl) (.nil ?_)))))))))))))))
        refine .seq ((.region (.v (.move rfl) (.v (.assign rfl) (.v (.assign rfl) (.nil ?_))))))
        refine .ret ⟨[_, _], ⟨rfl, rfl, trivial⟩, (Ub b depth (p.next nb ns evs) (.slice N1 nb.length d1) (.slice N2 ns.length d2) :: (q1 ++ q2)) ++ h, fun _ s => ?_, ?_⟩
        · unfold Pc.next; rw [hraw]; exact Sat.take s
        · refine ⟨_, h, _, rfl, ?_, rfl, _, _, q1, q2, rfl, o1, o2⟩
          unfold DOwn; rw [num_length]; exact k'
end Go.Proofs.Ytinmhhonpflojaa

/- (*rules.Book).Depth: the levels of a side. -/
namespace Go.Proofs.Ytinmhhonpflojaa
open Go.V
set_option linter.unusedVariables false
set_option linter.unusedSimpArgs false

/-- an order comes to the last level -/
def bump (out : List Lv) (v : Int) : List Lv := match out.getLast? with
  | none => out
  | some u => out.dropLast ++ [⟨u.p, (u.q + v) % 18446744073709551616, u.c + 1⟩]
def newp (out : List Lv) (p : Int) : Bool := match out.getLast? with
  | none => true
  | some u => decide (u.p ≠ p)
/-- the levels, at most so many -/
def dps (most : Int) : List Lv → List Ord → List Lv
  | out, [] => out
  | out, o :: l => if newp out o.pr then (if (out.length : Int) ≥ most then out else dps most (bump (out ++ [⟨o.pr, 0, 0⟩]) o.v) l) else dps most (bump out o.v) l
theorem bump_app (pre : List Lv) (u : Lv) (v : Int) : bump (pre ++ [u]) v = pre ++ [⟨u.p, (u.q + v) % 18446744073709551616, u.c + 1⟩] := by unfold bump; simp
theorem newp_app (pre : List Lv) (u : Lv) (p : Int) : newp (pre ++ [u]) p = decide (u.p ≠ p) := by unfold newp; simp
theorem lset1 (pre : List Lv) (u : Lv) (q : Int) : (lrows (pre ++ [u])).set (pre.length * 3 + 1) (.int .u64 q) = lrows (pre ++ [⟨u.p, q, u.c⟩]) := by
  have e : ∀ x : Lv, lrows (pre ++ [x]) = lrows pre ++ x.cells := fun x => by rw [lrows_app]; simp [lrows]
  rw [e, e, List.set_append_right _ _ (by rw [lrows_length]; omega), lrows_length, show pre.length * 3 + 1 - pre.length * 3 = 1 from by omega]
  rfl
theorem lset2 (pre : List Lv) (u : Lv) (c : Int) : (lrows (pre ++ [u])).set (pre.length * 3 + 2) (.int .i64 c) = lrows (pre ++ [⟨u.p, u.q, c⟩]) := by
  have e : ∀ x : Lv, lrows (pre ++ [x]) = lrows pre ++ x.cells := fun x => by rw [lrows_app]; simp [lrows]
  rw [e, e, List.set_append_right _ _ (by rw [lrows_length]; omega), lrows_length, show pre.length * 3 + 2 - pre.length * 3 = 2 from by omega]
  rfl
structure DpX where
  i : Nat
  out : List Lv
  v : Value
  h : Hp
structure DpI (most : Int) (l : List Ord) (x : DpX) : Prop where
  le : x.i ≤ l.length
  o : LOwn x.v x.out x.h
  e : dps most x.out (l.drop x.i) = dps most [] l
  n : x.out.length ≤ x.i
  c : ∀ u ∈ x.out, 0 ≤ u.c ∧ u.c ≤ x.i
abbrev Rob (b : Nat) (o : Ord) : Nat × Ch := (b, .cells o.cells 134)
structure DmX where
  pre : List Lv
  u : Lv
  v : Value
  h : Hp
structure DmI (most : Int) (l : List Ord) (i : Nat) (ov : Int) (x : DmX) : Prop where
  o : LOwn x.v (x.pre ++ [x.u]) x.h
  e : dps most (bump (x.pre ++ [x.u]) ov) (l.drop (i + 1)) = dps most [] l
  n : (x.pre ++ [x.u]).length ≤ i + 1
  c : ∀ y ∈ x.pre ++ [x.u], 0 ≤ y.c ∧ y.c ≤ i
set_option maxRecDepth 20000 in
set_option maxHeartbeats 2000000 in
theorem Depth_ok (w : World) (b o : Nat) (sd most : Int) (hp : (if sd = 1 then some (⟨b, 2, none⟩ : Addr) else if sd = 2 then some ⟨b, 3, none⟩ else none) = some ⟨b, o, none⟩) (A : Option Addr) (c : Nat) (l : List Ord) (hld : Rd w [] (some ⟨b, o, none⟩) [.slice A l.length c]) (hA : Rd w [] A (rows l)) (hb : l.length ≤ 1000000) :
    Does Try.prog 32 [.pointer (some ⟨b, 0, none⟩), .int .i64 sd, .int .i64 most] [] w (fun v hs => LOwn v (dps most [] l) hs) := by
  have hsd := fun w' => side_ok w' b sd
  rw [hp] at hsd
  refine Does.less (Does.of (n := 73) Try.func32 rfl rfl rfl rfl ?_)
  refine .seq ((.region (.v (.assign rfl) (.nil ?_))))
  refine .seq ((.region (.v (.move rfl) (.v (.move rfl) (.pc (v := .pointer (some ⟨b, o, none⟩)) rfl rfl (fun w _ => hsd w) (.v (.assign rfl) (.nil ?_)))))))
  refine .seq (.seq ((.region (.v (.move rfl) (.v (.eql_ptr_nil rfl rfl) (.nil ?_))))))
  refine .cond_false rfl (.skip ?_)
  refine .seq ((.region (.v (.assign rfl) (.nil ?_))))
  refine .seq (.seq ((.region (.v (.move rfl) (.v (.nilCheck rfl) (.v (.load (v := .slice A l.length c) rfl (Rd.whole hld)) (.v (.len rfl) (.v (.move rfl) (.nil ?_)))))))))
  refine .block (.loop (X := DpX) (fun x => [(2, .int .i64 most), (8, x.v), (19, .slice A l.length c), (20, .int .i64 l.length), (21, .int .i64 x.i)]) (fun x => x.h) (DpI most l) (fun x => l.length - x.i) ⟨0, [], .slice none 0 0, []⟩ ⟨by simp, OwnS.nil _ _, rfl, by simp, by simp⟩ (.cons rfl (.cons rfl (.cons rfl (.cons rfl (.cons rfl (.nil _)))))) (fun _ s => s) ?_)
  rintro ⟨i, out, v, h⟩ ⟨hi, ho, he, hn, hc⟩
  dsimp only at hi ho he hn hc ⊢
  refine .seq ((.region (.v (.lss rfl rfl) (.nil ?_))))
  refine .seq (.cond_dec rfl (fun h2 => .skip ?_) (fun h2 => .exit ?_))
  · have hil : i < l.length := by omega
    obtain ⟨bq, oq, rfl, hq⟩ := Rd.recs Ord.cells 7 (fun _ => rfl) hA (by omega) (by omega)
    have hrec := fun hs => recAt Ord.cells 7 (fun _ => rfl) (z := (i : Int)) (hq hs) hil
    rw [List.drop_eq_getElem_cons hil] at he
    generalize l[i] = od at *
    obtain ⟨V, vc, rfl⟩ := lown_sl ho
    refine .seq (.block (.seq ((.region (.v (.indexAddr rfl rfl (by omega) (by omega)) (.v (.loadA (vs := od.cells) rfl (hrec _) rfl) (.nw .alloc fun b10 => (.st (.sw rfl rfl) (.nil ?_)))))))))
    refine .seq ((.region (.v (.move rfl) (.v (.len rfl) (.v (.assign rfl) (.nil ?_))))))
    refine .mid (X := DmX) (fun z => [(2, .int .i64 most), (8, z.v), (10, .pointer (some ⟨b10, 0, none⟩)), (11, .int .i64 (z.pre ++ [z.u]).length), (19, .slice (some ⟨bq, oq, none⟩) l.length c), (20, .int .i64 l.length), (21, .int .i64 i)]) (fun z => Rob b10 od :: z.h) (DmI most l i od.v) ?_ ?_
    · rcases List.eq_nil_or_concat out with rfl | ⟨pre, u, rfl⟩
      · refine .seq ((.drawK [Rob b10 od] (by intro y hy; simp at hy; subst hy; simp) (by kernel_rfl) (by kernel_rfl) ?_))
        refine .v (fun _ f => .move rfl) (.v (fun _ f => .eqi rfl rfl) (.v (fun _ f => .move rfl) (.or (b2 := false) 29 38 9 9 rfl rfl (fun g1 => by simp at g1) (.nil ?_))))
        refine .cond rfl (fun h3 => ?_) (fun h3 => absurd h3 (by simp))
        rw [dps, show newp ([] : List Lv) od.pr = true from rfl, if_pos rfl] at he
        refine .seq (.seq ((.region (.v (.move rfl) (.v (.move rfl) (.v (.geq rfl rfl) (.nil ?_)))))))
        refine .cond_dec rfl (fun h4 => .exit ?_) (fun h4 => .skip ?_)
        · rw [if_pos h4] at he
          refine .seq ((.region (.v (.move rfl) (.v (.assign rfl) (.nil ?_)))))
          refine .ret ⟨[_], ⟨rfl, trivial⟩, h, fun _ s => s.take, ?_⟩
          rw [← he]; exact ho
        · rw [if_neg h4] at he
          refine .seq ((.region (.v (.move rfl) (.v (.fieldAddr rfl) (.v (.load (v := .int .i64 od.pr) rfl (.one rfl)) (.v (.build (out := (⟨od.pr, 0, 0⟩ : Lv).cells) rfl rfl) (.push (vs := lrows []) (c := 0) (oc := (⟨od.pr, 0, 0⟩ : Lv).cells) rfl rfl ho rfl rfl rfl (by omega) (by omega) ?_)))))))
          intro b9 v' h' k'
          refine .v (.assign rfl) (.nil ?_)
          refine .region (.v (.move rfl) (.v (.addE ((([] : List Lv) ++ [(⟨od.pr, 0, 0⟩ : Lv)]).length : Int) rfl rfl rfl (by simp)) (.v (.assign rfl) (.nil ?_))))
          exact ⟨⟨[], ⟨od.pr, 0, 0⟩, v', h'⟩, ⟨k', he, by simp, by simp⟩, .cons rfl (.cons rfl (.cons rfl (.cons rfl (.cons rfl (.cons rfl (.cons rfl (.nil _))))))), fun _ s => s.take⟩
      · rw [List.concat_eq_append] at *
        obtain ⟨bo, oo, lo, e1, -, rfl, -, -, -⟩ := ho.some_ (by simp)
        cases e1
        have hlp : ∀ hs', [(bo, Ch.cells lo 109)] ⊆ hs' → At w [] hs' ⟨bo, oo + ((pre.length : Nat) : Int).toNat * 3 + 0, none⟩ [.int .i64 u.p] := fun hs' hsub => by
          have := lpAt (z := (pre.length : Int)) (i := pre.length) (OwnS.at0 (w0 := w) (own := []) ho hsub) (by simp)
          rwa [show (pre ++ [u])[pre.length]'(by simp) = u from by simp] at this
        refine .seq ((.drawK [Rob b10 od, (bo, Ch.cells lo 109)] (by intro y hy; simp at hy ⊢; rcases hy with rfl | rfl <;> simp) (by kernel_rfl) (by kernel_rfl) ?_))
        refine .v (fun _ f => .move rfl) (.v (fun _ f => .eqi rfl rfl) (.v (fun _ f => .move rfl) (.or (b2 := decide (u.p ≠ od.pr)) 29 38 9 9 rfl rfl (fun g1 => .v (fun _ f => .move rfl) (.v (fun _ f => .move rfl) (.v (fun _ f => .subE (pre.length : Int) rfl rfl (by simp) (by simp at hn; omega)) (.v (fun _ f => .indexAddr rfl rfl (by omega) (by rw [List.length_append]; simp; omega)) (.v (fun _ f => .fieldAddr rfl) (.v (fun hs' f => .load (v := .int .i64 u.p) rfl (hlp hs' (fun y hy => f (by simp at hy; subst hy; simp)))) (.v (fun _ f => .fieldAddr rfl) (.v (fun _ f => .load (v := .int .i64 od.pr) rfl (.one (hb := .sub f) rfl)) (.v (fun _ f => .nei rfl rfl) (.nil ⟨rfl, rfl, rfl, rfl⟩)))))))))) (.nil ?_))))
        refine .cond rfl (fun h3 => ?_) (fun h3 => .skip ?_)
        · have h3 : u.p ≠ od.pr := by
            simp only [Bool.and_eq_true, Bool.or_eq_true, Bool.not_eq_true', Bool.and_eq_false_iff, Bool.or_eq_false_iff, Bool.not_eq_false', decide_eq_true_eq, decide_eq_false_iff_not, Bool.false_eq_true, false_iff] at h3
            rcases h3 with h3 | h3
            · exact absurd h3 (by simp; omega)
            · exact h3
          rw [dps, newp_app, decide_eq_true h3, if_pos rfl] at he
          refine .seq (.seq ((.region (.v (.move rfl) (.v (.move rfl) (.v (.geq rfl rfl) (.nil ?_)))))))
          refine .cond_dec rfl (fun h4 => .exit ?_) (fun h4 => .skip ?_)
          · rw [if_pos h4] at he
            refine .seq ((.region (.v (.move rfl) (.v (.assign rfl) (.nil ?_)))))
            refine .ret ⟨[_], ⟨rfl, trivial⟩, [(bo, Ch.cells lo 109)], fun _ s => s.take, ?_⟩
            rw [← he]; exact ho
          · rw [if_neg h4] at he
            have hpl2 : ((pre ++ [u]) ++ [(⟨od.pr, 0, 0⟩ : Lv)]).length = (pre ++ [u]).length + 1 := by simp
            refine .seq ((.region (.v (.move rfl) (.v (.fieldAddr rfl) (.v (.load (v := .int .i64 od.pr) rfl (.one rfl)) (.v (.build (out := (⟨od.pr, 0, 0⟩ : Lv).cells) rfl rfl) (.push (vs := lrows (pre ++ [u])) (c := (pre ++ [u]).length) (oc := (⟨od.pr, 0, 0⟩ : Lv).cells) rfl rfl ho rfl rfl rfl (by omega) (by omega) ?_)))))))
            intro b9 v' h' k'
            refine .v (.assign rfl) (.nil ?_)
            refine .region (.v (.move rfl) (.v (.addE (((pre ++ [u]) ++ [(⟨od.pr, 0, 0⟩ : Lv)]).length : Int) rfl rfl (by omega) (by simp at hn ⊢; omega)) (.v (.assign rfl) (.nil ?_))))
            refine ⟨⟨pre ++ [u], ⟨od.pr, 0, 0⟩, v', h'⟩, ⟨?_, he, by simp at hn ⊢; omega, fun y hy => ?_⟩, .cons rfl (.cons rfl (.cons rfl (.cons rfl (.cons rfl (.cons rfl (.cons rfl (.nil _))))))), fun _ s => s.take⟩
            · show LOwn v' ((pre ++ [u]) ++ [⟨od.pr, 0, 0⟩]) h'
              unfold LOwn; rw [List.length_append, lrows_app]; simpa [lrows] using k'
            · rcases List.mem_append.1 hy with hy | hy
              · exact hc y hy
              · have := List.mem_singleton.1 hy; subst this; simp
        · have h3 : u.p = od.pr := by
            simp only [Bool.and_eq_true, Bool.or_eq_true, Bool.not_eq_true', Bool.and_eq_false_iff, Bool.or_eq_false_iff, Bool.not_eq_false', decide_eq_true_eq, decide_eq_false_iff_not, Bool.false_eq_true, false_iff] at h3
            exact Decidable.of_not_not h3.2
          rw [dps, newp_app, decide_eq_false (by simp [h3])] at he
          simp only [Bool.false_eq_true, if_false] at he
          exact ⟨⟨pre, u, _, _⟩, ⟨ho, he, by show (pre ++ [u]).length ≤ _; omega, hc⟩, .cons rfl (.cons rfl (.cons rfl (.cons rfl (.cons rfl (.cons rfl (.cons rfl (.nil _))))))), fun _ s => s.take⟩
    · rintro ⟨pre, u, v', h'⟩ ⟨ho', he', hn', hc'⟩
      dsimp only at ho' he' hn' hc' ⊢
      obtain ⟨bo, oo, lo, V, rfl, rfl, hll⟩ : ∃ (bo oo : Nat) (lo : List Value) (V : Nat), v' = .slice (some ⟨bo, oo, none⟩) (pre ++ [u]).length V ∧ h' = [(bo, .cells lo 109)] ∧ oo + (pre ++ [u]).length * 3 ≤ lo.length := by
        obtain ⟨M, mc, rfl⟩ := lown_sl ho'
        obtain ⟨bm, ox, lm, rfl, -, rfl, q1, q2, -⟩ := ho'.some_ (by simp)
        exact ⟨bm, ox, lm, mc, rfl, rfl, by have := Nat.mul_le_mul_right 3 q1; omega⟩
      have hpl : (pre ++ [u]).length = pre.length + 1 := by simp
      have hlt : pre.length < (pre ++ [u]).length := by omega
      have hlq : ∀ hs', [(bo, Ch.cells lo 109)] ⊆ hs' → At w [] hs' ⟨bo, oo + ((pre.length : Nat) : Int).toNat * 3 + 1, none⟩ [.int .u64 u.q] := fun hs' hsub => by
        have := lqAt (z := (pre.length : Int)) (i := pre.length) (OwnS.at0 (w0 := w) (own := []) ho' hsub) hlt
        rwa [show (pre ++ [u])[pre.length]'hlt = u from by simp] at this
      have cu := hc' u (by simp)
      refine .seq ((.drawQ 11 [0, 1, 2, 3, 4, 5, 6, 7, 8, 9, 10, 11] [Rob b10 od, (bo, Ch.cells lo 109)] (by intro y hy; simp at hy ⊢; rcases hy with rfl | rfl <;> simp) (by kernel_rfl) (by kernel_rfl) ?_))
      refine .v (fun _ f => .move rfl) (.v (fun _ f => .move rfl) (.v (fun _ f => .subE (pre.length : Int) rfl rfl (by rw [hpl]; simp) (by omega)) (.v (fun _ f => .indexAddr rfl rfl (by omega) (by omega)) (.v (fun _ f => .fieldAddr rfl) (.v (fun hs' f => .load (v := .int .u64 u.q) rfl (hlq hs' (fun y hy => f (by simp at hy; subst hy; simp)))) (.v (fun _ f => .fieldAddr rfl) (.v (fun _ f => .load (v := .int .u64 od.v) rfl (.one (hb := .sub f) rfl)) (.v (fun _ f => .add rfl rfl) (.v (fun _ f => .indexAddr rfl rfl (by omega) (by omega)) (.v (fun _ f => .fieldAddr rfl) (.st (.store rfl rfl rfl (by omega)) (.nil ?_))))))))))))
      rw [u64w, Int.toNat_natCast]
      have k1 := OwnS.setAt (i := pre.length * 3 + 1) (v := .int .u64 ((u.q + od.v) % 18446744073709551616)) ho' (by omega)
      rw [← Nat.add_assoc, lset1] at k1
      have hlc : ∀ hs', [(bo, Ch.cells (lo.set (oo + pre.length * 3 + 1) (.int .u64 ((u.q + od.v) % 18446744073709551616))) 109)] ⊆ hs' → At w [] hs' ⟨bo, oo + ((pre.length : Nat) : Int).toNat * 3 + 2, none⟩ [.int .i64 u.c] := fun hs' hsub => by
        have := lcAt (z := (pre.length : Int)) (i := pre.length) (l := pre ++ [(⟨u.p, (u.q + od.v) % 18446744073709551616, u.c⟩ : Lv)]) (OwnS.at0 (w0 := w) (own := []) k1 hsub) (by simp)
        rwa [show (pre ++ [(⟨u.p, (u.q + od.v) % 18446744073709551616, u.c⟩ : Lv)])[pre.length]'(by simp) = ⟨u.p, (u.q + od.v) % 18446744073709551616, u.c⟩ from by simp] at this
      refine .region (.v (.move rfl) (.v (.move rfl) (.v (.subE (pre.length : Int) rfl rfl (by rw [hpl]; simp) (by omega)) (.v (.indexAddr rfl rfl (by omega) (by omega)) (.v (.fieldAddr rfl) (.v (.load (v := .int .i64 u.c) rfl (hlc _ (fun y hy => by simp at hy; subst hy; simp))) (.v (.addi rfl rfl (by omega)) (.v (.indexAddr rfl rfl (by omega) (by omega)) (.v (.fieldAddr rfl) (.st (.store rfl rfl rfl (by rw [List.length_set, Int.toNat_natCast]; omega)) (.nil ?_)))))))))))
      rw [Int.toNat_natCast]
      have k2 := OwnS.setAt (i := pre.length * 3 + 2) (v := .int .i64 (u.c + 1)) k1 (by omega)
      rw [← Nat.add_assoc, lset2] at k2
      dsimp only at k2
      have hbm := bump_app pre u od.v
      refine .region (.v (.addi rfl rfl (by omega)) (.v (.move rfl) (.nil ?_)))
      refine ⟨⟨i + 1, pre ++ [⟨u.p, (u.q + od.v) % 18446744073709551616, u.c + 1⟩], .slice (some ⟨bo, oo, none⟩) (pre ++ [u]).length V, _⟩, ⟨by show i + 1 ≤ _; omega, ?_, by rw [← hbm]; exact he', by simp at hn' ⊢; omega, fun y hy => ?_⟩, by show l.length - (i + 1) < _; omega, .cons rfl (.cons rfl (.cons rfl (.cons rfl (.cons rfl (.nil _))))), fun _ s => Sat.take (pre := [(bo, Ch.cells ((lo.set (oo + pre.length * 3 + 1) (.int .u64 ((u.q + od.v) % 18446744073709551616))).set (oo + pre.length * 3 + 2) (.int .i64 (u.c + 1))) 109)]) s⟩
      · show LOwn _ (pre ++ [_]) _
        unfold LOwn
        rw [show (pre ++ [(⟨u.p, (u.q + od.v) % 18446744073709551616, u.c + 1⟩ : Lv)]).length = (pre ++ [u]).length from by simp]
        exact k2
      · rcases List.mem_append.1 hy with hy | hy
        · have := hc' y (List.mem_append_left _ hy); exact ⟨this.1, by show y.c ≤ ((i + 1 : Nat) : Int); omega⟩
        · have := List.mem_singleton.1 hy; subst this
          exact ⟨by show 0 ≤ u.c + 1; omega, by show u.c + 1 ≤ ((i + 1 : Nat) : Int); omega⟩
  · rw [List.drop_eq_nil_of_le (by omega)] at he
    refine .seq ((.region (.v (.move rfl) (.v (.assign rfl) (.nil ?_)))))
    refine .ret ⟨[_], ⟨rfl, trivial⟩, h, fun _ s => s, ?_⟩
    rw [← he]; exact ho
end Go.Proofs.Ytinmhhonpflojaa

/- The levels of a side: fewer of them are the first of all; they fit. -/
namespace Go.Proofs.Ytinmhhonpflojaa
open Go.V
set_option linter.unusedVariables false
set_option linter.unusedSimpArgs false

theorem out_cases (out : List Lv) : out = [] ∨ ∃ pre u, out = pre ++ [u] := by
  rcases List.eq_nil_or_concat out with h | ⟨pre, u, h⟩
  · exact .inl h
  · exact .inr ⟨pre, u, by rw [h, List.concat_eq_append]⟩
theorem bump_len (out : List Lv) (v : Int) : (bump out v).length = out.length := by
  rcases out_cases out with rfl | ⟨pre, u, rfl⟩
  · rfl
  · rw [bump_app]; simp
/-- all levels but the last one stay -/
theorem dps_keeps (big : Int) : ∀ (l : List Ord) (pre : List Lv) (u : Lv), (dps big (pre ++ [u]) l).take pre.length = pre
  | [], pre, u => by simp [dps]
  | o :: l, pre, u => by
    rw [dps]
    split
    · split
      · simp
      · rw [bump_app]
        have h := dps_keeps big l (pre ++ [u]) ⟨o.pr, (0 + o.v) % 18446744073709551616, 0 + 1⟩
        have h2 := congrArg (List.take pre.length) h
        rw [List.take_take] at h2
        simp only [List.length_append, List.length_singleton] at h2
        rw [show min pre.length (pre.length + 1) = pre.length from by omega] at h2
        rw [h2]; simp
    · rw [bump_app]
      exact dps_keeps big l pre _
theorem dps_take (most : Nat) (big : Int) : ∀ (l : List Ord) (out : List Lv), out.length ≤ most → (out.length : Int) + l.length ≤ big → dps most out l = (dps big out l).take most
  | [], out, h1, h2 => by rw [dps, dps, List.take_of_length_le h1]
  | o :: l, out, h1, h2 => by
    rw [dps, dps]
    simp only [List.length_cons] at h2
    split
    · rw [if_neg (show ¬ (out.length : Int) ≥ big from by omega)]
      split
      · rename_i hm
        have he : out.length = most := by omega
        rw [bump_app]
        have := dps_keeps big l out ⟨o.pr, (0 + o.v) % 18446744073709551616, 0 + 1⟩
        rw [he] at this
        exact this.symm
      · rename_i hm
        have hb : (bump (out ++ [(⟨o.pr, 0, 0⟩ : Lv)]) o.v).length = out.length + 1 := by rw [bump_len]; simp
        exact dps_take most big l _ (by omega) (by omega)
    · have hb := bump_len out o.v
      exact dps_take most big l _ (by omega) (by omega)
theorem dps_len (most : Int) : ∀ (l : List Ord) (out : List Lv), (dps most out l).length ≤ out.length + l.length
  | [], out => by simp [dps]
  | o :: l, out => by
    rw [dps]
    split
    · split
      · simp
      · have := dps_len most l (bump (out ++ [⟨o.pr, 0, 0⟩]) o.v)
        rw [bump_len] at this
        simp at this ⊢; omega
    · have := dps_len most l (bump out o.v)
      rw [bump_len] at this
      simp at this ⊢; omega
theorem Fit.snoc {side : Int} {pre : List Lv} {u : Lv} (h : Fit side pre) (hu : u.ok) (hl : ∀ x, pre.getLast? = some x → wse side u.p x.p = true) : Fit side (pre ++ [u]) := by
  intro i hi
  by_cases hp : i < pre.length
  · have := h i hp
    rw [List.getElem_append_left hp]
    refine ⟨this.1, fun h0 => ?_⟩
    rw [List.getElem_append_left (by omega)]
    exact this.2 h0
  · have e : i = pre.length := by simp at hi; omega
    subst e
    rw [List.getElem_append_right (by omega)]
    refine ⟨by simpa using hu, fun h0 => ?_⟩
    rw [List.getElem_append_left (by omega)]
    have := hl (pre[pre.length - 1]'(by omega)) (by rw [List.getLast?_eq_getElem?]; exact List.getElem?_eq_getElem (by omega))
    simpa using this
theorem Fit.pre {side : Int} {pre : List Lv} {u : Lv} (h : Fit side (pre ++ [u])) : Fit side pre := fun i hi => by
  have := h i (by simp; omega)
  rw [List.getElem_append_left hi] at this
  refine ⟨this.1, fun h0 => ?_⟩
  have h2 := this.2 h0
  rwa [List.getElem_append_left (by omega)] at h2
theorem Fit.last {side : Int} {pre : List Lv} {u : Lv} (h : Fit side (pre ++ [u])) : u.ok ∧ ∀ x, pre.getLast? = some x → wse side u.p x.p = true := by
  have := h pre.length (by simp)
  rw [List.getElem_append_right (by omega)] at this
  refine ⟨by simpa using this.1, fun x hx => ?_⟩
  have h0 : 0 < pre.length := by
    cases pre with
    | nil => simp at hx
    | cons a l => simp
  have h2 := this.2 h0
  rw [List.getElem_append_left (by omega)] at h2
  rw [List.getLast?_eq_getElem?, List.getElem?_eq_getElem (by omega)] at hx
  have hx := Option.some.inj hx
  rw [hx] at h2
  simpa using h2
/-- the orders of a side as a book keeps them -/
def SrtL (side : Int) : Option Int → List Ord → Prop
  | _, [] => True
  | p, o :: l => (∀ x, p = some x → o.pr = x ∨ wse side o.pr x = true) ∧ (1 ≤ o.v ∧ o.v ≤ 4294967296 ∧ 0 ≤ o.pr ∧ o.pr < 262144) ∧ SrtL side (some o.pr) l
theorem dps_fit (side most : Int) : ∀ (l : List Ord) (out : List Lv) (k : Nat), k + l.length ≤ 1000000 → Fit side out → (∀ u ∈ out, u.q ≤ (k : Int) * 4294967296) → SrtL side (out.getLast?.map Lv.p) l → Fit side (dps most out l)
  | [], out, k, _, hf, _, _ => by rw [dps]; exact hf
  | o :: l, out, k, hk, hf, hq, hs => by
    obtain ⟨hp, ⟨v1, v2, v3, v4⟩, hs'⟩ := hs
    simp only [List.length_cons] at hk
    rw [dps]
    split
    · rename_i hn
      split
      · exact hf
      · rw [bump_app]
        have hvv : (0 + o.v) % 18446744073709551616 = o.v := by omega
        rw [hvv]
        refine dps_fit side most l _ (k + 1) (by omega) (hf.snoc ⟨⟨v3, v4⟩, v1, by show (1 : Int) ≤ 0 + 1; omega⟩ fun x hx => ?_) (fun u hu => ?_) (by simpa using hs')
        · rcases hp x.p (by rw [hx]; rfl) with h | h
          · unfold newp at hn
            rw [hx] at hn
            exact absurd h.symm (by simpa using hn)
          · exact h
        · rcases List.mem_append.1 hu with hu | hu
          · have := hq u hu; push_cast; omega
          · have := List.mem_singleton.1 hu; subst this
            show o.v ≤ _; push_cast; omega
    · rename_i hn
      rcases out_cases out with rfl | ⟨pre, u, rfl⟩
      · exact absurd rfl hn
      · rw [newp_app] at hn
        have hn : u.p = o.pr := by simpa using hn
        rw [bump_app]
        have hu := hq u (by simp)
        obtain ⟨⟨o1, o2, o3⟩, hl⟩ := hf.last
        have hvv : (u.q + o.v) % 18446744073709551616 = u.q + o.v := by omega
        rw [hvv]
        refine dps_fit side most l _ (k + 1) (by omega) (hf.pre.snoc ⟨o1, by show 1 ≤ u.q + o.v; omega, by show 1 ≤ u.c + 1; omega⟩ hl) (fun y hy => ?_) ?_
        · rcases List.mem_append.1 hy with hy | hy
          · have := hq y (List.mem_append_left _ hy); push_cast; omega
          · have := List.mem_singleton.1 hy; subst this
            show u.q + o.v ≤ _; push_cast; omega
        · have e : (pre ++ [(⟨u.p, u.q + o.v, u.c + 1⟩ : Lv)]).getLast?.map Lv.p = some o.pr := by simp [hn]
          rw [e]; exact hs'
end Go.Proofs.Ytinmhhonpflojaa

/- (*Book).rests: an order goes behind all others at its price. -/
namespace Go.Proofs.Ytinmhhonpflojaa
open Go.V
set_option linter.unusedVariables false
set_option linter.unusedSimpArgs false

/-- a side that is somebody's own -/
abbrev Side (v : Value) (l : List Ord) (h : Hp) : Prop := OwnS 134 7 v l.length (rows l) h
/-- where an order of a price comes to stand -/
def rpos (s pr : Int) : List Ord → Nat
  | [] => 0
  | x :: l => if bet s pr x.pr && l.all (fun x => bet s pr x.pr) then 0 else rpos s pr l + 1
theorem rpos_eq {s pr : Int} : ∀ (l : List Ord) (p : Nat), p ≤ l.length → (∀ m, (hm : m < l.length) → p ≤ m → bet s pr l[m].pr = true) → (∀ m, (hm : m < l.length) → m + 1 = p → bet s pr l[m].pr = false) → rpos s pr l = p
  | [], p, hp, _, _ => by simp at hp; simp [rpos, hp]
  | x :: l, p, hp, h1, h2 => by
    cases p with
    | zero =>
      have hx := h1 0 (by simp) (Nat.zero_le _)
      have hl : l.all (fun x => bet s pr x.pr) = true := by
        rw [List.all_eq_true]
        intro y hy
        obtain ⟨i, hi, rfl⟩ := List.mem_iff_getElem.1 hy
        exact h1 (i + 1) (by simpa using hi) (Nat.zero_le _)
      have hx : bet s pr x.pr = true := hx
      simp [rpos, hx, hl]
    | succ p =>
      have ih := rpos_eq l p (by simpa using hp) (fun m hm hpm => h1 (m + 1) (by simpa using hm) (by omega)) (fun m hm e => h2 (m + 1) (by simpa using hm) (by omega))
      have hf : (bet s pr x.pr && l.all (fun x => bet s pr x.pr)) = false := by
        cases p with
        | zero =>
          have : bet s pr x.pr = false := h2 0 (by simp) rfl
          simp [this]
        | succ p =>
          have hlt : p < l.length := by simp at hp; omega
          have : bet s pr l[p].pr = false := h2 (p + 1) (by simp; omega) rfl
          rw [Bool.and_eq_false_iff]
          refine .inr ?_
          rw [Bool.eq_false_iff]
          intro ha
          rw [List.all_eq_true] at ha
          have := ha l[p] (List.getElem_mem hlt)
          simp_all
      simp only [rpos]
      rw [hf, ih]; rfl
theorem rpos_le (s pr : Int) : ∀ (l : List Ord), rpos s pr l ≤ l.length
  | [] => Nat.le_refl _
  | x :: l => by
    have := rpos_le s pr l
    unfold rpos; split <;> simp <;> omega
/-- a side with an order put in -/
def rst (s : Int) (o : Ord) (l : List Ord) : List Ord := l.take (rpos s o.pr l) ++ [o] ++ l.drop (rpos s o.pr l)
theorem rst_length (s : Int) (o : Ord) (l : List Ord) : (rst s o l).length = l.length + 1 := by
  have := rpos_le s o.pr l
  simp [rst]; omega
theorem rows_take (l : List Ord) (k : Nat) : (rows l).take (k * 7) = rows (l.take k) := by
  induction l generalizing k with
  | nil => simp [rows]
  | cons x l ih =>
    cases k with
    | zero => simp [rows]
    | succ k =>
      rw [List.take_succ_cons, show rows (x :: l) = x.cells ++ rows l from rfl, show rows (x :: l.take k) = x.cells ++ rows (l.take k) from rfl, List.take_append, List.take_of_length_le (by simp [Ord.cells, rcells]; omega), show (k + 1) * 7 - x.cells.length = k * 7 from by simp [Ord.cells, rcells]; omega, ih]
theorem rows_drop (l : List Ord) (k : Nat) : (rows l).drop (k * 7) = rows (l.drop k) := by
  have h1 : rows l = rows (l.take k) ++ rows (l.drop k) := by rw [← rows_app, List.take_append_drop]
  have h2 := rows_take l k
  have h3 := List.take_append_drop (k * 7) (rows l)
  rw [h2] at h3
  exact List.append_cancel_left (h3.trans h1)
set_option maxRecDepth 10000 in
theorem rests_ok (w : World) (b i : Nat) (s : Int) (hsi : s = 1 ∧ i = 2 ∨ s = 2 ∧ i = 3) (L : List Value) (hlen : L.length = 6) (o : Ord) (l : List Ord) (v : Value) (k : Hp) (hL : L[i]? = some v) (ho : Side v l k) (hn : l.length + 1 ≤ 2513169434843) :
    Does Try.prog 83 [.pointer (some ⟨b, 0, none⟩), .int .i64 s, .agg ⟨o.cells⟩] (Tb b L :: k) w
      (fun _ hs => ∃ v' k', hs = Tb b (L.set i v') :: k' ∧ Side v' (rst s o l) k') := by
  obtain ⟨A, c, rfl⟩ := OwnS.sl ho
  have hside : (if s = 1 then some (⟨b, 2, none⟩ : Addr) else if s = 2 then some ⟨b, 3, none⟩ else none) = some ⟨b, i, none⟩ := by
    rcases hsi with ⟨rfl, rfl⟩ | ⟨rfl, rfl⟩ <;> rfl
  refine Does.less (Does.of (n := 42) Try.func83 rfl rfl rfl rfl ?_)
  refine .seq ((.region (.nw (.box (l := o.cells) rfl rfl) fun b5 => (.nil ?_))))
  refine .seq ((.region (.v (.move rfl) (.v (.move rfl) (.pc (v := .pointer (some ⟨b, i, none⟩)) rfl rfl (fun w' _ => hside ▸ side_ok w' b s) (.v (.assign rfl) (.nil ?_)))))))
  refine .seq ((.region (.v (.move rfl) (.v (.nilCheck rfl) (.v (.load (v := .slice A l.length c) rfl (.one hL)) (.v (.len rfl) (.v (.assign rfl) (.nil ?_))))))))
  refine .seq (.block (.loop (X := Nat) (fun p => [(1, .int .i64 s), (5, .pointer (some ⟨b5, 0, none⟩)), (6, .pointer (some ⟨b, i, none⟩)), (7, .int .i64 p)]) (fun _ => (b5, .cells o.cells 134) :: Tb b L :: k) (fun p => p ≤ l.length ∧ ∀ m, (hm : m < l.length) → p ≤ m → bet s o.pr l[m].pr = true) (fun p => p) l.length ⟨Nat.le_refl _, fun m hm h => by omega⟩
    (.cons rfl (.cons rfl (.cons rfl (.cons rfl (.nil _))))) (fun _ s => s) ?_))
  rintro p ⟨hp, hP⟩
  have ep : (∀ m, (hm : m < l.length) → m + 1 = p → bet s o.pr l[m].pr = false) → rpos s o.pr l = p := fun h => rpos_eq l p hp hP h
  cases p with
  | zero =>
    refine .seq (.seq ((.drawK _ (fun _ h => h) (by kernel_rfl) (by kernel_rfl) ?_)))
    refine .v (fun _ f => .move rfl) (.v (fun _ f => .gtr rfl rfl) (.v (fun _ f => .move rfl) (.and (b2 := false) 17 29 12 12 rfl rfl (fun g => absurd g (by simp)) (.nil ?_))))
    refine .cond rfl (fun h => absurd h (by simp)) (fun _ => .exit ?_)
    have er := ep (fun m hm e => by omega)
    refine (.drawQ 9 [0, 1, 2, 3, 4, 5, 6, 7, 8, 9] [(b5, .cells o.cells 134), Tb b L] (by intro p hp; simp at hp ⊢; rcases hp with rfl | rfl <;> simp) (by kernel_rfl) (by kernel_rfl) ?_)
    refine .v (fun _ f => .move rfl) (.v (fun _ f => .move rfl) (.v (fun _ f => .nilCheck rfl) (.v (fun _ f => .load (v := .slice A l.length c) rfl (.one (b := b) (l := L) (T := 126) (hb := .sub f) hL)) (.v (fun _ f => .move rfl) (.v (fun _ f => .loadA (vs := o.cells) rfl (.whole (hb := .sub f)) rfl) ?_)))))
    refine .ef (.buildSlice (out := o.cells) rfl (by decide) rfl rfl) (fun v hs' ⟨b, _, e⟩ f => by subst e; exact fun p hp => List.mem_cons_of_mem _ (f hp)) ?_
    rintro _ _ ⟨nb, rfl, rfl⟩
    refine .ef (.call (R := fun v hs => OwnS 134 7 v (l.length + 1) ((rows l).take (0 * 7) ++ o.cells ++ (rows l).drop (0 * 7)) hs) (pre := k ++ [(nb, Ch.cells o.cells 134)]) (fr := [(b5, .cells o.cells 134), Tb b L]) rfl rfl (by rw [List.append_assoc]; exact List.perm_append_comm (l₁ := [_, _, _])) (fun w' s' => insert_ok w' A l.length c 0 nb (rows l) o.cells k ho (by omega) hn (rows_ones l) rfl rfl)) (fun v hs' ⟨h, _, e⟩ _ => by subst e; exact fun p hp => List.mem_append_right _ hp) ?_
    rintro v' _ ⟨k', o', rfl⟩
    obtain ⟨A', c', rfl⟩ := OwnS.sl o'
    refine .v (fun _ f => .nilCheck rfl) (.st (.store rfl rfl rfl (by rw [hlen]; omega)) (.nil ?_))
    refine ⟨[], trivial, Tb b (L.set i (.slice A' (l.length + 1) c')) :: k', fun _ s' => ?_, _, k', rfl, ?_⟩
    · exact (s'.perm (List.perm_append_comm (l₁ := k'))).sub (.cons _ (.refl _))
    · unfold Side
      rw [rst_length, rst, er, rows_app, rows_app]
      rw [rows_take, rows_drop] at o'
      simpa [rows] using o'
  | succ q =>
    have hq : q < l.length := by omega
    have eq : (((q + 1 : Nat) : Int) - 1).toNat = q := by omega
    obtain ⟨bk, ok, lk, rfl, -, rfl, -, -, -⟩ := ho.some_ (by omega)
    have hbt : ∀ w', Is Try.prog 87 [.int .i64 s, .int .i64 o.pr, .int .i64 l[q].pr] w' (.bool (bet s o.pr l[q].pr)) := fun w' => better_ok w' s o.pr l[q].pr
    generalize hpr : l[q].pr = pq at hbt
    have hat : ∀ hs', ((b5, Ch.cells o.cells 134) :: Tb b L :: [(bk, Ch.cells lk 134)]) ⊆ hs' → At w (bl (Tb b L :: [(bk, Ch.cells lk 134)])) hs' ⟨bk, ok + q * 7 + 3, none⟩ [.int .i64 pq] := fun hs' f => by
      rw [← hpr]; rw [Nat.add_assoc]; exact ho.at1 (fun p hp => f (by simp at hp ⊢; simp [hp])) (by rw [rows_get l q 3 hq (by omega)]; rfl)
    refine .seq (.seq ((.drawK _ (fun _ h => h) (by kernel_rfl) (by kernel_rfl) ?_)))
    refine .v (fun _ f => .move rfl) (.v (fun _ f => .gtr rfl rfl) (.v (fun _ f => .move rfl) (.and 17 29 12 12 rfl rfl (fun g1 => .v (fun _ f => .move rfl) (.v (fun _ f => .fieldAddr rfl) (.v (fun _ f => .load (v := .int .i64 o.pr) rfl (.one (hb := .sub f) rfl)) (.v (fun _ f => .move rfl) (.v (fun _ f => .nilCheck rfl) (.v (fun _ f => .load (v := .slice (some ⟨bk, ok, none⟩) l.length c) rfl (.one (hb := .sub f) hL)) (.v (fun _ f => .move rfl) (.v (fun _ f => .subE (q : Int) rfl rfl (by omega) (by omega)) (.v (fun _ f => .indexAddr rfl rfl (by omega) (by omega)) (.v (fun _ f => .fieldAddr rfl) (.v (fun _ f => .load (v := .int .i64 pq) rfl (hat _ f)) (.pc (v := .bool (bet s o.pr pq)) rfl rfl (fun w _ => hbt w) (.nil ⟨rfl, rfl, rfl, rfl⟩))))))))))))) (.nil ?_))))
    refine .cond rfl (fun h1 => .skip ?_) (fun h1 => .exit ?_)
    · have h1' : bet s o.pr l[q].pr = true := by rw [hpr]; simpa using h1
      refine .block ((.region (.v (.move rfl) (.v (.subi rfl rfl (by omega)) (.v (.assign rfl) (.nil ?_))))))
      refine ⟨q, ⟨by omega, fun m hm hqm => ?_⟩, by omega, .cons rfl (.cons rfl (.cons rfl (.cons (by rw [show ((q + 1 : Nat) : Int) - 1 = q from by omega]; rfl) (.nil _)))), fun _ s => s⟩
      by_cases e : m = q
      · subst e; exact h1'
      · exact hP m hm (by omega)
    · have h1' : bet s o.pr l[q].pr = false := by rw [hpr]; simpa using h1
      have er := ep (fun m hm e => by obtain rfl : m = q := (by omega); exact h1')
      refine (.drawQ 9 [0, 1, 2, 3, 4, 5, 6, 7, 8, 9] [(b5, .cells o.cells 134), Tb b L] (by intro p hp; simp at hp ⊢; rcases hp with rfl | rfl <;> simp) (by kernel_rfl) (by kernel_rfl) ?_)
      refine .v (fun _ f => .move rfl) (.v (fun _ f => .move rfl) (.v (fun _ f => .nilCheck rfl) (.v (fun _ f => .load (v := .slice (some ⟨bk, ok, none⟩) l.length c) rfl (.one (b := b) (l := L) (T := 126) (hb := .sub f) hL)) (.v (fun _ f => .move rfl) (.v (fun _ f => .loadA (vs := o.cells) rfl (.whole (hb := .sub f)) rfl) ?_)))))
      refine .ef (.buildSlice (out := o.cells) rfl (by decide) rfl rfl) (fun v hs' ⟨b, _, e⟩ f => by subst e; exact fun p hp => List.mem_cons_of_mem _ (f hp)) ?_
      rintro _ _ ⟨nb, rfl, rfl⟩
      refine .ef (.call (R := fun v hs => OwnS 134 7 v (l.length + 1) ((rows l).take ((q + 1) * 7) ++ o.cells ++ (rows l).drop ((q + 1) * 7)) hs) (pre := [(bk, Ch.cells lk 134)] ++ [(nb, Ch.cells o.cells 134)]) (fr := [(b5, .cells o.cells 134), Tb b L]) rfl rfl (by rw [List.append_assoc]; exact List.perm_append_comm (l₁ := [_, _, _])) (fun w' s' => insert_ok w' (some ⟨bk, ok, none⟩) l.length c (q + 1) nb (rows l) o.cells [(bk, Ch.cells lk 134)] ho (by omega) hn (rows_ones l) rfl rfl)) (fun v hs' ⟨h, _, e⟩ _ => by subst e; exact fun p hp => List.mem_append_right _ hp) ?_
      rintro v' _ ⟨k', o', rfl⟩
      obtain ⟨A', c', rfl⟩ := OwnS.sl o'
      refine .v (fun _ f => .nilCheck rfl) (.st (.store rfl rfl rfl (by rw [hlen]; omega)) (.nil ?_))
      refine ⟨[], trivial, Tb b (L.set i (.slice A' (l.length + 1) c')) :: k', fun _ s' => ?_, _, k', rfl, ?_⟩
      · exact (s'.perm (List.perm_append_comm (l₁ := k'))).sub (.cons _ (.refl _))
      · unfold Side
        rw [rst_length, rst, er, rows_app, rows_app]
        rw [rows_take, rows_drop] at o'
        simpa [rows] using o'
end Go.Proofs.Ytinmhhonpflojaa

/- Trading: its states; (*teller).meets. -/
namespace Go.Proofs.Ytinmhhonpflojaa
open Go.V
set_option linter.unusedVariables false
set_option linter.unusedSimpArgs false

/-- where trading stands: the other side, what is left, the last number, what was told -/
structure TS where
  L : List Ord
  left : Int
  seq : Int
  evs : List Ev
def ev0 : Ev := ⟨0, 0, 0, 0, 0, 0, 0, 0, 0, 0, 0, 0, 0⟩
def evCancel (id q reason : Int) : Ev := ⟨0, 4, id, 0, 0, 0, 0, 0, 0, q, 0, reason, 0⟩
def evTrade (id other sd pr q : Int) : Ev := ⟨0, 3, id, other, 0, 0, sd, 0, pr, q, 0, 0, 0⟩
def evRefresh (id pr q : Int) : Ev := ⟨0, 5, id, 0, 0, 0, 0, 0, pr, q, 0, 0, 0⟩
def TS.tell (s : TS) (e : Ev) : TS := ⟨s.L, s.left, nx s.seq, s.evs ++ [e.num (nx s.seq)]⟩
def TS.meets (meet : Int) (t : Tk) (f : Ord) (rest : List Ord) (s : TS) : TS :=
  let s1 := if meet = 1 then s else (⟨rest, s.left, s.seq, s.evs⟩ : TS).tell (evCancel f.id (f.v + f.hd) 5)
  if meet = 2 then s1 else ⟨s1.L, 0, (s1.tell (evCancel t.o.id s1.left 5)).seq, (s1.tell (evCancel t.o.id s1.left 5)).evs⟩

/-- a book's cells: one side is 'mine' -/
abbrev BL (i : Nat) (x0 x1 m o x4 q : Value) : List Value := [x0, x1, if i = 2 then m else o, if i = 2 then o else m, x4, q]
theorem BL_get {i : Nat} (hi : i = 2 ∨ i = 3) (x0 x1 m o x4 q : Value) : (BL i x0 x1 m o x4 q)[i]? = some m := by
  rcases hi with rfl | rfl <;> rfl
theorem BL_set {i : Nat} (hi : i = 2 ∨ i = 3) (x0 x1 m o x4 q m' : Value) : (BL i x0 x1 m o x4 q).set i m' = BL i x0 x1 m' o x4 q := by
  rcases hi with rfl | rfl <;> rfl
abbrev To (po : Nat) (t : Tk) (left : Int) : Nat × Ch := (po, .cells [.int .u64 t.o.id, .int .u32 t.o.mb, .int .i64 t.o.ty, .int .i64 t.o.pr, .int .u64 t.o.v, .int .u64 t.o.hd, .int .u64 t.o.pk, .int .i64 t.side, .int .i64 t.kind, .int .u64 left] 141)
abbrev TH (t b po i : Nat) (x0 x1 vo x4 : Value) (tk : Tk) (left seq : Int) (vs ve : Value) (ks ke : Hp) : Hp :=
  Tt t b ve :: Tb b (BL i x0 x1 vs vo x4 (.int .u64 seq)) :: To po tk left :: (ks ++ ke)
def THs (t b po i : Nat) (x0 x1 vo x4 : Value) (tk : Tk) (s : TS) (hs : Hp) : Prop :=
  ∃ vs ve ks ke, hs = TH t b po i x0 x1 vo x4 tk s.left s.seq vs ve ks ke ∧ Side vs s.L ks ∧ Evs ve s.evs ke

theorem delete0_ok (w : World) (A : Option Addr) (n c : Nat) (x : Ord) (l : List Ord) (h : Hp) (k : Side (.slice A n c) (x :: l) h) (hn : n = l.length + 1) (hb : n ≤ 2513169434843) :
    Does Try.prog 60 [.slice A n c, .int .i64 0, .int .i64 1] h w (fun v hs => Side v l hs) := by
  subst hn
  refine (delete_ok w A (l.length + 1) c 0 (rows (x :: l)) h k (by omega) hb (rows_ones _)).mono fun v hs h => ?_
  have e : (rows (x :: l)).take (0 * 7) ++ (rows (x :: l)).drop ((0 + 1) * 7) = rows l := by
    rw [rows_drop]; simp
  rw [e] at h
  exact h
theorem wrapU {x : Int} (h : U x) : IntKind.u64.wrap x = x := by
  unfold U at h
  simp [IntKind.wrap, IntKind.bits, IntKind.signed]; omega
set_option maxRecDepth 10000 in
theorem meets_ok (w : World) (t b po i : Nat) (hi : i = 2 ∨ i = 3) (x0 x1 vo x4 : Value) (tk : Tk) (meet : Int) (f : Ord) (rest : List Ord) (left seq : Int) (evs : List Ev) (vs ve : Value) (ks ke : Hp)
    (hS : Side vs (f :: rest) ks) (hE : Evs ve evs ke) (hn : rest.length + 1 ≤ 2513169434843) (he : evs.length + 2 ≤ 1000000000000) (hq : U (f.v + f.hd)) :
    Does Try.prog 89 [.pointer (some ⟨t, 0, none⟩), .pointer (some ⟨po, 0, none⟩), .int .i64 meet, .agg ⟨f.cells⟩, .pointer (some ⟨b, i, none⟩)] (TH t b po i x0 x1 vo x4 tk left seq vs ve ks ke) w
      (fun _ hs => THs t b po i x0 x1 vo x4 tk ((⟨f :: rest, left, seq, evs⟩ : TS).meets meet tk f rest) hs) := by
  refine Does.less (Does.of (n := 45) Try.func89 rfl rfl rfl rfl ?_)
  refine .seq ((.region (.nw (.box (l := f.cells) rfl rfl) fun b8 => (.nil ?_))))
  refine .mid (X := TS × Value × Value × Hp × Hp) (fun x => [(0, .pointer (some ⟨t, 0, none⟩)), (1, .pointer (some ⟨po, 0, none⟩)), (2, .int .i64 meet)]) (fun x => TH t b po i x0 x1 vo x4 tk x.1.left x.1.seq x.2.1 x.2.2.1 x.2.2.2.1 x.2.2.2.2)
    (fun x => Side x.2.1 x.1.L x.2.2.2.1 ∧ Evs x.2.2.1 x.1.evs x.2.2.2.2 ∧ x.1.evs.length + 1 ≤ 1000000000000 ∧ x.1 = (if meet = 1 then (⟨f :: rest, left, seq, evs⟩ : TS) else (⟨rest, left, seq, evs⟩ : TS).tell (evCancel f.id (f.v + f.hd) 5)))
    (.seq ((.region (.v (.move rfl) (.v (.nei rfl rfl) (.nil ?_)))))) ?_
  · refine .cond_dec rfl (fun h1 => ?_) (fun h1 => .skip ?_)
    · obtain ⟨A, c, rfl⟩ := OwnS.sl hS
      refine .seq ((.region (.v (.move rfl) (.v (.move rfl) (.v (.nilCheck rfl) (.v (.load (v := .slice A (f :: rest).length c) rfl (.one (BL_get hi _ _ _ _ _ _))) ?_))))))
      refine .ef (.callT ks rfl rfl (fun w' s' => delete0_ok w' A _ c f rest ks hS rfl (by simp; omega))) ?_
      rintro v' _ ⟨ks', hS', rfl⟩
      obtain ⟨A', c', rfl⟩ := OwnS.sl hS'
      refine .v (.nilCheck rfl) (.st (.store rfl rfl rfl (by rcases hi with rfl | rfl <;> simp)) (.nil ?_))
      rw [BL_set hi]
      refine .region (.v (.move rfl) (.v (.fieldAddr rfl) (.v (.load (v := .int .u64 f.id) rfl (.one rfl)) (.v (.fieldAddr rfl) (.v (.load (v := .int .u64 f.v) rfl (.one rfl)) (.v (.fieldAddr rfl) (.v (.load (v := .int .u64 f.hd) rfl (.one rfl)) (.v (.add rfl rfl) ?_))))))))
      rw [wrapU hq]
      refine .v (.build (out := (evCancel f.id (f.v + f.hd) 5).cells) rfl rfl) ?_
      refine .ef (.callT (Tt t b ve :: Tb b (BL i x0 x1 (.slice A' rest.length c') vo x4 (.int .u64 seq)) :: ke) rfl rfl (fun w' s' => tell_ok w' t b x0 x1 _ _ x4 seq (evCancel f.id (f.v + f.hd) 5) evs ve ke hE (by omega))) ?_
      rintro _ _ ⟨_, ⟨ve', ke', rfl, hE'⟩, rfl⟩
      refine .nil ⟨⟨(⟨rest, left, seq, evs⟩ : TS).tell (evCancel f.id (f.v + f.hd) 5), _, ve', ks', ke'⟩, ⟨hS', hE', by simp [TS.tell]; omega, by rw [if_neg h1]⟩, .cons rfl (.cons rfl (.cons rfl (.nil _))), fun _ s => Sat.take (pre := TH t b po i x0 x1 vo x4 tk left (nx seq) (.slice A' rest.length c') ve' ks' ke') s⟩
    · have h1' : meet = 1 := by omega
      exact ⟨⟨⟨f :: rest, left, seq, evs⟩, vs, ve, ks, ke⟩, ⟨hS, hE, by simp; omega, by rw [if_pos h1']⟩, .cons rfl (.cons rfl (.cons rfl (.nil _))), fun _ s => Sat.take (pre := TH t b po i x0 x1 vo x4 tk left seq vs ve ks ke) s⟩
  · rintro ⟨s1, vs1, ve1, ks1, ke1⟩ ⟨hS1, hE1, he1, hs1⟩
    dsimp only at hS1 hE1 he1 hs1 ⊢
    have fin : (⟨f :: rest, left, seq, evs⟩ : TS).meets meet tk f rest = if meet = 2 then s1 else ⟨s1.L, 0, (s1.tell (evCancel tk.o.id s1.left 5)).seq, (s1.tell (evCancel tk.o.id s1.left 5)).evs⟩ := by rw [hs1]; rfl
    rw [fin]
    refine .seq ((.region (.v (.move rfl) (.v (.nei rfl rfl) (.nil ?_)))))
    refine .cond_dec rfl (fun h2 => ?_) (fun h2 => .skip ?_)
    · rw [if_neg h2]
      refine .seq ((.drawK [To po tk s1.left] (by intro p hp; simp at hp; subst hp; simp) (by kernel_rfl) (by kernel_rfl) ?_))
      refine .v (fun _ f => .move rfl) (.v (fun _ f => .move rfl) (.v (fun _ f => .nilCheck rfl) (.v (fun _ f => .fieldAddr rfl) (.v (fun _ f => .fieldAddr rfl) (.v (fun _ f => .load (v := .int .u64 tk.o.id) rfl (.one (hb := .sub f) rfl)) (.v (fun _ f => .move rfl) (.v (fun _ f => .nilCheck rfl) (.v (fun _ f => .fieldAddr rfl) (.v (fun _ f => .load (v := .int .u64 s1.left) rfl (.one (hb := .sub f) rfl)) (.v (fun _ f => .build (out := (evCancel tk.o.id s1.left 5).cells) rfl rfl) ?_))))))))))
      refine .ef (.callT (Tt t b ve1 :: Tb b (BL i x0 x1 vs1 vo x4 (.int .u64 s1.seq)) :: ke1) rfl rfl (fun w' s' => tell_ok w' t b x0 x1 _ _ x4 s1.seq (evCancel tk.o.id s1.left 5) s1.evs ve1 ke1 hE1 he1)) (fun _ _ ⟨_, _, e⟩ _ => by subst e; intro p hp; simp at hp; subst hp; simp) ?_
      rintro _ _ ⟨_, ⟨ve', ke', rfl, hE'⟩, rfl⟩
      refine .nil ?_
      refine .region (.v (.move rfl) (.v (.nilCheck rfl) (.v (.fieldAddr rfl) (.st (.storeL rfl rfl rfl) (.nil ?_)))))
      exact ⟨[], trivial, _, fun _ s => Sat.take (pre := TH t b po i x0 x1 vo x4 tk 0 (nx s1.seq) vs1 ve' ks1 ke') s, vs1, ve', ks1, ke', rfl, hS1, hE'⟩
    · rw [if_pos (by omega)]
      exact ⟨[], trivial, _, fun _ s => s, vs1, ve1, ks1, ke1, rfl, hS1, hE1⟩
end Go.Proofs.Ytinmhhonpflojaa

/- Trading, as a plain machine: its steps, that it ends. -/
namespace Go.Proofs.Ytinmhhonpflojaa
open Go.V
set_option linter.unusedVariables false
set_option linter.unusedSimpArgs false

/-- an order that shows something, and hides no more than it may -/
def Ord.G (o : Ord) : Prop := 1 ≤ o.v ∧ 0 ≤ o.hd ∧ o.v + o.hd ≤ 4294967295 ∧ 0 ≤ o.pk ∧ o.pk ≤ 4294967295 ∧ (o.pk = 0 ∧ o.hd = 0 ∨ 0 < o.pk ∧ o.v ≤ o.pk ∧ o.v + o.hd ≤ 256 * o.pk)
/-- the next show of an order -/
def Ord.next (f : Ord) : Ord := ⟨f.id, f.mb, f.ty, f.pr, min f.pk f.hd, f.hd - min f.pk f.hd, f.pk⟩
def Ord.less (f : Ord) (q : Int) : Ord := ⟨f.id, f.mb, f.ty, f.pr, f.v - q, f.hd, f.pk⟩
def TS.hit (t : Tk) (f : Ord) (rest : List Ord) (s : TS) : TS :=
  let q := min s.left f.v
  let s1 := s.tell (evTrade t.o.id f.id t.side f.pr q)
  if 0 < f.v - q then ⟨f.less q :: rest, s.left - q, s1.seq, s1.evs⟩
  else if 0 < f.hd then (⟨rst (3 - t.side) f.next rest, s.left - q, s1.seq, s1.evs⟩ : TS).tell (evRefresh f.id f.pr f.next.v)
  else ⟨rest, s.left - q, s1.seq, s1.evs⟩
def TS.step (meet : Int) (t : Tk) (s : TS) : Option TS :=
  match s.L with
  | [] => none
  | f :: rest => if 0 < s.left ∧ reach t.side t.kind t.o.pr f.pr = true then some (if f.mb = t.o.mb ∧ t.o.mb ≠ 0 ∧ meet ≠ 0 then s.meets meet t f rest else s.hit t f rest) else none
inductive TRun (meet : Int) (t : Tk) : TS → TS → Prop
  | stop {s : TS} : s.step meet t = none → TRun meet t s s
  | step {s s' z : TS} : s.step meet t = some s' → TRun meet t s' z → TRun meet t s z
theorem TRun.det {meet : Int} {t : Tk} {s z z' : TS} (h : TRun meet t s z) (h' : TRun meet t s z') : z = z' := by
  induction h with
  | stop hs =>
    cases h' with
    | stop _ => rfl
    | step h1 _ => rw [hs] at h1; cases h1
  | step hs _ ih =>
    cases h' with
    | stop h1 => rw [hs] at h1; cases h1
    | step h1 h2 => rw [hs] at h1; cases h1; exact ih h2

def Ord.shows (o : Ord) : Nat := 1 + ((o.hd + o.pk - 1) / o.pk).toNat
def TS.mu (s : TS) : Nat := (s.L.map Ord.shows).sum + (if 0 < s.left then 1 else 0)
theorem next_G {f : Ord} (h : f.G) (hp : 0 < f.hd) : f.next.G ∧ f.next.shows + 1 ≤ f.shows := by
  obtain ⟨id, mb, ty, pr, v, hd, pk⟩ := f
  unfold Ord.G Ord.next Ord.shows at *
  simp only at *
  have hpk : 0 < pk := by omega
  refine ⟨by omega, ?_⟩
  by_cases hle : hd ≤ pk
  · have e1 : min pk hd = hd := by omega
    have e2 : (hd - hd + pk - 1) / pk = 0 := Int.ediv_eq_zero_of_lt (by omega) (by omega)
    have e3 : 1 ≤ (hd + pk - 1) / pk := by
      have := Int.add_mul_ediv_right (hd - 1) 1 (show pk ≠ 0 by omega)
      rw [show hd - 1 + 1 * pk = hd + pk - 1 from by omega] at this
      have h2 : 0 ≤ (hd - 1) / pk := Int.ediv_nonneg (by omega) (by omega)
      omega
    rw [e1, e2]; omega
  · have e1 : min pk hd = pk := by omega
    have e3 := Int.add_mul_ediv_right (hd - 1) 1 (show pk ≠ 0 by omega)
    rw [show hd - 1 + 1 * pk = hd + pk - 1 from by omega] at e3
    have h2 : 0 ≤ (hd - 1) / pk := Int.ediv_nonneg (by omega) (by omega)
    rw [e1, e3, show hd - pk + pk - 1 = hd - 1 from by omega]
    omega
theorem shows_le {f : Ord} (h : f.G) : f.shows ≤ 257 := by
  obtain ⟨id, mb, ty, pr, v, hd, pk⟩ := f
  unfold Ord.G Ord.shows at *
  simp only at *
  rcases h.2.2.2.2.2 with ⟨h1, h2⟩ | ⟨h1, h2, h3⟩
  · subst h1; subst h2; decide
  · have : (hd + pk - 1) / pk ≤ 256 := by
      have := Int.ediv_le_ediv h1 (show hd + pk - 1 ≤ 257 * pk - 1 by omega)
      have h4 : (257 * pk - 1) / pk < 257 := Int.ediv_lt_of_lt_mul h1 (by omega)
      omega
    omega
theorem rst_sum (s : Int) (o : Ord) (l : List Ord) : ((rst s o l).map Ord.shows).sum = o.shows + (l.map Ord.shows).sum := by
  have h : (l.map Ord.shows).sum = ((l.take (rpos s o.pr l)).map Ord.shows).sum + ((l.drop (rpos s o.pr l)).map Ord.shows).sum := by rw [← List.sum_append, ← List.map_append, List.take_append_drop]
  simp only [rst, List.map_append, List.sum_append, List.map_cons, List.map_nil, List.sum_cons, List.sum_nil]
  omega
theorem rst_mem {s : Int} {o x : Ord} {l : List Ord} (h : x ∈ rst s o l) : x = o ∨ x ∈ l := by
  simp only [rst, List.mem_append, List.mem_singleton] at h
  rcases h with (h | h) | h
  · exact .inr (List.mem_of_mem_take h)
  · exact .inl h
  · exact .inr (List.mem_of_mem_drop h)
/-- what holds between two steps -/
structure TS.Ok (s : TS) : Prop where
  good : ∀ f ∈ s.L, f.G
  lo : 0 ≤ s.left
  hi : s.left ≤ 18446744073709551615
theorem TS.Ok.step {meet : Int} {t : Tk} {s s' : TS} (h : s.Ok) (hs : s.step meet t = some s') : s'.Ok ∧ s'.mu < s.mu ∧ s'.L.length ≤ s.L.length ∧ s'.evs.length ≤ s.evs.length + 2 ∧ s'.left ≤ s.left := by
  obtain ⟨L, left, seq, evs⟩ := s
  unfold TS.step at hs
  obtain ⟨hg, hlo, hhi⟩ := h
  simp only at hs hg hlo hhi
  cases L with
  | nil => cases hs
  | cons f rest =>
    simp only at hs
    split at hs
    · rename_i hc
      have hfG := hg f (by simp)
      have hrG : ∀ x ∈ rest, x.G := fun x hx => hg x (by simp [hx])
      have hsh : 1 ≤ f.shows := by unfold Ord.shows; omega
      have hind : (if 0 < left then 1 else 0) = 1 := if_pos hc.1
      simp only [Option.some.injEq] at hs
      subst hs
      split
      · simp only [TS.meets]
        by_cases m1 : meet = 1
        · rw [if_pos m1, if_neg (show ¬ meet = 2 by omega)]
          simp [TS.mu, TS.tell, hind]
          exact ⟨⟨hg, by simp, by simp⟩, hlo⟩
        · rw [if_neg m1]
          by_cases m2 : meet = 2
          · rw [if_pos m2]
            simp [TS.mu, TS.tell, hind]
            exact ⟨⟨hrG, hlo, hhi⟩, by have := hc.1; simp [this]; omega⟩
          · rw [if_neg m2]
            simp [TS.mu, TS.tell, hind]
            exact ⟨⟨hrG, by simp, by simp⟩, by omega, hlo⟩
      · have hv : 1 ≤ f.v := hfG.1
        simp only [TS.hit]
        by_cases c1 : 0 < f.v - min left f.v
        · rw [if_pos c1]
          have e : min left f.v = left := by omega
          have hlG : (f.less left).G := by unfold Ord.G Ord.less at *; simp only at *; omega
          have hls : (f.less left).shows = f.shows := rfl
          simp [TS.mu, TS.tell, hind, e, hls]
          refine ⟨⟨fun x hx => ?_, by simp, by simp⟩, hlo⟩
          rcases List.mem_cons.1 hx with rfl | hx
          · exact hlG
          · exact hrG x hx
        · rw [if_neg c1]
          have e : min left f.v = f.v := by omega
          have hle : (if 0 < left - f.v then 1 else 0) ≤ 1 := by split <;> omega
          by_cases c2 : 0 < f.hd
          · rw [if_pos c2]
            obtain ⟨nG, nS⟩ := next_G hfG c2
            simp [TS.mu, TS.tell, hind, e, rst_sum, rst_length]
            refine ⟨⟨fun x hx => ?_, by simp only; omega, by simp only; omega⟩, by (try split) <;> omega, by omega⟩
            rcases rst_mem hx with rfl | hx
            · exact nG
            · exact hrG x hx
          · rw [if_neg c2]
            simp [TS.mu, TS.tell, hind, e]
            exact ⟨⟨hrG, by simp only; omega, by simp only; omega⟩, by (try split) <;> omega, by omega⟩
    · cases hs
end Go.Proofs.Ytinmhhonpflojaa

/- (*teller).trades: its walk. -/
namespace Go.Proofs.Ytinmhhonpflojaa
open Go.V
set_option linter.unusedVariables false
set_option linter.unusedSimpArgs false

theorem Side.set0 {b o n c : Nat} {f f' : Ord} {rest : List Ord} {l : List Value} (h : Side (.slice (some ⟨b, o, none⟩) n c) (f :: rest) [(b, .cells l 134)]) : Side (.slice (some ⟨b, o, none⟩) n c) (f' :: rest) [(b, .cells (splice l o f'.cells) 134)] := by
  obtain ⟨b', o', l', e1, e2, e3, e4, e5, e6⟩ := h.some_ (by simp)
  cases e1
  simp only [List.cons.injEq, Prod.mk.injEq, Ch.cells.injEq] at e3
  obtain ⟨⟨_, e3, _⟩, _⟩ := e3
  subst e3
  subst e2
  have hlen : (f :: rest).length = rest.length + 1 := rfl
  have hl7 : o + 7 ≤ l.length := by
    have : 1 * 7 ≤ c * 7 := Nat.mul_le_mul_right _ (by omega)
    omega
  refine ⟨rows_length _, .inr ⟨b, o, c, _, rfl, rfl, e4, ?_, ?_⟩⟩
  · rw [splice_length _ _ _ (by simp [Ord.cells, rcells]; omega)]; exact e5
  · have h7 : f'.cells.length = 7 := rfl
    have e : (splice l o f'.cells).drop o = f'.cells ++ l.drop (o + 7) := by
      unfold V.splice
      rw [List.append_assoc, List.drop_append_of_le_length (by rw [List.length_take]; omega), List.drop_take, Nat.sub_self, List.take_zero, List.nil_append, h7]
    rw [e]
    have e2 : (f' :: rest).length * 7 = 7 + rest.length * 7 := by simp; omega
    rw [e2, List.take_append, h7, List.take_of_length_le (by omega), show 7 + rest.length * 7 - 7 = rest.length * 7 from by omega]
    have e3 : (l.drop (o + 7)).take (rest.length * 7) = rows rest := by
      have : ((l.drop o).take ((f :: rest).length * 7)).drop 7 = rows rest := by
        rw [e6]; rfl
      rw [← this, List.drop_take, List.drop_drop, show (f :: rest).length * 7 - 7 = rest.length * 7 from by simp; omega]
    rw [e3]; rfl
theorem min_int (a b : Int) : (if a ≤ b then a else b) = min a b := by omega

set_option maxRecDepth 10000 in
set_option maxHeartbeats 1000000 in
theorem trades_ok (w : World) (t b po i : Nat) (tk : Tk) (hsi : tk.side = 1 ∧ i = 3 ∨ tk.side = 2 ∧ i = 2) (x0 vo x4 : Value) (meet : Int) (s0 : TS) (vs0 ve0 : Value) (ks0 ke0 : Hp) (hS0 : Side vs0 s0.L ks0) (hE0 : Evs ve0 s0.evs ke0) (hOk0 : s0.Ok)
    (hn0 : s0.L.length ≤ 1000000) (he0 : s0.evs.length + 2 * s0.mu ≤ 100000000000) :
    Does Try.prog 82 [.pointer (some ⟨t, 0, none⟩), .pointer (some ⟨po, 0, none⟩)] (TH t b po i x0 (.int .i64 meet) vo x4 tk s0.left s0.seq vs0 ve0 ks0 ke0) w
      (fun _ hs => ∃ z, TRun meet tk s0 z ∧ THs t b po i x0 (.int .i64 meet) vo x4 tk z hs) := by
  have hi : i = 2 ∨ i = 3 := by omega
  have hside : (if 3 - tk.side = 1 then some (⟨b, 2, none⟩ : Addr) else if 3 - tk.side = 2 then some ⟨b, 3, none⟩ else none) = some ⟨b, i, none⟩ := by
    rcases hsi with ⟨h, rfl⟩ | ⟨h, rfl⟩ <;> rw [h] <;> rfl
  have hsb : 1 ≤ tk.side ∧ tk.side ≤ 2 := by omega
  refine Does.less (Does.of (n := 166) Try.func82 rfl rfl rfl rfl ?_)
  refine .seq ((.region (.v (.move rfl) (.v (.nilCheck rfl) (.v (.fieldAddr rfl) (.v (.load (v := .pointer (some ⟨b, 0, none⟩)) rfl (.one rfl)) (.v (.nilCheck rfl) (.v (.fieldAddr rfl) (.v (.fieldAddr rfl) (.v (.fieldAddr rfl) (.v (.load (v := .int .i64 meet) rfl (.one rfl)) (.v (.assign rfl) (.nil ?_)))))))))))))
  refine .seq ((.region (.v (.move rfl) (.v (.nilCheck rfl) (.v (.fieldAddr rfl) (.v (.load (v := .int .i64 tk.side) rfl (.one rfl)) (.v (.subi rfl rfl (by omega)) (.v (.assign rfl) (.nil ?_)))))))))
  refine .seq ((.region (.v (.move rfl) (.v (.nilCheck rfl) (.v (.fieldAddr rfl) (.v (.load (v := .pointer (some ⟨b, 0, none⟩)) rfl (.one rfl)) (.v (.move rfl) (.pc (v := .pointer (some ⟨b, i, none⟩)) rfl rfl (fun w' _ => hside ▸ side_ok w' b (3 - tk.side)) (.v (.assign rfl) (.nil ?_))))))))))
  refine .block (.loop (X := TS × Value × Value × Hp × Hp) (fun x => [(0, .pointer (some ⟨t, 0, none⟩)), (1, .pointer (some ⟨po, 0, none⟩)), (4, .int .i64 meet), (5, .int .i64 (3 - tk.side)), (6, .pointer (some ⟨b, i, none⟩))])
    (fun x => TH t b po i x0 (.int .i64 meet) vo x4 tk x.1.left x.1.seq x.2.1 x.2.2.1 x.2.2.2.1 x.2.2.2.2)
    (fun x => Side x.2.1 x.1.L x.2.2.2.1 ∧ Evs x.2.2.1 x.1.evs x.2.2.2.2 ∧ x.1.Ok ∧ x.1.L.length ≤ 1000000 ∧ x.1.evs.length + 2 * x.1.mu ≤ 100000000000 ∧ ∀ z, TRun meet tk x.1 z → TRun meet tk s0 z) (fun x => x.1.mu)
    ⟨s0, vs0, ve0, ks0, ke0⟩ ⟨hS0, hE0, hOk0, hn0, he0, fun _ h => h⟩ (.cons rfl (.cons rfl (.cons rfl (.cons rfl (.cons rfl (.nil _)))))) (fun _ s => s) ?_)
  rintro ⟨⟨L, left, seq, evs⟩, vs, ve, ks, ke⟩ ⟨hS, hE, hOk, hn, he, hrun⟩
  dsimp only at hS hE hOk hn he hrun ⊢
  obtain ⟨A, c, rfl⟩ := OwnS.sl hS
  cases L with
  | nil =>
    refine .seq (.seq ((.drawK _ (fun _ h => h) (by kernel_rfl) (by kernel_rfl) ?_)))
    refine .v (fun _ f => .move rfl) (.v (fun _ f => .nilCheck rfl) (.v (fun _ f => .fieldAddr rfl) (.v (fun _ f => .load (v := .int .u64 left) rfl (.one (hb := .sub f) rfl)) (.v (fun _ f => .gtr rfl rfl) (.v (fun _ f => .move rfl) ?_)))))
    refine .and 34 39 5 5 rfl rfl (fun g1 => .v (fun _ f => .move rfl) (.v (fun _ f => .nilCheck rfl) (.v (fun _ f => .load (v := .slice A 0 c) rfl (.one (hb := .sub f) (BL_get hi _ _ _ _ _ _))) (.v (fun _ f => .len rfl) (.v (fun _ f => .gtr rfl rfl) (.nil ⟨rfl, rfl, rfl, rfl⟩)))))) ?_
    refine .v (fun _ f => .move rfl) (.and (b2 := false) 41 51 10 10 rfl rfl (fun g2 => absurd g2 (by simp)) (.nil ?_))
    refine .cond rfl (fun h => absurd h (by simp)) (fun _ => .exit ?_)
    exact ⟨[], trivial, _, fun _ s => s, _, hrun _ (.stop rfl), .slice A 0 c, ve, ks, ke, rfl, hS, hE⟩
  | cons f rest =>
    obtain ⟨bk, ok, lk, rfl, -, rfl, hck, hlk, hvk⟩ := hS.some_ (by simp)
    have hlen : (f :: rest).length = rest.length + 1 := rfl
    have hfG := hOk.good f (by simp)
    have hlo := hOk.lo
    have hhi := hOk.hi
    dsimp only at hlo hhi
    have hat : ∀ (own : List Nat) (hs' : Hp), [(bk, Ch.cells lk 134)] ⊆ hs' → ∀ (j : Nat) (us : List Value), (∀ (m : Nat) (v : Value), us[m]? = some v → (f.cells)[j + m]? = some v) → At w own hs' ⟨bk, ok + (0 : Int).toNat * 7 + j, none⟩ us := fun own hs' hsub j us hu => by
      show At w own hs' ⟨bk, ok + 0 + j, none⟩ us
      rw [Nat.add_zero]
      refine hS.atN hsub (fun m v hv => ?_)
      have h1 := hu m v hv
      have h2 := (List.getElem?_eq_some_iff.1 h1).1
      have := rows_get (f :: rest) 0 (j + m) (by simp) (by simpa [Ord.cells, rcells] using h2)
      rw [Nat.zero_mul, Nat.zero_add] at this
      rw [this]; exact h1
    refine .seq (.seq ((.drawK _ (fun _ h => h) (by kernel_rfl) (by kernel_rfl) ?_)))
    refine .v (fun _ f => .move rfl) (.v (fun _ f => .nilCheck rfl) (.v (fun _ f => .fieldAddr rfl) (.v (fun _ f => .load (v := .int .u64 left) rfl (.one (hb := .sub f) rfl)) (.v (fun _ f => .gtr rfl rfl) (.v (fun _ f => .move rfl) ?_)))))
    refine .and 34 39 5 5 rfl rfl (fun g1 => .v (fun _ f => .move rfl) (.v (fun _ f => .nilCheck rfl) (.v (fun _ h => .load (v := .slice (some ⟨bk, ok, none⟩) (f :: rest).length c) rfl (.one (hb := .sub h) (BL_get hi _ _ _ _ _ _))) (.v (fun _ f => .len rfl) (.v (fun _ f => .gtr rfl rfl) (.nil ⟨rfl, rfl, rfl, rfl⟩)))))) ?_
    refine .v (fun _ f => .move rfl) ?_
    refine .and 41 51 10 10 rfl rfl (fun g2 => .v (fun _ f => .move rfl) (.v (fun _ f => .nilCheck rfl) (.v (fun _ f => .loadA (vs := [.int .u64 tk.o.id, .int .u32 tk.o.mb, .int .i64 tk.o.ty, .int .i64 tk.o.pr, .int .u64 tk.o.v, .int .u64 tk.o.hd, .int .u64 tk.o.pk, .int .i64 tk.side, .int .i64 tk.kind, .int .u64 left]) rfl (.whole (hb := .sub f)) rfl) (.v (fun _ f => .move rfl) (.v (fun _ f => .nilCheck rfl) (.v (fun _ h => .load (v := .slice (some ⟨bk, ok, none⟩) (f :: rest).length c) rfl (.one (hb := .sub h) (BL_get hi _ _ _ _ _ _))) (.v (fun _ f => .indexAddr rfl rfl (by simp) (by simp)) (.v (fun _ f => .fieldAddr rfl) (.v (fun _ h => .load (v := .int .i64 f.pr) rfl (hat _ _ (fun p hp => h (by simp at hp ⊢; simp [hp])) 3 _ (fun m v hv => by match m, hv with | 0, hv => exact hv))) (.pc (v := .bool (reach tk.side tk.kind tk.o.pr f.pr)) rfl rfl (fun w' _ => reaches_ok w' tk.o.id tk.o.mb tk.o.ty tk.o.pr tk.o.v tk.o.hd tk.o.pk tk.side tk.kind left f.pr) (.nil ⟨rfl, rfl, rfl, rfl⟩))))))))))) ?_
    refine .nil ?_
    refine .cond rfl (fun h1 => .skip ?_) (fun h1 => .exit ?_)
    · have h1' : 0 < left ∧ reach tk.side tk.kind tk.o.pr f.pr = true := by
        simp at h1; exact h1
      have hstep : (⟨f :: rest, left, seq, evs⟩ : TS).step meet tk = some (if f.mb = tk.o.mb ∧ tk.o.mb ≠ 0 ∧ meet ≠ 0 then (⟨f :: rest, left, seq, evs⟩ : TS).meets meet tk f rest else (⟨f :: rest, left, seq, evs⟩ : TS).hit tk f rest) := by
        simp only [TS.step]; rw [if_pos h1']
      obtain ⟨k1, k2, k3, k4, k5⟩ := hOk.step hstep
      have k3 := Nat.le_trans k3 hn
      have k6 := fun z h => hrun z (.step hstep h)
      have k7 : ∀ s' : TS, s'.evs.length ≤ evs.length + 2 → s'.mu < (⟨f :: rest, left, seq, evs⟩ : TS).mu → s'.evs.length + 2 * s'.mu ≤ 100000000000 := fun s' a b => by
        have : evs.length + 2 * (⟨f :: rest, left, seq, evs⟩ : TS).mu ≤ 100000000000 := he
        omega
      have heb : evs.length ≤ 100000000000 := by
        have : evs.length + 2 * (⟨f :: rest, left, seq, evs⟩ : TS).mu ≤ 100000000000 := he
        omega
      refine .block (.seq ((.region (.v (.move rfl) (.v (.nilCheck rfl) (.v (.load (v := (.slice (some ⟨bk, ok, none⟩) (f :: rest).length c)) rfl (.one (BL_get hi _ _ _ _ _ _))) (.v (.indexAddr rfl rfl (by simp) (by simp)) (.v (.loadA (vs := [.int .u64 f.id, .int .u32 f.mb, .int .i64 f.ty, .int .i64 f.pr, .int .u64 f.v, .int .u64 f.hd, .int .u64 f.pk]) rfl (hat _ _ (fun p hp => by simp at hp ⊢; simp [hp]) 0 _ (fun m v hv => by rw [Nat.zero_add]; exact hv)) rfl) (.nw .alloc fun b7 => (.st (.sw rfl rfl) (.nil ?_)))))))))))
      refine .seq (.seq ((.drawK _ (fun _ h => h) (by kernel_rfl) (by kernel_rfl) ?_)))
      refine .v (fun _ f => .fieldAddr rfl) (.v (fun _ h => .load (v := .int .u32 f.mb) rfl (.one (hb := .sub h) rfl)) (.v (fun _ f => .move rfl) (.v (fun _ f => .nilCheck rfl) (.v (fun _ f => .fieldAddr rfl) (.v (fun _ f => .fieldAddr rfl) (.v (fun _ f => .load (v := .int .u32 tk.o.mb) rfl (.one (hb := .sub f) rfl)) (.v (fun _ f => .eqi rfl rfl) (.v (fun _ f => .move rfl) ?_))))))))
      refine .and 66 72 6 6 rfl rfl (fun g3 => .v (fun _ f => .move rfl) (.v (fun _ f => .nilCheck rfl) (.v (fun _ f => .fieldAddr rfl) (.v (fun _ f => .fieldAddr rfl) (.v (fun _ f => .load (v := .int .u32 tk.o.mb) rfl (.one (hb := .sub f) rfl)) (.v (fun _ f => .nei rfl rfl) (.nil ⟨rfl, rfl, rfl, rfl⟩))))))) (.v (fun _ f => .move rfl) (.and 74 76 2 2 rfl rfl (fun g4 => .v (fun _ f => .move rfl) (.v (fun _ f => .nei rfl rfl) (.nil ⟨rfl, rfl, rfl, rfl⟩))) (.nil ?_)))
      refine .cond rfl (fun h2 => ?_) (fun h2 => .skip ?_) <;> simp only [Bool.and_eq_true, Bool.or_eq_true, Bool.not_eq_true', Bool.and_eq_false_iff, Bool.or_eq_false_iff, Bool.not_eq_false', decide_eq_true_eq, decide_eq_false_iff_not, Bool.false_eq_true, false_iff] at h2
      · have hm : f.mb = tk.o.mb ∧ tk.o.mb ≠ 0 ∧ meet ≠ 0 := ⟨h2.1.1, h2.1.2, h2.2⟩
        rw [if_pos hm] at k1 k2 k3 k4 k6
        refine .seq ((.region (.v (.move rfl) (.v (.move rfl) (.v (.move rfl) (.v (.loadA (vs := [.int .u64 f.id, .int .u32 f.mb, .int .i64 f.ty, .int .i64 f.pr, .int .u64 f.v, .int .u64 f.hd, .int .u64 f.pk]) rfl .whole rfl) (.v (.move rfl) ?_)))))))
        refine .ef (.callT (TH t b po i x0 (.int .i64 meet) vo x4 tk left seq (.slice (some ⟨bk, ok, none⟩) (f :: rest).length c) ve [(bk, Ch.cells lk 134)] ke) rfl rfl (fun w' s' => meets_ok w' t b po i hi x0 (.int .i64 meet) vo x4 tk meet f rest left seq evs _ ve _ ke hS hE (by omega) (by omega) (by unfold Ord.G at hfG; unfold U; omega))) ?_
        rintro _ _ ⟨hh, hT, rfl⟩
        obtain ⟨sm, hsm⟩ : ∃ sm, (⟨f :: rest, left, seq, evs⟩ : TS).meets meet tk f rest = sm := ⟨_, rfl⟩
        rw [hsm] at hT k1 k2 k3 k4 k6
        obtain ⟨vs', ve', ks', ke', rfl, hS', hE'⟩ := hT
        refine .nil (.exit ?_)
        exact ⟨⟨sm, vs', ve', ks', ke'⟩, ⟨hS', hE', k1, k3, k7 _ k4 k2, k6⟩, k2, .cons rfl (.cons rfl (.cons rfl (.cons rfl (.cons rfl (.nil _))))), fun _ s => Sat.take (pre := TH t b po i x0 (.int .i64 meet) vo x4 tk sm.left sm.seq vs' ve' ks' ke') s⟩
      · have hm : ¬ (f.mb = tk.o.mb ∧ tk.o.mb ≠ 0 ∧ meet ≠ 0) := by
          rintro ⟨a1, a2, a3⟩
          rcases h2 with (h2 | h2) | h2
          · exact h2 a1
          · exact h2 a2
          · exact h2 a3
        rw [if_neg hm] at k1 k2 k3 k4 k6
        obtain ⟨g1, g2, g3, g4, g5, g6⟩ := hfG
        refine .seq ((.drawK _ (fun _ h => h) (by kernel_rfl) (by kernel_rfl) ?_))
        refine .v (fun _ f => .move rfl) (.v (fun _ f => .nilCheck rfl) (.v (fun _ f => .fieldAddr rfl) (.v (fun _ f => .load (v := .int .u64 left) rfl (.one (hb := .sub f) rfl)) (.v (fun _ f => .fieldAddr rfl) (.v (fun _ h => .load (v := .int .u64 f.v) rfl (.one (hb := .sub h) rfl)) (.v (fun _ f => .min2 rfl rfl) (.v (fun _ f => .assign rfl) (.nil ?_))))))))
        obtain ⟨q, hq⟩ : ∃ q, min left f.v = q := ⟨_, rfl⟩
        have hit : (⟨f :: rest, left, seq, evs⟩ : TS).hit tk f rest = (if 0 < f.v - q then ⟨f.less q :: rest, left - q, nx seq, evs ++ [(evTrade tk.o.id f.id tk.side f.pr q).num (nx seq)]⟩
            else if 0 < f.hd then (⟨rst (3 - tk.side) f.next rest, left - q, nx seq, evs ++ [(evTrade tk.o.id f.id tk.side f.pr q).num (nx seq)]⟩ : TS).tell (evRefresh f.id f.pr f.next.v)
            else ⟨rest, left - q, nx seq, evs ++ [(evTrade tk.o.id f.id tk.side f.pr q).num (nx seq)]⟩) := by
          rw [← hq]; rfl
        rw [hit] at k1 k2 k3 k4 k6
        rw [hq]
        refine .seq ((.drawK [To po tk left, (b7, .cells [.int .u64 f.id, .int .u32 f.mb, .int .i64 f.ty, .int .i64 f.pr, .int .u64 f.v, .int .u64 f.hd, .int .u64 f.pk] 134)] (by intro p hp; simp at hp ⊢; rcases hp with rfl | rfl <;> simp) (by kernel_rfl) (by kernel_rfl) ?_))
        refine .v (fun _ f => .move rfl) (.v (fun _ f => .move rfl) (.v (fun _ f => .nilCheck rfl) (.v (fun _ f => .fieldAddr rfl) (.v (fun _ f => .fieldAddr rfl) (.v (fun _ f => .load (v := .int .u64 tk.o.id) rfl (.one (hb := .sub f) rfl)) (.v (fun _ f => .fieldAddr rfl) (.v (fun _ h => .load (v := .int .u64 f.id) rfl (.one (hb := .sub h) rfl)) (.v (fun _ f => .move rfl) (.v (fun _ f => .nilCheck rfl) (.v (fun _ f => .fieldAddr rfl) (.v (fun _ f => .load (v := .int .i64 tk.side) rfl (.one (hb := .sub f) rfl)) (.v (fun _ f => .fieldAddr rfl) (.v (fun _ h => .load (v := .int .i64 f.pr) rfl (.one (hb := .sub h) rfl)) (.v (fun _ f => .move rfl) (.v (fun _ _ => .build (out := (evTrade tk.o.id f.id tk.side f.pr q).cells) rfl rfl) ?_)))))))))))))))
        refine .ef (.callT (Tt t b ve :: Tb b (BL i x0 (.int .i64 meet) (.slice (some ⟨bk, ok, none⟩) (f :: rest).length c) vo x4 (.int .u64 seq)) :: ke) rfl rfl (fun w' s' => tell_ok w' t b x0 (.int .i64 meet) _ _ x4 seq (evTrade tk.o.id f.id tk.side f.pr q) evs ve ke hE (by omega))) (fun _ _ ⟨_, _, e⟩ _ => by subst e; intro p hp; simp at hp ⊢; rcases hp with rfl | rfl <;> simp) ?_
        rintro _ _ ⟨_, ⟨ve1, ke1, rfl, hE1⟩, rfl⟩
        refine .nil ?_
        have hql : 0 ≤ left - q ∧ left - q ≤ 18446744073709551615 := by omega
        have hqv : 0 ≤ f.v - q ∧ f.v - q ≤ 18446744073709551615 := by omega
        have hE1' : Evs ve1 (evs ++ [(evTrade tk.o.id f.id tk.side f.pr q).num (nx seq)]) ke1 := hE1
        have hel : (evs ++ [(evTrade tk.o.id f.id tk.side f.pr q).num (nx seq)]).length = evs.length + 1 := by simp
        refine .keep ((b7, Ch.cells [.int .u64 f.id, .int .u32 f.mb, .int .i64 f.ty, .int .i64 f.pr, .int .u64 f.v, .int .u64 f.hd, .int .u64 f.pk] 134) :: TH t b po i x0 (.int .i64 meet) vo x4 tk left (nx seq) (.slice (some ⟨bk, ok, none⟩) (f :: rest).length c) ve1 [(bk, Ch.cells lk 134)] ke1) ?_
        refine .seq ((.region (.v (.move rfl) (.v (.nilCheck rfl) (.v (.fieldAddr rfl) (.v (.load (v := .int .u64 left) rfl (.one rfl)) (.v (.move rfl) (.v (.subU (left - q) rfl rfl rfl hql) (.v (.nilCheck rfl) (.v (.fieldAddr rfl) (.st (.storeL rfl rfl rfl) (.nil ?_))))))))))))
        refine .seq ((.region (.v (.fieldAddr rfl) (.v (.load (v := .int .u64 f.v) rfl (.one rfl)) (.v (.move rfl) (.v (.subU (f.v - q) rfl rfl rfl hqv) (.v (.fieldAddr rfl) (.st (.storeL rfl rfl rfl) (.nil ?_)))))))))
        refine .seq ((.drawQ 5 [0, 1, 2, 3, 4, 5] _ (fun _ h => h) (by kernel_rfl) (by kernel_rfl) ?_))
        refine .v (fun _ f => .move rfl) (.v (fun _ f => .nilCheck rfl) (.v (fun _ h => .load (v := (.slice (some ⟨bk, ok, none⟩) (f :: rest).length c)) rfl (.one (hb := .sub h) (BL_get hi _ _ _ _ _ _))) (.v (fun _ h => .loadA (vs := [.int .u64 f.id, .int .u32 f.mb, .int .i64 f.ty, .int .i64 f.pr, .int .u64 (f.v - q), .int .u64 f.hd, .int .u64 f.pk]) rfl (.whole (hb := .sub h)) rfl) (.v (fun _ f => .indexAddr rfl rfl (by simp) (by simp)) (.st (.storeA rfl rfl rfl rfl (by show ok + 0 + 7 ≤ lk.length; have : 1 * 7 ≤ c * 7 := Nat.mul_le_mul_right _ (by omega); omega)) (.nil ?_))))))
        have hS2 : Side (.slice (some ⟨bk, ok, none⟩) (f :: rest).length c) (f.less q :: rest) [(bk, Ch.cells (V.splice lk (ok + (0 : Int).toNat * 7) [.int .u64 f.id, .int .u32 f.mb, .int .i64 f.ty, .int .i64 f.pr, .int .u64 (f.v - q), .int .u64 f.hd, .int .u64 f.pk]) 134)] := hS.set0 (f' := f.less q)
        refine .seq (.seq ((.region (.v (.fieldAddr rfl) (.v (.load (v := .int .u64 (f.v - q)) rfl (.one rfl)) (.v (.gtr rfl rfl) (.nil ?_)))))))
        refine .cond_dec rfl (fun h3 => .exit ?_) (fun h3 => .skip ?_)
        · rw [if_pos h3] at k1 k2 k3 k4 k6
          exact ⟨⟨⟨f.less q :: rest, left - q, nx seq, evs ++ [(evTrade tk.o.id f.id tk.side f.pr q).num (nx seq)]⟩, (.slice (some ⟨bk, ok, none⟩) (f :: rest).length c), ve1, [(bk, Ch.cells (V.splice lk (ok + (0 : Int).toNat * 7) [.int .u64 f.id, .int .u32 f.mb, .int .i64 f.ty, .int .i64 f.pr, .int .u64 (f.v - q), .int .u64 f.hd, .int .u64 f.pk]) 134)], ke1⟩, ⟨hS2, hE1', k1, k3, k7 _ k4 k2, k6⟩, k2, .cons rfl (.cons rfl (.cons rfl (.cons rfl (.cons rfl (.nil _))))), fun _ s => Sat.take (pre := TH t b po i x0 (.int .i64 meet) vo x4 tk (left - q) (nx seq) (.slice (some ⟨bk, ok, none⟩) (f :: rest).length c) ve1 [(bk, Ch.cells (V.splice lk (ok + (0 : Int).toNat * 7) [.int .u64 f.id, .int .u32 f.mb, .int .i64 f.ty, .int .i64 f.pr, .int .u64 (f.v - q), .int .u64 f.hd, .int .u64 f.pk]) 134)] ke1) s⟩
        rw [if_neg h3] at k1 k2 k3 k4 k6
        refine .seq ((.region (.v (.move rfl) (.v (.move rfl) (.v (.nilCheck rfl) (.v (.load (v := (.slice (some ⟨bk, ok, none⟩) (f :: rest).length c)) rfl (.one (BL_get hi _ _ _ _ _ _))) ?_))))))
        refine .ef (.callT [(bk, Ch.cells (V.splice lk (ok + (0 : Int).toNat * 7) [.int .u64 f.id, .int .u32 f.mb, .int .i64 f.ty, .int .i64 f.pr, .int .u64 (f.v - q), .int .u64 f.hd, .int .u64 f.pk]) 134)] rfl rfl (fun w' s' => delete0_ok w' _ _ c (f.less q) rest _ hS2 rfl (by omega))) ?_
        rintro v3 _ ⟨ks3, hS3, rfl⟩
        obtain ⟨A3, c3, rfl⟩ := OwnS.sl hS3
        refine .v (.nilCheck rfl) (.st (.store rfl rfl rfl (by rcases hi with rfl | rfl <;> simp)) (.nil ?_))
        rw [BL_set hi]
        refine .keep ((b7, Ch.cells [.int .u64 f.id, .int .u32 f.mb, .int .i64 f.ty, .int .i64 f.pr, .int .u64 (f.v - q), .int .u64 f.hd, .int .u64 f.pk] 134) :: TH t b po i x0 (.int .i64 meet) vo x4 tk (left - q) (nx seq) (.slice A3 rest.length c3) ve1 ks3 ke1) ?_
        refine .seq ((.region (.v (.fieldAddr rfl) (.v (.load (v := .int .u64 f.hd) rfl (.one rfl)) (.v (.gtr rfl rfl) (.nil ?_))))))
        refine .cond_dec rfl (fun h4 => ?_) (fun h4 => .skip ?_)
        · rw [if_pos h4] at k1 k2 k3 k4 k6
          have hmn : 0 ≤ f.hd - min f.pk f.hd ∧ f.hd - min f.pk f.hd ≤ 18446744073709551615 := by omega
          refine .seq ((.region (.v (.fieldAddr rfl) (.v (.load (v := .int .u64 f.pk) rfl (.one rfl)) (.v (.fieldAddr rfl) (.v (.load (v := .int .u64 f.hd) rfl (.one rfl)) (.v (.min2 rfl rfl) (.v (.fieldAddr rfl) (.st (.storeL rfl rfl rfl) (.nil ?_))))))))))
          refine .seq ((.region (.v (.fieldAddr rfl) (.v (.load (v := .int .u64 f.hd) rfl (.one rfl)) (.v (.fieldAddr rfl) (.v (.load (v := .int .u64 (min f.pk f.hd)) rfl (.one rfl)) (.v (.subU (f.hd - min f.pk f.hd) rfl rfl rfl hmn) (.v (.fieldAddr rfl) (.st (.storeL rfl rfl rfl) (.nil ?_))))))))))
          refine .seq ((.drawK [Tt t b ve1, (b7, Ch.cells [.int .u64 f.id, .int .u32 f.mb, .int .i64 f.ty, .int .i64 f.pr, .int .u64 (min f.pk f.hd), .int .u64 (f.hd - min f.pk f.hd), .int .u64 f.pk] 134)] (by intro p hp; simp at hp ⊢; rcases hp with rfl | rfl <;> simp) (by kernel_rfl) (by kernel_rfl) ?_))
          refine .v (fun _ f => .move rfl) (.v (fun _ f => .nilCheck rfl) (.v (fun _ f => .fieldAddr rfl) (.v (fun _ f => .load (v := .pointer (some ⟨b, 0, none⟩)) rfl (.one (hb := .sub f) rfl)) (.v (fun _ f => .move rfl) (.v (fun _ h => .loadA (vs := [.int .u64 f.id, .int .u32 f.mb, .int .i64 f.ty, .int .i64 f.pr, .int .u64 (min f.pk f.hd), .int .u64 (f.hd - min f.pk f.hd), .int .u64 f.pk]) rfl (.whole (hb := .sub h)) rfl) ?_)))))
          refine .ef (.callT (Tb b (BL i x0 (.int .i64 meet) (.slice A3 rest.length c3) vo x4 (.int .u64 (nx seq))) :: ks3) rfl rfl (fun w' s' => rests_ok w' b i (3 - tk.side) (by omega) _ rfl f.next rest _ ks3 (BL_get hi _ _ _ _ _ _) hS3 (by omega))) (fun _ _ ⟨_, _, e⟩ _ => by subst e; intro p hp; simp at hp ⊢; rcases hp with rfl | rfl <;> simp) ?_
          rintro _ _ ⟨_, ⟨v4, ks4, rfl, hS4⟩, rfl⟩
          refine .nil ?_
          rw [BL_set hi]
          refine .keep ((b7, Ch.cells [.int .u64 f.id, .int .u32 f.mb, .int .i64 f.ty, .int .i64 f.pr, .int .u64 (min f.pk f.hd), .int .u64 (f.hd - min f.pk f.hd), .int .u64 f.pk] 134) :: TH t b po i x0 (.int .i64 meet) vo x4 tk (left - q) (nx seq) v4 ve1 ks4 ke1) ?_
          refine .region (.v (.move rfl) (.v (.fieldAddr rfl) (.v (.load (v := .int .u64 f.id) rfl (.one rfl)) (.v (.fieldAddr rfl) (.v (.load (v := .int .i64 f.pr) rfl (.one rfl)) (.v (.fieldAddr rfl) (.v (.load (v := .int .u64 (min f.pk f.hd)) rfl (.one rfl)) (.v (.build (out := (evRefresh f.id f.pr f.next.v).cells) rfl rfl) ?_))))))))
          refine .ef (.callT (Tt t b ve1 :: Tb b (BL i x0 (.int .i64 meet) v4 vo x4 (.int .u64 (nx seq))) :: ke1) rfl rfl (fun w' s' => tell_ok w' t b x0 (.int .i64 meet) _ _ x4 (nx seq) (evRefresh f.id f.pr f.next.v) _ ve1 ke1 hE1' (by omega))) ?_
          rintro _ _ ⟨_, ⟨ve5, ke5, rfl, hE5⟩, rfl⟩
          refine .nil ?_
          exact ⟨⟨(⟨rst (3 - tk.side) f.next rest, left - q, nx seq, evs ++ [(evTrade tk.o.id f.id tk.side f.pr q).num (nx seq)]⟩ : TS).tell (evRefresh f.id f.pr f.next.v), v4, ve5, ks4, ke5⟩, ⟨hS4, hE5, k1, k3, k7 _ k4 k2, k6⟩, k2, .cons rfl (.cons rfl (.cons rfl (.cons rfl (.cons rfl (.nil _))))), fun _ s => Sat.take (pre := TH t b po i x0 (.int .i64 meet) vo x4 tk (left - q) (nx (nx seq)) v4 ve5 ks4 ke5) s⟩
        · rw [if_neg h4] at k1 k2 k3 k4 k6
          exact ⟨⟨⟨rest, left - q, nx seq, evs ++ [(evTrade tk.o.id f.id tk.side f.pr q).num (nx seq)]⟩, _, ve1, ks3, ke1⟩, ⟨hS3, hE1', k1, k3, k7 _ k4 k2, k6⟩, k2, .cons rfl (.cons rfl (.cons rfl (.cons rfl (.cons rfl (.nil _))))), fun _ s => Sat.take (pre := TH t b po i x0 (.int .i64 meet) vo x4 tk (left - q) (nx seq) (.slice A3 rest.length c3) ve1 ks3 ke1) s⟩
    · have hstop : (⟨f :: rest, left, seq, evs⟩ : TS).step meet tk = none := by
        simp only [TS.step]
        rw [if_neg]
        rintro ⟨k1, k2⟩
        simp [k1, k2] at h1
      exact ⟨[], trivial, _, fun _ s => s, _, hrun _ (.stop hstop), _, ve, _, ke, rfl, hS, hE⟩
end Go.Proofs.Ytinmhhonpflojaa

/- Trading to its end, as a function. -/
namespace Go.Proofs.Ytinmhhonpflojaa
open Go.V
set_option linter.unusedVariables false
set_option linter.unusedSimpArgs false

def trF (meet : Int) (t : Tk) : Nat → TS → TS
  | 0, s => s
  | n + 1, s => match s.step meet t with
    | none => s
    | some s' => trF meet t n s'
/-- trading, to its end -/
def tr (meet : Int) (t : Tk) (s : TS) : TS := trF meet t (s.mu + 1) s
theorem trF_run {meet : Int} {t : Tk} : ∀ (n : Nat) (s : TS), s.Ok → s.mu < n → TRun meet t s (trF meet t n s)
  | 0, s, _, h => by omega
  | n + 1, s, hk, h => by
    unfold trF
    cases hs : s.step meet t with
    | none => exact .stop hs
    | some s' =>
      obtain ⟨h1, h2, _⟩ := hk.step hs
      exact .step hs (trF_run n s' h1 (by omega))
theorem tr_run {meet : Int} {t : Tk} {s : TS} (h : s.Ok) : TRun meet t s (tr meet t s) := trF_run _ s h (by omega)
theorem TRun.eq {meet : Int} {t : Tk} {s z : TS} (h : TRun meet t s z) (hk : s.Ok) : z = tr meet t s := h.det (tr_run hk)
theorem TRun.ok {meet : Int} {t : Tk} {s z : TS} (h : TRun meet t s z) (hk : s.Ok) : z.Ok ∧ z.L.length ≤ s.L.length ∧ z.evs.length + 2 * z.mu ≤ s.evs.length + 2 * s.mu ∧ z.left ≤ s.left := by
  induction h with
  | stop _ => exact ⟨hk, Nat.le_refl _, Nat.le_refl _, Int.le_refl _⟩
  | step hs _ ih =>
    obtain ⟨h1, h2, h3, h4, h5⟩ := hk.step hs
    obtain ⟨i1, i2, i3, i4⟩ := ih h1
    exact ⟨i1, by omega, by omega, by omega⟩
/-- what was traded -/
def tsum (l : List Ev) : Int := l.foldl (fun a e => if e.kind = 3 then IntKind.u64.wrap (a + e.q) else a) 0
theorem tsum_snoc (l : List Ev) (e : Ev) : tsum (l ++ [e]) = if e.kind = 3 then IntKind.u64.wrap (tsum l + e.q) else tsum l := by simp [tsum]
theorem mu_le {s : TS} (h : s.Ok) : s.mu ≤ 257 * s.L.length + 1 := by
  obtain ⟨L, left, seq, evs⟩ := s
  have hg := h.good
  unfold TS.mu
  dsimp only at *
  have key : (L.map Ord.shows).sum ≤ 257 * L.length := by
    clear h
    induction L with
    | nil => simp
    | cons f L ih =>
      have h1 := shows_le (hg f (by simp))
      have h2 := ih fun x hx => hg x (by simp [hx])
      simp only [List.map_cons, List.sum_cons, List.length_cons]
      omega
  split <;> omega
/-- a book -/
structure Bk where
  cap : Int
  meet : Int
  bs : List Ord
  ss : List Ord
  high : Int
  seq : Int
def Bk.side (B : Bk) (s : Int) : List Ord := if s = 1 then B.bs else B.ss
def Bk.put (B : Bk) (s : Int) (l : List Ord) : Bk := if s = 1 then ⟨B.cap, B.meet, l, B.ss, B.high, B.seq⟩ else ⟨B.cap, B.meet, B.bs, l, B.high, B.seq⟩
def Bk.num (B : Bk) (q : Int) : Bk := ⟨B.cap, B.meet, B.bs, B.ss, B.high, q⟩
abbrev Bc (B : Bk) (v1 v2 : Value) : List Value := [.int .i64 B.cap, .int .i64 B.meet, v1, v2, .int .u64 B.high, .int .u64 B.seq]
/-- a book in memory, whose sides are its own -/
def BkH (b : Nat) (B : Bk) (hs : Hp) : Prop := ∃ v1 v2 k1 k2, hs = Tb b (Bc B v1 v2) :: (k1 ++ k2) ∧ Side v1 B.bs k1 ∧ Side v2 B.ss k2
/-- .. with a teller -/
abbrev TBh (t b : Nat) (B : Bk) (v1 v2 ve : Value) (k1 k2 ke : Hp) : Hp := Tt t b ve :: Tb b (Bc B v1 v2) :: (k1 ++ (k2 ++ ke))
def TB (t b : Nat) (B : Bk) (evs : List Ev) (hs : Hp) : Prop := ∃ v1 v2 ve k1 k2 ke, hs = TBh t b B v1 v2 ve k1 k2 ke ∧ Side v1 B.bs k1 ∧ Side v2 B.ss k2 ∧ Evs ve evs ke
/-- the order that comes meets the other side: the state of trading -/
def Bk.ts (B : Bk) (evs : List Ev) (t : Tk) : TS := ⟨B.side (3 - t.side), t.left, B.seq, evs⟩
def Bk.traded (B : Bk) (t : Tk) (z : TS) : Bk := (B.put (3 - t.side) z.L).num z.seq
set_option maxRecDepth 10000 in
theorem trade_ok (w : World) (t b po : Nat) (B : Bk) (evs : List Ev) (tk : Tk) (hs : tk.side = 1 ∨ tk.side = 2) (v1 v2 ve : Value) (k1 k2 ke : Hp) (h1 : Side v1 B.bs k1) (h2 : Side v2 B.ss k2) (hE : Evs ve evs ke) (hOk : (B.ts evs tk).Ok)
    (hn : (B.ts evs tk).L.length ≤ 1000000) (he : evs.length ≤ 1000000000) :
    Does Try.prog 82 [.pointer (some ⟨t, 0, none⟩), .pointer (some ⟨po, 0, none⟩)] (To po tk tk.left :: TBh t b B v1 v2 ve k1 k2 ke) w
      (fun _ hs => ∃ h, hs = To po tk (tr B.meet tk (B.ts evs tk)).left :: h ∧ TB t b (B.traded tk (tr B.meet tk (B.ts evs tk))) (tr B.meet tk (B.ts evs tk)).evs h) := by
  have hmu := mu_le hOk
  have he2 : (B.ts evs tk).evs.length + 2 * (B.ts evs tk).mu ≤ 100000000000 := by
    have : (B.ts evs tk).evs.length = evs.length := rfl
    omega
  rcases hs with hs | hs
  · have e3 : B.side (3 - tk.side) = B.ss := by unfold Bk.side; rw [hs]; rfl
    have ep : ∀ z : TS, B.traded tk z = ⟨B.cap, B.meet, B.bs, z.L, B.high, z.seq⟩ := fun z => by unfold Bk.traded Bk.put; rw [hs]; rfl
    have := trades_ok w t b po 3 tk (.inl ⟨hs, rfl⟩) (.int .i64 B.cap) v1 (.int .u64 B.high) B.meet (B.ts evs tk) v2 ve k2 ke (by unfold Bk.ts; rw [e3]; exact h2) hE hOk hn he2
    have h3 : Does Try.prog 82 [.pointer (some ⟨t, 0, none⟩), .pointer (some ⟨po, 0, none⟩)] (Tt t b ve :: Tb b (Bc B v1 v2) :: To po tk tk.left :: (k2 ++ ke)) w _ := this
    refine (Does.lendT _ h3).keepT ?_
    rintro _ _ ⟨_, ⟨z, hz, vs', ve', ks', ke', rfl, hS', hE'⟩, rfl⟩
    obtain rfl := hz.eq hOk
    generalize tr B.meet tk (B.ts evs tk) = z at *
    have hp : ((Tt t b ve' :: Tb b (Bc ⟨B.cap, B.meet, B.bs, z.L, B.high, z.seq⟩ v1 vs') :: To po tk z.left :: (ks' ++ ke')) ++ (k1 ++ [])).Perm ((To po tk z.left :: TBh t b ⟨B.cap, B.meet, B.bs, z.L, B.high, z.seq⟩ v1 vs' ve' k1 ks' ke') ++ []) := TakeI.out
    exact ⟨To po tk z.left :: TBh t b (B.traded tk z) v1 vs' ve' k1 ks' ke', [], by rw [ep]; exact hp, _, rfl, v1, vs', ve', k1, ks', ke', rfl, by rw [ep]; exact h1, by rw [ep]; exact hS', hE'⟩
  · have e3 : B.side (3 - tk.side) = B.bs := by unfold Bk.side; rw [hs]; rfl
    have ep : ∀ z : TS, B.traded tk z = ⟨B.cap, B.meet, z.L, B.ss, B.high, z.seq⟩ := fun z => by unfold Bk.traded Bk.put; rw [hs]; rfl
    have := trades_ok w t b po 2 tk (.inr ⟨hs, rfl⟩) (.int .i64 B.cap) v2 (.int .u64 B.high) B.meet (B.ts evs tk) v1 ve k1 ke (by unfold Bk.ts; rw [e3]; exact h1) hE hOk hn he2
    have h3 : Does Try.prog 82 [.pointer (some ⟨t, 0, none⟩), .pointer (some ⟨po, 0, none⟩)] (Tt t b ve :: Tb b (Bc B v1 v2) :: To po tk tk.left :: (k1 ++ ke)) w _ := this
    refine (Does.lendT _ h3).keepT ?_
    rintro _ _ ⟨_, ⟨z, hz, vs', ve', ks', ke', rfl, hS', hE'⟩, rfl⟩
    obtain rfl := hz.eq hOk
    generalize tr B.meet tk (B.ts evs tk) = z at *
    have hp : ((Tt t b ve' :: Tb b (Bc ⟨B.cap, B.meet, z.L, B.ss, B.high, z.seq⟩ vs' v2) :: To po tk z.left :: (ks' ++ ke')) ++ (k2 ++ [])).Perm ((To po tk z.left :: TBh t b ⟨B.cap, B.meet, z.L, B.ss, B.high, z.seq⟩ vs' v2 ve' ks' k2 ke') ++ []) := TakeI.out
    exact ⟨To po tk z.left :: TBh t b (B.traded tk z) vs' v2 ve' ks' k2 ke', [], by rw [ep]; exact hp, _, rfl, vs', v2, ve', ks', k2, ke', rfl, by rw [ep]; exact hS', by rw [ep]; exact h2, hE'⟩
end Go.Proofs.Ytinmhhonpflojaa

/- (*teller).whole: would an order trade whole? -/
namespace Go.Proofs.Ytinmhhonpflojaa
open Go.V
set_option linter.unusedVariables false
set_option linter.unusedSimpArgs false

theorem Does.kept {P : Program} {g : Nat} {vals : List Value} {w : World} {v : Value} (h : Does P g vals [] w (fun u _ => u = v)) : Is P g vals w v :=
  Does.less (h.mono fun u hs e => ⟨[], fun _ s => s.sub (List.nil_sublist _), e, rfl⟩)
set_option maxRecDepth 10000 in
theorem whole_ok (w : World) (t b : Nat) (B : Bk) (tk : Tk) (hs : tk.side = 1 ∨ tk.side = 2) (ve : Value) (A1 A2 : Option Addr) (c1 c2 : Nat) (ht : Rd w [] (some ⟨t, 0, none⟩) [.pointer (some ⟨b, 0, none⟩), ve])
    (hb : Rd w [] (some ⟨b, 0, none⟩) (Bc B (.slice A1 B.bs.length c1) (.slice A2 B.ss.length c2))) (h1 : Rd w [] A1 (rows B.bs)) (h2 : Rd w [] A2 (rows B.ss)) (hOk : (B.ts [] tk).Ok) (hn1 : B.bs.length ≤ 1000000) (hn2 : B.ss.length ≤ 1000000) :
    Is Try.prog 81 [.pointer (some ⟨t, 0, none⟩), .agg ⟨tk.cells⟩] w (.bool (decide (tsum (tr B.meet tk (B.ts [] tk)).evs = tk.left))) := by
  have hnn : (B.ts [] tk).L.length ≤ 1000000 := by
    unfold Bk.ts Bk.side
    simp only
    split <;> assumption
  refine Does.kept (Does.of (n := 46) Try.func81 rfl rfl rfl rfl ?_)
  refine .seq ((.region (.nw (.box (l := [.int .u64 tk.o.id, .int .u32 tk.o.mb, .int .i64 tk.o.ty, .int .i64 tk.o.pr, .int .u64 tk.o.v, .int .u64 tk.o.hd, .int .u64 tk.o.pk, .int .i64 tk.side, .int .i64 tk.kind, .int .u64 tk.left]) rfl rfl) fun b3 => (.v (.assign rfl) (.nil ?_)))))
  refine .seq ((.region (.v (.move rfl) (.v (.nilCheck rfl) (.v (.fieldAddr rfl) (.v (.load (v := .pointer (some ⟨b, 0, none⟩)) rfl (ht.cell (i := 0) rfl)) (.v (.nilCheck rfl) (.v (.fieldAddr rfl) (.v (.loadA (vs := Bc B (.slice A1 B.bs.length c1) (.slice A2 B.ss.length c2)) rfl hb.whole rfl) ?_)))))))))
  refine .ef (.call0 rfl rfl fun w s => copied_ok w B.cap B.meet B.high B.seq A1 A2 c1 c2 B.bs B.ss (h1.keep0 s) (h2.keep0 s) (by omega) (by omega)) ?_
  rintro _ _ ⟨_, ⟨E1, E2, d1, d2, k1, k2, rfl, rfl, o1, o2⟩, rfl⟩
  refine .v (.build (out := Bc B (.slice E1 B.bs.length d1) (.slice E2 B.ss.length d2)) rfl rfl) (.nw (.box (l := Bc B (.slice E1 B.bs.length d1) (.slice E2 B.ss.length d2)) rfl rfl) fun b19 => (.v (.build (out := [.pointer (some ⟨b19, 0, none⟩), .slice none 0 0]) rfl rfl) (.nw (.box (l := [.pointer (some ⟨b19, 0, none⟩), .slice none 0 0]) rfl rfl) fun b21 => (.v (.assign rfl) (.nil ?_)))))
  refine .seq ((.region (.v (.fieldAddr rfl) (.v (.load (v := .int .u64 tk.left) rfl (.one rfl)) (.v (.assign rfl) (.nil ?_))))))
  refine .seq ((.region (.v (.move rfl) ?_)))
  refine .ef (.callT (To b3 tk tk.left :: TBh b21 b19 B (.slice E1 B.bs.length d1) (.slice E2 B.ss.length d2) (.slice none 0 0) k1 k2 []) rfl rfl (fun w' s' => trade_ok w' b21 b19 b3 B [] tk hs _ _ _ k1 k2 [] o1 o2 (OwnS.nil _ _) hOk hnn (by simp))) ?_
  rintro _ _ ⟨_, ⟨h, rfl, ⟨v1', v2', ve', k1', k2', ke', rfl, -, -, hE⟩⟩, rfl⟩
  have hz := (tr_run (meet := B.meet) (t := tk) hOk).ok hOk
  have hmu := mu_le hOk
  have hze : (B.ts [] tk).evs.length = 0 := rfl
  generalize tr B.meet tk (B.ts [] tk) = z at *
  refine .nil ?_
  obtain ⟨A, c, rfl⟩ := OwnS.sl hE
  refine .seq ((.region (.v (.assign rfl) (.nil ?_))))
  refine .seq (.seq ((.region (.v (.move rfl) (.v (.nilCheck rfl) (.v (.fieldAddr rfl) (.v (.load (v := .slice A z.evs.length c) rfl (.one rfl)) (.v (.len rfl) (.v (.move rfl) (.nil ?_))))))))))
  refine .keep ke' ?_
  have hnb : z.evs.length ≤ 2513169434843 := by
    omega
  refine .block (.loop (X := Nat) (fun i => [(6, .int .u64 tk.left), (7, .int .u64 (tsum (z.evs.take i))), (29, .slice A z.evs.length c), (30, .int .i64 z.evs.length), (31, .int .i64 i)]) (fun _ => ke') (fun i => i ≤ z.evs.length) (fun i => z.evs.length - i) 0 (by omega)
    (.cons rfl (.cons rfl (.cons rfl (.cons rfl (.cons rfl (.nil _)))))) (fun _ s => s) ?_)
  intro i hi
  refine .seq ((.region (.v (.lss rfl rfl) (.nil ?_))))
  refine .seq (.cond_dec rfl (fun g1 => .skip ?_) (fun g1 => .exit ?_))
  · have hil : i < z.evs.length := by omega
    obtain ⟨bk, ok, lk, rfl, -, rfl, -, -, -⟩ := hE.some_ (by omega)
    generalize hev : z.evs[i] = ev
    have hat : ∀ own, At w own [(bk, Ch.cells lk 88)] ⟨bk, ok + i * 13, none⟩ ev.cells := fun own => hE.atN (fun _ h => h) (fun j v hv => by
      have h13 := (List.getElem?_eq_some_iff.1 hv).1
      rw [erows_get z.evs i j hil (by simpa [Ev.cells] using h13), hev]; exact hv)
    have etk : z.evs.take (i + 1) = z.evs.take i ++ [ev] := by rw [List.take_add_one, List.getElem?_eq_getElem hil, hev]; rfl
    refine .seq (.block (.seq ((.region (.v (.indexAddr rfl rfl (by omega) (by omega)) (.v (.loadA (vs := ev.cells) rfl (hat _) rfl) (.nw .alloc fun b9 => (.st (.sw rfl rfl) (.nil ?_)))))))))
    refine .seq ((.region (.v (.fieldAddr rfl) (.v (.load (v := .int .i64 ev.kind) rfl (.one rfl)) (.v (.eqi rfl rfl) (.nil ?_))))))
    refine .cond_dec rfl (fun g2 => ?_) (fun g2 => .skip ?_)
    · refine .region (.v (.move rfl) (.v (.fieldAddr rfl) (.v (.load (v := .int .u64 ev.q) rfl (.one rfl)) (.v (.add rfl rfl) (.v (.assign rfl) (.nil ?_))))))
      refine .region (.v (.addi rfl rfl (by omega)) (.v (.move rfl) (.nil ?_)))
      exact ⟨i + 1, by omega, by omega, .cons rfl (.cons (by rw [etk, tsum_snoc, if_pos g2]; rfl) (.cons rfl (.cons rfl (.cons rfl (.nil _))))), fun _ s => s.take⟩
    · refine .region (.v (.addi rfl rfl (by omega)) (.v (.move rfl) (.nil ?_)))
      exact ⟨i + 1, by omega, by omega, .cons rfl (.cons (by rw [etk, tsum_snoc, if_neg g2]; rfl) (.cons rfl (.cons rfl (.cons rfl (.nil _))))), fun _ s => s.take⟩
  · refine .seq ((.region (.v (.move rfl) (.v (.move rfl) (.v (.eqi rfl rfl) (.v (.assign rfl) (.nil ?_)))))))
    have : z.evs.take i = z.evs := List.take_of_length_le (by omega)
    exact .ret ⟨[_], ⟨rfl, trivial⟩, by rw [this]; rfl⟩
end Go.Proofs.Ytinmhhonpflojaa

/- tell and rests in terms of books; (*teller).comes. -/
namespace Go.Proofs.Ytinmhhonpflojaa
open Go.V
set_option linter.unusedVariables false
set_option linter.unusedSimpArgs false

theorem tellB_ok (w : World) (t b : Nat) (B : Bk) (evs : List Ev) (e : Ev) (v1 v2 ve : Value) (k1 k2 ke : Hp) (h1 : Side v1 B.bs k1) (h2 : Side v2 B.ss k2) (hE : Evs ve evs ke) (hn : evs.length + 1 ≤ 1000000000000) :
    Does Try.prog 59 [.pointer (some ⟨t, 0, none⟩), .agg ⟨e.cells⟩] (TBh t b B v1 v2 ve k1 k2 ke) w (fun _ hs => TB t b (B.num (nx B.seq)) (evs ++ [e.num (nx B.seq)]) hs) := by
  refine (Does.lendT (Tt t b ve :: Tb b (Bc B v1 v2) :: ke) (tell_ok w t b _ _ _ _ _ B.seq e evs ve ke hE hn)).keepT ?_
  rintro _ _ ⟨_, ⟨ve', ke', rfl, hE'⟩, rfl⟩
  have hp : ((Tt t b ve' :: Tb b (Bc (B.num (nx B.seq)) v1 v2) :: ke') ++ (k1 ++ (k2 ++ []))).Perm (TBh t b (B.num (nx B.seq)) v1 v2 ve' k1 k2 ke' ++ []) := TakeI.out
  exact ⟨TBh t b (B.num (nx B.seq)) v1 v2 ve' k1 k2 ke', [], hp, v1, v2, ve', k1, k2, ke', rfl, h1, h2, hE'⟩
theorem restB_ok (w : World) (b : Nat) (B : Bk) (s : Int) (hs : s = 1 ∨ s = 2) (o : Ord) (v1 v2 : Value) (k1 k2 : Hp) (h1 : Side v1 B.bs k1) (h2 : Side v2 B.ss k2) (hn1 : B.bs.length ≤ 1000000) (hn2 : B.ss.length ≤ 1000000) :
    Does Try.prog 83 [.pointer (some ⟨b, 0, none⟩), .int .i64 s, .agg ⟨o.cells⟩] (Tb b (Bc B v1 v2) :: (k1 ++ k2)) w (fun _ hs => BkH b (B.put s (rst s o (B.side s))) hs) := by
  rcases hs with rfl | rfl
  · refine (Does.lendT (Tb b (Bc B v1 v2) :: k1) (rests_ok w b 2 1 (by omega) (Bc B v1 v2) rfl o B.bs _ k1 rfl h1 (by omega))).keepT ?_
    rintro _ _ ⟨_, ⟨v, k', rfl, h'⟩, rfl⟩
    have e : B.put 1 (rst 1 o (B.side 1)) = ⟨B.cap, B.meet, rst 1 o B.bs, B.ss, B.high, B.seq⟩ := rfl
    have hp : ((Tb b (Bc ⟨B.cap, B.meet, rst 1 o B.bs, B.ss, B.high, B.seq⟩ v v2) :: k') ++ k2).Perm ((Tb b (Bc ⟨B.cap, B.meet, rst 1 o B.bs, B.ss, B.high, B.seq⟩ v v2) :: (k' ++ k2)) ++ []) := TakeI.out
    exact ⟨Tb b (Bc ⟨B.cap, B.meet, rst 1 o B.bs, B.ss, B.high, B.seq⟩ v v2) :: (k' ++ k2), [], hp, v, v2, k', k2, rfl, h', h2⟩
  · refine (Does.lendT (Tb b (Bc B v1 v2) :: k2) (rests_ok w b 3 2 (by omega) (Bc B v1 v2) rfl o B.ss _ k2 rfl h2 (by omega))).keepT ?_
    rintro _ _ ⟨_, ⟨v, k', rfl, h'⟩, rfl⟩
    have e : B.put 2 (rst 2 o (B.side 2)) = ⟨B.cap, B.meet, B.bs, rst 2 o B.ss, B.high, B.seq⟩ := rfl
    have hp : ((Tb b (Bc ⟨B.cap, B.meet, B.bs, rst 2 o B.ss, B.high, B.seq⟩ v1 v) :: k') ++ (k1 ++ [])).Perm ((Tb b (Bc ⟨B.cap, B.meet, B.bs, rst 2 o B.ss, B.high, B.seq⟩ v1 v) :: (k1 ++ k')) ++ []) := TakeI.out
    exact ⟨Tb b (Bc ⟨B.cap, B.meet, B.bs, rst 2 o B.ss, B.high, B.seq⟩ v1 v) :: (k1 ++ k'), [], hp, v1, v, k1, k', rfl, h1, h'⟩
/-- the order that rests: what it shows, what it hides -/
def restOf (o : Ord) (left : Int) : Ord := ⟨o.id, o.mb, o.ty, o.pr, if 0 < o.pk then min o.pk left else left, left - (if 0 < o.pk then min o.pk left else left), o.pk⟩
def Bk.comes (B : Bk) (evs : List Ev) (t : Tk) : Bk × List Ev :=
  if t.kind = 4 ∧ tsum (tr B.meet t (B.ts [] t)).evs ≠ t.left then (B.num (nx B.seq), evs ++ [(evCancel t.o.id t.left 4).num (nx B.seq)])
  else
    let z := tr B.meet t (B.ts evs t)
    let B1 := B.traded t z
    if z.left = 0 then (B1, z.evs)
    else if t.kind ≠ 1 ∧ t.kind ≠ 5 then (B1.num (nx B1.seq), z.evs ++ [(evCancel t.o.id z.left 3).num (nx B1.seq)])
    else (B1.put t.side (rst t.side (restOf t.o z.left) (B1.side t.side)), z.evs)
set_option maxRecDepth 10000 in
theorem comes_ok (w : World) (t b : Nat) (B : Bk) (evs : List Ev) (tk : Tk) (hs : tk.side = 1 ∨ tk.side = 2) (v1 v2 ve : Value) (k1 k2 ke : Hp) (h1 : Side v1 B.bs k1) (h2 : Side v2 B.ss k2) (hE : Evs ve evs ke) (hOk : (B.ts evs tk).Ok) (hpk : U tk.o.pk)
    (hn1 : B.bs.length ≤ 500000) (hn2 : B.ss.length ≤ 500000) (he : evs.length ≤ 1000000) :
    Does Try.prog 62 [.pointer (some ⟨t, 0, none⟩), .agg ⟨tk.cells⟩] (TBh t b B v1 v2 ve k1 k2 ke) w (fun _ hs => TB t b (B.comes evs tk).1 (B.comes evs tk).2 hs) := by
  have hOk0 : (B.ts [] tk).Ok := ⟨hOk.good, hOk.lo, hOk.hi⟩
  have hnn : (B.ts evs tk).L.length ≤ 1000000 := by
    unfold Bk.ts Bk.side; simp only
    split <;> omega
  obtain ⟨A1, c1, rfl⟩ := OwnS.sl h1
  obtain ⟨A2, c2, rfl⟩ := OwnS.sl h2
  refine Does.less (Does.of (n := 75) Try.func62 rfl rfl rfl rfl ?_)
  refine .seq ((.region (.nw (.box (l := [.int .u64 tk.o.id, .int .u32 tk.o.mb, .int .i64 tk.o.ty, .int .i64 tk.o.pr, .int .u64 tk.o.v, .int .u64 tk.o.hd, .int .u64 tk.o.pk, .int .i64 tk.side, .int .i64 tk.kind, .int .u64 tk.left]) rfl rfl) fun b3 => (.nil ?_))))
  refine .seq (.seq ((.region (.v (.fieldAddr rfl) (.v (.load (v := .int .i64 tk.kind) rfl (.one rfl)) (.v (.eqi rfl rfl) (.v (.move rfl) (.and 7 11 4 4 rfl rfl (fun g1 => .v (.move rfl) (.v (.loadA (vs := tk.cells) rfl .whole rfl) (.pc rfl rfl (fun w s => whole_ok w t b B tk hs ve A1 A2 c1 c2 (Rd.chunk s (T := 129) (l := [.pointer (some ⟨b, 0, none⟩), ve]) (by simp) (fun j v hv => by rw [Nat.zero_add]; exact hv)) (Rd.chunk s (T := 126) (l := Bc B (.slice A1 B.bs.length c1) (.slice A2 B.ss.length c2)) (by simp) (fun j v hv => by rw [Nat.zero_add]; exact hv)) (OwnS.rd h1 s (no := []) (fun p hp => by simp [hp]) (by simp)) (OwnS.rd h2 s (no := []) (fun p hp => by simp [hp]) (by simp)) hOk0 (by omega) (by omega)) (.v (.not rfl) (.nil ⟨rfl, rfl, rfl, rfl⟩))))) (.nil ?_)))))))))
  refine .cond rfl (fun g1 => ?_) (fun g1 => .skip ?_)
  · have g1' : tk.kind = 4 ∧ tsum (tr B.meet tk (B.ts [] tk)).evs ≠ tk.left := by simpa using g1
    have eC : B.comes evs tk = (B.num (nx B.seq), evs ++ [(evCancel tk.o.id tk.left 4).num (nx B.seq)]) := by unfold Bk.comes; rw [if_pos g1']
    refine .seq ((.region (.v (.move rfl) (.v (.fieldAddr rfl) (.v (.fieldAddr rfl) (.v (.load (v := .int .u64 tk.o.id) rfl (.one rfl)) (.v (.fieldAddr rfl) (.v (.load (v := .int .u64 tk.left) rfl (.one rfl)) (.v (.build (out := (evCancel tk.o.id tk.left 4).cells) rfl rfl) ?_)))))))))
    refine .ef (.callT (TBh t b B (.slice A1 B.bs.length c1) (.slice A2 B.ss.length c2) ve k1 k2 ke) rfl rfl (fun w' s' => tellB_ok w' t b B evs (evCancel tk.o.id tk.left 4) _ _ ve k1 k2 ke h1 h2 hE (by omega))) ?_
    rintro _ _ ⟨_, ⟨v1', v2', ve', k1', k2', ke', rfl, h1', h2', hE'⟩, rfl⟩
    refine .nil (.ret ⟨[], trivial, _, fun _ s => Sat.take (pre := TBh t b (B.num (nx B.seq)) v1' v2' ve' k1' k2' ke') s, ?_⟩)
    rw [eC]
    exact ⟨v1', v2', ve', k1', k2', ke', rfl, h1', h2', hE'⟩
  have g1' : ¬ (tk.kind = 4 ∧ tsum (tr B.meet tk (B.ts [] tk)).evs ≠ tk.left) := by
    rintro ⟨a, c⟩
    simp [a, c] at g1
  refine .seq ((.region (.v (.move rfl) ?_)))
  refine .ef (.callT (To b3 tk tk.left :: TBh t b B (.slice A1 B.bs.length c1) (.slice A2 B.ss.length c2) ve k1 k2 ke) rfl rfl (fun w' s' => trade_ok w' t b b3 B evs tk hs _ _ ve k1 k2 ke h1 h2 hE hOk hnn (by omega))) ?_
  rintro _ _ ⟨_, ⟨h, rfl, ⟨v1', v2', ve', k1', k2', ke', rfl, h1', h2', hE'⟩⟩, rfl⟩
  obtain ⟨zok, zlen, zev, zl⟩ := (tr_run (meet := B.meet) (t := tk) hOk).ok hOk
  have hmu := mu_le hOk
  have eC0 : B.comes evs tk = (if (tr B.meet tk (B.ts evs tk)).left = 0 then (B.traded tk (tr B.meet tk (B.ts evs tk)), (tr B.meet tk (B.ts evs tk)).evs)
      else if tk.kind ≠ 1 ∧ tk.kind ≠ 5 then ((B.traded tk (tr B.meet tk (B.ts evs tk))).num (nx (B.traded tk (tr B.meet tk (B.ts evs tk))).seq), (tr B.meet tk (B.ts evs tk)).evs ++ [(evCancel tk.o.id (tr B.meet tk (B.ts evs tk)).left 3).num (nx (B.traded tk (tr B.meet tk (B.ts evs tk))).seq)])
      else ((B.traded tk (tr B.meet tk (B.ts evs tk))).put tk.side (rst tk.side (restOf tk.o (tr B.meet tk (B.ts evs tk)).left) ((B.traded tk (tr B.meet tk (B.ts evs tk))).side tk.side)), (tr B.meet tk (B.ts evs tk)).evs)) := by
    unfold Bk.comes; rw [if_neg g1']
  rw [eC0]
  have hL : ∀ z : TS, z.L.length ≤ (B.ts evs tk).L.length → (B.traded tk z).bs.length ≤ 1000000 ∧ (B.traded tk z).ss.length ≤ 1000000 := fun z hz => by
    unfold Bk.traded Bk.put Bk.num
    split <;> simp <;> omega
  have hL2 := hL _ zlen
  have hev0 : (B.ts evs tk).evs.length = evs.length := rfl
  generalize tr B.meet tk (B.ts evs tk) = z at *
  have ezlo := zok.lo
  have ezhi := zok.hi
  generalize B.traded tk z = B1 at *
  refine .nil ?_
  refine .keep (To b3 tk z.left :: TBh t b B1 v1' v2' ve' k1' k2' ke') ?_
  refine .seq (.seq ((.region (.v (.fieldAddr rfl) (.v (.load (v := .int .u64 z.left) rfl (.one rfl)) (.v (.eqi rfl rfl) (.nil ?_)))))))
  refine .cond_dec rfl (fun g2 => ?_) (fun g2 => .skip ?_)
  · rw [if_pos g2]
    exact .ret ⟨[], trivial, _, fun _ s => Sat.take (pre := TBh t b B1 v1' v2' ve' k1' k2' ke') s, v1', v2', ve', k1', k2', ke', rfl, h1', h2', hE'⟩
  rw [if_neg g2]
  refine .seq (.seq ((.region (.v (.fieldAddr rfl) (.v (.load (v := .int .i64 tk.kind) rfl (.one rfl)) (.v (.nei rfl rfl) (.v (.move rfl) (.and 29 32 3 3 rfl rfl (fun g2 => .v (.fieldAddr rfl) (.v (.load (v := .int .i64 tk.kind) rfl (.one rfl)) (.v (.nei rfl rfl) (.nil ⟨rfl, rfl, rfl, rfl⟩)))) (.nil ?_)))))))))
  refine .cond rfl (fun g3 => ?_) (fun g3 => .skip ?_) <;> simp only [Bool.and_eq_true, Bool.or_eq_true, Bool.not_eq_true', Bool.and_eq_false_iff, Bool.or_eq_false_iff, Bool.not_eq_false', decide_eq_true_eq, decide_eq_false_iff_not, Bool.false_eq_true, false_iff] at g3
  · rw [if_pos g3]
    refine .seq ((.region (.v (.move rfl) (.v (.fieldAddr rfl) (.v (.fieldAddr rfl) (.v (.load (v := .int .u64 tk.o.id) rfl (.one rfl)) (.v (.fieldAddr rfl) (.v (.load (v := .int .u64 z.left) rfl (.one rfl)) (.v (.build (out := (evCancel tk.o.id z.left 3).cells) rfl rfl) ?_)))))))))
    refine .ef (.callT (TBh t b B1 v1' v2' ve' k1' k2' ke') rfl rfl (fun w' s' => tellB_ok w' t b B1 z.evs (evCancel tk.o.id z.left 3) _ _ ve' k1' k2' ke' h1' h2' hE' (by omega))) ?_
    rintro _ _ ⟨_, ⟨v1x, v2x, vex, k1x, k2x, kex, rfl, h1x, h2x, hEx⟩, rfl⟩
    exact .nil (.ret ⟨[], trivial, _, fun _ s => Sat.take (pre := TBh t b (B1.num (nx B1.seq)) v1x v2x vex k1x k2x kex) s, v1x, v2x, vex, k1x, k2x, kex, rfl, h1x, h2x, hEx⟩)
  rw [if_neg (by omega)]
  obtain ⟨lv, hlv⟩ : ∃ lv, (if 0 < tk.o.pk then min tk.o.pk z.left else z.left) = lv := ⟨_, rfl⟩
  have hU := hpk
  unfold U at hU
  have hlv2 : 0 ≤ z.left - lv ∧ z.left - lv ≤ 18446744073709551615 := by
    rw [← hlv]
    split <;> omega
  have er : restOf tk.o z.left = ⟨tk.o.id, tk.o.mb, tk.o.ty, tk.o.pr, lv, z.left - lv, tk.o.pk⟩ := by unfold restOf; rw [hlv]
  rw [er]
  refine .seq ((.region (.v (.fieldAddr rfl) (.v (.load (v := .int .u64 z.left) rfl (.one rfl)) (.v (.fieldAddr rfl) (.v (.fieldAddr rfl) (.st (.storeL rfl rfl rfl) (.nil ?_))))))))
  refine .mid (X := Unit) (fun _ => [(0, .pointer (some ⟨t, 0, none⟩)), (3, .pointer (some ⟨b3, 0, none⟩))]) (fun _ => To b3 ⟨⟨tk.o.id, tk.o.mb, tk.o.ty, tk.o.pr, lv, tk.o.hd, tk.o.pk⟩, tk.side, tk.kind, tk.left⟩ z.left :: TBh t b B1 v1' v2' ve' k1' k2' ke') (fun _ => True)
    (.seq ((.region (.v (.fieldAddr rfl) (.v (.fieldAddr rfl) (.v (.load (v := .int .u64 tk.o.pk) rfl (.one rfl)) (.v (.gtr rfl rfl) (.nil ?_)))))))) ?_
  · refine .cond_dec rfl (fun g4 => ?_) (fun g4 => .skip ?_)
    · refine .region (.v (.fieldAddr rfl) (.v (.fieldAddr rfl) (.v (.load (v := .int .u64 tk.o.pk) rfl (.one rfl)) (.v (.fieldAddr rfl) (.v (.load (v := .int .u64 z.left) rfl (.one rfl)) (.v (.min2 rfl rfl) (.v (.fieldAddr rfl) (.v (.fieldAddr rfl) (.st (.storeL rfl rfl rfl) (.nil ?_))))))))))
      have e : min tk.o.pk z.left = lv := by rw [← hlv, if_pos g4]
      rw [e]
      exact ⟨(), trivial, .cons rfl (.cons rfl (.nil _)), fun _ s => s⟩
    · have e : z.left = lv := by rw [← hlv, if_neg g4]
      refine ⟨(), trivial, .cons rfl (.cons rfl (.nil _)), fun _ s => ?_⟩
      rw [← e]
      exact s
  · rintro _ _
    refine .seq ((.region (.v (.fieldAddr rfl) (.v (.load (v := .int .u64 z.left) rfl (.one rfl)) (.v (.fieldAddr rfl) (.v (.fieldAddr rfl) (.v (.load (v := .int .u64 lv) rfl (.one rfl)) (.v (.subU (z.left - lv) rfl rfl rfl hlv2) (.v (.fieldAddr rfl) (.v (.fieldAddr rfl) (.st (.storeL rfl rfl rfl) (.nil ?_))))))))))))
    refine (.drawK [Tt t b ve', (b3, Ch.cells [.int .u64 tk.o.id, .int .u32 tk.o.mb, .int .i64 tk.o.ty, .int .i64 tk.o.pr, .int .u64 lv, .int .u64 (z.left - lv), .int .u64 tk.o.pk, .int .i64 tk.side, .int .i64 tk.kind, .int .u64 z.left] 141)] (by intro p hp; simp at hp ⊢; rcases hp with rfl | rfl <;> simp) (by kernel_rfl) (by kernel_rfl) ?_)
    refine .v (fun _ f => .move rfl) (.v (fun _ f => .nilCheck rfl) (.v (fun _ f => .fieldAddr rfl) (.v (fun _ f => .load (v := .pointer (some ⟨b, 0, none⟩)) rfl (.one (hb := .sub f) rfl)) (.v (fun _ f => .fieldAddr rfl) (.v (fun _ f => .load (v := .int .i64 tk.side) rfl (.one (hb := .sub f) rfl)) (.v (fun _ f => .fieldAddr rfl) (.v (fun _ f => .loadA (vs := [.int .u64 tk.o.id, .int .u32 tk.o.mb, .int .i64 tk.o.ty, .int .i64 tk.o.pr, .int .u64 lv, .int .u64 (z.left - lv), .int .u64 tk.o.pk]) rfl (.chunk (hb := .sub f) (fun j v hv => ?_)) rfl) ?_)))))))
    · match j, hv with
      | 0, hv => exact hv
      | 1, hv => exact hv
      | 2, hv => exact hv
      | 3, hv => exact hv
      | 4, hv => exact hv
      | 5, hv => exact hv
      | 6, hv => exact hv
      | _ + 7, hv => cases hv
    refine .ef (.callT (Tb b (Bc B1 v1' v2') :: (k1' ++ k2')) rfl rfl (fun w' s' => restB_ok w' b B1 tk.side hs ⟨tk.o.id, tk.o.mb, tk.o.ty, tk.o.pr, lv, z.left - lv, tk.o.pk⟩ _ _ k1' k2' h1' h2' hL2.1 hL2.2)) (fun _ _ ⟨_, _, e⟩ _ => by subst e; intro p hp; simp at hp ⊢; rcases hp with rfl | rfl <;> simp) ?_
    rintro _ _ ⟨_, ⟨v1x, v2x, k1x, k2x, rfl, h1x, h2x⟩, rfl⟩
    exact .nil ⟨[], trivial, _, fun _ s => Sat.take (pre := TBh t b (B1.put tk.side (rst tk.side ⟨tk.o.id, tk.o.mb, tk.o.ty, tk.o.pr, lv, z.left - lv, tk.o.pk⟩ (B1.side tk.side))) v1x v2x ve' k1x k2x ke') s, v1x, v2x, ve', k1x, k2x, ke', rfl, h1x, h2x, hE'⟩
end Go.Proofs.Ytinmhhonpflojaa

/- (*Book).Do: what it does. -/
namespace Go.Proofs.Ytinmhhonpflojaa
open Go.V
set_option linter.unusedVariables false
set_option linter.unusedSimpArgs false

def evReject (id target code : Int) : Ev := ⟨0, 2, id, 0, target, 0, 0, 0, 0, 0, 0, 0, code⟩
def evAck (t : Tk) : Ev := ⟨0, 1, t.o.id, 0, 0, t.o.mb, t.side, t.kind, t.o.pr, t.left, t.o.pk, 0, 0⟩
def Bk.top (B : Bk) (h : Int) : Bk := ⟨B.cap, B.meet, B.bs, B.ss, h, B.seq⟩
/-- where the order that a command speaks of stands; the order -/
def Bk.at_ (B : Bk) (c : Cm) : Int × Int × Bool := plc c.tg B.bs B.ss
def Bk.tgt (B : Bk) (c : Cm) : Option Ord := if (B.at_ c).2.2 then (B.side (B.at_ c).1)[(B.at_ c).2.1.toNat]? else none
def Bk.why (B : Bk) (c : Cm) : Int := rfs B.cap B.high B.bs B.ss c (B.tgt c) (B.at_ c).1
/-- the order that a command speaks of goes -/
def Bk.goes (B : Bk) (c : Cm) : Bk := if c.k ≠ 1 then (B.put (B.at_ c).1 ((B.side (B.at_ c).1).eraseIdx (B.at_ c).2.1.toNat)).num (nx B.seq) else B
def Bk.gone (B : Bk) (c : Cm) : List Ev := if c.k ≠ 1 then (match B.tgt c with | some o => [(evCancel c.tg (o.v + o.hd) (if c.k = 3 then 2 else 1)).num (nx B.seq)] | none => []) else []
def Bk.does (B : Bk) (c : Cm) : Bk × List Ev :=
  if B.why c ≠ 0 then (B.num (nx B.seq), [(evReject (if c.k = 2 then 0 else c.id) (if c.k = 1 then 0 else c.tg) (B.why c)).num (nx B.seq)])
  else if c.k ≠ 2 then Bk.comes (((B.goes c).num (nx (B.goes c).seq)).top (cmg c (B.tgt c) (B.at_ c).1).o.id) (B.gone c ++ [(evAck (cmg c (B.tgt c) (B.at_ c).1)).num (nx (B.goes c).seq)]) (cmg c (B.tgt c) (B.at_ c).1)
  else (B.goes c, B.gone c)
theorem at_spec (B : Bk) (c : Cm) : (B.at_ c = (0, 0, false) ∧ B.tgt c = none ∧ (∀ o ∈ B.bs ++ B.ss, o.id ≠ c.tg)) ∨
    ∃ s : Int, (s = 1 ∨ s = 2) ∧ ∃ i, ∃ hi : i < (B.side s).length, B.at_ c = (s, (i : Int), true) ∧ B.tgt c = some (B.side s)[i] ∧ (B.side s)[i].id = c.tg := by
  have hsome : ∀ (s : Int) (i : Nat) (hi : i < (B.side s).length), B.at_ c = (s, (i : Int), true) → B.tgt c = some (B.side s)[i] := fun s i hi h => by
    unfold Bk.tgt; rw [h]; simp [hi]
  rcases idx_spec c.tg B.bs with ⟨h1, n1⟩ | ⟨i, hi, h1, h2, h3⟩
  · rcases idx_spec c.tg B.ss with ⟨h2, n2⟩ | ⟨i, hi, h2, h3, h4⟩
    · refine .inl ⟨?_, ?_, fun o ho => ?_⟩
      · unfold Bk.at_ plc; rw [h1, h2]; rfl
      · have : B.at_ c = (0, 0, false) := by unfold Bk.at_ plc; rw [h1, h2]; rfl
        unfold Bk.tgt; rw [this]; rfl
      · rcases List.mem_append.1 ho with ho | ho
        · obtain ⟨m, hm, rfl⟩ := List.mem_iff_getElem.1 ho; exact n1 m hm
        · obtain ⟨m, hm, rfl⟩ := List.mem_iff_getElem.1 ho; exact n2 m hm
    · have e : B.at_ c = (2, (i : Int), true) := by unfold Bk.at_ plc; rw [h1, h2, if_neg (by omega), if_pos (by omega)]
      exact .inr ⟨2, .inr rfl, i, hi, e, hsome 2 i hi e, h3⟩
  · have e : B.at_ c = (1, (i : Int), true) := by unfold Bk.at_ plc; rw [h1, if_pos (by omega)]
    exact .inr ⟨1, .inl rfl, i, hi, e, hsome 1 i hi e, h2⟩
/-- the order that a command speaks of, in a block of its own -/
def TgH (tp : Option Addr) (h : Hp) : Option Ord → Prop
  | none => tp = none ∧ h = []
  | some o => ∃ bt, tp = some ⟨bt, 0, none⟩ ∧ h = [(bt, .cells o.cells 134)]
theorem TgH.rd {w0 w : World} {own : List Nat} {hs h : Hp} {tp : Option Addr} {tg : Option Ord} (k : TgH tp h tg) (s : Sat w0 own hs w) (hh : h ⊆ hs) : TgR w [] tp tg := by
  cases tg with
  | none => exact k.1
  | some o =>
    obtain ⟨bt, rfl, rfl⟩ := k
    refine ⟨bt, rfl, fun j v hv => ⟨bt, 0, rfl, by simp, ?_⟩⟩
    rw [s.cell (hh List.mem_cons_self), Nat.zero_add]; exact hv
theorem rows_erase (l : List Ord) (i : Nat) : (rows l).take (i * 7) ++ (rows l).drop ((i + 1) * 7) = rows (l.eraseIdx i) := by
  rw [rows_take, rows_drop, ← rows_app, List.eraseIdx_eq_take_drop_succ]
/-- a book whose orders are good, and that is not too great -/
structure Bk.Ok (B : Bk) : Prop where
  good : ∀ o ∈ B.bs ++ B.ss, o.G
  len : B.bs.length + B.ss.length ≤ 100000
theorem Bk.side_sub (B : Bk) (s : Int) : ∀ o ∈ B.side s, o ∈ B.bs ++ B.ss := fun o ho => by
  unfold Bk.side at ho
  split at ho <;> simp [ho]
theorem Bk.put_mem {B : Bk} {s : Int} {l : List Ord} {o : Ord} (h : o ∈ (B.put s l).bs ++ (B.put s l).ss) : o ∈ l ∨ o ∈ B.bs ++ B.ss := by
  unfold Bk.put at h
  split at h <;> simp at h ⊢ <;> rcases h with h | h <;> simp [h]
theorem Bk.goes_mem {B : Bk} {c : Cm} {o : Ord} (h : o ∈ (B.goes c).bs ++ (B.goes c).ss) : o ∈ B.bs ++ B.ss := by
  unfold Bk.goes at h
  split at h
  · rcases Bk.put_mem h with h | h
    · exact B.side_sub _ _ (List.mem_of_mem_eraseIdx h)
    · exact h
  · exact h
theorem Bk.goes_len (B : Bk) (c : Cm) : (B.goes c).bs.length ≤ B.bs.length ∧ (B.goes c).ss.length ≤ B.ss.length := by
  unfold Bk.goes
  split
  · unfold Bk.put Bk.num Bk.side
    split
    · exact ⟨List.length_eraseIdx_le .., Nat.le_refl _⟩
    · exact ⟨Nat.le_refl _, List.length_eraseIdx_le ..⟩
  · exact ⟨Nat.le_refl _, Nat.le_refl _⟩
theorem cmg_facts {c : Cm} {tg : Option Ord} {side : Int} : (cmg c tg side).left = c.q ∧ (cmg c tg side).o.pk = c.pk ∧ (cmg c tg side).o.id = c.id ∧ (cmg c tg side).o.pr = c.pr := by
  unfold cmg
  cases tg with
  | none => exact ⟨rfl, rfl, rfl, rfl⟩
  | some o => simp only; split <;> exact ⟨rfl, rfl, rfl, rfl⟩
theorem cmg_side {c : Cm} {tg : Option Ord} {side : Int} (h0 : c.chk = 0) (h2 : c.k ≠ 2) (h3 : c.k = 3 → tg ≠ none) (hs : tg ≠ none → side = 1 ∨ side = 2) : (cmg c tg side).side = 1 ∨ (cmg c tg side).side = 2 := by
  have hk := chk_kinds (c := c) (by rw [h0]; decide)
  unfold cmg
  cases tg with
  | none =>
    refine chk_side h0 ?_
    rcases hk with h | h | h
    · exact h
    · exact absurd h h2
    · exact absurd rfl (h3 h)
  | some o =>
    simp only
    split
    · exact hs (by simp)
    · rename_i hk'
      refine chk_side h0 ?_
      rcases hk with h | h | h
      · exact h
      · exact absurd h h2
      · exact absurd h hk'
theorem rfs_zero {cap high : Int} {bs ss : List Ord} {c : Cm} {tg : Option Ord} {side : Int} (h : rfs cap high bs ss c tg side = 0) : (c.k ≠ 1 → tg ≠ none) ∧ c.chk = 0 ∧ (c.k ≠ 2 → high < c.id) ∧
    (c.k = 1 → (cmg c tg side).kind = 1 ∨ (cmg c tg side).kind = 5 → (bs.length : Int) + ss.length < cap) ∧ (c.k ≠ 2 → (cmg c tg side).kind = 5 → headReach (cmg c tg side).side (cmg c tg side).kind (cmg c tg side).o.pr (if (cmg c tg side).side = 1 then ss else bs) = false) := by
  unfold rfs at h
  by_cases h1 : c.chk = 90
  · rw [if_pos h1] at h; omega
  rw [if_neg h1] at h
  by_cases h2 : c.k ≠ 1 ∧ tg = none
  · rw [if_pos h2] at h; omega
  rw [if_neg h2] at h
  by_cases h3 : c.chk ≠ 0
  · rw [if_pos h3] at h; omega
  rw [if_neg h3] at h
  by_cases h4 : c.k = 2
  · exact ⟨fun a b => h2 ⟨a, b⟩, by omega, fun a => absurd h4 a, fun a => by omega, fun a => absurd h4 a⟩
  rw [if_neg h4] at h
  by_cases h5 : c.id ≤ high
  · rw [if_pos h5] at h; omega
  rw [if_neg h5] at h
  by_cases h6 : c.k = 1 ∧ ((cmg c tg side).kind = 1 ∨ (cmg c tg side).kind = 5) ∧ cap ≤ bs.length + ss.length
  · rw [if_pos h6] at h; omega
  rw [if_neg h6] at h
  by_cases h7 : (cmg c tg side).kind = 5 ∧ headReach (cmg c tg side).side (cmg c tg side).kind (cmg c tg side).o.pr (if (cmg c tg side).side = 1 then ss else bs) = true
  · rw [if_pos h7] at h; omega
  refine ⟨fun a b => h2 ⟨a, b⟩, by omega, fun _ => by omega, fun a b => ?_, fun _ a => ?_⟩
  · rcases Int.lt_or_le ((bs.length : Int) + ss.length) cap with hh | hh
    · exact hh
    · exact absurd ⟨a, b, hh⟩ h6
  · rw [Bool.eq_false_iff]; exact fun b => h7 ⟨a, b⟩
end Go.Proofs.Ytinmhhonpflojaa
