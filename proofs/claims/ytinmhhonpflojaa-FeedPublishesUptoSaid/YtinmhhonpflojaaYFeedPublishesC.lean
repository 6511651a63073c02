/- Texts that the row RFeedPublishes stands on: QRest, QOrd, QRValid, QClone, QCopy, QCopied, QOrders, QBooks, QNew, QValid, QValid2, QChecks, QBk, QRef, QSlices, QTell, FPub, FRPub, FLPub, FLPub2, VN, VT, VB, KBulk, FRdPub. -/
import Derived.Test.YtinmhhonpflojaaYFeedPublishesB
import Derived.Test.YtinmhhonpflojaaYFeedPublishesA
import Derived.SizedLaws
import Derived.Test.YtinmhhonpflojaaRows
/- rules.canRest and the document's order; better: what they compute. -/
namespace Go.Proofs.Ytinmhhonpflojaa
open Go.V
set_option linter.unusedVariables false
set_option linter.unusedSimpArgs false

/-- a resting order's cells -/
def rcells (id mb ty pr v hd pk : Int) : List Value := [.int .u64 id, .int .u32 mb, .int .i64 ty, .int .i64 pr, .int .u64 v, .int .u64 hd, .int .u64 pk]
/-- can it rest? -/
def Rests (id ty pr v hd pk high : Int) : Prop :=
  (1 ≤ id ∧ id ≤ high) ∧ (ty = 1 ∨ ty = 5) ∧ (0 ≤ pr ∧ pr < 262144) ∧ (1 ≤ v ∧ v ≤ 4294967295) ∧ pk ≤ 4294967295 ∧ v + hd ≤ 4294967295 ∧ (pk = 0 ∧ hd = 0 ∨ 0 < pk ∧ v ≤ pk ∧ v + hd ≤ 256 * pk)
instance (id ty pr v hd pk high : Int) : Decidable (Rests id ty pr v hd pk high) := by unfold Rests; infer_instance
/-- u64 -/
def U (x : Int) : Prop := 0 ≤ x ∧ x ≤ 18446744073709551615
theorem better_ok (w : World) (s p q : Int) : Is Try.prog 87 [.int .i64 s, .int .i64 p, .int .i64 q] w (.bool (if s = 1 then decide (q < p) else decide (p < q))) := by
  refine Does.pure (Does.of (n := 15) Try.func87 rfl rfl rfl rfl ?_)
  refine .seq ((.region (.v (.assign rfl) (.nil ?_))))
  refine .seq (.seq ((.region (.v (.move rfl) (.v (.eqi rfl rfl) (.nil ?_))))))
  refine .cond_dec rfl (fun h1 => ?_) (fun h1 => .skip ?_)
  · refine .seq ((.region (.v (.move rfl) (.v (.move rfl) (.v (.gtr rfl rfl) (.v (.assign rfl) (.nil ?_)))))))
    exact .ret ⟨[_], ⟨rfl, trivial⟩, by rw [if_pos h1]; rfl⟩
  · refine .seq ((.region (.v (.move rfl) (.v (.move rfl) (.v (.lss rfl rfl) (.v (.assign rfl) (.nil ?_)))))))
    exact .ret ⟨[_], ⟨rfl, trivial⟩, by rw [if_neg h1]; rfl⟩
end Go.Proofs.Ytinmhhonpflojaa

/- Sides of a book: lists of resting orders; the document's twice and sorted. -/
namespace Go.Proofs.Ytinmhhonpflojaa
open Go.V
set_option linter.unusedVariables false
set_option linter.unusedSimpArgs false

structure Ord where
  id : Int
  mb : Int
  ty : Int
  pr : Int
  v : Int
  hd : Int
  pk : Int
def Ord.cells (o : Ord) : List Value := rcells o.id o.mb o.ty o.pr o.v o.hd o.pk
def rows (l : List Ord) : List Value := l.flatMap Ord.cells
theorem rows_length (l : List Ord) : (rows l).length = l.length * 7 := flatMap_length _ 7 (fun _ => rfl) l
theorem rows_get (l : List Ord) (i j : Nat) (hi : i < l.length) (hj : j < 7) : (rows l)[i * 7 + j]? = (l[i].cells)[j]? := flatMap_get _ 7 (fun _ => rfl) l i j hi hj
/-- an order's field, where a side is read -/
theorem Rd.ord {w : World} {no : List Nat} {A : Option Addr} {l : List Ord} (h : Rd w no A (rows l)) (hn : 0 < l.length) :
    ∃ b o, A = some ⟨b, o, none⟩ ∧ b ∉ no ∧ ∀ (i : Nat) (hi : i < l.length) (j : Nat) (v : Value), j < 7 → (l[i].cells)[j]? = some v → w.cell? ⟨b, o + i * 7 + j, none⟩ = some v := by
  obtain ⟨b, o, e, hb, hc⟩ := h.base (by rw [rows_length]; omega)
  refine ⟨b, o, e, hb, fun i hi j v hj hv => ?_⟩
  have := hc (i * 7 + j) v (by rw [rows_get l i j hi hj]; exact hv)
  rw [Nat.add_assoc]; exact this
def bet (s p q : Int) : Bool := if s = 1 then decide (q < p) else decide (p < q)
/-- no number stands twice -/
def Dist (l : List Ord) : Prop := ∀ i, (hi : i < l.length) → ∀ j, (hj : j < i) → l[i].id ≠ l[j].id
instance (l : List Ord) : Decidable (Dist l) := by unfold Dist; infer_instance
/-- in their priority, as far as prices tell -/
def Srt (s : Int) (l : List Ord) : Prop := ∀ i, (hi : i < l.length) → 0 < i → bet s l[i].pr l[i - 1].pr = false
instance (s : Int) (l : List Ord) : Decidable (Srt s l) := by unfold Srt; infer_instance
end Go.Proofs.Ytinmhhonpflojaa

/- The document's Valid: what it computes. -/
namespace Go.Proofs.Ytinmhhonpflojaa
open Go.V
set_option linter.unusedVariables false
set_option linter.unusedSimpArgs false

/-- a book's cells -/
def bcells (cap meet : Int) (B S : Value) (high seq : Int) : List Value := [.int .i64 cap, .int .i64 meet, B, S, .int .u64 high, .int .u64 seq]
def Ord.wf (o : Ord) : Prop := U o.id ∧ U o.v ∧ U o.hd ∧ U o.pk
def Ord.rests (o : Ord) (high : Int) : Prop := Rests o.id o.ty o.pr o.v o.hd o.pk high
instance (o : Ord) (high : Int) : Decidable (o.rests high) := by unfold Ord.rests; infer_instance
def crossB : List Ord → List Ord → Bool
  | b :: _, s :: _ => decide (s.pr ≤ b.pr)
  | _, _ => false
def Vld (cap meet high : Int) (bs ss : List Ord) : Prop :=
  (1 ≤ cap ∧ cap ≤ 4096 ∧ 0 ≤ meet ∧ meet ≤ 3) ∧ (bs.length : Int) ≤ 4096 ∧ (ss.length : Int) ≤ 4096 ∧ (bs.length : Int) + (ss.length : Int) ≤ cap ∧ (∀ o ∈ bs ++ ss, o.rests high) ∧ Dist (bs ++ ss) ∧ Srt 1 bs ∧ Srt 2 ss ∧ crossB bs ss = false
instance (cap meet high : Int) (bs ss : List Ord) : Decidable (Vld cap meet high bs ss) := by unfold Vld; infer_instance
def vld (cap meet high : Int) (bs ss : List Ord) : Int := if Vld cap meet high bs ss then 0 else 120
theorem rows_app (a b : List Ord) : rows (a ++ b) = rows a ++ rows b := by simp [rows]
theorem rows_ones (l : List Ord) : ones (rows l) = true := by
  induction l with
  | nil => rfl
  | cons a l ih =>
    have e : rows (a :: l) = a.cells ++ rows l := rfl
    have h1 : ones a.cells = true := rfl
    simp only [ones] at *
    rw [e, List.all_append, h1, ih]; rfl
end Go.Proofs.Ytinmhhonpflojaa

/- slices.Clone of a side. -/
namespace Go.Proofs.Ytinmhhonpflojaa
open Go.V
set_option linter.unusedVariables false
set_option linter.unusedSimpArgs false

set_option maxRecDepth 10000 in
theorem clone_ok (w : World) (A : Option Addr) (len cap : Nat) (l : List Ord) (hx : Rd w [] A (rows l)) (hl : len = l.length) (hb : len ≤ 2513169434843) :
    Does Try.prog 95 [.slice A len cap] [] w (fun v hs => OwnS 134 7 v l.length (rows l) hs) := by
  refine Does.less (Does.of (n := 8) Try.func95 rfl rfl rfl rfl ?_)
  refine .seq ((.region (.v (.assign rfl) (.nil ?_))))
  refine .seq (.seq ((.region (.v (.move rfl) (.v (.eql_slice_nil rfl rfl) (.nil ?_))))))
  refine .cond rfl (fun h1 => ?_) (fun h1 => .skip ?_)
  · have hA : A = none := by simpa using h1
    subst hA
    have h0 : l.length = 0 := by
      have := congrArg List.length hx.empty
      rw [rows_length] at this
      simp only [List.length_nil] at this; omega
    have hl0 : l = [] := List.eq_nil_of_length_eq_zero h0
    subst hl0
    refine .seq ((.region (.v (.assign rfl) (.nil ?_))))
    exact .ret ⟨[_], ⟨rfl, trivial⟩, [], fun _ s => s, OwnS.nil _ _⟩
  · refine .seq ((.region (.ef (.buildSlice (out := []) rfl (by decide) rfl rfl) ?_)))
    rintro _ _ ⟨b6, rfl, rfl⟩
    refine .v (.move rfl) ?_
    refine .ef (.append (c := 0) (k := len) (vs := []) (news := rows l) (h := [(b6, .cells [] 134)]) (fr := []) rfl rfl ⟨rfl, .inr ⟨b6, 0, 0, [], rfl, rfl, by omega, by simp, by simp⟩⟩ (by exact List.Perm.refl _)
      (fun w' s => (hx.keep0 s).src (by rw [rows_length, hl]) (by omega)) (by rw [rows_length, hl]) (rows_ones _) (by omega) (by omega)) ?_
    rintro v _ ⟨h', k', rfl⟩
    refine .v (.assign rfl) (.nil ?_)
    refine .ret ⟨[_], ⟨rfl, trivial⟩, h', fun _ s => by simpa using s, ?_⟩
    rw [Nat.zero_add, hl] at k'
    exact k'
end Go.Proofs.Ytinmhhonpflojaa

/- bourseref09.Copy; (*rules.Book).Len. -/
namespace Go.Proofs.Ytinmhhonpflojaa
open Go.V
set_option linter.unusedVariables false
set_option linter.unusedSimpArgs false

set_option maxRecDepth 10000 in
theorem Len_ok (w : World) (b : Nat) (cap meet high seq : Int) (A1 A2 : Option Addr) (n1 n2 c1 c2 : Nat) (hn1 : n1 ≤ 2513169434843) (hn2 : n2 ≤ 2513169434843) :
    Does Try.prog 79 [.pointer (some ⟨b, 0, none⟩)] [(b, .cells (bcells cap meet (.slice A1 n1 c1) (.slice A2 n2 c2) high seq) 126)] w
      (fun u hs => u = .int .i64 (n1 + n2) ∧ hs = [(b, .cells (bcells cap meet (.slice A1 n1 c1) (.slice A2 n2 c2) high seq) 126)]) := by
  refine Does.of (n := 16) Try.func79 rfl rfl rfl rfl ?_
  refine .seq ((.region (.v (.assign rfl) (.nil ?_))))
  refine .seq ((.drawS (by kernel_rfl) (by kernel_rfl) (.v (.move rfl) (.v (.nilCheck rfl) (.v (.fieldAddr rfl) (.v (.fieldAddr rfl) (.v (.load rfl (.one rfl)) (.v (.len rfl) (.v (.move rfl) (.v (.nilCheck rfl) (.v (.fieldAddr rfl) (.v (.fieldAddr rfl) (.v (.load rfl (.one rfl)) (.v (.len rfl) (.v (.addi rfl rfl (by omega)) (.v (.assign rfl) (.nil ?_)))))))))))))))))
  exact .ret ⟨[_], ⟨rfl, trivial⟩, rfl, rfl⟩

end Go.Proofs.Ytinmhhonpflojaa

/- rules.copied and (*rules.Book).Book. -/
namespace Go.Proofs.Ytinmhhonpflojaa
open Go.V
set_option linter.unusedVariables false
set_option linter.unusedSimpArgs false

/-- a book whose sides are new -/
def NewBook (cap meet high seq : Int) (bs ss : List Ord) (v : Value) (hs : Hp) : Prop :=
  ∃ A1 A2 d1 d2 k1 k2, v = .agg ⟨bcells cap meet (.slice A1 bs.length d1) (.slice A2 ss.length d2) high seq⟩ ∧ hs = k2 ++ k1 ∧ OwnS 134 7 (.slice A1 bs.length d1) bs.length (rows bs) k1 ∧ OwnS 134 7 (.slice A2 ss.length d2) ss.length (rows ss) k2
theorem OwnS.sl {E m n : Nat} {v : Value} {vs : List Value} {h : Hp} (k : OwnS E m v n vs h) : ∃ A c, v = .slice A n c := by
  obtain ⟨A, c, rfl⟩ := k.slice
  exact ⟨A, c, rfl⟩
set_option maxRecDepth 10000 in
theorem copied_ok (w : World) (cap meet high seq : Int) (A1 A2 : Option Addr) (c1 c2 : Nat) (bs ss : List Ord) (h1 : Rd w [] A1 (rows bs)) (h2 : Rd w [] A2 (rows ss)) (hb1 : bs.length ≤ 2513169434843) (hb2 : ss.length ≤ 2513169434843) :
    Does Try.prog 88 [.agg ⟨bcells cap meet (.slice A1 bs.length c1) (.slice A2 ss.length c2) high seq⟩] [] w (NewBook cap meet high seq bs ss) := by
  refine Does.less (Does.of (n := 12) Try.func88 rfl rfl rfl rfl ?_)
  refine .seq ((.region (.nw (.box rfl rfl) fun b1 => (.nw .alloc fun b2 => (.nil ?_)))))
  refine .seq (.drawZ 7 [(b1, .cells (bcells cap meet (.slice A1 bs.length c1) (.slice A2 ss.length c2) high seq) 124)] (by intro p hp; simp at hp; subst hp; simp) (by kernel_rfl) ?_)
  refine .v 0 rfl (by kernel_rfl) (fun hs' f => .fieldAddr rfl) ?_
  refine .v 1 rfl (by kernel_rfl) (fun hs' f => .load (v := .slice A1 bs.length c1) rfl (.one (hb := .sub f) rfl)) ?_
  refine .v 3 rfl (by kernel_rfl) (fun hs' f => .fieldAddr rfl) ?_
  refine .v 4 rfl (by kernel_rfl) (fun hs' f => .load (v := .slice A2 ss.length c2) rfl (.one (hb := .sub f) rfl)) ?_
  refine .ef 2 rfl (by kernel_rfl) (.call0 rfl rfl fun w s => clone_ok w A1 bs.length c1 bs (h1.keep0 s) rfl hb1) ?_ (fun v hs' ⟨h, _, e⟩ f => by subst e; exact fun p hp => List.mem_append_right _ (f hp)) rfl
  rintro v1 _ ⟨k1, o1, rfl⟩
  refine .v 6 rfl (by kernel_rfl) (fun hs' f => .fieldAddr rfl) ?_
  refine .ef 5 rfl (by kernel_rfl) (.call0 rfl rfl fun w s => clone_ok w A2 ss.length c2 ss (h2.keep0 s) rfl hb2) ?_ (fun v hs' ⟨h, _, e⟩ f => by subst e; exact fun p hp => List.mem_append_right _ (f hp)) rfl
  rintro v2 _ ⟨k2, o2, rfl⟩
  obtain ⟨B1, d1, rfl⟩ := OwnS.sl o1
  obtain ⟨B2, d2, rfl⟩ := OwnS.sl o2
  refine .st rfl (by kernel_rfl) rfl (.store rfl rfl rfl (by simp [bcells])) ?_
  refine .v1 8 rfl (by kernel_rfl) (.fieldAddr rfl) ?_ rfl
  refine .st2 9 rfl (by kernel_rfl) rfl rfl (.store rfl rfl rfl (by simp [bcells])) ?_
  refine .done (by kernel_rfl) ?_
  refine .seq ((.region (.v (.loadA (vs := bcells cap meet (.slice B1 bs.length d1) (.slice B2 ss.length d2) high seq) rfl .whole rfl) (.st (.sw rfl rfl) (.nil ?_)))))
  refine .ret ⟨[_], ⟨⟨_, rfl, .inr ⟨6, _, inferInstance, rfl, rfl, .whole⟩⟩, trivial⟩, k2 ++ k1, fun _ s => s.sub ?_, B1, B2, d1, d2, k1, k2, rfl, rfl, o1, o2⟩
  exact List.Sublist.append_left (List.sublist_append_left _ _) _
end Go.Proofs.Ytinmhhonpflojaa

/- Two sides that read alike are alike. -/
namespace Go.Proofs.Ytinmhhonpflojaa
open Go.V
set_option linter.unusedVariables false
set_option linter.unusedSimpArgs false

abbrev OL : List Lf := [.i .u64, .i .u32, .i .i64, .i .i64, .i .u64, .i .u64, .i .u64]
theorem Ord.oks (o : Ord) : V.oks OL o.cells := ⟨rfl, rfl, rfl, rfl, rfl, rfl, rfl, trivial⟩
end Go.Proofs.Ytinmhhonpflojaa

/- Two books that read alike are alike. -/
namespace Go.Proofs.Ytinmhhonpflojaa
open Go.V
set_option linter.unusedVariables false
set_option linter.unusedSimpArgs false

theorem cfg_oks (c m : Int) : oks [.i .i64, .i .i64] [.int .i64 c, .int .i64 m] := ⟨rfl, rfl, trivial⟩
end Go.Proofs.Ytinmhhonpflojaa

/- rules.New and the document's. -/
namespace Go.Proofs.Ytinmhhonpflojaa
open Go.V
set_option linter.unusedVariables false
set_option linter.unusedSimpArgs false

def Cfg (c m : Int) : Prop := 1 ≤ c ∧ c ≤ 4096 ∧ 0 ≤ m ∧ m ≤ 3
instance (c m : Int) : Decidable (Cfg c m) := by unfold Cfg; infer_instance
/-- a book of a config without orders -/
def bnew (c m : Int) : List Value := bcells c m (.slice none 0 0) (.slice none 0 0) 0 0
theorem New_ok (w : World) (c m : Int) : Does Try.prog 30 [.agg ⟨[.int .i64 c, .int .i64 m]⟩] [] w (fun v hs => if Cfg c m then ∃ b, v = .tuple ⟨[.pointer (some ⟨b, 0, none⟩), .int .i64 0]⟩ ∧ hs = [(b, .cells (bnew c m) 126)] else v = .tuple ⟨[.pointer none, .int .i64 1]⟩ ∧ hs = []) := by
  refine Does.less (Does.of (n := 11) Try.func30 rfl rfl rfl rfl ?_)
  refine .seq ((.region (.nw (.box rfl rfl) fun b1 => (.v (.assign rfl) (.v (.assign rfl) (.nil ?_))))))
  refine .seq (.seq ((.region (.v (.loadA rfl .whole rfl) (.pc (v := .bool (decide (Cfg c m))) rfl rfl (fun w _ => configured_ok w c m) (.v (.not rfl) (.nil ?_)))))))
  refine .cond rfl (fun h1 => ?_) (fun h1 => .skip ?_)
  · have hc : ¬ Cfg c m := by simpa using h1
    refine .seq ((.region (.v (.assign rfl) (.v (.assign rfl) (.nil ?_)))))
    exact .ret ⟨[_, _], ⟨rfl, rfl, trivial⟩, [], fun _ s => s.sub (List.nil_sublist _), by rw [if_neg hc]; exact ⟨rfl, rfl⟩⟩
  · have hc : Cfg c m := by simpa using h1
    refine .seq ((.region (.v (.loadA rfl .whole rfl) (.v (.build (out := bnew c m) rfl rfl) (.v (.build (out := bnew c m) rfl rfl) (.nw (.box rfl rfl) fun b10 => (.v (.assign rfl) (.v (.assign rfl) (.nil ?_)))))))))
    exact .ret ⟨[_, _], ⟨rfl, rfl, trivial⟩, [(b10, .cells (bnew c m) 126)], fun _ s => s.sub (.cons_cons _ (List.nil_sublist _)), by rw [if_pos hc]; exact ⟨b10, rfl, rfl⟩⟩
end Go.Proofs.Ytinmhhonpflojaa

/- rules.Valid: what it computes. -/
namespace Go.Proofs.Ytinmhhonpflojaa
open Go.V
set_option linter.unusedVariables false
set_option linter.unusedSimpArgs false

/-- the numbers that were seen -/
def seenFrom (n : Nat) : List Ord → List ME
  | [] => []
  | o :: l => (o.id, .bool true, n) :: seenFrom (n + 1) l
theorem seen_app : ∀ (l : List Ord) (o : Ord) (n : Nat), seenFrom n (l ++ [o]) = seenFrom n l ++ [(o.id, .bool true, n + l.length)]
  | [], o, n => rfl
  | a :: l, o, n => by
    simp only [List.cons_append, seenFrom, seen_app l o (n + 1), List.length_cons]
    rw [show n + 1 + l.length = n + (l.length + 1) from by omega]
theorem mfind_seen (k : Int) : ∀ (l : List Ord) (n i : Nat), (mfind k (seenFrom n l) i).map (·.2) = if ∃ o ∈ l, o.id = k then some (.bool true) else none
  | [], n, i => by simp [seenFrom, mfind]
  | a :: l, n, i => by
    unfold seenFrom mfind
    by_cases h : k = a.id
    · subst h; simp
    · have hb : (k == a.id) = false := by simpa using h
      simp only [hb, Bool.false_eq_true, if_false]
      rw [mfind_seen k l (n + 1) (i + 1)]
      have : (∃ o ∈ a :: l, o.id = k) ↔ (∃ o ∈ l, o.id = k) := by
        constructor
        · rintro ⟨o, ho, e⟩
          rcases List.mem_cons.1 ho with rfl | ho
          · exact absurd e.symm h
          · exact ⟨o, ho, e⟩
        · rintro ⟨o, ho, e⟩; exact ⟨o, List.mem_cons_of_mem _ ho, e⟩
      by_cases hh : ∃ o ∈ l, o.id = k
      · rw [if_pos hh, if_pos (this.2 hh)]
      · rw [if_neg hh, if_neg (fun q => hh (this.1 q))]
theorem mget_seen (k : Int) (l : List Ord) : (mget k (seenFrom 0 l)).getD (.bool false) = .bool (decide (∃ o ∈ l, o.id = k)) := by
  unfold mget
  rw [mfind_seen]
  by_cases h : ∃ o ∈ l, o.id = k <;> simp [h]
theorem mset_seen (l : List Ord) (o : Ord) (h : ¬ ∃ x ∈ l, x.id = o.id) : mset o.id (.bool true) (seenFrom 0 l) l.length = (seenFrom 0 (l ++ [o]), (l ++ [o]).length) := by
  have hm := mfind_seen o.id l 0 0
  rw [if_neg h] at hm
  have hn : mfind o.id (seenFrom 0 l) 0 = none := by
    cases hf : mfind o.id (seenFrom 0 l) 0 with
    | none => rfl
    | some p => rw [hf] at hm; cases hm
  unfold mset
  rw [hn, seen_app]
  simp
/-- all of a side is right, next to what stood ahead -/
def SideOk (high : Int) (s : Int) (ahead l : List Ord) (n : Nat) : Prop :=
  ∀ i, (hi : i < l.length) → i < n → l[i].rests high ∧ (¬ ∃ x ∈ ahead ++ l.take i, x.id = l[i].id) ∧ (0 < i → bet s l[i].pr l[i - 1].pr = false)
theorem dist_of {ahead l : List Ord} {high s : Int} (h1 : Dist ahead) (h2 : SideOk high s ahead l l.length) : Dist (ahead ++ l) := by
  intro i hi j hj
  by_cases ha : i < ahead.length
  · rw [List.getElem_append_left ha, List.getElem_append_left (by omega)]
    exact h1 i ha j hj
  · have hi' : i - ahead.length < l.length := by simp at hi; omega
    have := (h2 (i - ahead.length) hi' hi').2.1
    rw [List.getElem_append_right (by omega)]
    intro e
    apply this
    refine ⟨(ahead ++ l)[j], ?_, e.symm⟩
    have : (ahead ++ l)[j] ∈ (ahead ++ l).take i := by
      rw [List.mem_iff_getElem]
      exact ⟨j, by simp at hi ⊢; omega, by simp⟩
    rw [List.take_append] at this
    rwa [List.take_of_length_le (by omega)] at this
theorem not_dist {ahead l : List Ord} {i : Nat} (hi : i < l.length) (h : ∃ x ∈ ahead ++ l.take i, x.id = l[i].id) (rest : List Ord) : ¬ Dist (ahead ++ l ++ rest) := by
  intro hd
  obtain ⟨x, hx, e⟩ := h
  obtain ⟨j, hj, rfl⟩ := List.mem_iff_getElem.1 hx
  simp at hj
  have hj2 : j < ahead.length + i := by omega
  refine hd (ahead.length + i) (by simp; omega) j hj2 ?_
  have e1 : (ahead ++ l ++ rest)[ahead.length + i]'(by simp; omega) = l[i] := by
    rw [List.getElem_append_left (by simp; omega), List.getElem_append_right (by omega)]
    simp
  have e2 : (ahead ++ l ++ rest)[j]'(by simp; omega) = (ahead ++ l.take i)[j]'(by simp; omega) := by
    rw [List.getElem_append_left (by simp; omega)]
    by_cases ha : j < ahead.length
    · rw [List.getElem_append_left ha, List.getElem_append_left ha]
    · rw [List.getElem_append_right (by omega), List.getElem_append_right (by omega)]
      simp
  rw [e1, e2, e]
end Go.Proofs.Ytinmhhonpflojaa

/- rules.Valid: the walk. -/
namespace Go.Proofs.Ytinmhhonpflojaa
open Go.V
set_option linter.unusedVariables false
set_option linter.unusedSimpArgs false

def ah (bs ss : List Ord) : Nat → List Ord
  | 0 => []
  | 1 => bs
  | _ => bs ++ ss
theorem side_facts (bs ss : List Ord) (A1 A2 : Option Addr) (c1 c2 : Nat) (high : Int) (w : World) (h1 : Rd w [] A1 (rows bs)) (h2 : Rd w [] A2 (rows ss)) (hb1 : bs.length ≤ 2513169434843) (hb2 : ss.length ≤ 2513169434843) (s : Nat) (hs : s < 2) :
    ∃ (L : List Ord) (A : Option Addr) (c : Nat), ([.slice A1 bs.length c1, .slice A2 ss.length c2] : List Value)[s]? = some (.slice A L.length c) ∧ Rd w [] A (rows L) ∧ L.length ≤ 2513169434843 ∧ (∀ o ∈ L, o ∈ bs ++ ss) ∧
      (∀ (i : Nat) (hi : i < L.length), (∃ x ∈ ah bs ss s ++ L.take i, x.id = L[i].id) → ¬ Dist (bs ++ ss)) ∧ (∀ (i : Nat) (hi : i < L.length), 0 < i → bet ((s : Int) + 1) L[i].pr L[i - 1].pr = true → ¬ (Srt 1 bs ∧ Srt 2 ss)) ∧
      ah bs ss (s + 1) = ah bs ss s ++ L ∧ (SideOk high ((s : Int) + 1) (ah bs ss s) L L.length → (s = 0 → Srt 1 bs) ∧ (s = 1 → Srt 2 ss)) := by
  match s, hs with
  | 0, _ =>
    refine ⟨bs, A1, c1, rfl, h1, hb1, fun o ho => by simp [ho], fun i hi h => ?_, fun i hi h0 hb k => ?_, by simp [ah], fun k => ⟨fun _ i hi h0 => ?_, fun h => by cases h⟩⟩
    · have := not_dist hi h ss
      simpa [ah] using this
    · have := k.1 i hi h0
      simp at hb
      rw [hb] at this; cases this
    · have := (k i hi hi).2.2 h0
      simpa using this
  | 1, _ =>
    refine ⟨ss, A2, c2, rfl, h2, hb2, fun o ho => by simp [ho], fun i hi h => ?_, fun i hi h0 hb k => ?_, rfl, fun k => ⟨fun h => (nomatch h), fun _ i hi h0 => ?_⟩⟩
    · have := not_dist hi h []
      simpa [ah] using this
    · have := k.2 i hi h0
      simp at hb
      rw [hb] at this; cases this
    · have := (k i hi hi).2.2 h0
      simpa using this
end Go.Proofs.Ytinmhhonpflojaa

/- The law RulesChecks: its walk. -/
namespace Go.Proofs.Ytinmhhonpflojaa
open Go.V
set_option linter.unusedVariables false
set_option linter.unusedSimpArgs false

set_option maxRecDepth 10000 in
theorem Len_is (w : World) (b : Nat) (cap meet high seq : Int) (A1 A2 : Option Addr) (n1 n2 c1 c2 : Nat) (hb : Rd w [] (some ⟨b, 0, none⟩) (bcells cap meet (.slice A1 n1 c1) (.slice A2 n2 c2) high seq)) (hn1 : n1 ≤ 2513169434843) (hn2 : n2 ≤ 2513169434843) :
    Is Try.prog 79 [.pointer (some ⟨b, 0, none⟩)] w (.int .i64 (n1 + n2)) := by
  refine Does.pure (Does.of (n := 16) Try.func79 rfl rfl rfl rfl ?_)
  refine .seq ((.region (.v (.assign rfl) (.nil ?_))))
  refine .seq ((.drawS (by kernel_rfl) (by kernel_rfl) (.v (.move rfl) (.v (.nilCheck rfl) (.v (.fieldAddr rfl) (.v (.fieldAddr rfl) (.v (.load (v := .slice A1 n1 c1) rfl (hb.cell (i := 2) rfl)) (.v (.len rfl) (.v (.move rfl) (.v (.nilCheck rfl) (.v (.fieldAddr rfl) (.v (.fieldAddr rfl) (.v (.load (v := .slice A2 n2 c2) rfl (hb.cell (i := 3) rfl)) (.v (.len rfl) (.v (.addi rfl rfl (by omega)) (.v (.assign rfl) (.nil ?_)))))))))))))))))
  exact .ret ⟨[_], ⟨rfl, trivial⟩, rfl⟩

end Go.Proofs.Ytinmhhonpflojaa

/- A book's parts: side, place, reaches, coming. -/
namespace Go.Proofs.Ytinmhhonpflojaa
open Go.V
set_option linter.unusedVariables false
set_option linter.unusedSimpArgs false

theorem side_ok (w : World) (b : Nat) (s : Int) : Is Try.prog 57 [.pointer (some ⟨b, 0, none⟩), .int .i64 s] w (.pointer (if s = 1 then some ⟨b, 2, none⟩ else if s = 2 then some ⟨b, 3, none⟩ else none)) := by
  refine Does.pure (Does.of (n := 18) Try.func57 rfl rfl rfl rfl ?_)
  refine .seq ((.region (.v (.assign rfl) (.nil ?_))))
  refine .seq (.seq ((.region (.v (.move rfl) (.nil ?_)))))
  refine .block (.seq ((.region (.v (.eqi rfl rfl) (.v (.assign rfl) (.nil ?_))))))
  refine .cond_dec rfl (fun h1 => ?_) (fun h1 => ?_)
  · refine .seq ((.region (.v (.move rfl) (.v (.nilCheck rfl) (.v (.fieldAddr rfl) (.v (.fieldAddr rfl) (.v (.assign rfl) (.nil ?_))))))))
    exact .ret ⟨[_], ⟨rfl, trivial⟩, by rw [if_pos h1]; rfl⟩
  · refine .seq ((.region (.v (.eqi rfl rfl) (.v (.assign rfl) (.nil ?_)))))
    refine .cond_dec rfl (fun h2 => ?_) (fun h2 => .skip ?_)
    · refine .seq ((.region (.v (.move rfl) (.v (.nilCheck rfl) (.v (.fieldAddr rfl) (.v (.fieldAddr rfl) (.v (.assign rfl) (.nil ?_))))))))
      exact .ret ⟨[_], ⟨rfl, trivial⟩, by rw [if_neg h1, if_pos h2]; rfl⟩
    · refine .seq ((.region (.v (.assign rfl) (.nil ?_))))
      exact .ret ⟨[_], ⟨rfl, trivial⟩, by rw [if_neg h1, if_neg h2]; rfl⟩
theorem isId_ok (w : World) (b : Nat) (id : Int) (o : Ord) (hb : Rd w [] (some ⟨b, 0, none⟩) [.int .u64 id]) : Is Try.prog 77 [.agg ⟨o.cells⟩, .pointer (some ⟨b, 0, none⟩)] w (.bool (decide (o.id = id))) := by
  refine Does.pure (Does.of (n := 8) Try.func77 rfl rfl rfl rfl ?_)
  refine .seq ((.region (.nw (.box rfl rfl) fun b2 => (.v (.assign rfl) (.nil ?_)))))
  refine .seq ((.region (.v (.fieldAddr rfl) (.v (.load (v := .int .u64 o.id) rfl (.one rfl)) (.v (.load (v := .int .u64 id) rfl (hb.cell (i := 0) rfl)) (.v (.eqi rfl rfl) (.v (.assign rfl) (.nil ?_))))))))
  exact .ret ⟨[_], ⟨rfl, trivial⟩, rfl⟩
/-- where an order of a number stands; -1: nowhere -/
def idx (id : Int) (l : List Ord) : Int := match l.findIdx? (fun o => decide (o.id = id)) with
  | some i => i
  | none => -1
theorem idx_at {id : Int} {l : List Ord} {i : Nat} (hi : i < l.length) (h : l[i].id = id) (hb : ∀ m, (hm : m < l.length) → m < i → l[m].id ≠ id) : idx id l = i := by
  have : l.findIdx? (fun o => decide (o.id = id)) = some i := by
    rw [List.findIdx?_eq_some_iff_getElem]
    exact ⟨hi, by simpa using h, fun j hj => by simpa using hb j (by omega) hj⟩
  unfold idx; rw [this]
theorem idx_no {id : Int} {l : List Ord} (hb : ∀ m, (hm : m < l.length) → l[m].id ≠ id) : idx id l = -1 := by
  have : l.findIdx? (fun o => decide (o.id = id)) = none := by
    rw [List.findIdx?_eq_none_iff]
    intro x hx
    obtain ⟨i, hi, rfl⟩ := List.mem_iff_getElem.1 hx
    simpa using hb i hi
  unfold idx; rw [this]
theorem idx_spec (id : Int) (l : List Ord) : idx id l = -1 ∧ (∀ m, (hm : m < l.length) → l[m].id ≠ id) ∨ ∃ i, ∃ hi : i < l.length, idx id l = i ∧ l[i].id = id ∧ ∀ m, (hm : m < l.length) → m < i → l[m].id ≠ id := by
  cases h : l.findIdx? (fun o => decide (o.id = id)) with
  | none =>
    refine .inl ⟨by unfold idx; rw [h], fun m hm e => ?_⟩
    rw [List.findIdx?_eq_none_iff] at h
    simpa [e] using h l[m] (List.getElem_mem hm)
  | some i =>
    rw [List.findIdx?_eq_some_iff_getElem] at h
    obtain ⟨hi, h1, h2⟩ := h
    have h1 : l[i].id = id := by simpa using h1
    have h2 : ∀ m, (hm : m < l.length) → m < i → l[m].id ≠ id := fun m hm hmi => by simpa using h2 m hmi
    exact .inr ⟨i, hi, idx_at hi h1 h2, h1, h2⟩
set_option maxRecDepth 10000 in
theorem index_ok (w : World) (A : Option Addr) (len cap b : Nat) (id : Int) (l : List Ord) (hx : Rd w [] A (rows l)) (hl : len = l.length) (hlb : len ≤ 2513169434843) (hb : Rd w [] (some ⟨b, 0, none⟩) [.int .u64 id]) :
    Is Try.prog 76 [.slice A len cap, .func (.func 77) #[] ⟨[.pointer (some ⟨b, 0, none⟩)]⟩] w (.int .i64 (idx id l)) := by
  refine Does.pure (Does.of (n := 19) Try.func76 rfl rfl rfl rfl ?_)
  refine .seq ((.region (.v (.assign rfl) (.nil ?_))))
  refine .seq (.seq ((.region (.v (.move rfl) (.v (.len rfl) (.v (.move rfl) (.nil ?_)))))))
  refine .block (.loop (X := Nat) (fun i => [(0, .slice A len cap), (1, .func (.func 77) #[] ⟨[.pointer (some ⟨b, 0, none⟩)]⟩), (7, .int .i64 len), (8, .int .i64 i)]) (fun _ => []) (fun i => i ≤ len ∧ ∀ m, (hm : m < l.length) → m < i → l[m].id ≠ id) (fun i => len - i) 0 ⟨by omega, fun m _ hm => by omega⟩
    (.cons rfl (.cons rfl (.cons rfl (.cons rfl (.nil _))))) (fun _ s => s) ?_)
  rintro i ⟨hi, hI⟩
  refine .seq ((.region (.v (.lss rfl rfl) (.nil ?_))))
  refine .seq (.cond_dec rfl (fun h1 => .skip ?_) (fun h1 => .exit ?_))
  · have hil : i < l.length := by omega
    obtain ⟨b', o', rfl, -, hc⟩ := Rd.ord hx (by omega)
    refine .seq (.block (.seq ((.region (.v (.move rfl) (.v (.assign rfl) (.nil ?_)))))))
    refine .seq ((.region (.v (.move rfl) (.v (.move rfl) (.v (.move rfl) (.v (.indexAddr rfl rfl (by omega) (by omega)) (.v (.loadA (vs := l[i].cells) rfl (.old (fun j v hv => ?_) (by simp [bl])) rfl) (.pc (v := .bool (decide (l[i].id = id))) rfl rfl (fun w s => isId_ok w b id l[i] (hb.keep0 s)) (.nil ?_)))))))))
    · rw [add_none, Int.toNat_natCast]; exact hc i hil j v (List.getElem?_eq_some_iff.1 hv).1 hv
    refine .cond_dec rfl (fun h2 => ?_) (fun h2 => .skip ?_)
    · refine .seq ((.region (.v (.move rfl) (.v (.assign rfl) (.nil ?_)))))
      exact .ret ⟨[_], ⟨rfl, trivial⟩, by rw [idx_at hil h2 hI]; rfl⟩
    · refine .region (.v (.addi rfl rfl (by omega)) (.v (.move rfl) (.nil ?_)))
      refine ⟨i + 1, ⟨by omega, fun m hm hmi => ?_⟩, by omega, .cons rfl (.cons rfl (.cons rfl (.cons rfl (.nil _)))), fun _ s => s⟩
      by_cases e : m = i
      · subst e; exact h2
      · exact hI m hm (by omega)
  · refine .seq ((.region (.v (.assign rfl) (.nil ?_))))
    exact .ret ⟨[_], ⟨rfl, trivial⟩, by rw [idx_no fun m hm => hI m hm (by omega)]; rfl⟩
/-- where an order of a number stands in a book -/
def plc (id : Int) (bs ss : List Ord) : Int × Int × Bool := if 0 ≤ idx id bs then (1, idx id bs, true) else if 0 ≤ idx id ss then (2, idx id ss, true) else (0, 0, false)
def plcV (p : Int × Int × Bool) : Value := .tuple ⟨[.int .i64 p.1, .int .i64 p.2.1, .bool p.2.2]⟩

set_option maxRecDepth 10000 in
theorem place_ok (w : World) (b : Nat) (cap meet high seq id : Int) (A1 A2 : Option Addr) (c1 c2 : Nat) (bs ss : List Ord) (hb : Rd w [] (some ⟨b, 0, none⟩) (bcells cap meet (.slice A1 bs.length c1) (.slice A2 ss.length c2) high seq))
    (h1 : Rd w [] A1 (rows bs)) (h2 : Rd w [] A2 (rows ss)) (hb1 : bs.length ≤ 2513169434843) (hb2 : ss.length ≤ 2513169434843) :
    Is Try.prog 56 [.pointer (some ⟨b, 0, none⟩), .int .u64 id] w (plcV (plc id bs ss)) := by
  refine Does.pure (Does.of (n := 28) Try.func56 rfl rfl rfl rfl ?_)
  refine .seq ((.region (.nw (.box rfl rfl) fun b3 => (.v (.assign rfl) (.v (.assign rfl) (.v (.assign rfl) (.nil ?_)))))))
  refine .seq (.seq ((.region (.ef (.buildSlice (out := [.int .i64 1, .int .i64 2]) rfl (by decide) rfl rfl) ?_))))
  rintro _ _ ⟨b10, rfl, rfl⟩
  refine .v (.len rfl) (.v (.move rfl) (.nil ?_))
  refine .block (.loop (X := Nat) (fun k => [(0, .pointer (some ⟨b, 0, none⟩)), (3, .pointer (some ⟨b3, 0, none⟩)), (10, .slice (some ⟨b10, 0, none⟩) 2 2), (11, .int .i64 2), (12, .int .i64 k)]) (fun _ => [(b10, .cells [.int .i64 1, .int .i64 2] 3), (b3, .cells [.int .u64 id] 22)])
    (fun k => k ≤ 2 ∧ (1 ≤ k → idx id bs = -1) ∧ (2 ≤ k → idx id ss = -1)) (fun k => 2 - k) 0 ⟨by omega, by omega, by omega⟩ (.cons rfl (.cons rfl (.cons rfl (.cons rfl (.cons rfl (.nil _)))))) (fun _ s => s) ?_)
  rintro k ⟨hk, hk1, hk2⟩
  refine .seq ((.region (.v (.lss rfl rfl) (.nil ?_))))
  refine .seq (.cond_dec rfl (fun g1 => .skip ?_) (fun g1 => .exit ?_))
  · have hk' : k = 0 ∨ k = 1 := by omega
    rcases hk' with rfl | rfl
    · refine .seq (.block (.seq ((.region (.v (.indexAddr1 rfl rfl (by omega) (by omega)) (.v (.load (v := .int .i64 1) rfl (.one rfl)) (.v (.assign rfl) (.nil ?_))))))))
      refine .seq ((.region (.v (.move rfl) (.v (.move rfl) (.pc rfl rfl (fun w s => side_ok w b 1) (.v (.nilCheck rfl) (.v (.load (v := .slice A1 bs.length c1) rfl (hb.cell (i := 2) rfl)) (.v (.makeFunc rfl rfl) (.pc rfl rfl (fun w s => index_ok w A1 bs.length c1 b3 id bs (h1.keep0 s) rfl hb1 (Rd.chunk s (l := [.int .u64 id]) (T := 22) (by simp) (fun j v hv => by rw [Nat.zero_add]; exact hv))) (.v (.assign rfl) (.nil ?_)))))))))))
      refine .seq ((.region (.v (.move rfl) (.v (.geq rfl rfl) (.nil ?_)))))
      refine .cond_dec rfl (fun g2 => ?_) (fun g2 => .skip ?_)
      · refine .seq ((.region (.v (.move rfl) (.v (.move rfl) (.v (.assign rfl) (.v (.assign rfl) (.v (.assign rfl) (.nil ?_))))))))
        exact .ret ⟨[_, _, _], ⟨rfl, rfl, rfl, trivial⟩, by rw [plc, if_pos g2]; rfl⟩
      · refine .region (.v (.addi rfl rfl (by omega)) (.v (.move rfl) (.nil ?_)))
        have e : idx id bs = -1 := by
          rcases idx_spec id bs with h | ⟨i, hi, h, _⟩
          · exact h.1
          · omega
        exact ⟨1, ⟨by omega, fun _ => e, by omega⟩, by omega, .cons rfl (.cons rfl (.cons rfl (.cons rfl (.cons rfl (.nil _))))), fun _ s => s⟩
    · refine .seq (.block (.seq ((.region (.v (.indexAddr1 rfl rfl (by omega) (by omega)) (.v (.load (v := .int .i64 2) rfl (.one rfl)) (.v (.assign rfl) (.nil ?_))))))))
      refine .seq ((.region (.v (.move rfl) (.v (.move rfl) (.pc rfl rfl (fun w s => side_ok w b 2) (.v (.nilCheck rfl) (.v (.load (v := .slice A2 ss.length c2) rfl (hb.cell (i := 3) rfl)) (.v (.makeFunc rfl rfl) (.pc rfl rfl (fun w s => index_ok w A2 ss.length c2 b3 id ss (h2.keep0 s) rfl hb2 (Rd.chunk s (l := [.int .u64 id]) (T := 22) (by simp) (fun j v hv => by rw [Nat.zero_add]; exact hv))) (.v (.assign rfl) (.nil ?_)))))))))))
      refine .seq ((.region (.v (.move rfl) (.v (.geq rfl rfl) (.nil ?_)))))
      refine .cond_dec rfl (fun g2 => ?_) (fun g2 => .skip ?_)
      · refine .seq ((.region (.v (.move rfl) (.v (.move rfl) (.v (.assign rfl) (.v (.assign rfl) (.v (.assign rfl) (.nil ?_))))))))
        exact .ret ⟨[_, _, _], ⟨rfl, rfl, rfl, trivial⟩, by rw [plc, if_neg (by rw [hk1 (by omega)]; omega), if_pos g2]; rfl⟩
      · refine .region (.v (.addi rfl rfl (by omega)) (.v (.move rfl) (.nil ?_)))
        have e : idx id ss = -1 := by
          rcases idx_spec id ss with h | ⟨i, hi, h, _⟩
          · exact h.1
          · omega
        exact ⟨2, ⟨by omega, fun _ => hk1 (by omega), fun _ => e⟩, by omega, .cons rfl (.cons rfl (.cons rfl (.cons rfl (.cons rfl (.nil _))))), fun _ s => s⟩
  · refine .seq ((.region (.v (.assign rfl) (.v (.assign rfl) (.v (.assign rfl) (.nil ?_))))))
    exact .ret ⟨[_, _, _], ⟨rfl, rfl, rfl, trivial⟩, by rw [plc, if_neg (by rw [hk1 (by omega)]; omega), if_neg (by rw [hk2 (by omega)]; omega)]; rfl⟩
/-- an order that comes -/
structure Tk where
  o : Ord
  side : Int
  kind : Int
  left : Int
def Tk.cells (t : Tk) : List Value := t.o.cells ++ [.int .i64 t.side, .int .i64 t.kind, .int .u64 t.left]
def tcells (o : List Value) (side kind left : Int) : List Value := o ++ [.int .i64 side, .int .i64 kind, .int .u64 left]
def reach (side kind pr p : Int) : Bool := decide (kind = 2) || !bet side p pr
theorem reaches_ok (w : World) (id mb ty pr v hd pk side kind left p : Int) : Is Try.prog 80 [.agg ⟨[.int .u64 id, .int .u32 mb, .int .i64 ty, .int .i64 pr, .int .u64 v, .int .u64 hd, .int .u64 pk, .int .i64 side, .int .i64 kind, .int .u64 left]⟩, .int .i64 p] w (.bool (reach side kind pr p)) := by
  refine Does.pure (Does.of (n := 18) Try.func80 rfl rfl rfl rfl ?_)
  refine .seq ((.region (.nw (.box rfl rfl) fun b2 => (.v (.assign rfl) (.nil ?_)))))
  refine .seq ((.region (.v (.fieldAddr rfl) (.v (.load rfl (.one rfl)) (.v (.eqi rfl rfl) (.v (.move rfl) (.or 8 16 8 8 rfl rfl (fun g1 => .v (.fieldAddr rfl) (.v (.load rfl (.one rfl)) (.v (.move rfl) (.v (.fieldAddr rfl) (.v (.fieldAddr rfl) (.v (.load rfl (.one rfl)) (.pc rfl rfl (fun w s => better_ok w side p pr) (.v (.not rfl) (.nil ⟨rfl, rfl, rfl, rfl⟩))))))))) (.v (.assign rfl) (.nil ?_)))))))))
  exact .ret ⟨[_], ⟨rfl, trivial⟩, rfl⟩
end Go.Proofs.Ytinmhhonpflojaa

/- coming, refused. -/
namespace Go.Proofs.Ytinmhhonpflojaa
open Go.V
set_option linter.unusedVariables false
set_option linter.unusedSimpArgs false

/-- a command -/
structure Cm where
  k : Int
  id : Int
  tg : Int
  mb : Int
  sd : Int
  ty : Int
  pr : Int
  q : Int
  pk : Int
def Cm.cells (c : Cm) : List Value := ccells c.k c.id c.tg c.mb c.sd c.ty c.pr c.q c.pk
def Cm.chk (c : Cm) : Int := Proofs.Ytinmhhonpflojaa.chk c.k c.id c.sd c.ty c.pr c.q c.pk
/-- the order that comes by a command -/
def cmg (c : Cm) (tg : Option Ord) (side : Int) : Tk :=
  match tg with
  | some o => if c.k = 3 then ⟨⟨c.id, o.mb, o.ty, c.pr, 0, 0, c.pk⟩, side, o.ty, c.q⟩ else ⟨⟨c.id, c.mb, c.ty, c.pr, 0, 0, c.pk⟩, c.sd, c.ty, c.q⟩
  | none => ⟨⟨c.id, c.mb, c.ty, c.pr, 0, 0, c.pk⟩, c.sd, c.ty, c.q⟩
/-- the order that a command speaks of, in memory -/
def TgR (w : World) (no : List Nat) (tp : Option Addr) : Option Ord → Prop
  | none => tp = none
  | some o => ∃ bt, tp = some ⟨bt, 0, none⟩ ∧ Rd w no (some ⟨bt, 0, none⟩) o.cells
theorem TgR.keep0 {w0 w : World} {own : List Nat} {hs : Hp} {tp : Option Addr} {tg : Option Ord} (h : TgR w0 own tp tg) (s : Sat w0 own hs w) : TgR w [] tp tg := by
  cases tg with
  | none => exact h
  | some o => obtain ⟨bt, h1, h2⟩ := h; exact ⟨bt, h1, h2.keep0 s⟩
set_option maxRecDepth 10000 in
theorem coming_ok (w : World) (c : Cm) (tp : Option Addr) (tg : Option Ord) (side : Int) (ht : TgR w [] tp tg) (hk : c.k = 3 → tg ≠ none) :
    Is Try.prog 61 [.agg ⟨c.cells⟩, .pointer tp, .int .i64 side] w (.agg ⟨(cmg c tg side).cells⟩) := by
  obtain ⟨k, id, tgi, mb, sd, ty, pr, q, pk⟩ := c
  refine Does.pure (Does.of (n := 45) Try.func61 rfl rfl rfl rfl ?_)
  refine .seq ((.region (.nw (.box rfl rfl) fun b3 => (.nw .alloc fun b6 => (.nil ?_)))))
  refine .seq ((.region (.v (.fieldAddr rfl) (.v (.load (v := .int .u64 id) rfl (.one rfl)) (.v (.fieldAddr rfl) (.v (.load (v := .int .u32 mb) rfl (.one rfl)) (.v (.fieldAddr rfl) (.v (.load (v := .int .i64 pr) rfl (.one rfl)) (.v (.fieldAddr rfl) (.v (.load (v := .int .u64 pk) rfl (.one rfl)) (.v (.build (out := rcells id mb 0 pr 0 0 pk) rfl rfl) (.v (.fieldAddr rfl) (.v (.load (v := .int .i64 sd) rfl (.one rfl)) (.v (.fieldAddr rfl) (.v (.load (v := .int .i64 ty) rfl (.one rfl)) (.v (.fieldAddr rfl) (.v (.load (v := .int .u64 q) rfl (.one rfl)) (.v (.build (out := [.int .u64 id, .int .u32 mb, .int .i64 0, .int .i64 pr, .int .u64 0, .int .u64 0, .int .u64 pk, .int .i64 sd, .int .i64 ty, .int .u64 q]) rfl rfl) (.nw .alloc fun b7 => (.st (.sw rfl rfl) (.nil ?_)))))))))))))))))))))
  refine .seq (.seq ((.region (.v (.fieldAddr rfl) (.v (.load (v := .int .i64 k) rfl (.one rfl)) (.v (.eqi rfl rfl) (.nil ?_)))))))
  refine .cond_dec rfl (fun h1 => ?_) (fun h1 => .skip ?_)
  · cases tg with
    | none => exact absurd rfl (hk h1)
    | some o =>
      obtain ⟨bt, rfl, ho⟩ := ht
      refine (.drawK [] (List.nil_subset _) (by kernel_rfl) (by kernel_rfl) ?_)
      refine .v (fun _ f => .move rfl) (.v (fun _ f => .nilCheck rfl) (.v (fun _ f => .fieldAddr rfl) (.v (fun _ f => .load (v := .int .u32 o.mb) rfl (ho.cell (i := 1) rfl)) (.v (fun _ f => .move rfl) (.v (fun _ f => .move rfl) (.v (fun _ f => .nilCheck rfl) (.v (fun _ f => .fieldAddr rfl) (.v (fun _ f => .load (v := .int .i64 o.ty) rfl (ho.cell (i := 2) rfl)) (.v (fun _ f => .fieldAddr rfl) (.v (fun _ f => .fieldAddr rfl) ?_))))))))))
      refine .st (.storeL rfl rfl rfl) (fun _ => List.nil_subset _) (.v (fun _ f => .fieldAddr rfl) (.st (.storeL rfl rfl rfl) (fun _ => List.nil_subset _) (.v (fun _ f => .fieldAddr rfl) (.st (.storeL rfl rfl rfl) (fun _ => List.nil_subset _) (.nil ?_)))))
      refine .seq ((.region (.v (.fieldAddr rfl) (.v (.load (v := .int .i64 o.ty) rfl (.one rfl)) (.v (.fieldAddr rfl) (.v (.fieldAddr rfl) (.st (.storeL rfl rfl rfl) (.nil ?_))))))))
      refine .seq ((.region (.v (.loadA rfl .whole rfl) (.st (.sw rfl rfl) (.nil ?_)))))
      exact .ret ⟨[_], ⟨⟨_, rfl, .inr ⟨10, _, inferInstance, rfl, rfl, .whole⟩⟩, trivial⟩, by simp only [cmg]; rw [if_pos h1]; rfl⟩
  · refine .seq ((.region (.v (.fieldAddr rfl) (.v (.load (v := .int .i64 ty) rfl (.one rfl)) (.v (.fieldAddr rfl) (.v (.fieldAddr rfl) (.st (.storeL rfl rfl rfl) (.nil ?_))))))))
    refine .seq ((.region (.v (.loadA rfl .whole rfl) (.st (.sw rfl rfl) (.nil ?_)))))
    refine .ret ⟨[_], ⟨⟨_, rfl, .inr ⟨10, _, inferInstance, rfl, rfl, .whole⟩⟩, trivial⟩, ?_⟩
    cases tg with
    | none => rfl
    | some o => simp only [cmg]; rw [if_neg h1]; rfl
def headReach (side kind pr : Int) : List Ord → Bool
  | [] => false
  | x :: _ => reach side kind pr x.pr
/-- why a command is refused -/
def rfs (cap high : Int) (bs ss : List Ord) (c : Cm) (tg : Option Ord) (side : Int) : Int :=
  if c.chk = 90 then 90
  else if c.k ≠ 1 ∧ tg = none then 91
  else if c.chk ≠ 0 then c.chk
  else if c.k = 2 then 0
  else if c.id ≤ high then 97
  else if c.k = 1 ∧ ((cmg c tg side).kind = 1 ∨ (cmg c tg side).kind = 5) ∧ cap ≤ bs.length + ss.length then 98
  else if (cmg c tg side).kind = 5 ∧ headReach (cmg c tg side).side (cmg c tg side).kind (cmg c tg side).o.pr (if (cmg c tg side).side = 1 then ss else bs) then 99 else 0
theorem chk_kinds {c : Cm} (h : c.chk ≠ 90) : c.k = 1 ∨ c.k = 2 ∨ c.k = 3 := by
  unfold Cm.chk chk at h
  by_cases h1 : c.k = 1
  · exact .inl h1
  · by_cases h3 : c.k = 3
    · exact .inr (.inr h3)
    · by_cases h2 : c.k = 2
      · exact .inr (.inl h2)
      · rw [if_neg h1, if_neg h3, if_neg h2] at h; exact absurd rfl h
theorem chk_side {c : Cm} (h : c.chk = 0) (hk : c.k = 1) : c.sd = 1 ∨ c.sd = 2 := by
  unfold Cm.chk chk at h
  rw [if_pos hk] at h
  by_cases h1 : c.sd ≠ 1 ∧ c.sd ≠ 2
  · rw [if_pos h1] at h; omega
  · omega
set_option maxRecDepth 10000 in
theorem refused_ok (w : World) (b : Nat) (cap meet high seq : Int) (A1 A2 : Option Addr) (c1 c2 : Nat) (bs ss : List Ord) (hb : Rd w [] (some ⟨b, 0, none⟩) (bcells cap meet (.slice A1 bs.length c1) (.slice A2 ss.length c2) high seq))
    (hr1 : Rd w [] A1 (rows bs)) (hr2 : Rd w [] A2 (rows ss)) (hb1 : bs.length ≤ 2513169434843) (hb2 : ss.length ≤ 2513169434843) (c : Cm) (tp : Option Addr) (tg : Option Ord) (side : Int) (ht : TgR w [] tp tg) (hs : tg ≠ none → side = 1 ∨ side = 2) :
    Is Try.prog 58 [.pointer (some ⟨b, 0, none⟩), .agg ⟨c.cells⟩, .pointer tp, .int .i64 side] w (.int .i64 (rfs cap high bs ss c tg side)) := by
  have htn : tp.isNone = decide (tg = none) := by
    cases tg with
    | none => rw [show tp = none from ht]; rfl
    | some o => obtain ⟨bt, rfl, _⟩ := ht; simp
  obtain ⟨k, id, tgi, mb, sd, ty, pr, q, pk⟩ := c
  refine Does.pure (Does.of (n := 94) Try.func58 rfl rfl rfl rfl ?_)
  refine .seq ((.region (.nw (.box rfl rfl) fun b5 => (.v (.assign rfl) (.nil ?_)))))
  refine .seq ((.region (.v (.loadA (vs := ccells k id tgi mb sd ty pr q pk) rfl .whole rfl) (.pc rfl rfl (fun w s => Check_ok w k id tgi mb sd ty pr q pk) (.v (.assign rfl) (.nil ?_))))))
  have ech : chk k id sd ty pr q pk = Cm.chk ⟨k, id, tgi, mb, sd, ty, pr, q, pk⟩ := rfl
  rw [ech]
  generalize hc : (⟨k, id, tgi, mb, sd, ty, pr, q, pk⟩ : Cm) = c
  have ek : k = c.k := by rw [← hc]
  have ecells : ccells k id tgi mb sd ty pr q pk = c.cells := by rw [← hc]; rfl
  refine .seq (.block (.seq ((.region (.v (.move rfl) (.v (.eqi rfl rfl) (.v (.assign rfl) (.nil ?_))))))))
  refine .cond_dec rfl (fun h1 => ?_) (fun h1 => ?_)
  · refine .seq ((.region (.v (.move rfl) (.v (.assign rfl) (.nil ?_)))))
    exact .ret ⟨[_], ⟨rfl, trivial⟩, by rw [rfs, if_pos h1, h1]; rfl⟩
  refine .seq ((.region (.v (.fieldAddr rfl) (.v (.load (v := .int .i64 k) rfl (.one (by rw [← ecells]; rfl))) (.v (.nei rfl rfl) (.v (.move rfl) (.and 22 24 2 2 rfl rfl (fun g1 => .v (.move rfl) (.v (.eql_ptr_nil rfl rfl) (.nil ⟨rfl, rfl, rfl, rfl⟩))) (.v (.assign rfl) (.nil ?_)))))))))
  rw [htn]
  refine .cond rfl (fun h2 => ?_) (fun h2 => ?_)
  · refine .seq ((.region (.v (.assign rfl) (.nil ?_))))
    exact .ret ⟨[_], ⟨rfl, trivial⟩, by rw [rfs, if_neg h1, if_pos (by rw [← ek]; simpa using h2)]; rfl⟩
  have h2' : ¬ (c.k ≠ 1 ∧ tg = none) := by rw [← ek]; simpa using h2
  refine .seq ((.region (.v (.move rfl) (.v (.nei rfl rfl) (.v (.assign rfl) (.nil ?_))))))
  refine .cond_dec rfl (fun h3 => ?_) (fun h3 => ?_)
  · refine .seq ((.region (.v (.move rfl) (.v (.assign rfl) (.nil ?_)))))
    exact .ret ⟨[_], ⟨rfl, trivial⟩, by rw [rfs, if_neg h1, if_neg h2', if_pos h3]; rfl⟩
  refine .seq ((.region (.v (.fieldAddr rfl) (.v (.load (v := .int .i64 k) rfl (.one (by rw [← ecells]; rfl))) (.v (.eqi rfl rfl) (.v (.assign rfl) (.nil ?_)))))))
  refine .cond_dec rfl (fun h4 => ?_) (fun h4 => ?_)
  · refine .seq ((.region (.v (.assign rfl) (.nil ?_))))
    exact .ret ⟨[_], ⟨rfl, trivial⟩, by rw [rfs, if_neg h1, if_neg h2', if_neg h3, if_pos (by rw [← ek]; exact h4)]; rfl⟩
  refine .seq ((.drawK _ (fun _ h => h) (by kernel_rfl) (by kernel_rfl) ?_))
  refine .v (fun _ f => .fieldAddr rfl) (.v (fun _ f => .load (v := .int .u64 id) rfl (.one (hb := .sub f) (by rw [← ecells]; rfl))) (.v (fun _ f => .move rfl) (.v (fun _ f => .nilCheck rfl) (.v (fun _ f => .fieldAddr rfl) (.v (fun _ f => .fieldAddr rfl) (.v (fun _ f => .load (v := .int .u64 high) rfl (hb.cell (i := 4) rfl)) (.v (fun _ f => .leq rfl rfl) (.v (fun _ f => .assign rfl) (.nil ?_)))))))))
  have eid : id = c.id := by rw [← hc]
  refine .cond_dec rfl (fun h5 => ?_) (fun h5 => .skip ?_)
  · refine .seq ((.region (.v (.assign rfl) (.nil ?_))))
    exact .ret ⟨[_], ⟨rfl, trivial⟩, by rw [rfs, if_neg h1, if_neg h2', if_neg h3, if_neg (by rw [← ek]; exact h4), if_pos (by rw [← eid]; exact h5)]; rfl⟩
  have h3' : c.chk = 0 := Decidable.of_not_not h3
  have hk3 : c.k = 3 → tg ≠ none := fun e ht' => h2' ⟨by omega, ht'⟩
  refine .seq ((.region (.v (.loadA (vs := c.cells) rfl .whole (by rw [← ecells]; rfl)) (.v (.move rfl) (.v (.move rfl) ?_)))))
  refine .pc rfl rfl (fun w s => coming_ok w c tp tg side (ht.keep0 s) hk3) ?_
  have hside : (cmg c tg side).side = 1 ∨ (cmg c tg side).side = 2 := by
    have hk := chk_kinds h1
    unfold cmg
    cases tg with
    | none =>
      refine chk_side h3' ?_
      rcases hk with h | h | h
      · exact h
      · exact absurd h (by rw [← ek]; exact h4)
      · exact absurd rfl (hk3 h)
    | some o =>
      simp only
      split
      · exact hs (by simp)
      · rename_i hk'
        refine chk_side h3' ?_
        rcases hk with h | h | h
        · exact h
        · exact absurd h (by rw [← ek]; exact h4)
        · exact absurd h hk'
  generalize htk : cmg c tg side = t at hside ⊢
  obtain ⟨⟨x0, x1, x2, x3, x4, x5, x6⟩, s, kd, lf⟩ := t
  refine .nw .alloc fun b10 => (.st (.sw rfl rfl) (.nil ?_))
  refine .seq (.seq ((.drawP [0, 1, 2, 3, 4, 5, 6, 7, 8, 9, 10, 11, 12, 13, 14, 16, 17, 18, 19, 20, 21, 15, 22, 23] _ (fun _ h => h) (by kernel_rfl) (by kernel_rfl) ?_)))
  refine .v (fun _ f => .fieldAddr rfl) (.v (fun _ f => .load (v := .int .i64 k) rfl (.one (hb := .sub f) (by rw [← ecells]; rfl))) (.v (fun _ f => .eqi rfl rfl) (.v (fun _ f => .move rfl) (.and 50 58 8 5 rfl rfl (fun g2 => .v (fun _ f => .fieldAddr rfl) (.v (fun _ f => .load (v := .int .i64 kd) rfl (.one (hb := .sub f) rfl)) (.v (fun _ f => .eqi rfl rfl) (.v (fun _ f => .move rfl) (.or 54 57 3 3 rfl rfl (fun g3 => .v (fun _ f => .fieldAddr rfl) (.v (fun _ f => .load (v := .int .i64 kd) rfl (.one (hb := .sub f) rfl)) (.v (fun _ f => .eqi rfl rfl) (.nil ⟨rfl, rfl, rfl, rfl⟩)))) (.nil ⟨rfl, rfl, rfl, rfl⟩)))))) (.v (fun _ f => .move rfl) (.and 60 69 9 9 rfl rfl (fun g4 => .v (fun _ f => .move rfl) (.v (fun _ f => .move rfl) (.v (fun _ f => .nilCheck rfl) (.v (fun _ f => .fieldAddr rfl) (.v (fun _ f => .fieldAddr rfl) (.v (fun _ f => .fieldAddr rfl) (.v (fun _ f => .load (v := .int .i64 cap) rfl (hb.cell (i := 0) rfl)) (.pc rfl rfl (fun w s => Len_is w b cap meet high seq A1 A2 bs.length ss.length c1 c2 (hb.keep0 s) hb1 hb2) (.v (fun _ f => .geq rfl rfl) (.nil ⟨rfl, rfl, rfl, rfl⟩)))))))))) (.nil ?_)))))))
  refine .cond rfl (fun h6 => ?_) (fun h6 => .skip ?_) <;> simp only [Bool.and_eq_true, Bool.or_eq_true, Bool.not_eq_true', Bool.and_eq_false_iff, Bool.or_eq_false_iff, Bool.not_eq_false', decide_eq_true_eq, decide_eq_false_iff_not, Bool.false_eq_true, false_iff] at h6
  · refine .seq ((.region (.v (.assign rfl) (.nil ?_))))
    exact .ret ⟨[_], ⟨rfl, trivial⟩, by rw [rfs, if_neg h1, if_neg h2', if_neg h3, if_neg (by rw [← ek]; exact h4), if_neg (by rw [← eid]; exact h5), htk, if_pos (by rw [← ek]; exact ⟨h6.1.1, h6.1.2, h6.2⟩)]; rfl⟩
  have h6' : ¬ (c.k = 1 ∧ (kd = 1 ∨ kd = 5) ∧ cap ≤ bs.length + ss.length) := by rw [← ek]; omega
  have fin : ∀ {r : Int}, r = (if kd = 5 ∧ headReach s kd x3 (if s = 1 then ss else bs) then 99 else 0) → tup [.int .i64 r] = .int .i64 (rfs cap high bs ss c tg side) := fun e => by
    rw [rfs, if_neg h1, if_neg h2', if_neg h3, if_neg (by rw [← ek]; exact h4), if_neg (by rw [← eid]; exact h5), htk, if_neg h6', e]; rfl
  rcases hside with hside | hside
  · have hside : s = 1 := hside
    subst hside
    refine .seq ((.region (.v (.move rfl) (.v (.fieldAddr rfl) (.v (.load (v := .int .i64 1) rfl (.one rfl)) (.v (.subi rfl rfl (by omega)) (.pc rfl rfl (fun w s => side_ok w b 2) (.v (.nilCheck rfl) (.v (.load (v := .slice A2 ss.length c2) rfl (hb.cell (i := 3) rfl)) (.v (.assign rfl) (.nil ?_)))))))))))
    cases hl : ss with
    | nil =>
      subst hl
      refine .seq (.seq ((.drawK _ (fun _ h => h) (by kernel_rfl) (by kernel_rfl) ?_)))
      refine .v (fun _ f => .fieldAddr rfl) (.v (fun _ f => .load (v := .int .i64 kd) rfl (.one (hb := .sub f) rfl)) (.v (fun _ f => .eqi rfl rfl) (.v (fun _ f => .move rfl) (.and 81 84 3 3 rfl rfl (fun g5 => .v (fun _ f => .move rfl) (.v (fun _ f => .len rfl) (.v (fun _ f => .gtr rfl rfl) (.nil ⟨rfl, rfl, rfl, rfl⟩)))) (.v (fun _ f => .move rfl) (.and (b2 := false) 86 92 6 6 rfl rfl (fun g6 => absurd g6 (by simp)) (.nil ?_)))))))
      refine .cond rfl (fun h7 => absurd h7 (by simp)) (fun _ => .skip ?_)
      refine .seq ((.region (.v (.assign rfl) (.nil ?_))))
      exact .ret ⟨[_], ⟨rfl, trivial⟩, fin (by simp [headReach])⟩
    | cons x rest =>
      subst hl
      obtain ⟨b', o', rfl, -, hcx⟩ := Rd.ord hr2 (by simp)
      have hx := hcx 0 (by simp) 3 (.int .i64 x.pr) (by omega) rfl
      refine .seq (.seq ((.drawK _ (fun _ h => h) (by kernel_rfl) (by kernel_rfl) ?_)))
      refine .v (fun _ f => .fieldAddr rfl) (.v (fun _ f => .load (v := .int .i64 kd) rfl (.one (hb := .sub f) rfl)) (.v (fun _ f => .eqi rfl rfl) (.v (fun _ f => .move rfl) (.and 81 84 3 3 rfl rfl (fun g5 => .v (fun _ f => .move rfl) (.v (fun _ f => .len rfl) (.v (fun _ f => .gtr rfl rfl) (.nil ⟨rfl, rfl, rfl, rfl⟩)))) (.v (fun _ f => .move rfl) (.and 86 92 6 6 rfl rfl (fun g6 => .v (fun _ f => .loadA (vs := (⟨⟨x0, x1, x2, x3, x4, x5, x6⟩, 1, kd, lf⟩ : Tk).cells) rfl (.whole (hb := .sub f)) rfl) (.v (fun _ f => .move rfl) (.v (fun _ f => .indexAddr rfl rfl (by simp) (by simp)) (.v (fun _ f => .fieldAddr rfl) (.v (fun _ f => .load (v := .int .i64 x.pr) rfl (.old1 (by simpa using hx) (by simp [bl]))) (.pc (v := .bool (reach 1 kd x3 x.pr)) rfl rfl (fun w s => reaches_ok w x0 x1 x2 x3 x4 x5 x6 1 kd lf x.pr) (.nil ⟨rfl, rfl, rfl, rfl⟩))))))) (.nil ?_)))))))
      refine .cond rfl (fun h7 => ?_) (fun h7 => .skip ?_)
      · refine .seq ((.region (.v (.assign rfl) (.nil ?_))))
        exact .ret ⟨[_], ⟨rfl, trivial⟩, fin (by simp at h7; obtain ⟨k1, k2⟩ := h7; subst k1; simp [headReach, k2])⟩
      · refine .seq ((.region (.v (.assign rfl) (.nil ?_))))
        refine .ret ⟨[_], ⟨rfl, trivial⟩, fin ?_⟩
        rw [if_neg]
        rintro ⟨k1, k2⟩
        subst k1
        simp [headReach] at k2
        simp [k2] at h7
  · have hside : s = 2 := hside
    subst hside
    refine .seq ((.region (.v (.move rfl) (.v (.fieldAddr rfl) (.v (.load (v := .int .i64 2) rfl (.one rfl)) (.v (.subi rfl rfl (by omega)) (.pc rfl rfl (fun w s => side_ok w b 1) (.v (.nilCheck rfl) (.v (.load (v := .slice A1 bs.length c1) rfl (hb.cell (i := 2) rfl)) (.v (.assign rfl) (.nil ?_)))))))))))
    cases hl : bs with
    | nil =>
      subst hl
      refine .seq (.seq ((.drawK _ (fun _ h => h) (by kernel_rfl) (by kernel_rfl) ?_)))
      refine .v (fun _ f => .fieldAddr rfl) (.v (fun _ f => .load (v := .int .i64 kd) rfl (.one (hb := .sub f) rfl)) (.v (fun _ f => .eqi rfl rfl) (.v (fun _ f => .move rfl) (.and 81 84 3 3 rfl rfl (fun g5 => .v (fun _ f => .move rfl) (.v (fun _ f => .len rfl) (.v (fun _ f => .gtr rfl rfl) (.nil ⟨rfl, rfl, rfl, rfl⟩)))) (.v (fun _ f => .move rfl) (.and (b2 := false) 86 92 6 6 rfl rfl (fun g6 => absurd g6 (by simp)) (.nil ?_)))))))
      refine .cond rfl (fun h7 => absurd h7 (by simp)) (fun _ => .skip ?_)
      refine .seq ((.region (.v (.assign rfl) (.nil ?_))))
      exact .ret ⟨[_], ⟨rfl, trivial⟩, fin (by simp [headReach])⟩
    | cons x rest =>
      subst hl
      obtain ⟨b', o', rfl, -, hcx⟩ := Rd.ord hr1 (by simp)
      have hx := hcx 0 (by simp) 3 (.int .i64 x.pr) (by omega) rfl
      refine .seq (.seq ((.drawK _ (fun _ h => h) (by kernel_rfl) (by kernel_rfl) ?_)))
      refine .v (fun _ f => .fieldAddr rfl) (.v (fun _ f => .load (v := .int .i64 kd) rfl (.one (hb := .sub f) rfl)) (.v (fun _ f => .eqi rfl rfl) (.v (fun _ f => .move rfl) (.and 81 84 3 3 rfl rfl (fun g5 => .v (fun _ f => .move rfl) (.v (fun _ f => .len rfl) (.v (fun _ f => .gtr rfl rfl) (.nil ⟨rfl, rfl, rfl, rfl⟩)))) (.v (fun _ f => .move rfl) (.and 86 92 6 6 rfl rfl (fun g6 => .v (fun _ f => .loadA (vs := (⟨⟨x0, x1, x2, x3, x4, x5, x6⟩, 2, kd, lf⟩ : Tk).cells) rfl (.whole (hb := .sub f)) rfl) (.v (fun _ f => .move rfl) (.v (fun _ f => .indexAddr rfl rfl (by simp) (by simp)) (.v (fun _ f => .fieldAddr rfl) (.v (fun _ f => .load (v := .int .i64 x.pr) rfl (.old1 (by simpa using hx) (by simp [bl]))) (.pc (v := .bool (reach 2 kd x3 x.pr)) rfl rfl (fun w s => reaches_ok w x0 x1 x2 x3 x4 x5 x6 2 kd lf x.pr) (.nil ⟨rfl, rfl, rfl, rfl⟩))))))) (.nil ?_)))))))
      refine .cond rfl (fun h7 => ?_) (fun h7 => .skip ?_)
      · refine .seq ((.region (.v (.assign rfl) (.nil ?_))))
        exact .ret ⟨[_], ⟨rfl, trivial⟩, fin (by simp at h7; obtain ⟨k1, k2⟩ := h7; subst k1; simp [headReach, k2])⟩
      · refine .seq ((.region (.v (.assign rfl) (.nil ?_))))
        refine .ret ⟨[_], ⟨rfl, trivial⟩, fin ?_⟩
        rw [if_neg]
        rintro ⟨k1, k2⟩
        subst k1
        simp [headReach] at k2
        simp [k2] at h7
end Go.Proofs.Ytinmhhonpflojaa

/- slices.Delete of one, slices.Insert of one, over orders. -/
namespace Go.Proofs.Ytinmhhonpflojaa
open Go.V
set_option linter.unusedVariables false
set_option linter.unusedSimpArgs false

set_option maxRecDepth 10000 in
theorem delete_ok (w : World) (A : Option Addr) (n c i : Nat) (vs : List Value) (h : Hp) (k : OwnS 134 7 (.slice A n c) n vs h) (hi : i < n) (hb : n ≤ 2513169434843) (h1 : ones vs = true) :
    Does Try.prog 60 [.slice A n c, .int .i64 i, .int .i64 (i + 1)] h w (fun v hs => OwnS 134 7 v (n - 1) (vs.take (i * 7) ++ vs.drop ((i + 1) * 7)) hs) := by
  obtain ⟨b, o, l, rfl, -, rfl, hc, hl, hv⟩ := k.some_ (by omega)
  have hvl := k.1
  refine Does.of (n := 33) Try.func60 rfl rfl rfl rfl ?_
  refine .seq ((.region (.v (.assign rfl) (.nil ?_))))
  refine .seq ((.region (.v (.move rfl) (.v (.move rfl) (.v (.move rfl) (.v (.move rfl) (.v (.len rfl) (.v (.sl3 rfl rfl rfl rfl (by omega) (by omega) (by omega) (by omega)) (.nil ?_)))))))))
  refine .seq (.seq ((.region (.v (.move rfl) (.v (.move rfl) (.v (.eqi rfl rfl) (.nil ?_)))))))
  refine .cond_dec rfl (fun h1 => by omega) (fun _ => .skip ?_)
  refine .seq ((.region (.v (.move rfl) (.v (.len rfl) (.v (.assign rfl) (.nil ?_))))))
  refine .seq (.drawK [] (List.nil_subset _) (by kernel_rfl) (by kernel_rfl) ?_)
  refine .v (fun _ f => .move rfl) (.v (fun _ f => .move rfl) (.v (fun _ f => .slHi rfl rfl (by omega) (by omega)) (.v (fun _ f => .move rfl) (.v (fun _ f => .move rfl) (.v (fun _ f => .slLo rfl rfl (by omega) (by omega)) ?_)))))
  have e1 : ((i : Int)).toNat = i := by omega
  have e2 : ((i : Int) + 1).toNat = i + 1 := by omega
  have hnews : (vs.drop ((i + 1) * 7)).length = (n - (i + 1)) * 7 := by rw [List.length_drop, hvl, Nat.sub_mul]
  have hones : ones (vs.drop ((i + 1) * 7)) = true := by
    simp only [ones, List.all_eq_true] at h1 ⊢
    exact fun x hx => h1 x (List.mem_of_mem_drop hx)
  have kc := k.cut (i := i + 1) (by omega) (by omega)
  refine .ef (.appendIn (c := i) (k := n - (i + 1)) (news := vs.drop ((i + 1) * 7)) (b := b) (o := o) (cap := c) (l := l) rfl rfl
    (fun w s => by simp only [e1, e2]; exact (OwnS.rd kc s (fun p hp => hp) (by simp) (no := [])).src hnews (by omega)) hnews hones (by omega) (by omega)) (fun _ _ ⟨_, h2⟩ _ => List.nil_subset _) ?_
  rintro _ _ ⟨rfl, rfl⟩
  refine .v (fun _ f => .assign rfl) (.nil ?_)
  have e3 : i + (n - (i + 1)) = n - 1 := by omega
  rw [e3]
  refine .seq ((.region (.v (.move rfl) (.v (.move rfl) (.v (.len rfl) (.v (.move rfl) (.v (.slLoHi rfl rfl rfl (by omega) (by omega) (by omega)) ?_)))))))
  have e4 : (((n - 1 : Nat) : Int)).toNat = n - 1 := by omega
  have e5 : ((n : Int)).toNat = n := by omega
  simp only [e4, e5]
  rw [cutA_some (by omega)]
  have hlen2 : (V.splice l (o + i * 7) (vs.drop ((i + 1) * 7))).length = l.length := splice_length _ _ _ (by rw [hnews]; omega)
  refine .ef0 (.clearIn (z := [.int .u64 0, .int .u32 0, .int .i64 0, .int .i64 0, .int .u64 0, .int .u64 0, .int .u64 0]) rfl rfl (by rw [hlen2]; omega)) ?_
  rintro _ _ ⟨rfl, rfl⟩
  refine .nil ?_
  refine .seq ((.region (.v (.move rfl) (.v (.assign rfl) (.nil ?_)))))
  refine .ret ⟨[_], ⟨rfl, trivial⟩, ?_, .inr ⟨b, o, c, _, rfl, rfl, by omega, ?_, ?_⟩⟩
  · rw [List.length_append, List.length_take, hnews, hvl]
    rw [Nat.min_eq_left (Nat.mul_le_mul_right _ (by omega)), ← Nat.add_mul]
    congr 1
  · rw [splice_length _ _ _ (by rw [zeros_length, hlen2]; simp; omega), hlen2]; exact hl
  · rw [splice_keep _ _ o _ _ (Nat.le_refl _) (by rw [hlen2]; omega)]
    have := splice_app l (vs.take (i * 7)) (vs.drop ((i + 1) * 7)) o i 7 (n - (i + 1)) c (by rw [List.length_take, hvl]; omega) hnews (by omega) hl (by rw [← hv, List.take_take]; congr 1; omega)
    rw [e3] at this
    exact this

instance : OvT Try.prog 96 122 4 := ⟨_, Try.func96, by kernel_rfl, by kernel_rfl, by kernel_rfl, by kernel_rfl⟩
theorem ones_take {l : List Value} (h : ones l = true) (k : Nat) : ones (l.take k) = true := by
  simp only [ones, List.all_eq_true] at h ⊢
  exact fun x hx => h x (List.mem_of_mem_take hx)
theorem ones_drop {l : List Value} (h : ones l = true) (k : Nat) : ones (l.drop k) = true := by
  simp only [ones, List.all_eq_true] at h ⊢
  exact fun x hx => h x (List.mem_of_mem_drop hx)
set_option maxRecDepth 10000 in
theorem insert_ok (w : World) (A : Option Addr) (n c i vb : Nat) (vs oc : List Value) (h : Hp) (k : OwnS 134 7 (.slice A n c) n vs h) (hi : i ≤ n) (hb : n + 1 ≤ 2513169434843) (h1 : ones vs = true) (h2 : ones oc = true) (ho : oc.length = 7) :
    Does Try.prog 90 [.slice A n c, .int .i64 i, .slice (some ⟨vb, 0, none⟩) 1 1] (h ++ [(vb, .cells oc 134)]) w
      (fun v hs => OwnS 134 7 v (n + 1) (vs.take (i * 7) ++ oc ++ vs.drop (i * 7)) hs) := by
  have hvl := k.1
  refine Does.less (Does.of (n := 95) Try.func90 rfl rfl rfl rfl ?_)
  refine .seq ((.region (.v (.assign rfl) (.nil ?_))))
  refine .seq ((.region (.v (.move rfl) (.v (.move rfl) (.v (.slLo rfl rfl (by omega) (by omega)) (.nil ?_))))))
  refine .seq ((.region (.v (.move rfl) (.v (.len rfl) (.v (.assign rfl) (.nil ?_))))))
  refine .seq (.seq ((.region (.v (.move rfl) (.v (.eqi rfl rfl) (.nil ?_))))))
  refine .cond_dec rfl (fun h1 => by omega) (fun _ => .skip ?_)
  refine .seq ((.region (.v (.move rfl) (.v (.len rfl) (.v (.assign rfl) (.nil ?_))))))
  refine .seq (.seq ((.region (.v (.move rfl) (.v (.move rfl) (.v (.eqi rfl rfl) (.nil ?_)))))))
  refine .cond_dec rfl (fun g1 => ?_) (fun g1 => .skip ?_)
  · have hin : i = n := by omega
    subst hin
    refine .seq ((.region (.v (.move rfl) (.v (.move rfl) ?_))))
    refine .ef (.append (c := i) (k := 1) (vs := vs) (news := oc) (h := h) (fr := [(vb, .cells oc 134)]) rfl rfl k (by exact List.Perm.refl _) (fun w s => Src.cells (by omega) (fun j v hv => by rw [add_none, s.cell (b := vb) (T := 134) (l := oc) (by simp)]; simpa using hv)) (by omega) h2 (by omega) (by omega)) ?_
    rintro v _ ⟨h', k', rfl⟩
    refine .v (.assign rfl) (.nil ?_)
    refine .ret ⟨[_], ⟨rfl, trivial⟩, h', fun _ s => s.sub (List.sublist_append_left _ _), ?_⟩
    rw [List.take_of_length_le (by omega), List.drop_of_length_le (by omega), List.append_nil]
    exact k'
  · obtain ⟨b, o, l, rfl, -, rfl, hc, hl, hv⟩ := k.some_ (by omega)
    have e1 : ((i : Int)).toNat = i := by omega
    have e2 : ((i : Int) + 1).toNat = i + 1 := by omega
    have hD : (vs.drop (i * 7)).length = (n - i) * 7 := by rw [List.length_drop, hvl, Nat.sub_mul]
    have hT : (vs.take (i * 7)).length = i * 7 := by rw [List.length_take, hvl]; omega
    have hTl : (l.drop o).take (i * 7) = vs.take (i * 7) := by rw [← hv, List.take_take]; congr 1; omega
    have hDg : ∀ (j : Nat) (v : Value), (vs.drop (i * 7))[j]? = some v → l[o + i * 7 + j]? = some v := fun j v hj => by
      rw [← hv, List.getElem?_drop, List.getElem?_take] at hj
      split at hj
      · rw [List.getElem?_drop] at hj; rw [← hj]; congr 1; omega
      · cases hj
    refine .seq (.seq ((.region (.v (.move rfl) (.v (.move rfl) (.v (.addi rfl rfl (by omega)) (.v (.move rfl) (.v (.cap_ rfl) (.v (.gtr rfl rfl) (.nil ?_))))))))))
    refine .cond_dec rfl (fun g2 => ?_) (fun g2 => .skip ?_)
    · refine .seq ((.region (.v (.move rfl) (.v (.move rfl) (.v (.slHi rfl rfl (by omega) (by omega)) (.v (.move rfl) (.v (.move rfl) (.v (.addi rfl rfl (by omega)) (.v (.move rfl) (.v (.subi rfl rfl (by omega)) ?_))))))))))
      have e3 : ((n : Int) + (1 : Nat) - (i : Int)) = ((n + 1 - i : Nat) : Int) := by omega
      rw [e3, e1]
      refine .ef (.appendZ (b := b) (o := o) (c := i) (cap := c) (k := n + 1 - i) (l := l) (vs := vs.take (i * 7)) rfl rfl hTl hl (by omega) (by omega) (by omega) (by omega) (by omega)) ?_
      rintro _ _ ⟨nb, cap', r, rfl, rfl, hc', hr'⟩
      refine .v (.assign rfl) (.nil ?_)
      have e4 : i + (n + 1 - i) = n + 1 := by omega
      rw [e4] at hc' ⊢
      simp only [List.length_append, hT, zeros_length] at hr'
      refine .seq ((.region (.v (.move rfl) (.v (.move rfl) (.v (.slLo rfl rfl (by omega) (by omega)) (.v (.move rfl) ?_))))))
      rw [cutA_some (by omega)]
      have e6 : ((i : Int) + ((1 : Nat) : Int)).toNat = i + 1 := by omega
      have e7 : (i + 1) * 7 = i * 7 + 7 := by omega
      have hlen : (List.take (i * 7) vs ++ zeros [.int .u64 0, .int .u32 0, .int .i64 0, .int .i64 0, .int .u64 0, .int .u64 0, .int .u64 0] (n + 1 - i) ++ r).length = cap' * 7 := by
        simp only [List.length_append, hT, zeros_length]; exact hr'
      refine .ef (.copyIn (b := nb) (o := 0 + i * 7) (dl := n + 1 - i) (dc := cap' - i) (sl := 1) (k := 1) (news := oc) rfl rfl (by omega) (fun w s => run_lenOf_sl) (fun w s => s.first (T := 134) (l := oc) (by omega) (fun j v hv => by simpa using hv)) h2 (by rw [hlen]; omega)) ?_
      rintro _ _ ⟨rfl, rfl⟩
      refine .nil ?_
      refine .seq (.drawK [] (List.nil_subset _) (by kernel_rfl) (by kernel_rfl) ?_)
      refine .v (fun _ f => .move rfl) (.v (fun _ f => .move rfl) (.v (fun _ f => .move rfl) (.v (fun _ f => .addi rfl rfl (by omega)) (.v (fun _ f => .slLo rfl rfl (by omega) (by omega)) (.v (fun _ f => .move rfl) (.v (fun _ f => .move rfl) (.v (fun _ f => .slLo rfl rfl (by omega) (by omega)) ?_)))))))
      rw [e6, e1, cutA_some (by omega), cutA_some (by omega)]
      refine .ef (.copyIn (b := nb) (o := 0 + (i + 1) * 7) (dl := n + 1 - (i + 1)) (dc := cap' - (i + 1)) (sl := n - i) (k := n - i) (news := vs.drop (i * 7)) rfl rfl (by omega) (fun w s => run_lenOf_sl) (fun w s => s.first (T := 134) (l := l) hD hDg) (ones_drop h1 _)
        (by rw [splice_length _ _ _ (by rw [hlen]; omega), hlen, hD]; omega)) (fun _ _ _ _ => List.nil_subset _) ?_
      rintro _ _ ⟨rfl, rfl⟩
      refine .nil ?_
      refine .seq ((.region (.v (.move rfl) (.v (.assign rfl) (.nil ?_)))))
      refine .ret ⟨[_], ⟨rfl, trivial⟩, [(nb, _)], fun _ s => s.sub (.cons_cons _ (List.nil_sublist _)), ?_, .inr ⟨nb, 0, cap', _, rfl, rfl, hc', ?_, ?_⟩⟩
      · simp only [List.length_append, hT, ho, hD]; omega
      · rw [splice_length _ _ _ (by rw [splice_length _ _ _ (by rw [hlen]; omega), hlen, hD]; omega), splice_length _ _ _ (by rw [hlen]; omega), hlen]; omega
      · have := ins_two' (List.take (i * 7) vs ++ zeros [.int .u64 0, .int .u32 0, .int .i64 0, .int .i64 0, .int .u64 0, .int .u64 0, .int .u64 0] (n + 1 - i) ++ r) oc (vs.drop (i * 7)) 0 (i * 7) 7 ho (by rw [hlen, hD]; omega)
        rw [hD] at this
        rw [e7, show (n + 1) * 7 = i * 7 + 7 + (n - i) * 7 from by omega, this]
        congr 2
        rw [List.drop_zero, List.append_assoc, List.take_append_of_le_length (by omega), List.take_of_length_le (by omega)]
    · refine .nd fun hnd => ?_
      have hne : vb ≠ b := by
        simp [bl] at hnd
        exact fun e => hnd e.symm
      refine .seq ((.region (.v (.move rfl) (.v (.move rfl) (.v (.move rfl) (.v (.addi rfl rfl (by omega)) (.v (.slHi rfl rfl (by omega) (by omega)) (.v (.assign rfl) (.nil ?_)))))))))
      have e5 : ((n : Int) + ((1 : Nat) : Int)).toNat = n + 1 := by omega
      have e6 : ((i : Int) + ((1 : Nat) : Int)).toNat = i + 1 := by omega
      have e7 : (i + 1) * 7 = i * 7 + 7 := by omega
      rw [e5]
      refine .seq (.seq ((.region (.v (.move rfl) (.v (.move rfl) (.v (.move rfl) (.v (.move rfl) (.v (.addi rfl rfl (by omega)) (.v (.slLo rfl rfl (by omega) (by omega)) ?_)))))))))
      rw [e6, cutA_some (by omega)]
      refine .v (.overlapsNo rfl rfl (b1 := vb) (b2 := b) (l1 := oc) (l2 := l) (T1 := 134) (T2 := 134) hne (by intro e; subst e; simp at hl; omega)) (.v (.not rfl) (.nil ?_))
      refine .cond_true rfl ?_
      refine .seq (.drawK [] (List.nil_subset _) (by kernel_rfl) (by kernel_rfl) ?_)
      refine .v (fun _ f => .move rfl) (.v (fun _ f => .move rfl) (.v (fun _ f => .move rfl) (.v (fun _ f => .addi rfl rfl (by omega)) (.v (fun _ f => .slLo rfl rfl (by omega) (by omega)) (.v (fun _ f => .move rfl) (.v (fun _ f => .move rfl) (.v (fun _ f => .slLo rfl rfl (by omega) (by omega)) ?_)))))))
      rw [e6, e1, cutA_some (by omega), cutA_some (by omega)]
      refine .ef (.copyIn (b := b) (o := o + (i + 1) * 7) (dl := n + 1 - (i + 1)) (dc := c - (i + 1)) (sl := n + 1 - i) (k := n - i) (news := vs.drop (i * 7)) (l := l) rfl rfl (by omega) (fun w s => run_lenOf_sl) (fun w s => s.first (T := 134) (l := l) hD hDg) (ones_drop h1 _)
        (by rw [hD]; omega)) (fun _ _ _ _ => List.nil_subset _) ?_
      rintro _ _ ⟨rfl, rfl⟩
      refine .nil ?_
      have hlen : (V.splice l (o + (i + 1) * 7) (vs.drop (i * 7))).length = l.length := splice_length _ _ _ (by rw [hD]; omega)
      refine .seq ((.region (.v (.move rfl) (.v (.move rfl) (.v (.slLo rfl rfl (by omega) (by omega)) (.v (.move rfl) ?_))))))
      rw [e1, cutA_some (by omega)]
      refine .ef (.copyIn (b := b) (o := o + i * 7) (dl := n + 1 - i) (dc := c - i) (sl := 1) (k := 1) (news := oc) rfl rfl (by omega) (fun w s => run_lenOf_sl) (fun w s => s.first (T := 134) (l := oc) (by omega) (fun j v hv => by simpa using hv)) h2 (by rw [hlen]; omega)) ?_
      rintro _ _ ⟨rfl, rfl⟩
      refine .nil ?_
      refine .seq ((.region (.v (.move rfl) (.v (.assign rfl) (.nil ?_)))))
      refine .ret ⟨[_], ⟨rfl, trivial⟩, [(b, _)], fun _ s => s.sub (.cons_cons _ (List.nil_sublist _)), ?_, .inr ⟨b, o, c, _, rfl, rfl, by omega, ?_, ?_⟩⟩
      · simp only [List.length_append, hT, ho, hD]; omega
      · rw [splice_length _ _ _ (by rw [hlen]; omega), hlen]; exact hl
      · have := ins_two l oc (vs.drop (i * 7)) o (i * 7) 7 ho (by rw [hD]; omega)
        rw [hD] at this
        rw [e7, show (n + 1) * 7 = i * 7 + 7 + (n - i) * 7 from by omega, this, hTl]
end Go.Proofs.Ytinmhhonpflojaa

/- Events; (*teller).tell. -/
namespace Go.Proofs.Ytinmhhonpflojaa
open Go.V
set_option linter.unusedVariables false
set_option linter.unusedSimpArgs false

structure Ev where
  seq : Int
  kind : Int
  id : Int
  other : Int
  target : Int
  mb : Int
  sd : Int
  ty : Int
  pr : Int
  q : Int
  pk : Int
  reason : Int
  code : Int
abbrev ecells (seq kind id other target mb sd ty pr q pk reason code : Int) : List Value := [.int .u64 seq, .int .i64 kind, .int .u64 id, .int .u64 other, .int .u64 target, .int .u32 mb, .int .i64 sd, .int .i64 ty, .int .i64 pr, .int .u64 q, .int .u64 pk, .int .i64 reason, .int .i64 code]
def Ev.cells (e : Ev) : List Value := ecells e.seq e.kind e.id e.other e.target e.mb e.sd e.ty e.pr e.q e.pk e.reason e.code
/-- an event with its number -/
def Ev.num (e : Ev) (s : Int) : Ev := ⟨s, e.kind, e.id, e.other, e.target, e.mb, e.sd, e.ty, e.pr, e.q, e.pk, e.reason, e.code⟩
def erows (l : List Ev) : List Value := l.flatMap Ev.cells
theorem erows_length (l : List Ev) : (erows l).length = l.length * 13 := flatMap_length _ 13 (fun _ => rfl) l
theorem erows_get (l : List Ev) (i j : Nat) (hi : i < l.length) (hj : j < 13) : (erows l)[i * 13 + j]? = (l[i].cells)[j]? := flatMap_get _ 13 (fun _ => rfl) l i j hi hj
theorem erows_app (a b : List Ev) : erows (a ++ b) = erows a ++ erows b := by simp [erows]
theorem erows_ones (l : List Ev) : ones (erows l) = true := by
  induction l with
  | nil => rfl
  | cons e l ih => rw [show e :: l = [e] ++ l from rfl, erows_app, ones, List.all_append, Bool.and_eq_true]; exact ⟨rfl, ih⟩
theorem Rd.ev {w : World} {no : List Nat} {A : Option Addr} {l : List Ev} (h : Rd w no A (erows l)) (hn : 0 < l.length) :
    ∃ b o, A = some ⟨b, o, none⟩ ∧ b ∉ no ∧ ∀ (i : Nat) (hi : i < l.length) (j : Nat) (v : Value), j < 13 → (l[i].cells)[j]? = some v → w.cell? ⟨b, o + i * 13 + j, none⟩ = some v := by
  obtain ⟨b, o, e, hb, hc⟩ := h.base (by rw [erows_length]; omega)
  refine ⟨b, o, e, hb, fun i hi j v hj hv => ?_⟩
  have := hc (i * 13 + j) v (by rw [erows_get l i j hi hj]; exact hv)
  rw [Nat.add_assoc]; exact this
/-- the next number -/
def nx (s : Int) : Int := IntKind.u64.wrap (s + 1)
/-- a list of events that is somebody's own -/
abbrev Evs (v : Value) (l : List Ev) (h : Hp) : Prop := OwnS 88 13 v l.length (erows l) h
abbrev Tt (t b : Nat) (v : Value) : Nat × Ch := (t, .cells [.pointer (some ⟨b, 0, none⟩), v] 129)
abbrev Tb (b : Nat) (l : List Value) : Nat × Ch := (b, .cells l 126)

set_option maxRecDepth 10000 in
theorem tell_ok (w : World) (t b : Nat) (x0 x1 x2 x3 x4 : Value) (seq : Int) (e : Ev) (evs : List Ev) (v : Value) (ke : Hp) (ho : Evs v evs ke) (hn : evs.length + 1 ≤ 1000000000000) :
    Does Try.prog 59 [.pointer (some ⟨t, 0, none⟩), .agg ⟨e.cells⟩] (Tt t b v :: Tb b [x0, x1, x2, x3, x4, .int .u64 seq] :: ke) w
      (fun _ hs => ∃ v' ke', hs = Tt t b v' :: Tb b [x0, x1, x2, x3, x4, .int .u64 (nx seq)] :: ke' ∧ Evs v' (evs ++ [e.num (nx seq)]) ke') := by
  obtain ⟨A, c, rfl⟩ := OwnS.sl ho
  obtain ⟨q0, q1, q2, q3, q4, q5, q6, q7, q8, q9, q10, q11, q12⟩ := e
  refine Does.less (Does.of (n := 35) Try.func59 rfl rfl rfl rfl ?_)
  refine .seq ((.region (.nw (.box (l := [.int .u64 q0, .int .i64 q1, .int .u64 q2, .int .u64 q3, .int .u64 q4, .int .u32 q5, .int .i64 q6, .int .i64 q7, .int .i64 q8, .int .u64 q9, .int .u64 q10, .int .i64 q11, .int .i64 q12]) rfl rfl) fun b3 => (.nil ?_))))
  refine .seq ((.region (.v (.move rfl) (.v (.nilCheck rfl) (.v (.fieldAddr rfl) (.v (.load (v := .pointer (some ⟨b, 0, none⟩)) rfl (.one rfl)) (.v (.nilCheck rfl) (.v (.fieldAddr rfl) (.v (.fieldAddr rfl) (.v (.load (v := .int .u64 seq) rfl (.one rfl)) (.v (.add rfl rfl) (.v (.nilCheck rfl) (.v (.fieldAddr rfl) (.v (.fieldAddr rfl) (.st (.storeL rfl rfl rfl) (.nil ?_))))))))))))))))
  refine .seq ((.region (.v (.move rfl) (.v (.nilCheck rfl) (.v (.fieldAddr rfl) (.v (.load (v := .pointer (some ⟨b, 0, none⟩)) rfl (.one rfl)) (.v (.nilCheck rfl) (.v (.fieldAddr rfl) (.v (.fieldAddr rfl) (.v (.load (v := .int .u64 (nx seq)) rfl (.one rfl)) (.v (.fieldAddr rfl) (.st (.storeL rfl rfl rfl) (.nil ?_)))))))))))))
  refine (.drawQ 10 [0, 1, 2, 3, 4, 5, 6, 7, 8, 9, 10] [(b3, .cells [.int .u64 (nx seq), .int .i64 q1, .int .u64 q2, .int .u64 q3, .int .u64 q4, .int .u32 q5, .int .i64 q6, .int .i64 q7, .int .i64 q8, .int .u64 q9, .int .u64 q10, .int .i64 q11, .int .i64 q12] 88), Tt t b (.slice A evs.length c)] (by intro p hp; simp at hp ⊢; rcases hp with rfl | rfl <;> simp) (by kernel_rfl) (by kernel_rfl) ?_)
  refine .v (fun _ f => .move rfl) (.v (fun _ f => .move rfl) (.v (fun _ f => .nilCheck rfl) (.v (fun _ f => .fieldAddr rfl) (.v (fun _ f => .load (v := .slice A evs.length c) rfl (.one (b := t) (T := 129) (hb := .sub f) rfl)) (.v (fun _ f => .loadA (vs := [.int .u64 (nx seq), .int .i64 q1, .int .u64 q2, .int .u64 q3, .int .u64 q4, .int .u32 q5, .int .i64 q6, .int .i64 q7, .int .i64 q8, .int .u64 q9, .int .u64 q10, .int .i64 q11, .int .i64 q12]) rfl (.whole (hb := .sub f)) rfl) ?_)))))
  refine .ef (.buildSlice (out := [.int .u64 (nx seq), .int .i64 q1, .int .u64 q2, .int .u64 q3, .int .u64 q4, .int .u32 q5, .int .i64 q6, .int .i64 q7, .int .i64 q8, .int .u64 q9, .int .u64 q10, .int .i64 q11, .int .i64 q12]) rfl (by decide) rfl rfl) (fun v hs' ⟨b, _, e⟩ f => by subst e; exact fun p hp => List.mem_cons_of_mem _ (f hp)) ?_
  rintro _ _ ⟨nb, rfl, rfl⟩
  refine .ef (.append (c := evs.length) (k := 1) (vs := erows evs) (news := [.int .u64 (nx seq), .int .i64 q1, .int .u64 q2, .int .u64 q3, .int .u64 q4, .int .u32 q5, .int .i64 q6, .int .i64 q7, .int .i64 q8, .int .u64 q9, .int .u64 q10, .int .i64 q11, .int .i64 q12]) (h := ke) (fr := (nb, .cells [.int .u64 (nx seq), .int .i64 q1, .int .u64 q2, .int .u64 q3, .int .u64 q4, .int .u32 q5, .int .i64 q6, .int .i64 q7, .int .i64 q8, .int .u64 q9, .int .u64 q10, .int .i64 q11, .int .i64 q12] 88) :: (b3, .cells [.int .u64 (nx seq), .int .i64 q1, .int .u64 q2, .int .u64 q3, .int .u64 q4, .int .u32 q5, .int .i64 q6, .int .i64 q7, .int .i64 q8, .int .u64 q9, .int .u64 q10, .int .i64 q11, .int .i64 q12] 88) :: Tt t b (.slice A evs.length c) :: [Tb b [x0, x1, x2, x3, x4, .int .u64 (nx seq)]]) rfl rfl ho (by exact List.perm_append_comm (l₁ := [_, _, _, _]))
    (fun w s => Src.cells rfl (fun j v hv => by rw [add_none, s.cell (b := nb) (T := 88) (l := [.int .u64 (nx seq), .int .i64 q1, .int .u64 q2, .int .u64 q3, .int .u64 q4, .int .u32 q5, .int .i64 q6, .int .i64 q7, .int .i64 q8, .int .u64 q9, .int .u64 q10, .int .i64 q11, .int .i64 q12]) (by simp)]; simpa using hv)) rfl rfl (by omega) (by omega)) (fun v hs' ⟨h', _, e⟩ _ => by subst e; intro p hp; simp at hp ⊢; rcases hp with rfl | rfl <;> simp) ?_
  rintro v' _ ⟨ke', o', rfl⟩
  obtain ⟨A', c', rfl⟩ := OwnS.sl o'
  refine .v (fun _ f => .nilCheck rfl) (.v (fun _ f => .fieldAddr rfl) (.st (.storeL rfl rfl rfl) (.nil ?_)))
  refine ⟨[], trivial, Tt t b (.slice A' (evs.length + 1) c') :: Tb b [x0, x1, x2, x3, x4, .int .u64 (nx seq)] :: ke', fun _ s => ?_, _, ke', rfl, ?_⟩
  · refine (s.perm (List.perm_append_comm (l₁ := ke'))).sub ?_
    exact .cons _ (.cons _ (.refl _))
  · unfold Evs
    rw [erows_app, List.length_append]
    exact o'
end Go.Proofs.Ytinmhhonpflojaa

/- (*feed.Publisher).Publish and the document's. -/
namespace Go.Proofs.Ytinmhhonpflojaa
open Go.V
set_option linter.unusedVariables false
set_option linter.unusedSimpArgs false

def trd (e : Ev) : Dt := ⟨1, 2, e.sd, e.pr, e.q, 0⟩
def trs (l : List Ev) : List Dt := (l.filter fun e => decide (e.kind = 3)).map trd
def trOk (l : List Ev) : Prop := ∀ e ∈ l, e.kind = 3 → (trd e).can
theorem trs_length (l : List Ev) : (trs l).length ≤ l.length := by
  unfold trs; rw [List.length_map]; exact List.length_filter_le _ _
theorem trs_take {l : List Ev} {i : Nat} (h : i < l.length) : trs (l.take (i + 1)) = trs (l.take i) ++ if l[i].kind = 3 then [trd l[i]] else [] := by
  rw [List.take_succ_eq_append_getElem h]
  unfold trs
  rw [List.filter_append, List.map_append]
  by_cases e : l[i].kind = 3 <;> simp [e]
abbrev okPub (bs ss : List Lv) (evs : List Ev) : Prop := Fit 1 bs ∧ Fit 2 ss ∧ trOk evs
def raw (p : Pc) (bs ss : List Lv) (evs : List Ev) : List Dt := trs evs ++ chg 1 p.bs bs ++ chg 2 p.ss ss
def Pc.next (p : Pc) (bs ss : List Lv) (evs : List Ev) : Pc := ⟨(p.seq + (raw p bs ss evs).length) % 18446744073709551616, bs, ss⟩
abbrev ubcells (depth seq : Int) (v1 v2 : Value) : List Value := [.int .i64 depth, .int .u64 seq, v1, v2]
abbrev Ub (b : Nat) (depth : Int) (p : Pc) (v1 v2 : Value) : Nat × Ch := (b, .cells (ubcells depth p.seq v1 v2) 105)
/-- a publisher in memory -/
def PubH (b : Nat) (depth : Int) (p : Pc) (hs : Hp) : Prop := ∃ v1 v2 k1 k2, hs = Ub b depth p v1 v2 :: (k1 ++ k2) ∧ LOwn v1 p.bs k1 ∧ LOwn v2 p.ss k2
/-- what a Publish leaves and tells -/
noncomputable def Pc.pub (p : Pc) (depth : Nat) (bs ss : List Lv) (evs : List Ev) : Option (Pc × List Dt) :=
  open Classical in if okPub bs ss evs then some (p.next (bs.take depth) (ss.take depth) evs, num p.seq (raw p (bs.take depth) (ss.take depth) evs)) else none
theorem Pc.pub_some {p : Pc} {depth : Nat} {bs ss : List Lv} {evs : List Ev} (h : okPub bs ss evs) : p.pub depth bs ss evs = some (p.next (bs.take depth) (ss.take depth) evs, num p.seq (raw p (bs.take depth) (ss.take depth) evs)) := by
  unfold Pc.pub; rw [if_pos h]
theorem Pc.pub_none {p : Pc} {depth : Nat} {bs ss : List Lv} {evs : List Ev} (h : ¬ okPub bs ss evs) : p.pub depth bs ss evs = none := by
  unfold Pc.pub; rw [if_neg h]
structure TrS where
  i : Nat
  v : Value
  h : Hp
structure TrS.I (evs : List Ev) (x : TrS) : Prop where
  le : x.i ≤ evs.length
  o : DOwn x.v (trs (evs.take x.i)) x.h
  ok : trOk (evs.take x.i)
theorem TrS.I.step {evs : List Ev} {x : TrS} (h : TrS.I evs x) (hi : x.i < evs.length) {e : Ev} (he : evs[x.i] = e) (hk : e.kind = 3 → (trd e).can) : trOk (evs.take (x.i + 1)) := by
  rw [List.take_succ_eq_append_getElem hi, he]
  intro y hy hk'
  rcases List.mem_append.1 hy with hy | hy
  · exact h.ok y hy hk'
  · have : y = e := by simpa using hy
    subst this; exact hk hk'
theorem trOk_full {evs : List Ev} {i : Nat} (h : ¬ i < evs.length) (k : trOk (evs.take i)) : trOk evs := by
  rwa [List.take_of_length_le (by omega)] at k
theorem trOk_not {evs : List Ev} {i : Nat} (hi : i < evs.length) {e : Ev} (he : evs[i] = e) (hk : e.kind = 3) (h : ¬ (trd e).can) : ¬ trOk evs := fun k => h (he ▸ k _ (List.getElem_mem hi) (by rw [he]; exact hk))
/-- numbers are being given -/
structure NmS where
  i : Nat
  h : Hp
  v : Value
def numd (s : Int) (l : List Dt) (i : Nat) : List Dt := num s (l.take i) ++ l.drop i
theorem num_app (s : Int) : ∀ a b : List Dt, num s (a ++ b) = num s a ++ num ((s + a.length) % 18446744073709551616) b
  | [], b => by
    cases b with
    | nil => rfl
    | cons x l => simp [num]
  | x :: a, b => by
    have e : ((s + 1) % 18446744073709551616 + (a.length : Int)) % 18446744073709551616 = (s + ((a.length + 1 : Nat) : Int)) % 18446744073709551616 := by omega
    simp only [List.cons_append, num, num_app _ a b, e, List.length_cons]
theorem numd_succ (s : Int) (l : List Dt) (i : Nat) (h : i < l.length) : numd s l (i + 1) = (numd s l i).set i { l[i] with s := (s + i + 1) % 18446744073709551616 } := by
  unfold numd
  have hl : (num s (l.take i)).length = i := by rw [num_length, List.length_take]; omega
  rw [List.take_succ_eq_append_getElem h, num_app, List.drop_eq_getElem_cons h, List.set_append_right _ _ (by omega), hl, Nat.sub_self, List.set_cons_zero, List.append_assoc]
  congr 1
  rw [List.length_take, Nat.min_eq_left (by omega)]
  have e : ((s + (i : Int)) % 18446744073709551616 + 1) % 18446744073709551616 = (s + i + 1) % 18446744073709551616 := by omega
  simp [num, e]
theorem numd_length (s : Int) (l : List Dt) (i : Nat) : (numd s l i).length = l.length := by
  unfold numd; rw [List.length_append, num_length, List.length_take, List.length_drop]; omega
theorem numd_get (s : Int) (l : List Dt) (i : Nat) (h : i < l.length) : (numd s l i)[i]'(by rw [numd_length]; exact h) = l[i] := by
  have hl : (num s (l.take i)).length = i := by rw [num_length, List.length_take]; omega
  unfold numd
  rw [List.getElem_append_right (by omega)]
  simp [hl]
theorem drows_set {l : List Dt} {i : Nat} {q : Int} (h : i < l.length) : drows (l.set i { l[i] with s := q }) = (drows l).set (i * 6) (.int .u64 q) := by
  apply List.ext_getElem?
  intro k
  by_cases hk : k < l.length * 6
  · have e : k = k / 6 * 6 + k % 6 := by omega
    have hq : k / 6 < l.length := by omega
    have hr : k % 6 < 6 := Nat.mod_lt _ (by omega)
    rw [e, drows_get _ _ _ (by simpa using hq) hr, List.getElem?_set, List.getElem_set, drows_get _ _ _ hq hr, drows_length]
    by_cases e1 : i = k / 6
    · subst e1
      rw [if_pos rfl]
      by_cases e2 : k % 6 = 0
      · rw [if_pos (by omega), if_pos (by omega), e2]; rfl
      · rw [if_neg (by omega)]
        have : ∀ r, r < 6 → r ≠ 0 → (Dt.cells { l[k / 6] with s := q })[r]? = (l[k / 6].cells)[r]? := by
          intro r h1 h2
          match r, h1, h2 with
          | 1, _, _ => rfl
          | 2, _, _ => rfl
          | 3, _, _ => rfl
          | 4, _, _ => rfl
          | 5, _, _ => rfl
        exact this _ hr e2
    · rw [if_neg e1, if_neg (by omega)]
  · rw [List.getElem?_eq_none (by rw [drows_length, List.length_set]; omega), List.getElem?_eq_none (by rw [List.length_set, drows_length]; omega)]

theorem numd_zero (s : Int) (l : List Dt) : numd s l 0 = l := by simp [numd, num]
theorem numd_full (s : Int) (l : List Dt) : numd s l l.length = num s l := by simp [numd]
theorem down_set {l : List Dt} {b o c : Nat} {lc : List Value} {i : Nat} {q : Int} (k : DOwn (.slice (some ⟨b, o, none⟩) l.length c) l [(b, .cells lc 24)]) (h : i < l.length) :
    DOwn (.slice (some ⟨b, o, none⟩) l.length c) (l.set i { l[i] with s := q }) [(b, .cells (lc.set (o + i * 6) (.int .u64 q)) 24)] := by
  have := OwnS.setAt (i := i * 6) (v := .int .u64 q) k (by omega)
  unfold DOwn
  rw [drows_set h, List.length_set]; exact this
structure PbS where
  v1 : Value
  v2 : Value
  k1 : Hp
  k2 : Hp
  v : Value
  h : Hp
set_option maxRecDepth 20000 in
set_option maxHeartbeats 1000000 in
theorem publish_ok (w : World) (b depth : Nat) (hd : depth ≤ 64) (p : Pc) (hq : 0 ≤ p.seq ∧ p.seq < 18446744073709551616) (v1 v2 : Value) (k1 k2 : Hp) (h1 : LOwn v1 p.bs k1) (h2 : LOwn v2 p.ss k2) (B1 B2 Be : Option Addr) (c1 c2 ce : Nat) (bs ss : List Lv) (evs : List Ev)
    (r1 : Rd w (bl (Ub b depth p v1 v2 :: (k1 ++ k2))) B1 (lrows bs)) (r2 : Rd w (bl (Ub b depth p v1 v2 :: (k1 ++ k2))) B2 (lrows ss)) (re : Rd w (bl (Ub b depth p v1 v2 :: (k1 ++ k2))) Be (erows evs)) (hc1 : bs.length ≤ c1) (hc2 : ss.length ≤ c2)
    (hb : bs.length + ss.length + evs.length ≤ 4000000) (hp : p.bs.length + p.ss.length ≤ 1000) :
    Does Try.prog 18 [.pointer (some ⟨b, 0, none⟩), .slice B1 bs.length c1, .slice B2 ss.length c2, .slice Be evs.length ce] (Ub b depth p v1 v2 :: (k1 ++ k2)) w
      (fun v hs => match p.pub depth bs ss evs with
        | none => v = .tuple ⟨[.slice none 0 0, .int .i64 1]⟩ ∧ hs = Ub b depth p v1 v2 :: (k1 ++ k2)
        | some (p', ms) => ∃ vm hm hp, v = .tuple ⟨[vm, .int .i64 0]⟩ ∧ DOwn vm ms hm ∧ hs = hp ++ hm ∧ PubH b depth p' hp) := by
  obtain ⟨A1, a1, rfl⟩ := lown_sl h1
  obtain ⟨A2, a2, rfl⟩ := lown_sl h2
  refine Does.less (Does.of (n := 120) Try.func18 rfl rfl rfl rfl ?_)
  refine .seq ((.region (.v (.assign rfl) (.v (.assign rfl) (.nil ?_)))))
  refine .seq (.seq ((.region (.v (.move rfl) (.pc (v := .bool (decide (Fit 1 bs))) rfl rfl (fun w s => fit_ok w 1 B1 bs.length c1 bs (r1.keep0 s) rfl (by omega)) (.v (.not rfl) (.v (.move rfl) (.or (b2 := !decide (Fit 2 ss)) 18 21 3 3 rfl rfl (fun g1 => .v (.move rfl) (.pc (v := .bool (decide (Fit 2 ss))) rfl rfl (fun w s => fit_ok w 2 B2 ss.length c2 ss (r2.keep0 s) rfl (by omega)) (.v (.not rfl) (.nil ⟨rfl, rfl, rfl, rfl⟩)))) (.nil ?_)))))))))
  refine .cond rfl (fun h1 => ?_) (fun h1 => .skip ?_)
  · simp only [Bool.and_eq_true, Bool.or_eq_true, Bool.not_eq_true', Bool.and_eq_false_iff, Bool.or_eq_false_iff, Bool.not_eq_false', decide_eq_true_eq, decide_eq_false_iff_not, Bool.false_eq_true, false_iff] at h1
    have e : p.pub depth bs ss evs = none := Pc.pub_none fun h => by rcases h1 with h1 | h1; exact h1 h.1; exact h1 h.2.1
    rw [e]
    refine .seq ((.region (.v (.assign rfl) (.v (.assign rfl) (.nil ?_)))))
    exact .ret ⟨[_, _], ⟨rfl, rfl, trivial⟩, _, fun _ s => s, rfl, rfl⟩
  · simp only [Bool.and_eq_true, Bool.or_eq_true, Bool.not_eq_true', Bool.and_eq_false_iff, Bool.or_eq_false_iff, Bool.not_eq_false', decide_eq_true_eq, decide_eq_false_iff_not, Bool.false_eq_true, false_iff] at h1
    refine .seq ((.region (.v (.assign rfl) (.nil ?_))))
    refine .seq (.seq ((.region (.v (.move rfl) (.v (.len rfl) (.v (.move rfl) (.nil ?_)))))))
    refine .block (.loop (X := TrS) (fun x => [(0, .pointer (some ⟨b, 0, none⟩)), (1, .slice B1 bs.length c1), (2, .slice B2 ss.length c2), (10, x.v), (23, .slice Be evs.length ce), (24, .int .i64 evs.length), (25, .int .i64 x.i)]) (fun x => x.h ++ (Ub b depth p (.slice A1 p.bs.length a1) (.slice A2 p.ss.length a2) :: (k1 ++ k2))) (TrS.I evs) (fun x => evs.length - x.i) ⟨0, .slice none 0 0, []⟩ ⟨by simp, OwnS.nil _ _, fun e he => by simp at he⟩ (.cons rfl (.cons rfl (.cons rfl (.cons rfl (.cons rfl (.cons rfl (.cons rfl (.nil _)))))))) (fun _ s => s) ?_)
    intro x hI
    have hle := hI.le
    have htl := trs_length (evs.take x.i)
    rw [List.length_take] at htl
    refine .seq ((.region (.v (.lss rfl rfl) (.nil ?_))))
    refine .seq (.cond_dec rfl (fun h2 => .skip ?_) (fun h2 => .exit ?_))
    · have hil : x.i < evs.length := by omega
      obtain ⟨be, oe, rfl, hc⟩ := Rd.recs Ev.cells 13 (fun _ => rfl) re (by omega) (by omega)
      have q := fun hs => recAt Ev.cells 13 (fun _ => rfl) (z := (x.i : Int)) (hc hs) hil
      have hst := trs_take hil
      obtain ⟨e, he⟩ : ∃ e, evs[x.i] = e := ⟨_, rfl⟩
      rw [he] at q hst
      refine .seq (.block (.seq ((.region (.v (.indexAddr rfl rfl (by omega) (by omega)) (.v (.loadA (vs := e.cells) rfl (q _) rfl) (.nw .alloc fun b12 => (.st (.sw rfl rfl) (.nil ?_)))))))))
      refine .seq (.seq ((.region (.v (.fieldAddr rfl) (.v (.load (v := .int .i64 e.kind) rfl (.one rfl)) (.v (.nei rfl rfl) (.nil ?_)))))))
      refine .cond_dec rfl (fun h3 => .exit ?_) (fun h3 => .skip ?_)
      · refine .region (.v (.addi rfl rfl (by omega)) (.v (.move rfl) (.nil ?_)))
        rw [if_neg (by omega), List.append_nil] at hst
        refine ⟨⟨x.i + 1, x.v, x.h⟩, ⟨by show x.i + 1 ≤ _; omega, ?_, hI.step hil he (fun hk => absurd hk (by omega))⟩, by show evs.length - (x.i + 1) < _; omega, .cons rfl (.cons rfl (.cons rfl (.cons rfl (.cons rfl (.cons rfl (.cons rfl (.nil _))))))), fun _ s => s.take⟩
        rw [hst]; exact hI.o
      · have hk : e.kind = 3 := by omega
        refine .seq ((.region (.v (.fieldAddr rfl) (.v (.load (v := .int .i64 e.sd) rfl (.one rfl)) (.v (.fieldAddr rfl) (.v (.load (v := .int .i64 e.pr) rfl (.one rfl)) (.v (.fieldAddr rfl) (.v (.load (v := .int .u64 e.q) rfl (.one rfl)) (.v (.build (out := (trd e).cells) rfl rfl) (.nw .alloc fun b13 => (.st (.sw rfl rfl) (.nil ?_))))))))))))
        refine .seq (.seq ((.region (.v (.loadA (vs := (trd e).cells) rfl .whole rfl) (.pc (v := .bool (decide (trd e).can)) rfl rfl (fun w s => canBe_ok w 1 2 e.sd e.pr e.q 0) (.v (.not rfl) (.nil ?_)))))))
        refine .cond rfl (fun h4 => ?_) (fun h4 => .skip ?_)
        · simp only [Bool.and_eq_true, Bool.or_eq_true, Bool.not_eq_true', Bool.and_eq_false_iff, Bool.or_eq_false_iff, Bool.not_eq_false', decide_eq_true_eq, decide_eq_false_iff_not, Bool.false_eq_true, false_iff] at h4
          have e1 : p.pub depth bs ss evs = none := Pc.pub_none fun h => trOk_not hil he hk h4 h.2.2
          rw [e1]
          refine .seq ((.region (.v (.assign rfl) (.v (.assign rfl) (.nil ?_)))))
          exact .ret ⟨[_, _], ⟨rfl, rfl, trivial⟩, _, fun _ s => s.take, rfl, rfl⟩
        · simp only [Bool.and_eq_true, Bool.or_eq_true, Bool.not_eq_true', Bool.and_eq_false_iff, Bool.or_eq_false_iff, Bool.not_eq_false', decide_eq_true_eq, decide_eq_false_iff_not, Bool.false_eq_true, false_iff] at h4
          refine .region (.v (.move rfl) (.v (.loadA (vs := (trd e).cells) rfl .whole rfl) (.push (vs := drows (trs (evs.take x.i))) (c := (trs (evs.take x.i)).length) (oc := (trd e).cells) rfl rfl hI.o rfl rfl rfl (by omega) (by omega) ?_)))
          intro b9 v' h' k'
          refine .v (.assign rfl) (.nil ?_)
          refine .region (.v (.addi rfl rfl (by omega)) (.v (.move rfl) (.nil ?_)))
          rw [if_pos hk] at hst
          refine ⟨⟨x.i + 1, v', h'⟩, ⟨by show x.i + 1 ≤ _; omega, ?_, hI.step hil he (fun _ => h4)⟩, by show evs.length - (x.i + 1) < _; omega, .cons rfl (.cons rfl (.cons rfl (.cons rfl (.cons rfl (.cons rfl (.cons rfl (.nil _))))))), fun _ s => s.take⟩
          unfold DOwn
          rw [hst, List.length_append, drows_app]; simpa [drows] using k'
    · have hok : okPub bs ss evs := ⟨h1.1, h1.2, trOk_full (by omega) hI.ok⟩
      have hfull : evs.take x.i = evs := List.take_of_length_le (by omega)
      have ho := hI.o
      rw [hfull] at ho
      rw [Pc.pub_some hok]
      obtain ⟨i0, v0, h0⟩ := x
      dsimp only at ho ⊢
      clear hI hfull hle htl
      have htl := trs_length evs
      refine .seq ((.drawP [0, 1, 2, 3, 4, 5, 6, 7, 8, 10, 11, 12, 13, 14, 15, 16, 17, 18, 9, 19, 20, 21] [Ub b depth p (.slice A1 p.bs.length a1) (.slice A2 p.ss.length a2)] (by intro y hy; simp at hy; subst hy; simp) (by kernel_rfl) (by kernel_rfl) ?_))
      refine .v (fun _ f => .move rfl) (.v (fun _ f => .move rfl) (.v (fun _ f => .len rfl) (.v (fun _ f => .move rfl) (.v (fun _ f => .nilCheck rfl) (.v (fun _ f => .fieldAddr rfl) (.v (fun _ f => .load (v := .int .i64 depth) rfl (.one (hb := .sub f) rfl)) (.v (fun _ f => .min2 rfl rfl) (.v (fun _ f => .slHi rfl rfl (by omega) (by omega)) (.v (fun _ f => .move rfl) (.v (fun _ f => .move rfl) (.v (fun _ f => .len rfl) (.v (fun _ f => .move rfl) (.v (fun _ f => .nilCheck rfl) (.v (fun _ f => .fieldAddr rfl) (.v (fun _ f => .load (v := .int .i64 depth) rfl (.one (hb := .sub f) rfl)) (.v (fun _ f => .min2 rfl rfl) (.v (fun _ f => .slHi rfl rfl (by omega) (by omega)) ?_)))))))))))))))))
      refine .cl rfl rfl (fun w s => lclone_ok w B1 _ c1 (bs.take depth) (by rw [lrows_take]; exact (r1.keep0 s).take _) (by rw [List.length_take]; omega) (by omega)) ?_
      intro n1 q1 o1
      refine .cl rfl rfl (fun w s => lclone_ok w B2 _ c2 (ss.take depth) (by rw [lrows_take]; exact (r2.keep0 s).take _) (by rw [List.length_take]; omega) (by omega)) ?_
      intro n2 q2 o2
      obtain ⟨N1, d1, rfl⟩ := lown_sl o1
      obtain ⟨N2, d2, rfl⟩ := lown_sl o2
      refine .v (fun _ f => .assign rfl) (.v (fun _ f => .assign rfl) (.nil ?_))
      have t1 : (bs.take depth).length ≤ 64 := by rw [List.length_take]; omega
      have t2 : (ss.take depth).length ≤ 64 := by rw [List.length_take]; omega
      generalize bs.take depth = nb at o1 t1 ⊢
      generalize ss.take depth = ns at o2 t2 ⊢
      have cl1 := chg_length 1 p.bs nb
      have cl2 := chg_length 2 p.ss ns
      refine .seq ((.region (.v (.move rfl) (.v (.move rfl) (.v (.nilCheck rfl) (.v (.fieldAddr rfl) (.v (.fieldAddr rfl) (.v (.load (v := .slice A1 p.bs.length a1) rfl (.one rfl)) (.v (.move rfl) ?_)))))))))
      refine .ef (.call0 rfl rfl fun w s => changes_ok w 1 A1 N1 a1 d1 p.bs nb (OwnS.rd ‹LOwn (.slice A1 p.bs.length a1) p.bs k1› s (no := []) (fun y hy => by simp [hy]) (by simp)) (OwnS.rd o1 s (no := []) (fun y hy => by simp [hy]) (by simp)) (OwnS.cap_ ‹LOwn (.slice A1 p.bs.length a1) p.bs k1›).2 (OwnS.cap_ o1).2 2000 (by omega) (by omega)) ?_
      rintro vc _ ⟨hc1', oc1, rfl⟩
      refine .appT (vs := drows (trs evs)) (c := (trs evs).length) (k := (chg 1 p.bs nb).length) (news := drows (chg 1 p.bs nb)) rfl rfl ho (fun w s => oc1.src s (fun y hy => by simp [hy]) (by omega)) (drows_length _) (drows_ones _) (by omega) (by omega) ?_
      intro va ha oa
      refine .v (.assign rfl) (.nil ?_)
      refine .seq ((.region (.v (.move rfl) (.v (.move rfl) (.v (.nilCheck rfl) (.v (.fieldAddr rfl) (.v (.fieldAddr rfl) (.v (.load (v := .slice A2 p.ss.length a2) rfl (.one rfl)) (.v (.move rfl) ?_)))))))))
      refine .ef (.call0 rfl rfl fun w s => changes_ok w 2 A2 N2 a2 d2 p.ss ns (OwnS.rd ‹LOwn (.slice A2 p.ss.length a2) p.ss k2› s (no := []) (fun y hy => by simp [hy]) (by simp)) (OwnS.rd o2 s (no := []) (fun y hy => by simp [hy]) (by simp)) (OwnS.cap_ ‹LOwn (.slice A2 p.ss.length a2) p.ss k2›).2 (OwnS.cap_ o2).2 2000 (by omega) (by omega)) ?_
      rintro vc2 _ ⟨hc2', oc2, rfl⟩
      refine .appT (vs := drows (trs evs) ++ drows (chg 1 p.bs nb)) (c := (trs evs).length + (chg 1 p.bs nb).length) (k := (chg 2 p.ss ns).length) (news := drows (chg 2 p.ss ns)) rfl rfl oa (fun w s => oc2.src s (fun y hy => by simp [hy]) (by omega)) (drows_length _) (drows_ones _) (by omega) (by omega) ?_
      intro vb' hb' ob
      refine .v (.assign rfl) (.nil ?_)
      have obr : DOwn vb' (raw p nb ns evs) hb' := by
        unfold DOwn raw
        rw [List.length_append, List.length_append, drows_app, drows_app]; exact ob
      have hrl : (raw p nb ns evs).length ≤ 4010000 := by unfold raw; rw [List.length_append, List.length_append]; omega
      obtain ⟨M, m, rfl⟩ := OwnS.slice obr
      generalize hraw : raw p nb ns evs = rw_ at obr hrl ⊢
      clear ob oa ho oc1 oc2
      refine .keep (hb' ++ (Ub b depth p (.slice A1 p.bs.length a1) (.slice A2 p.ss.length a2) :: (q1 ++ q2))) ?_
      refine .seq (.seq ((.region (.v (.move rfl) (.v (.len rfl) (.v (.move rfl) (.nil ?_)))))))
      refine .block (.loop (X := Nat × Hp) (fun x => [(0, .pointer (some ⟨b, 0, none⟩)), (1, .slice N1 nb.length d1), (2, .slice N2 ns.length d2), (10, .slice M rw_.length m), (86, .int .i64 rw_.length), (87, .int .i64 x.1)]) (fun x => x.2 ++ (Ub b depth ⟨(p.seq + x.1) % 18446744073709551616, p.bs, p.ss⟩ (.slice A1 p.bs.length a1) (.slice A2 p.ss.length a2) :: (q1 ++ q2)))
        (fun x => x.1 ≤ rw_.length ∧ OwnS 24 6 (.slice M rw_.length m) rw_.length (drows (numd p.seq rw_ x.1)) x.2) (fun x => rw_.length - x.1) ⟨0, hb'⟩ ⟨by simp, by rw [numd_zero]; exact obr⟩ (.cons rfl (.cons rfl (.cons rfl (.cons rfl (.cons rfl (.cons rfl (.nil _))))))) (fun _ s => ?_) ?_)
      · have e0 : (p.seq + ((0 : Nat) : Int)) % 18446744073709551616 = p.seq := by omega
        show Sat _ _ (hb' ++ (Ub b depth ⟨(p.seq + ((0 : Nat) : Int)) % 18446744073709551616, p.bs, p.ss⟩ _ _ :: _)) _
        rw [e0]; exact s
      rintro ⟨i, h⟩ ⟨hi, k'⟩
      dsimp only at hi k' ⊢
      refine .seq ((.region (.v (.lss rfl rfl) (.nil ?_))))
      refine .seq (.cond_dec rfl (fun h5 => .skip ?_) (fun h5 => .exit ?_))
      · have hil : i < rw_.length := by omega
        obtain ⟨bm, om, lm, rfl, -, rfl, hcm, hlm, hvm⟩ := k'.some_ (by omega)
        have hw : IntKind.u64.wrap ((p.seq + (i : Int)) % 18446744073709551616 + 1) = (p.seq + ((i + 1 : Nat) : Int)) % 18446744073709551616 := by rw [u64w]; omega
        refine .seq (.block (.seq ((.region (.v (.move rfl) (.v (.assign rfl) (.nil ?_)))))))
        refine .seq ((.region (.v (.move rfl) (.v (.nilCheck rfl) (.v (.fieldAddr rfl) (.v (.fieldAddr rfl) (.v (.load (v := .int .u64 ((p.seq + (i : Int)) % 18446744073709551616)) rfl (.one rfl)) (.v (.add rfl rfl) (.v (.nilCheck rfl) (.v (.fieldAddr rfl) (.v (.fieldAddr rfl) (.st (.storeL rfl rfl rfl) (.nil ?_)))))))))))))
        rw [hw]
        refine .region (.v (.move rfl) (.v (.move rfl) (.v (.move rfl) (.v (.nilCheck rfl) (.v (.fieldAddr rfl) (.v (.fieldAddr rfl) (.v (.load (v := .int .u64 ((p.seq + ((i + 1 : Nat) : Int)) % 18446744073709551616)) rfl (.one rfl)) (.v (.indexAddr rfl rfl (by omega) (by omega)) (.v (.fieldAddr rfl) (.st (.store (b := bm) (l := lm) rfl rfl rfl (by omega)) (.nil ?_)))))))))))
        refine .region (.v (.addi rfl rfl (by omega)) (.v (.move rfl) (.nil ?_)))
        have hn : numd p.seq rw_ (i + 1) = (numd p.seq rw_ i).set i { (numd p.seq rw_ i)[i]'(by rw [numd_length]; exact hil) with s := (p.seq + ((i + 1 : Nat) : Int)) % 18446744073709551616 } := by
          rw [numd_succ _ _ _ hil, numd_get _ _ _ hil]
          have e : (p.seq + (i : Int) + 1) % 18446744073709551616 = (p.seq + ((i + 1 : Nat) : Int)) % 18446744073709551616 := by omega
          rw [e]
        have k2 : DOwn (.slice (some ⟨bm, om, none⟩) (numd p.seq rw_ i).length m) (numd p.seq rw_ i) [(bm, .cells lm 24)] := by
          unfold DOwn; rw [numd_length]; exact k'
        have k3 := down_set (i := i) (q := (p.seq + ((i + 1 : Nat) : Int)) % 18446744073709551616) k2 (by rw [numd_length]; exact hil)
        rw [← hn] at k3
        unfold DOwn at k3
        rw [numd_length, numd_length] at k3
        refine ⟨⟨i + 1, _⟩, ⟨by show i + 1 ≤ _; omega, k3⟩, by show rw_.length - (i + 1) < _; omega, .cons rfl (.cons rfl (.cons rfl (.cons rfl (.cons rfl (.cons rfl (.nil _)))))), fun _ s => ?_⟩
        rw [Int.toNat_natCast] at s
        exact s
      · have ei : i = rw_.length := by omega
        subst ei
        rw [numd_full] at k'
        refine .seq ((.region (.v (.move rfl) (.v (.move rfl) (.v (.move rfl) (.v (.move rfl) (.v (.nilCheck rfl) (.v (.fieldAddr rfl) (.v (.fieldAddr rfl) (.st (.storeL rfl rfl rfl) (.v (.nilCheck rfl) (.v (.fieldAddr rfl) (.v (.fieldAddr rfl) (.st (.storeL rfl rfl rfl) (.nil ?_)))))))))))))))
        refine .seq ((.region (.v (.move rfl) (.v (.assign rfl) (.v (.assign rfl) (.nil ?_))))))
        refine .ret ⟨[_, _], ⟨rfl, rfl, trivial⟩, (Ub b depth (p.next nb ns evs) (.slice N1 nb.length d1) (.slice N2 ns.length d2) :: (q1 ++ q2)) ++ h, fun _ s => ?_, ?_⟩
        · unfold Pc.next; rw [hraw]; exact Sat.take s
        · refine ⟨_, h, _, rfl, ?_, rfl, _, _, q1, q2, rfl, o1, o2⟩
          unfold DOwn; rw [num_length]; exact k'
end Go.Proofs.Ytinmhhonpflojaa

/- The document's Publish. -/
namespace Go.Proofs.Ytinmhhonpflojaa
open Go.V
set_option linter.unusedVariables false
set_option linter.unusedSimpArgs false

set_option maxRecDepth 20000 in
set_option maxHeartbeats 1000000 in
theorem refpublish_ok (w : World) (depth : Nat) (hd : depth ≤ 64) (p : Pc) (hq : 0 ≤ p.seq ∧ p.seq < 18446744073709551616) (f1 : Fit 1 p.bs) (f2 : Fit 2 p.ss) (A1 A2 B1 B2 Be : Option Addr) (a1 a2 c1 c2 ce : Nat) (bs ss : List Lv) (evs : List Ev)
    (h1 : Rd w [] A1 (lrows p.bs)) (h2 : Rd w [] A2 (lrows p.ss)) (r1 : Rd w [] B1 (lrows bs)) (r2 : Rd w [] B2 (lrows ss)) (re : Rd w [] Be (erows evs)) (hc1 : bs.length ≤ c1) (hc2 : ss.length ≤ c2)
    (hb : bs.length + ss.length + evs.length ≤ 4000000) (hp : p.bs.length + p.ss.length ≤ 1000) :
    Does Try.prog 19 [.agg ⟨ubcells depth p.seq (.slice A1 p.bs.length a1) (.slice A2 p.ss.length a2)⟩, .slice B1 bs.length c1, .slice B2 ss.length c2, .slice Be evs.length ce] [] w
      (fun v hs => match p.pub depth bs ss evs with
        | none => v = .tuple ⟨[.agg ⟨ubcells depth p.seq (.slice A1 p.bs.length a1) (.slice A2 p.ss.length a2)⟩, .slice none 0 0, .int .i64 1]⟩ ∧ hs = []
        | some (p', ms) => ∃ v1 v2 vm k1 k2 hm, v = .tuple ⟨[.agg ⟨ubcells depth p'.seq v1 v2⟩, vm, .int .i64 0]⟩ ∧ LOwn v1 p'.bs k1 ∧ LOwn v2 p'.ss k2 ∧ DOwn vm ms hm ∧ hs = k1 ++ (k2 ++ hm)) := by
  refine Does.less (Does.of (n := 107) Try.func19 rfl rfl rfl rfl ?_)
  refine .seq ((.region (.nw (.box (l := ubcells depth p.seq (.slice A1 p.bs.length a1) (.slice A2 p.ss.length a2)) rfl rfl) fun b4 => (.nw .alloc fun b8 => (.v (.assign rfl) (.v (.assign rfl) (.nil ?_)))))))
  refine .seq (.seq ((.region (.v (.move rfl) (.pc (v := .bool (decide (Fit 1 bs))) rfl rfl (fun w s => levels_ok w 1 B1 bs.length c1 bs (r1.keep0 s) rfl (by omega)) (.v (.not rfl) (.v (.move rfl) (.or (b2 := !decide (Fit 2 ss)) 21 24 3 3 rfl rfl (fun g1 => .v (.move rfl) (.pc (v := .bool (decide (Fit 2 ss))) rfl rfl (fun w s => levels_ok w 2 B2 ss.length c2 ss (r2.keep0 s) rfl (by omega)) (.v (.not rfl) (.nil ⟨rfl, rfl, rfl, rfl⟩)))) (.nil ?_)))))))))
  refine .cond rfl (fun h1 => ?_) (fun h1 => .skip ?_)
  · simp only [Bool.and_eq_true, Bool.or_eq_true, Bool.not_eq_true', Bool.and_eq_false_iff, Bool.or_eq_false_iff, Bool.not_eq_false', decide_eq_true_eq, decide_eq_false_iff_not, Bool.false_eq_true, false_iff] at h1
    have e : p.pub depth bs ss evs = none := Pc.pub_none fun h => by rcases h1 with h1 | h1; exact h1 h.1; exact h1 h.2.1
    rw [e]
    refine .seq ((.region (.v (.loadA (vs := ubcells depth p.seq (.slice A1 p.bs.length a1) (.slice A2 p.ss.length a2)) rfl .whole rfl) (.st (.sw rfl rfl) (.v (.assign rfl) (.v (.assign rfl) (.nil ?_)))))))
    exact .ret ⟨[_, _, _], ⟨⟨_, rfl, .inr ⟨4, _, inferInstance, rfl, rfl, .whole⟩⟩, rfl, rfl, trivial⟩, [], fun _ s => s.take, rfl, rfl⟩
  · simp only [Bool.and_eq_true, Bool.or_eq_true, Bool.not_eq_true', Bool.and_eq_false_iff, Bool.or_eq_false_iff, Bool.not_eq_false', decide_eq_true_eq, decide_eq_false_iff_not, Bool.false_eq_true, false_iff] at h1
    refine .seq ((.region (.v (.assign rfl) (.nil ?_))))
    refine .seq (.seq ((.region (.v (.assign rfl) (.nil ?_)))))
    refine .block (.loop (X := TrS) (fun x => [(1, .slice B1 bs.length c1), (2, .slice B2 ss.length c2), (3, .slice Be evs.length ce), (4, .pointer (some ⟨b4, 0, none⟩)), (8, .pointer (some ⟨b8, 0, none⟩)), (11, x.v), (12, .int .i64 x.i)]) (fun x => x.h ++ [(b4, .cells (ubcells depth p.seq (.slice A1 p.bs.length a1) (.slice A2 p.ss.length a2)) 42), (b8, .cells (ubcells 0 0 (.slice none 0 0) (.slice none 0 0)) 42)]) (TrS.I evs) (fun x => evs.length - x.i) ⟨0, .slice none 0 0, []⟩ ⟨by simp, OwnS.nil _ _, fun e he => by simp at he⟩ (.cons rfl (.cons rfl (.cons rfl (.cons rfl (.cons rfl (.cons rfl (.cons rfl (.nil _)))))))) (fun _ s => s.take) ?_)
    intro x hI
    have hle := hI.le
    have htl := trs_length (evs.take x.i)
    rw [List.length_take] at htl
    refine .seq (.seq ((.region (.v (.move rfl) (.v (.move rfl) (.v (.len rfl) (.v (.lss rfl rfl) (.nil ?_))))))))
    refine .cond_dec rfl (fun h2 => .skip ?_) (fun h2 => .exit ?_)
    · have hil : x.i < evs.length := by omega
      obtain ⟨be, oe, rfl, hc⟩ := Rd.recs Ev.cells 13 (fun _ => rfl) re (by omega) (by omega)
      have q := fun hs => recAt Ev.cells 13 (fun _ => rfl) (z := (x.i : Int)) (hc hs) hil
      have hst := trs_take hil
      obtain ⟨e, he⟩ : ∃ e, evs[x.i] = e := ⟨_, rfl⟩
      rw [he] at q hst
      refine .seq (.block (.seq ((.region (.v (.move rfl) (.v (.move rfl) (.v (.indexAddr rfl rfl (by omega) (by omega)) (.v (.loadA (vs := e.cells) rfl (q _) rfl) (.nw .alloc fun b13 => (.st (.sw rfl rfl) (.nil ?_)))))))))))
      refine .seq (.seq ((.region (.v (.fieldAddr rfl) (.v (.load (v := .int .i64 e.kind) rfl (.one rfl)) (.v (.nei rfl rfl) (.nil ?_)))))))
      refine .cond_dec rfl (fun h3 => .exit ?_) (fun h3 => .skip ?_)
      · refine .region (.v (.move rfl) (.v (.addi rfl rfl (by omega)) (.v (.assign rfl) (.nil ?_))))
        rw [if_neg (by omega), List.append_nil] at hst
        refine ⟨⟨x.i + 1, x.v, x.h⟩, ⟨by show x.i + 1 ≤ _; omega, ?_, hI.step hil he (fun hk => absurd hk (by omega))⟩, by show evs.length - (x.i + 1) < _; omega, .cons rfl (.cons rfl (.cons rfl (.cons rfl (.cons rfl (.cons rfl (.cons rfl (.nil _))))))), fun _ s => s.take⟩
        rw [hst]; exact hI.o
      · have hk : e.kind = 3 := by omega
        refine .seq ((.region (.v (.fieldAddr rfl) (.v (.load (v := .int .i64 e.sd) rfl (.one rfl)) (.v (.fieldAddr rfl) (.v (.load (v := .int .i64 e.pr) rfl (.one rfl)) (.v (.fieldAddr rfl) (.v (.load (v := .int .u64 e.q) rfl (.one rfl)) (.v (.build (out := (trd e).cells) rfl rfl) (.nw .alloc fun b14 => (.st (.sw rfl rfl) (.nil ?_))))))))))))
        refine .seq (.seq ((.region (.v (.loadA (vs := (trd e).cells) rfl .whole rfl) (.pc (v := .bool (decide (trd e).can)) rfl rfl (fun w s => Message_ok w 1 2 e.sd e.pr e.q 0) (.v (.not rfl) (.nil ?_)))))))
        refine .cond rfl (fun h4 => ?_) (fun h4 => .skip ?_)
        · simp only [Bool.and_eq_true, Bool.or_eq_true, Bool.not_eq_true', Bool.and_eq_false_iff, Bool.or_eq_false_iff, Bool.not_eq_false', decide_eq_true_eq, decide_eq_false_iff_not, Bool.false_eq_true, false_iff] at h4
          have e1 : p.pub depth bs ss evs = none := Pc.pub_none fun h => trOk_not hil he hk h4 h.2.2
          rw [e1]
          refine .seq ((.region (.v (.loadA (vs := ubcells depth p.seq (.slice A1 p.bs.length a1) (.slice A2 p.ss.length a2)) rfl .whole rfl) (.st (.sw rfl rfl) (.v (.assign rfl) (.v (.assign rfl) (.nil ?_)))))))
          exact .ret ⟨[_, _, _], ⟨⟨_, rfl, .inr ⟨4, _, inferInstance, rfl, rfl, .whole⟩⟩, rfl, rfl, trivial⟩, [], fun _ s => s.take, rfl, rfl⟩
        · simp only [Bool.and_eq_true, Bool.or_eq_true, Bool.not_eq_true', Bool.and_eq_false_iff, Bool.or_eq_false_iff, Bool.not_eq_false', decide_eq_true_eq, decide_eq_false_iff_not, Bool.false_eq_true, false_iff] at h4
          refine .region (.v (.move rfl) (.v (.loadA (vs := (trd e).cells) rfl .whole rfl) (.push (vs := drows (trs (evs.take x.i))) (c := (trs (evs.take x.i)).length) (oc := (trd e).cells) rfl rfl hI.o rfl rfl rfl (by omega) (by omega) ?_)))
          intro b9 v' h' k'
          refine .v (.assign rfl) (.nil ?_)
          refine .region (.v (.move rfl) (.v (.addi rfl rfl (by omega)) (.v (.assign rfl) (.nil ?_))))
          rw [if_pos hk] at hst
          refine ⟨⟨x.i + 1, v', h'⟩, ⟨by show x.i + 1 ≤ _; omega, ?_, hI.step hil he (fun _ => h4)⟩, by show evs.length - (x.i + 1) < _; omega, .cons rfl (.cons rfl (.cons rfl (.cons rfl (.cons rfl (.cons rfl (.cons rfl (.nil _))))))), fun _ s => s.take⟩
          unfold DOwn
          rw [hst, List.length_append, drows_app]; simpa [drows] using k'
    · have hok : okPub bs ss evs := ⟨h1.1, h1.2, trOk_full (by omega) hI.ok⟩
      have hfull : evs.take x.i = evs := List.take_of_length_le (by omega)
      have ho := hI.o
      rw [hfull] at ho
      rw [Pc.pub_some hok]
      obtain ⟨i0, v0, h0⟩ := x
      dsimp only at ho ⊢
      clear hI hfull hle htl
      have htl := trs_length evs
      refine .seq ((.drawP [0, 1, 2, 4, 5, 6, 3, 7, 8, 9] [(b4, .cells (ubcells depth p.seq (.slice A1 p.bs.length a1) (.slice A2 p.ss.length a2)) 42)] (by intro y hy; simp at hy; subst hy; simp) (by kernel_rfl) (by kernel_rfl) ?_))
      refine .v (fun _ f => .move rfl) (.v (fun _ f => .fieldAddr rfl) (.v (fun _ f => .load (v := .int .i64 depth) rfl (.one (hb := .sub f) rfl)) (.v (fun _ f => .move rfl) (.v (fun _ f => .fieldAddr rfl) (.v (fun _ f => .load (v := .int .i64 depth) rfl (.one (hb := .sub f) rfl)) ?_)))))
      refine .cl rfl rfl (fun w s => first_ok w B1 bs.length c1 depth bs (r1.keep0 s) rfl hc1 (by omega) (by omega)) ?_
      intro n1 q1 o1
      refine .cl rfl rfl (fun w s => first_ok w B2 ss.length c2 depth ss (r2.keep0 s) rfl hc2 (by omega) (by omega)) ?_
      intro n2 q2 o2
      obtain ⟨N1, d1, rfl⟩ := lown_sl o1
      obtain ⟨N2, d2, rfl⟩ := lown_sl o2
      refine .v (fun _ f => .assign rfl) (.v (fun _ f => .assign rfl) (.nil ?_))
      have t1 : (bs.take depth).length ≤ 64 := by rw [List.length_take]; omega
      have t2 : (ss.take depth).length ≤ 64 := by rw [List.length_take]; omega
      have g1 := hok.1.take depth
      have g2 := hok.2.1.take depth
      generalize bs.take depth = nb at o1 t1 g1 ⊢
      generalize ss.take depth = ns at o2 t2 g2 ⊢
      have cl1 := chg_length 1 p.bs nb
      have cl2 := chg_length 2 p.ss ns
      refine .seq ((.region (.v (.move rfl) (.v (.fieldAddr rfl) (.v (.fieldAddr rfl) (.v (.load (v := .slice A1 p.bs.length a1) rfl (.one rfl)) (.v (.move rfl) ?_)))))))
      refine .ef (.call0 rfl rfl fun w s => refchanges_ok w 1 A1 N1 a1 d1 p.bs nb (Rd.keep0 (by assumption) s) (OwnS.rd o1 s (no := []) (fun y hy => by simp [hy]) (by simp)) f1 g1 (by omega)) ?_
      rintro vc _ ⟨hc1', oc1, rfl⟩
      refine .appT (vs := drows (trs evs)) (c := (trs evs).length) (k := (chg 1 p.bs nb).length) (news := drows (chg 1 p.bs nb)) rfl rfl ho (fun w s => oc1.src s (fun y hy => by simp [hy]) (by omega)) (drows_length _) (drows_ones _) (by omega) (by omega) ?_
      intro va ha oa
      refine .v (.assign rfl) (.nil ?_)
      refine .seq ((.region (.v (.move rfl) (.v (.fieldAddr rfl) (.v (.fieldAddr rfl) (.v (.load (v := .slice A2 p.ss.length a2) rfl (.one rfl)) (.v (.move rfl) ?_)))))))
      refine .ef (.call0 rfl rfl fun w s => refchanges_ok w 2 A2 N2 a2 d2 p.ss ns (Rd.keep0 (by assumption) s) (OwnS.rd o2 s (no := []) (fun y hy => by simp [hy]) (by simp)) f2 g2 (by omega)) ?_
      rintro vc2 _ ⟨hc2', oc2, rfl⟩
      refine .appT (vs := drows (trs evs) ++ drows (chg 1 p.bs nb)) (c := (trs evs).length + (chg 1 p.bs nb).length) (k := (chg 2 p.ss ns).length) (news := drows (chg 2 p.ss ns)) rfl rfl oa (fun w s => oc2.src s (fun y hy => by simp [hy]) (by omega)) (drows_length _) (drows_ones _) (by omega) (by omega) ?_
      intro vb' hb' ob
      refine .v (.assign rfl) (.nil ?_)
      have obr : DOwn vb' (raw p nb ns evs) hb' := by
        unfold DOwn raw
        rw [List.length_append, List.length_append, drows_app, drows_app]; exact ob
      have hrl : (raw p nb ns evs).length ≤ 4010000 := by unfold raw; rw [List.length_append, List.length_append]; omega
      obtain ⟨M, m, rfl⟩ := OwnS.slice obr
      generalize hraw : raw p nb ns evs = rw_ at obr hrl ⊢
      clear ob oa ho oc1 oc2
      refine .keep (hb' ++ ((b4, .cells (ubcells depth p.seq (.slice A1 p.bs.length a1) (.slice A2 p.ss.length a2)) 42) :: (b8, .cells (ubcells 0 0 (.slice none 0 0) (.slice none 0 0)) 42) :: (q1 ++ q2))) ?_
      refine .seq (.seq ((.region (.v (.assign rfl) (.nil ?_)))))
      refine .block (.loop (X := Nat × Hp) (fun x => [(4, .pointer (some ⟨b4, 0, none⟩)), (8, .pointer (some ⟨b8, 0, none⟩)), (11, .slice M rw_.length m), (15, .slice N1 nb.length d1), (16, .slice N2 ns.length d2), (17, .int .i64 x.1)]) (fun x => x.2 ++ ((b4, .cells (ubcells depth p.seq (.slice A1 p.bs.length a1) (.slice A2 p.ss.length a2)) 42) :: (b8, .cells (ubcells 0 0 (.slice none 0 0) (.slice none 0 0)) 42) :: (q1 ++ q2)))
        (fun x => x.1 ≤ rw_.length ∧ OwnS 24 6 (.slice M rw_.length m) rw_.length (drows (numd p.seq rw_ x.1)) x.2) (fun x => rw_.length - x.1) ⟨0, hb'⟩ ⟨by simp, by rw [numd_zero]; exact obr⟩ (.cons rfl (.cons rfl (.cons rfl (.cons rfl (.cons rfl (.cons rfl (.nil _))))))) (fun _ s => s) ?_)
      rintro ⟨i, h⟩ ⟨hi, k'⟩
      dsimp only at hi k' ⊢
      refine .seq (.seq ((.region (.v (.move rfl) (.v (.move rfl) (.v (.len rfl) (.v (.lss rfl rfl) (.nil ?_))))))))
      refine .cond_dec rfl (fun h5 => .skip ?_) (fun h5 => .exit ?_)
      · have hil : i < rw_.length := by omega
        obtain ⟨bm, om, lm, rfl, -, rfl, hcm, hlm, hvm⟩ := k'.some_ (by omega)
        have hw : IntKind.u64.wrap (IntKind.u64.wrap (p.seq + IntKind.u64.wrap (i : Int)) + 1) = (p.seq + ((i + 1 : Nat) : Int)) % 18446744073709551616 := by simp only [u64w]; omega
        refine .seq (.block ((.region (.v (.move rfl) (.v (.move rfl) (.v (.fieldAddr rfl) (.v (.fieldAddr rfl) (.v (.load (v := .int .u64 p.seq) rfl (.one rfl)) (.v (.move rfl) (.v (.conv rfl) (.v (.add rfl rfl) (.v (.add rfl rfl) (.v (.indexAddr rfl rfl (by omega) (by omega)) (.v (.fieldAddr rfl) (.st (.store (b := bm) (l := lm) rfl rfl rfl (by omega)) (.nil ?_))))))))))))))))
        rw [hw]
        refine .region (.v (.move rfl) (.v (.addi rfl rfl (by omega)) (.v (.assign rfl) (.nil ?_))))
        have hn : numd p.seq rw_ (i + 1) = (numd p.seq rw_ i).set i { (numd p.seq rw_ i)[i]'(by rw [numd_length]; exact hil) with s := (p.seq + ((i + 1 : Nat) : Int)) % 18446744073709551616 } := by
          rw [numd_succ _ _ _ hil, numd_get _ _ _ hil]
          have e : (p.seq + (i : Int) + 1) % 18446744073709551616 = (p.seq + ((i + 1 : Nat) : Int)) % 18446744073709551616 := by omega
          rw [e]
        have k2 : DOwn (.slice (some ⟨bm, om, none⟩) (numd p.seq rw_ i).length m) (numd p.seq rw_ i) [(bm, .cells lm 24)] := by
          unfold DOwn; rw [numd_length]; exact k'
        have k3 := down_set (i := i) (q := (p.seq + ((i + 1 : Nat) : Int)) % 18446744073709551616) k2 (by rw [numd_length]; exact hil)
        rw [← hn] at k3
        unfold DOwn at k3
        rw [numd_length, numd_length] at k3
        refine ⟨⟨i + 1, _⟩, ⟨by show i + 1 ≤ _; omega, k3⟩, by show rw_.length - (i + 1) < _; omega, .cons rfl (.cons rfl (.cons rfl (.cons rfl (.cons rfl (.cons rfl (.nil _)))))), fun _ s => ?_⟩
        rw [Int.toNat_natCast] at s
        exact s
      · have ei : i = rw_.length := by omega
        subst ei
        rw [numd_full] at k'
        have hw : IntKind.u64.wrap (p.seq + IntKind.u64.wrap (rw_.length : Int)) = (p.seq + (rw_.length : Int)) % 18446744073709551616 := by simp only [u64w]; omega
        refine .seq ((.region (.v (.fieldAddr rfl) (.v (.fieldAddr rfl) (.v (.load (v := .int .u64 p.seq) rfl (.one rfl)) (.v (.move rfl) (.v (.len rfl) (.v (.conv rfl) (.v (.add rfl rfl) (.v (.move rfl) (.v (.move rfl) (.v (.build (out := pcells (IntKind.u64.wrap (p.seq + IntKind.u64.wrap (rw_.length : Int))) (.slice N1 nb.length d1) (.slice N2 ns.length d2)) rfl rfl) (.v (.fieldAddr rfl) (.st (.storeA rfl rfl rfl rfl (by simp)) (.nil ?_)))))))))))))))
        rw [hw]
        refine .seq ((.region (.v (.loadA (vs := ubcells depth (p.next nb ns evs).seq (.slice N1 nb.length d1) (.slice N2 ns.length d2)) rfl (by unfold Pc.next; rw [hraw]; exact .whole) rfl) (.v (.move rfl) (.st (.sw rfl rfl) (.v (.assign rfl) (.v (.assign rfl) (.nil ?_))))))))
        refine .ret ⟨[_, _, _], ⟨⟨_, rfl, .inr ⟨4, _, inferInstance, rfl, rfl, .whole⟩⟩, rfl, rfl, trivial⟩, q1 ++ (q2 ++ h), fun _ s => Sat.take (pre := q1 ++ (q2 ++ h)) s, ?_⟩
        refine ⟨_, _, _, q1, q2, h, rfl, o1, o2, ?_, rfl⟩
        unfold DOwn; rw [num_length]; exact k'
end Go.Proofs.Ytinmhhonpflojaa

/- The law FeedPublishes: copies, what is written over, the makers. -/
namespace Go.Proofs.Ytinmhhonpflojaa
open Go.V
set_option linter.unusedVariables false
set_option linter.unusedSimpArgs false

set_option maxRecDepth 10000 in
theorem lcopied_ok (w : World) (A1 A2 : Option Addr) (c1 c2 : Nat) (p : Pc) (h1 : Rd w [] A1 (lrows p.bs)) (h2 : Rd w [] A2 (lrows p.ss)) (hb : p.bs.length + p.ss.length ≤ 10000000) :
    Does Try.prog 17 [.agg ⟨pcells p.seq (.slice A1 p.bs.length c1) (.slice A2 p.ss.length c2)⟩] [] w (NewPic p) := by
  refine Does.less (Does.of (n := 14) Try.func17 rfl rfl rfl rfl ?_)
  refine .seq ((.region (.nw (.box (l := pcells p.seq (.slice A1 p.bs.length c1) (.slice A2 p.ss.length c2)) rfl rfl) fun b1 => (.nw .alloc fun b2 => (.nil ?_)))))
  refine .seq ((.region (.ef (.buildSlice (out := []) rfl (by decide) rfl rfl) ?_)))
  rintro _ _ ⟨b3, rfl, rfl⟩
  refine .v (.fieldAddr rfl) (.v (.load (v := .slice A1 p.bs.length c1) rfl (.one rfl)) ?_)
  refine .appT (h := [(b3, .cells [] 109)]) (vs := []) (c := 0) (k := p.bs.length) (news := lrows p.bs) rfl rfl ⟨rfl, .inr ⟨b3, 0, 0, [], rfl, rfl, by omega, by simp, by simp⟩⟩ (fun w s => (h1.keep0 s).src (lrows_length _) (by omega)) (lrows_length _) (lrows_ones _) (by omega) (by omega) ?_
  intro v1 k1 o1
  rw [Nat.zero_add] at o1
  obtain ⟨B1, d1, rfl⟩ := lown_sl o1
  refine .v (.fieldAddr rfl) (.st (.storeL rfl rfl rfl) (.nil ?_))
  refine .seq ((.region (.ef (.buildSlice (out := []) rfl (by decide) rfl rfl) ?_)))
  rintro _ _ ⟨b8, rfl, rfl⟩
  refine .v (.fieldAddr rfl) (.v (.load (v := .slice A2 p.ss.length c2) rfl (.one rfl)) ?_)
  refine .appT (h := [(b8, .cells [] 109)]) (vs := []) (c := 0) (k := p.ss.length) (news := lrows p.ss) rfl rfl ⟨rfl, .inr ⟨b8, 0, 0, [], rfl, rfl, by omega, by simp, by simp⟩⟩ (fun w s => (h2.keep0 s).src (lrows_length _) (by omega)) (lrows_length _) (lrows_ones _) (by omega) (by omega) ?_
  intro v2 k2 o2
  rw [Nat.zero_add] at o2
  obtain ⟨B2, d2, rfl⟩ := lown_sl o2
  refine .v (.fieldAddr rfl) (.st (.storeL rfl rfl rfl) (.nil ?_))
  refine .seq ((.region (.v (.loadA (vs := pcells p.seq (.slice B1 p.bs.length d1) (.slice B2 p.ss.length d2)) rfl .whole rfl) (.st (.sw rfl rfl) (.nil ?_)))))
  exact .ret ⟨[_], ⟨⟨_, rfl, .inr ⟨3, _, inferInstance, rfl, rfl, .whole⟩⟩, trivial⟩, k2 ++ k1, fun _ s => Sat.take (pre := k2 ++ k1) s, B1, B2, d1, d2, k1, k2, rfl, rfl, o1, o2⟩
set_option maxRecDepth 10000 in
theorem Picture_ok (w : World) (b : Nat) (depth : Int) (p : Pc) (A1 A2 : Option Addr) (c1 c2 : Nat) (hb : Rd w [] (some ⟨b, 0, none⟩) (ubcells depth p.seq (.slice A1 p.bs.length c1) (.slice A2 p.ss.length c2))) (h1 : Rd w [] A1 (lrows p.bs)) (h2 : Rd w [] A2 (lrows p.ss)) (hl : p.bs.length + p.ss.length ≤ 10000000) :
    Does Try.prog 23 [.pointer (some ⟨b, 0, none⟩)] [] w (NewPic p) := by
  refine Does.less (Does.of (n := 8) Try.func23 rfl rfl rfl rfl ?_)
  refine .seq ((.region (.nw .alloc fun b2 => (.nil ?_))))
  refine .seq ((.region (.v (.move rfl) (.v (.nilCheck rfl) (.v (.fieldAddr rfl) (.v (.loadA (vs := pcells p.seq (.slice A1 p.bs.length c1) (.slice A2 p.ss.length c2)) rfl (Rd.part (i := 1) hb (fun j v hv => by rw [Nat.add_comm]; exact hv)) rfl) ?_))))))
  refine .ef (.call0 rfl rfl fun w s => pcopied_ok w A1 A2 c1 c2 p (h1.keep0 s) (h2.keep0 s) hl) ?_
  rintro _ _ ⟨_, ⟨B1, B2, d1, d2, k1, k2, rfl, rfl, o1, o2⟩, rfl⟩
  refine .st (.sw rfl rfl) (.nil ?_)
  exact .ret ⟨[_], ⟨⟨_, rfl, .inr ⟨3, _, inferInstance, rfl, rfl, .whole⟩⟩, trivial⟩, k2 ++ k1, fun _ s => Sat.take (pre := k2 ++ k1) s, B1, B2, d1, d2, k1, k2, rfl, rfl, o1, o2⟩
abbrev AnyL (v : Value) (n : Nat) (h : Hp) : Prop := AnyS 109 3 v n h
theorem LOwn.any {v : Value} {l : List Lv} {h : Hp} (k : LOwn v l h) : AnyL v l.length h := ⟨_, k⟩
set_option maxRecDepth 10000 in
theorem wipe_ok (w : World) (seq : Int) (v1 v2 : Value) (n1 n2 : Nat) (k1 k2 : Hp) (h1 : AnyL v1 n1 k1) (h2 : AnyL v2 n2 k2) (hb : n1 + n2 ≤ 10000000) :
    Does Try.prog 22 [.agg ⟨pcells seq v1 v2⟩] (k1 ++ k2) w (fun _ hs => hs = []) := by
  obtain ⟨A1, c1, rfl⟩ := h1.sl
  obtain ⟨A2, c2, rfl⟩ := h2.sl
  refine Does.less (Does.of (n := 38) Try.func22 rfl rfl rfl rfl ?_)
  refine .seq ((.region (.nw (.box (l := pcells seq (.slice A1 n1 c1) (.slice A2 n2 c2)) rfl rfl) fun b1 => (.nil ?_))))
  refine .seq (.seq ((.region (.v (.assign rfl) (.nil ?_)))))
  refine .block (.loop (X := Nat × Hp) (fun x => [(1, .pointer (some ⟨b1, 0, none⟩)), (2, .int .i64 x.1)]) (fun x => (b1, .cells (pcells seq (.slice A1 n1 c1) (.slice A2 n2 c2)) 40) :: (x.2 ++ k2)) (fun x => x.1 ≤ n1 ∧ AnyL (.slice A1 n1 c1) n1 x.2) (fun x => n1 - x.1) ⟨0, k1⟩ ⟨by simp, h1⟩ (.cons rfl (.cons rfl (.nil _))) (fun _ s => s) ?_)
  rintro ⟨i, h⟩ ⟨hi, hh⟩
  dsimp only at hi hh ⊢
  refine .seq (.seq ((.region (.v (.move rfl) (.v (.fieldAddr rfl) (.v (.load (v := .slice A1 n1 c1) rfl (.one rfl)) (.v (.len rfl) (.v (.lss rfl rfl) (.nil ?_)))))))))
  refine .cond_dec rfl (fun g1 => .skip ?_) (fun g1 => .exit ?_)
  · obtain ⟨b, o, l, rfl, rfl, hl, hput⟩ := hh.put (i := i) (by omega)
    refine .seq (.block ((.region (.v (.fieldAddr rfl) (.v (.load (v := .slice (some ⟨b, o, none⟩) n1 c1) rfl (.one rfl)) (.v (.move rfl) (.v (.build (out := [.int .i64 4711, .int .u64 0, .int .i64 0]) rfl rfl) (.v (.indexAddr rfl rfl (by omega) (by omega)) (.st (.storeA (l := l) rfl rfl rfl rfl (by simp; omega)) (.nil ?_))))))))))
    refine .region (.v (.move rfl) (.v (.addi rfl rfl (by omega)) (.v (.assign rfl) (.nil ?_))))
    refine ⟨⟨i + 1, _⟩, ⟨by show i + 1 ≤ n1; omega, hput [.int .i64 4711, .int .u64 0, .int .i64 0] rfl⟩, by show n1 - (i + 1) < _; omega, .cons rfl (.cons rfl (.nil _)), fun _ s => ?_⟩
    rw [Int.toNat_natCast] at s
    exact s
  · refine .seq (.seq ((.region (.v (.assign rfl) (.nil ?_)))))
    refine .block (.loop (X := Nat × Hp) (fun x => [(1, .pointer (some ⟨b1, 0, none⟩)), (3, .int .i64 x.1)]) (fun x => (b1, .cells (pcells seq (.slice A1 n1 c1) (.slice A2 n2 c2)) 40) :: (h ++ x.2)) (fun x => x.1 ≤ n2 ∧ AnyL (.slice A2 n2 c2) n2 x.2) (fun x => n2 - x.1) ⟨0, k2⟩ ⟨by simp, h2⟩ (.cons rfl (.cons rfl (.nil _))) (fun _ s => s) ?_)
    rintro ⟨i', h'⟩ ⟨hi', hh'⟩
    dsimp only at hi' hh' ⊢
    refine .seq (.seq ((.region (.v (.move rfl) (.v (.fieldAddr rfl) (.v (.load (v := .slice A2 n2 c2) rfl (.one rfl)) (.v (.len rfl) (.v (.lss rfl rfl) (.nil ?_)))))))))
    refine .cond_dec rfl (fun g2 => .skip ?_) (fun g2 => .exit ?_)
    · obtain ⟨b, o, l, rfl, rfl, hl, hput⟩ := hh'.put (i := i') (by omega)
      refine .seq (.block ((.region (.v (.fieldAddr rfl) (.v (.load (v := .slice (some ⟨b, o, none⟩) n2 c2) rfl (.one rfl)) (.v (.move rfl) (.v (.build (out := [.int .i64 4712, .int .u64 0, .int .i64 0]) rfl rfl) (.v (.indexAddr rfl rfl (by omega) (by omega)) (.st (.storeA (l := l) rfl rfl rfl rfl (by simp; omega)) (.nil ?_))))))))))
      refine .region (.v (.move rfl) (.v (.addi rfl rfl (by omega)) (.v (.assign rfl) (.nil ?_))))
      refine ⟨⟨i' + 1, _⟩, ⟨by show i' + 1 ≤ n2; omega, hput [.int .i64 4712, .int .u64 0, .int .i64 0] rfl⟩, by show n2 - (i' + 1) < _; omega, .cons rfl (.cons rfl (.nil _)), fun _ s => ?_⟩
      rw [Int.toNat_natCast] at s
      exact s
    · obtain ⟨us1, hh⟩ := hh
      obtain ⟨us2, hh'⟩ := hh'
      refine .seq ((.region (.v (.fieldAddr rfl) (.v (.load (v := .slice A1 n1 c1) rfl (.one rfl)) (.v (.build (out := [.int .i64 4713, .int .u64 0, .int .i64 0]) rfl rfl) (.push (vs := us1) (c := n1) (oc := [.int .i64 4713, .int .u64 0, .int .i64 0]) rfl rfl hh rfl rfl rfl (by omega) (by omega) ?_))))))
      intro b9 v' q1 k'
      refine .nil ?_
      refine .region (.v (.fieldAddr rfl) (.v (.load (v := .slice A2 n2 c2) rfl (.one rfl)) (.v (.build (out := [.int .i64 4714, .int .u64 0, .int .i64 0]) rfl rfl) (.push (vs := us2) (c := n2) (oc := [.int .i64 4714, .int .u64 0, .int .i64 0]) rfl rfl hh' rfl rfl rfl (by omega) (by omega) ?_))))
      intro b10 v'' q2 k''
      refine .nil ?_
      exact ⟨[], trivial, [], fun _ s => s.take, rfl⟩
/-- a picture of nothing -/
abbrev pc0 : Pc := ⟨0, [], []⟩
theorem NewPublisher_ok (w : World) (d : Int) : Does Try.prog 15 [.int .i64 d] [] w (fun v hs => (1 ≤ d ∧ d ≤ 64 ∧ ∃ b, v = .tuple ⟨[.pointer (some ⟨b, 0, none⟩), .int .i64 0]⟩ ∧ hs = [Ub b d pc0 (.slice none 0 0) (.slice none 0 0)]) ∨ (¬ (1 ≤ d ∧ d ≤ 64) ∧ v = .tuple ⟨[.pointer none, .int .i64 1]⟩ ∧ hs = [])) := by
  refine Does.of (n := 13) Try.func15 rfl rfl rfl rfl ?_
  refine .seq ((.region (.v (.assign rfl) (.v (.assign rfl) (.nil ?_)))))
  refine .seq (.seq ((.region (.v (.move rfl) (.v (.lss rfl rfl) (.v (.move rfl) (.or 6 8 2 2 rfl rfl (fun g1 => .v (.move rfl) (.v (.gtr rfl rfl) (.nil ⟨rfl, rfl, rfl, rfl⟩))) (.nil ?_))))))))
  refine .cond rfl (fun h1 => ?_) (fun h1 => .skip ?_)
  · simp only [Bool.and_eq_true, Bool.or_eq_true, Bool.not_eq_true', Bool.and_eq_false_iff, Bool.or_eq_false_iff, Bool.not_eq_false', decide_eq_true_eq, decide_eq_false_iff_not, Bool.false_eq_true, false_iff] at h1
    refine .seq ((.region (.v (.assign rfl) (.v (.assign rfl) (.nil ?_)))))
    exact .ret ⟨[_, _], ⟨rfl, rfl, trivial⟩, .inr ⟨by omega, rfl, rfl⟩⟩
  · simp only [Bool.and_eq_true, Bool.or_eq_true, Bool.not_eq_true', Bool.and_eq_false_iff, Bool.or_eq_false_iff, Bool.not_eq_false', decide_eq_true_eq, decide_eq_false_iff_not, Bool.false_eq_true, false_iff] at h1
    refine .seq ((.region (.v (.move rfl) (.v (.build (out := ubcells d 0 (.slice none 0 0) (.slice none 0 0)) rfl rfl) (.nw (.box rfl rfl) fun b12 => (.v (.assign rfl) (.v (.assign rfl) (.nil ?_))))))))
    exact .ret ⟨[_, _], ⟨rfl, rfl, trivial⟩, .inl ⟨by omega, by omega, b12, rfl, rfl⟩⟩
theorem refNewPublisher_ok (w : World) (d : Int) : Is Try.prog 16 [.int .i64 d] w (.tuple ⟨[.agg ⟨ubcells (if 1 ≤ d ∧ d ≤ 64 then d else 0) 0 (.slice none 0 0) (.slice none 0 0)⟩, .int .i64 (if 1 ≤ d ∧ d ≤ 64 then 0 else 1)]⟩) := by
  refine Does.pure (Does.of (n := 13) Try.func16 rfl rfl rfl rfl ?_)
  refine .seq ((.region (.nw .alloc fun b2 => (.v (.assign rfl) (.nil ?_)))))
  refine .seq (.seq ((.region (.v (.move rfl) (.v (.lss rfl rfl) (.v (.move rfl) (.or 6 8 2 2 rfl rfl (fun g1 => .v (.move rfl) (.v (.gtr rfl rfl) (.nil ⟨rfl, rfl, rfl, rfl⟩))) (.nil ?_))))))))
  refine .cond rfl (fun h1 => ?_) (fun h1 => .skip ?_)
  · simp only [Bool.and_eq_true, Bool.or_eq_true, Bool.not_eq_true', Bool.and_eq_false_iff, Bool.or_eq_false_iff, Bool.not_eq_false', decide_eq_true_eq, decide_eq_false_iff_not, Bool.false_eq_true, false_iff] at h1
    refine .seq ((.region (.v (.build (out := ubcells 0 0 (.slice none 0 0) (.slice none 0 0)) rfl rfl) (.st (.sw rfl rfl) (.v (.assign rfl) (.nil ?_))))))
    have hn : ¬ (1 ≤ d ∧ d ≤ 64) := by omega
    exact .ret ⟨[_, _], ⟨⟨_, rfl, .inr ⟨4, _, inferInstance, rfl, rfl, .whole⟩⟩, rfl, trivial⟩, by rw [if_neg hn, if_neg hn]; rfl⟩
  · simp only [Bool.and_eq_true, Bool.or_eq_true, Bool.not_eq_true', Bool.and_eq_false_iff, Bool.or_eq_false_iff, Bool.not_eq_false', decide_eq_true_eq, decide_eq_false_iff_not, Bool.false_eq_true, false_iff] at h1
    refine .seq ((.region (.v (.move rfl) (.v (.build (out := ubcells d 0 (.slice none 0 0) (.slice none 0 0)) rfl rfl) (.st (.sw rfl rfl) (.v (.assign rfl) (.nil ?_)))))))
    have hn : 1 ≤ d ∧ d ≤ 64 := by omega
    exact .ret ⟨[_, _], ⟨⟨_, rfl, .inr ⟨4, _, inferInstance, rfl, rfl, .whole⟩⟩, rfl, trivial⟩, by rw [if_pos hn, if_pos hn]; rfl⟩
end Go.Proofs.Ytinmhhonpflojaa

/- The law FeedPublishes: its walk. -/
namespace Go.Proofs.Ytinmhhonpflojaa
open Go.V
set_option linter.unusedVariables false
set_option linter.unusedSimpArgs false

/-- what a Publish leaves, tells, answers -/
noncomputable def Pc.res (p : Pc) (depth : Nat) (bs ss : List Lv) (evs : List Ev) : Pc × List Dt × Int := match p.pub depth bs ss evs with
  | none => (p, [], 1)
  | some (p', ms) => (p', ms, 0)
abbrev PubB (b : Nat) (depth : Int) (p : Pc) (v1 v2 : Value) (k1 k2 : Hp) : Hp := Ub b depth p v1 v2 :: (k1 ++ k2)
theorem publishU_ok (w : World) (b depth : Nat) (hd : depth ≤ 64) (p : Pc) (hq : 0 ≤ p.seq ∧ p.seq < 18446744073709551616) (v1 v2 : Value) (k1 k2 : Hp) (h1 : LOwn v1 p.bs k1) (h2 : LOwn v2 p.ss k2) (B1 B2 Be : Option Addr) (c1 c2 ce : Nat) (bs ss : List Lv) (evs : List Ev)
    (r1 : Rd w (bl (PubB b depth p v1 v2 k1 k2)) B1 (lrows bs)) (r2 : Rd w (bl (PubB b depth p v1 v2 k1 k2)) B2 (lrows ss)) (re : Rd w (bl (PubB b depth p v1 v2 k1 k2)) Be (erows evs)) (hc1 : bs.length ≤ c1) (hc2 : ss.length ≤ c2)
    (hb : bs.length + ss.length + evs.length ≤ 4000000) (hp : p.bs.length + p.ss.length ≤ 1000) :
    Does Try.prog 18 [.pointer (some ⟨b, 0, none⟩), .slice B1 bs.length c1, .slice B2 ss.length c2, .slice Be evs.length ce] (PubB b depth p v1 v2 k1 k2) w
      (fun v hs => ∃ vm hm v1' v2' k1' k2', v = .tuple ⟨[vm, .int .i64 (p.res depth bs ss evs).2.2]⟩ ∧ DOwn vm (p.res depth bs ss evs).2.1 hm ∧ hs = PubB b depth (p.res depth bs ss evs).1 v1' v2' k1' k2' ++ hm ∧ LOwn v1' (p.res depth bs ss evs).1.bs k1' ∧ LOwn v2' (p.res depth bs ss evs).1.ss k2') := by
  refine (publish_ok w b depth hd p hq v1 v2 k1 k2 h1 h2 B1 B2 Be c1 c2 ce bs ss evs r1 r2 re hc1 hc2 hb hp).mono fun v hs h => ?_
  unfold Pc.res
  cases hr : p.pub depth bs ss evs with
  | none =>
    rw [hr] at h
    obtain ⟨rfl, rfl⟩ := h
    exact ⟨_, [], v1, v2, k1, k2, rfl, OwnS.nil _ _, by simp, h1, h2⟩
  | some r =>
    rw [hr] at h
    obtain ⟨vm, hm, hp, rfl, o, rfl, v1', v2', k1', k2', rfl, o1, o2⟩ := h
    exact ⟨vm, hm, v1', v2', k1', k2', rfl, o, rfl, o1, o2⟩
theorem refpublishU_ok (w : World) (depth : Nat) (hd : depth ≤ 64) (p : Pc) (hq : 0 ≤ p.seq ∧ p.seq < 18446744073709551616) (f1 : Fit 1 p.bs) (f2 : Fit 2 p.ss) (u1 u2 : Value) (j1 j2 : Hp) (h1 : LOwn u1 p.bs j1) (h2 : LOwn u2 p.ss j2) (R1 : ∀ A c, u1 = .slice A p.bs.length c → Rd w [] A (lrows p.bs)) (R2 : ∀ A c, u2 = .slice A p.ss.length c → Rd w [] A (lrows p.ss)) (B1 B2 Be : Option Addr) (c1 c2 ce : Nat) (bs ss : List Lv) (evs : List Ev)
    (r1 : Rd w [] B1 (lrows bs)) (r2 : Rd w [] B2 (lrows ss)) (re : Rd w [] Be (erows evs)) (hc1 : bs.length ≤ c1) (hc2 : ss.length ≤ c2)
    (hb : bs.length + ss.length + evs.length ≤ 4000000) (hp : p.bs.length + p.ss.length ≤ 1000) :
    Does Try.prog 19 [.agg ⟨ubcells depth p.seq u1 u2⟩, .slice B1 bs.length c1, .slice B2 ss.length c2, .slice Be evs.length ce] (j1 ++ j2) w
      (fun v hs => ∃ vm hm u1' u2' j1' j2', v = .tuple ⟨[.agg ⟨ubcells depth (p.res depth bs ss evs).1.seq u1' u2'⟩, vm, .int .i64 (p.res depth bs ss evs).2.2]⟩ ∧ DOwn vm (p.res depth bs ss evs).2.1 hm ∧ hs = j1' ++ (j2' ++ hm) ∧ LOwn u1' (p.res depth bs ss evs).1.bs j1' ∧ LOwn u2' (p.res depth bs ss evs).1.ss j2') := by
  obtain ⟨A1, a1, rfl⟩ := lown_sl h1
  obtain ⟨A2, a2, rfl⟩ := lown_sl h2
  refine Does.keepT (Does.lendT [] (refpublish_ok w depth hd p hq f1 f2 A1 A2 B1 B2 Be a1 a2 c1 c2 ce bs ss evs (R1 _ _ rfl) (R2 _ _ rfl) r1 r2 re hc1 hc2 hb hp)) fun v hs h => ?_
  unfold Pc.res
  obtain ⟨h, hr', rfl⟩ := h
  cases hr : p.pub depth bs ss evs with
  | none =>
    rw [hr] at hr'
    obtain ⟨rfl, rfl⟩ := hr'
    exact ⟨j1 ++ (j2 ++ []), [], by simp, _, [], _, _, j1, j2, rfl, OwnS.nil _ _, rfl, h1, h2⟩
  | some r =>
    rw [hr] at hr'
    obtain ⟨v1, v2, vm, k1, k2, hm, rfl, o1, o2, o, rfl⟩ := hr'
    exact ⟨_, j1 ++ j2, .refl _, vm, hm, v1, v2, k1, k2, rfl, o, rfl, o1, o2⟩
theorem res_keeps {p : Pc} {depth : Nat} {bs ss : List Lv} {evs : List Ev} (hd : depth ≤ 64) (hq : 0 ≤ p.seq ∧ p.seq < 18446744073709551616) (f1 : Fit 1 p.bs) (f2 : Fit 2 p.ss) (hl : p.bs.length ≤ 64 ∧ p.ss.length ≤ 64) (he : evs.length ≤ 4000000) :
    (0 ≤ (p.res depth bs ss evs).1.seq ∧ (p.res depth bs ss evs).1.seq < 18446744073709551616) ∧ Fit 1 (p.res depth bs ss evs).1.bs ∧ Fit 2 (p.res depth bs ss evs).1.ss ∧ ((p.res depth bs ss evs).1.bs.length ≤ 64 ∧ (p.res depth bs ss evs).1.ss.length ≤ 64) ∧ (p.res depth bs ss evs).2.1.length ≤ 4010000 := by
  unfold Pc.res
  by_cases h : okPub bs ss evs
  · rw [Pc.pub_some h]
    dsimp only [Pc.next]
    have t1 : (bs.take depth).length ≤ 64 := by rw [List.length_take]; omega
    have t2 : (ss.take depth).length ≤ 64 := by rw [List.length_take]; omega
    refine ⟨by omega, h.1.take _, h.2.1.take _, ⟨t1, t2⟩, ?_⟩
    have := trs_length evs
    have := chg_length 1 p.bs (bs.take depth)
    have := chg_length 2 p.ss (ss.take depth)
    rw [num_length]; unfold raw
    rw [List.length_append, List.length_append]; omega
  · rw [Pc.pub_none h]
    exact ⟨hq, f1, f2, hl, by simp⟩
/-- a turn as it comes in -/
structure TD where
  B1 : Option Addr
  c1 : Nat
  B2 : Option Addr
  c2 : Nat
  Be : Option Addr
  ce : Nat
  bs : List Lv
  ss : List Lv
  evs : List Ev
def TD.cells (t : TD) : List Value := [.slice t.B1 t.bs.length t.c1, .slice t.B2 t.ss.length t.c2, .slice t.Be t.evs.length t.ce]
structure TD.R (w : World) (t : TD) : Prop where
  r1 : Rd w [] t.B1 (lrows t.bs)
  r2 : Rd w [] t.B2 (lrows t.ss)
  re : Rd w [] t.Be (erows t.evs)
  k1 : t.bs.length ≤ t.c1
  k2 : t.ss.length ≤ t.c2
  b : t.bs.length + t.ss.length + t.evs.length ≤ 3500000
structure LS where
  i : Nat
  p : Pc
  v1 : Value
  v2 : Value
  k1 : Hp
  k2 : Hp
  u1 : Value
  u2 : Value
  j1 : Hp
  j2 : Hp
structure LS.I (N : Nat) (x : LS) : Prop where
  le : x.i ≤ N
  q : 0 ≤ x.p.seq ∧ x.p.seq < 18446744073709551616
  f1 : Fit 1 x.p.bs
  f2 : Fit 2 x.p.ss
  l : x.p.bs.length ≤ 64 ∧ x.p.ss.length ≤ 64
  o1 : LOwn x.v1 x.p.bs x.k1
  o2 : LOwn x.v2 x.p.ss x.k2
  w1 : LOwn x.u1 x.p.bs x.j1
  w2 : LOwn x.u2 x.p.ss x.j2
abbrev Rb (b : Nat) (depth : Int) (p : Pc) (u1 u2 : Value) : Nat × Ch := (b, .cells (ubcells depth p.seq u1 u2) 42)
abbrev LS.H (b r : Nat) (depth : Int) (x : LS) : Hp := Rb r depth x.p x.u1 x.u2 :: (x.j1 ++ (x.j2 ++ PubB b depth x.p x.v1 x.v2 x.k1 x.k2))
structure IN where
  b : Nat
  A1 : Option Addr
  A2 : Option Addr
  d1 : Nat
  d2 : Nat
  q1 : Hp
  q2 : Hp
structure RN where
  b : Nat
  um : Value
  hm : Hp
  u1 : Value
  u2 : Value
  j1 : Hp
  j2 : Hp
abbrev Pb (b : Nat) (seq : Int) (v1 v2 : Value) : Nat × Ch := (b, .cells (pcells seq v1 v2) 40)
set_option maxRecDepth 20000 in
set_option maxHeartbeats 2000000 in
theorem FeedPublishes_ok (w : World) (d : Int) (A : Option Addr) (len cap : Nat) (l : List TD) (hA : Rd w [] A (l.flatMap TD.cells)) (hl : len = l.length) (hr : ∀ t ∈ l, TD.R w t) (hb : len ≤ 1048576) :
    Is Try.prog 4 [.int .i64 d, .slice A len cap] w (.bool true) := by
  refine Does.pure (Does.of (n := 158) Try.func4 rfl rfl rfl rfl ?_)
  refine .seq ((.region (.v (.assign rfl) (.nil ?_))))
  refine .seq ((.region (.v (.move rfl) ?_)))
  refine .ef (.call0 rfl rfl fun w s => NewPublisher_ok w d) ?_
  rintro _ _ ⟨h, hN, rfl⟩
  rcases hN with ⟨hd1, hd2, b, rfl, rfl⟩ | ⟨hd, rfl, rfl⟩
  · have hif : (1 ≤ d ∧ d ≤ 64) := ⟨hd1, hd2⟩
    refine .v (.move rfl) (.v (.extract rfl rfl) (.v (.extract rfl rfl) (.v (.assign rfl) (.v (.assign rfl) (.nil ?_)))))
    refine .seq ((.region (.v (.move rfl) (.pc rfl rfl (fun w s => refNewPublisher_ok w d) ?_))))
    rw [if_pos hif, if_pos hif]
    refine .v (.move rfl) (.v (.extract rfl rfl) (.v (.extract rfl rfl) (.nw .alloc fun r => (.st (.sw rfl rfl) (.v (.assign rfl) (.nil ?_))))))
    refine .seq (.seq ((.region (.v (.move rfl) (.v (.move rfl) (.v (.nei rfl rfl) (.v (.move rfl) (.or (b2 := false) 32 37 5 5 rfl rfl (fun g1 => .v (.move rfl) (.v (.eql_ptr_nil rfl rfl) (.v (.move rfl) (.v (.nei rfl rfl) (.v (.neb rfl rfl) (.nil ⟨rfl, rfl, rfl, rfl⟩)))))) (.nil ?_)))))))))
    refine .cond_false rfl (.skip ?_)
    obtain ⟨dp, rfl⟩ : ∃ dp : Nat, d = dp := ⟨d.toNat, by omega⟩
    refine .seq (.seq ((.region (.v (.assign rfl) (.nil ?_)))))
    refine .block (.loop (X := LS) (fun x => [(1, .slice A len cap), (5, .pointer (some ⟨b, 0, none⟩)), (7, .pointer (some ⟨r, 0, none⟩)), (9, .int .i64 x.i)]) (fun x => x.H b r dp) (LS.I len) (fun x => len - x.i) ⟨0, pc0, .slice none 0 0, .slice none 0 0, [], [], .slice none 0 0, .slice none 0 0, [], []⟩
      ⟨by simp, by simp [pc0], Fit.nil _, Fit.nil _, by simp [pc0], OwnS.nil _ _, OwnS.nil _ _, OwnS.nil _ _, OwnS.nil _ _⟩ (.cons rfl (.cons rfl (.cons rfl (.cons rfl (.nil _))))) (fun _ s => s.take) ?_)
    rintro ⟨i, p, v1, v2, k1, k2, u1, u2, j1, j2⟩ ⟨hle, hq, f1, f2, hpl, o1, o2, w1, w2⟩
    dsimp only at hle hq f1 f2 hpl o1 o2 w1 w2 ⊢
    refine .seq (.seq ((.region (.v (.move rfl) (.v (.move rfl) (.v (.len rfl) (.v (.lss rfl rfl) (.v (.move rfl) (.and 43 45 2 2 rfl rfl (fun g2 => .v (.move rfl) (.v (.neq_ptr_nil rfl rfl) (.nil ⟨rfl, rfl, rfl, rfl⟩))) (.nil ?_))))))))))
    refine .cond rfl (fun h2 => .skip ?_) (fun h2 => .exit ?_)
    · have hil : i < l.length := by
        have : decide ((i : Int) < len) = true := by simpa using h2
        have := of_decide_eq_true this
        omega
      obtain ⟨bt, ot, rfl, hc⟩ := Rd.recs TD.cells 3 (fun _ => rfl) hA (by omega) (by omega)
      have hR := hr _ (List.getElem_mem hil)
      have q1 := fun hs => fldAt TD.cells 3 (fun _ => rfl) (z := (i : Int)) (hc hs) hil 0 rfl
      have q2 := fun hs => fldAt TD.cells 3 (fun _ => rfl) (z := (i : Int)) (hc hs) hil 1 rfl
      have q3 := fun hs => fldAt TD.cells 3 (fun _ => rfl) (z := (i : Int)) (hc hs) hil 2 rfl
      generalize l[i] = t at hR q1 q2 q3
      obtain ⟨r1, r2, re, kc1, kc2, hbt⟩ := hR
      refine .seq (.block ?_)
      -- in
      refine .mid (X := IN) (fun z => [(1, .slice (some ⟨bt, ot, none⟩) len cap), (5, .pointer (some ⟨b, 0, none⟩)), (7, .pointer (some ⟨r, 0, none⟩)), (9, .int .i64 i), (10, .pointer (some ⟨z.b, 0, none⟩))]) (fun z => Pb z.b 0 (.slice z.A1 t.bs.length z.d1) (.slice z.A2 t.ss.length z.d2) :: (z.q1 ++ (z.q2 ++ LS.H b r dp ⟨i, p, v1, v2, k1, k2, u1, u2, j1, j2⟩)))
        (fun z => LOwn (.slice z.A1 t.bs.length z.d1) t.bs z.q1 ∧ LOwn (.slice z.A2 t.ss.length z.d2) t.ss z.q2) (.drawX [0, 1, 2, 3, 4, 5, 6, 7, 8, 9, 10] [] (List.nil_subset _) (by kernel_rfl) (by kernel_rfl) ?_) ?_
      · refine .v (fun _ f => .move rfl) (.v (fun _ f => .move rfl) (.v (fun _ f => .indexAddr rfl rfl (by omega) (by omega)) (.v (fun _ f => .fieldAddr rfl) (.v (fun _ f => .load (v := .slice t.B1 t.bs.length t.c1) rfl (q1 _)) (.v (fun _ f => .move rfl) (.v (fun _ f => .move rfl) (.v (fun _ f => .indexAddr rfl rfl (by omega) (by omega)) (.v (fun _ f => .fieldAddr rfl) (.v (fun _ f => .load (v := .slice t.B2 t.ss.length t.c2) rfl (q2 _)) (.v (fun _ f => .build (out := pcells 0 (.slice t.B1 t.bs.length t.c1) (.slice t.B2 t.ss.length t.c2)) rfl rfl) (.nil ?_)))))))))))
        refine .two 11 12 (by kernel_rfl) (.cl rfl rfl rfl (fun w s => lcopied_ok w t.B1 t.B2 t.c1 t.c2 ⟨0, t.bs, t.ss⟩ (r1.keep0 s) (r2.keep0 s) (by show t.bs.length + t.ss.length ≤ _; omega)) ?_) (.nw rfl .alloc fun b10 => ?_)
        · rintro _ _ ⟨A1, A2, d1, d2, y1, y2, rfl, rfl, z1, z2⟩
          refine .run [12, 13] (List.nil_subset _) (by kernel_rfl) (.nw .alloc fun b10 => .st (.sw rfl rfl) (fun _ => List.nil_subset _) (.nil ?_))
          exact ⟨⟨b10, A1, A2, d1, d2, y1, y2⟩, ⟨z1, z2⟩, .cons rfl (.cons rfl (.cons rfl (.cons rfl (.cons rfl (.nil _))))), fun _ s => s.take⟩
        · refine .run [11, 13] (List.nil_subset _) (by kernel_rfl) (.cl rfl rfl (fun w s => lcopied_ok w t.B1 t.B2 t.c1 t.c2 ⟨0, t.bs, t.ss⟩ (r1.keep0 s) (r2.keep0 s) (by show t.bs.length + t.ss.length ≤ _; omega)) ?_)
          rintro _ _ ⟨A1, A2, d1, d2, y1, y2, rfl, rfl, z1, z2⟩
          refine .st (.sw rfl rfl) (fun _ => List.nil_subset _) (.nil ?_)
          exact ⟨⟨b10, A1, A2, d1, d2, y1, y2⟩, ⟨z1, z2⟩, .cons rfl (.cons rfl (.cons rfl (.cons rfl (.cons rfl (.nil _))))), fun _ s => s.take⟩
      rintro ⟨b10, A1, A2, d1, d2, y1, y2⟩ ⟨z1, z2⟩
      dsimp only at z1 z2 ⊢
      refine .seq ((.region (.ef (.buildSlice (out := []) rfl (by decide) rfl rfl) ?_)))
      rintro _ _ ⟨b61, rfl, rfl⟩
      refine .v (.move rfl) (.v (.move rfl) (.v (.indexAddr rfl rfl (by omega) (by omega)) (.v (.fieldAddr rfl) (.v (.load (v := .slice t.Be t.evs.length t.ce) rfl (q3 _)) ?_))))
      refine .appT (h := [(b61, .cells [] 88)]) (vs := []) (c := 0) (k := t.evs.length) (news := erows t.evs) rfl rfl ⟨rfl, .inr ⟨b61, 0, 0, [], rfl, rfl, by omega, by simp, by simp⟩⟩ (fun w s => (re.keep0 s).src (erows_length _) (by omega)) (erows_length _) (erows_ones _) (by omega) (by omega) ?_
      intro ve ke oe
      rw [Nat.zero_add] at oe
      obtain ⟨Ae, ce, rfl⟩ := OwnS.slice oe
      refine .v (.assign rfl) (.nil ?_)
      have hk := res_keeps (depth := dp) (bs := t.bs) (ss := t.ss) (evs := t.evs) (by omega) hq f1 f2 hpl (by omega)
      refine .seq ((.region (.v (.move rfl) (.v (.fieldAddr rfl) (.v (.load (v := .slice A1 t.bs.length d1) rfl (.one rfl)) (.v (.fieldAddr rfl) (.v (.load (v := .slice A2 t.ss.length d2) rfl (.one rfl)) (.v (.move rfl) ?_))))))))
      refine .ef (.callT (PubB b dp p v1 v2 k1 k2) rfl rfl (fun w s => publishU_ok w b dp (by omega) p hq v1 v2 k1 k2 o1 o2 A1 A2 Ae d1 d2 ce t.bs t.ss t.evs (OwnS.rd z1 s (fun y hy => by simp [hy]) (Sat.apart (a := y1) (b := PubB b dp p v1 v2 k1 k2) s)) (OwnS.rd z2 s (fun y hy => by simp [hy]) (Sat.apart (a := y2) (b := PubB b dp p v1 v2 k1 k2) s)) (OwnS.rd oe s (fun y hy => by simp [hy]) (Sat.apart (a := ke) (b := PubB b dp p v1 v2 k1 k2) s)) (OwnS.cap_ z1).2 (OwnS.cap_ z2).2 (by omega) (by omega))) ?_
      rintro _ _ ⟨_, ⟨vm, hm, v1', v2', k1', k2', rfl, om, rfl, o1', o2'⟩, rfl⟩
      refine .v (.move rfl) (.v (.extract rfl rfl) (.v (.extract rfl rfl) (.v (.assign rfl) (.v (.assign rfl) (.nil ?_)))))
      refine .mid (X := RN) (fun z => [(1, .slice (some ⟨bt, ot, none⟩) len cap), (5, .pointer (some ⟨b, 0, none⟩)), (7, .pointer (some ⟨r, 0, none⟩)), (9, .int .i64 i), (10, .pointer (some ⟨b10, 0, none⟩)), (12, vm), (13, .int .i64 (p.res dp t.bs t.ss t.evs).2.2), (14, .pointer (some ⟨z.b, 0, none⟩)), (15, z.um), (16, .int .i64 (p.res dp t.bs t.ss t.evs).2.2)])
        (fun z => Rb z.b dp (p.res dp t.bs t.ss t.evs).1 z.u1 z.u2 :: Rb r dp p u1 u2 :: (z.j1 ++ (z.j2 ++ (z.hm ++ (hm ++ (Pb b10 0 (.slice A1 t.bs.length d1) (.slice A2 t.ss.length d2) :: (y1 ++ (y2 ++ PubB b dp (p.res dp t.bs t.ss t.evs).1 v1' v2' k1' k2'))))))))
        (fun z => LOwn z.u1 (p.res dp t.bs t.ss t.evs).1.bs z.j1 ∧ LOwn z.u2 (p.res dp t.bs t.ss t.evs).1.ss z.j2 ∧ DOwn z.um (p.res dp t.bs t.ss t.evs).2.1 z.hm) (.drawX [0, 1, 2, 3, 4, 5, 6, 7, 8, 9, 10, 11, 12, 13, 14, 15] [Rb r dp p u1 u2] (by intro y hy; simp at hy; subst hy; simp) (by kernel_rfl) (by kernel_rfl) ?_) ?_
      · refine .v (fun _ f => .loadA (vs := ubcells dp p.seq u1 u2) rfl (.whole (hb := .sub f)) rfl) (.v (fun _ f => .move rfl) (.v (fun _ f => .move rfl) (.v (fun _ f => .indexAddr rfl rfl (by omega) (by omega)) (.v (fun _ f => .fieldAddr rfl) (.v (fun _ f => .load (v := .slice t.B1 t.bs.length t.c1) rfl (q1 _)) (.v (fun _ f => .move rfl) (.v (fun _ f => .move rfl) (.v (fun _ f => .indexAddr rfl rfl (by omega) (by omega)) (.v (fun _ f => .fieldAddr rfl) (.v (fun _ f => .load (v := .slice t.B2 t.ss.length t.c2) rfl (q2 _)) (.v (fun _ f => .move rfl) (.v (fun _ f => .move rfl) (.v (fun _ f => .indexAddr rfl rfl (by omega) (by omega)) (.v (fun _ f => .fieldAddr rfl) (.v (fun _ f => .load (v := .slice t.Be t.evs.length t.ce) rfl (q3 _)) (.nil ?_))))))))))))))))
        refine .two 16 21 (by kernel_rfl) (.clT (j1 ++ j2) rfl rfl rfl (fun w s => refpublishU_ok w dp (by omega) p hq f1 f2 u1 u2 j1 j2 w1 w2 (fun A c e => by subst e; exact OwnS.rd w1 s (no := []) (fun y hy => by simp [hy]) (by simp)) (fun A c e => by subst e; exact OwnS.rd w2 s (no := []) (fun y hy => by simp [hy]) (by simp)) t.B1 t.B2 t.Be t.c1 t.c2 t.ce t.bs t.ss t.evs (r1.keep0 s) (r2.keep0 s) (re.keep0 s) kc1 kc2 (by omega) (by omega)) (fun h => by intro y hy; simp at hy; subst hy; simp) ?_) (.nw rfl .alloc fun b14 => ?_)
        · rintro _ _ ⟨um, hm2, u1', u2', j1', j2', rfl, omr, rfl, w1', w2'⟩
          obtain ⟨_, _, rfl⟩ := lown_sl w1'
          obtain ⟨_, _, rfl⟩ := lown_sl w2'
          refine .run [17, 18, 19, 20, 21, 22, 23, 24] (by intro y hy; simp at hy; subst hy; simp) (by kernel_rfl) ?_
          refine .v (fun _ f => .move rfl) (.v (fun _ f => .extract rfl rfl) (.v (fun _ f => .extract rfl rfl) (.v (fun _ f => .extract rfl rfl) (.nw .alloc fun b14 => (.st (.sw rfl rfl) (fun _ => by intro y hy; simp at hy; subst hy; simp) (.v (fun _ f => .assign rfl) (.v (fun _ f => .assign rfl) (.nil ?_))))))))
          exact ⟨⟨b14, um, hm2, _, _, j1', j2'⟩, ⟨w1', w2', omr⟩, .cons rfl (.cons rfl (.cons rfl (.cons rfl (.cons rfl (.cons rfl (.cons rfl (.cons rfl (.cons rfl (.cons rfl (.nil _)))))))))), fun _ s => s.take⟩
        · refine .run [16, 17, 18, 19, 20, 22, 23, 24] (by intro y hy; simp at hy; subst hy; simp) (by kernel_rfl) ?_
          refine .clT (j1 ++ j2) rfl rfl (fun w s => refpublishU_ok w dp (by omega) p hq f1 f2 u1 u2 j1 j2 w1 w2 (fun A c e => by subst e; exact OwnS.rd w1 s (no := []) (fun y hy => by simp [hy]) (by simp)) (fun A c e => by subst e; exact OwnS.rd w2 s (no := []) (fun y hy => by simp [hy]) (by simp)) t.B1 t.B2 t.Be t.c1 t.c2 t.ce t.bs t.ss t.evs (r1.keep0 s) (r2.keep0 s) (re.keep0 s) kc1 kc2 (by omega) (by omega)) (fun h => by intro y hy; simp at hy; subst hy; simp) ?_
          rintro _ _ ⟨um, hm2, u1', u2', j1', j2', rfl, omr, rfl, w1', w2'⟩
          obtain ⟨_, _, rfl⟩ := lown_sl w1'
          obtain ⟨_, _, rfl⟩ := lown_sl w2'
          refine .v (fun _ f => .move rfl) (.v (fun _ f => .extract rfl rfl) (.v (fun _ f => .extract rfl rfl) (.v (fun _ f => .extract rfl rfl) (.st (.sw rfl rfl) (fun _ => by intro y hy; simp at hy; subst hy; simp) (.v (fun _ f => .assign rfl) (.v (fun _ f => .assign rfl) (.nil ?_)))))))
          exact ⟨⟨b14, um, hm2, _, _, j1', j2'⟩, ⟨w1', w2', omr⟩, .cons rfl (.cons rfl (.cons rfl (.cons rfl (.cons rfl (.cons rfl (.cons rfl (.cons rfl (.cons rfl (.cons rfl (.nil _)))))))))), fun _ s => s.take⟩
      generalize p.res dp t.bs t.ss t.evs = res at hk om o1' o2' ⊢
      obtain ⟨p', ms, er⟩ := res
      dsimp only at hk om o1' o2' ⊢
      obtain ⟨hq', f1', f2', hpl', hml⟩ := hk
      rintro ⟨b14, um, hm2, u1', u2', j1', j2'⟩ ⟨w1', w2', omr⟩
      dsimp only at w1' w2' omr ⊢
      obtain ⟨M, m, rfl⟩ := OwnS.slice om
      obtain ⟨M2, m2, rfl⟩ := OwnS.slice omr
      obtain ⟨D1, e1, rfl⟩ := lown_sl w1'
      obtain ⟨D2, e2, rfl⟩ := lown_sl w2'
      obtain ⟨E1, e3, rfl⟩ := lown_sl o1'
      obtain ⟨E2, e4, rfl⟩ := lown_sl o2'
      refine .seq ((.region (.v (.loadA (vs := ubcells dp p'.seq (.slice D1 p'.bs.length e1) (.slice D2 p'.ss.length e2)) rfl .whole rfl) (.st (.sw rfl rfl) (.nil ?_)))))
      refine .keep (Pb b10 0 (.slice A1 t.bs.length d1) (.slice A2 t.ss.length d2) :: Rb r dp p' (.slice D1 p'.bs.length e1) (.slice D2 p'.ss.length e2) :: (j1' ++ (j2' ++ (hm2 ++ (hm ++ (y1 ++ (y2 ++ PubB b dp p' (.slice E1 p'.bs.length e3) (.slice E2 p'.ss.length e4) k1' k2'))))))) ?_
      refine .seq (.seq ((.drawK [Pb b10 0 (.slice A1 t.bs.length d1) (.slice A2 t.ss.length d2)] (by intro y hy; simp at hy; subst hy; simp) (by kernel_rfl) (by kernel_rfl) ?_)))
      refine .v (fun _ f => .move rfl) (.v (fun _ f => .move rfl) (.v (fun _ f => .nei rfl rfl) (.v (fun _ f => .move rfl) (.or (b2 := false) 103 107 4 4 rfl rfl (fun g3 => .v (fun _ f => .move rfl) (.v (fun _ f => .move rfl) (.pc (v := .bool true) rfl rfl (fun w s => sameData_ok w M M2 ms.length m m2 ms (OwnS.rd om s (no := []) (fun y hy => by simp [hy]) (by simp)) (OwnS.rd omr s (no := []) (fun y hy => by simp [hy]) (by simp)) rfl (by omega)) (.v (fun _ f => .not rfl) (.nil ⟨rfl, rfl, rfl, rfl⟩))))) (.v (fun _ f => .move rfl) (.or (b2 := false) 109 118 9 9 rfl rfl (fun g4 => .v (fun _ f => .fieldAddr rfl) (.v (fun _ f => .load (v := .slice A1 t.bs.length d1) rfl (.one (hb := .sub f) rfl)) (.v (fun _ f => .move rfl) (.v (fun _ f => .move rfl) (.v (fun _ f => .indexAddr rfl rfl (by omega) (by omega)) (.v (fun _ f => .fieldAddr rfl) (.v (fun _ f => .load (v := .slice t.B1 t.bs.length t.c1) rfl (q1 _)) (.pc (v := .bool true) rfl rfl (fun w s => sameLevels_ok w A1 t.B1 t.bs.length d1 t.c1 t.bs (OwnS.rd z1 s (no := []) (fun y hy => by simp [hy]) (by simp)) (r1.keep0 s) rfl (by omega)) (.v (fun _ f => .not rfl) (.nil ⟨rfl, rfl, rfl, rfl⟩)))))))))) (.v (fun _ f => .move rfl) (.or (b2 := false) 120 129 9 9 rfl rfl (fun g5 => .v (fun _ f => .fieldAddr rfl) (.v (fun _ f => .load (v := .slice A2 t.ss.length d2) rfl (.one (hb := .sub f) rfl)) (.v (fun _ f => .move rfl) (.v (fun _ f => .move rfl) (.v (fun _ f => .indexAddr rfl rfl (by omega) (by omega)) (.v (fun _ f => .fieldAddr rfl) (.v (fun _ f => .load (v := .slice t.B2 t.ss.length t.c2) rfl (q2 _)) (.pc (v := .bool true) rfl rfl (fun w s => sameLevels_ok w A2 t.B2 t.ss.length d2 t.c2 t.ss (OwnS.rd z2 s (no := []) (fun y hy => by simp [hy]) (by simp)) (r2.keep0 s) rfl (by omega)) (.v (fun _ f => .not rfl) (.nil ⟨rfl, rfl, rfl, rfl⟩)))))))))) (.nil ?_)))))))))
      refine .cond rfl (fun h3 => absurd h3 (by simp)) (fun h3 => .skip ?_)
      refine .seq ((.region (.v (.loadA (vs := pcells 0 (.slice A1 t.bs.length d1) (.slice A2 t.ss.length d2)) rfl .whole rfl) ?_)))
      refine .ef (.callT (y1 ++ y2) rfl rfl (fun w s => wipe_ok w 0 (.slice A1 t.bs.length d1) (.slice A2 t.ss.length d2) t.bs.length t.ss.length y1 y2 z1.any z2.any (by omega))) ?_
      rintro _ _ ⟨_, rfl, rfl⟩
      refine .nil ?_
      refine .keep (Rb r dp p' (.slice D1 p'.bs.length e1) (.slice D2 p'.ss.length e2) :: (j1' ++ (j2' ++ (hm ++ PubB b dp p' (.slice E1 p'.bs.length e3) (.slice E2 p'.ss.length e4) k1' k2')))) ?_
      refine .seq (.seq ((.region (.v (.assign rfl) (.nil ?_)))))
      refine .block (.loop (X := Nat × Hp) (fun x => [(1, .slice (some ⟨bt, ot, none⟩) len cap), (5, .pointer (some ⟨b, 0, none⟩)), (7, .pointer (some ⟨r, 0, none⟩)), (9, .int .i64 i), (12, .slice M ms.length m), (17, .int .i64 x.1)]) (fun x => Rb r dp p' (.slice D1 p'.bs.length e1) (.slice D2 p'.ss.length e2) :: (j1' ++ (j2' ++ (x.2 ++ PubB b dp p' (.slice E1 p'.bs.length e3) (.slice E2 p'.ss.length e4) k1' k2')))) (fun x => x.1 ≤ ms.length ∧ AnyS 24 6 (.slice M ms.length m) ms.length x.2) (fun x => ms.length - x.1) ⟨0, hm⟩ ⟨by simp, ⟨_, om⟩⟩ (.cons rfl (.cons rfl (.cons rfl (.cons rfl (.cons rfl (.cons rfl (.nil _))))))) (fun _ s => s) ?_)
      rintro ⟨k, h⟩ ⟨hk, hh⟩
      dsimp only at hk hh ⊢
      refine .seq (.seq ((.region (.v (.move rfl) (.v (.move rfl) (.v (.len rfl) (.v (.lss rfl rfl) (.nil ?_))))))))
      refine .cond_dec rfl (fun h4 => .skip ?_) (fun h4 => .exit ?_)
      · obtain ⟨bm, ox, lx, rfl, rfl, hlx, hput⟩ := hh.put (i := k) (by omega)
        refine .seq (.block ((.region (.v (.move rfl) (.v (.move rfl) (.v (.build (out := dcells 4715 0 0 0 0 0) rfl rfl) (.v (.indexAddr rfl rfl (by omega) (by omega)) (.st (.storeA (l := lx) rfl rfl rfl rfl (by show ox + (k : Int).toNat * 6 + 6 ≤ lx.length; omega)) (.nil ?_)))))))))
        refine .region (.v (.move rfl) (.v (.addi rfl rfl (by omega)) (.v (.assign rfl) (.nil ?_))))
        refine ⟨⟨k + 1, _⟩, ⟨by show k + 1 ≤ _; omega, hput (dcells 4715 0 0 0 0 0) rfl⟩, by show ms.length - (k + 1) < _; omega, .cons rfl (.cons rfl (.cons rfl (.cons rfl (.cons rfl (.cons rfl (.nil _)))))), fun _ s => ?_⟩
        rw [Int.toNat_natCast] at s
        exact s
      · refine .seq ((.region (.v (.move rfl) ?_)))
        refine .ef (.call0 rfl rfl fun w s => Picture_ok w b dp p' E1 E2 e3 e4 (Rd.blk (T := 105) s) (OwnS.rd o1' s (no := []) (fun y hy => by simp [hy]) (by simp)) (OwnS.rd o2' s (no := []) (fun y hy => by simp [hy]) (by simp)) (by omega)) ?_
        rintro _ _ ⟨_, ⟨G1, G2, g1, g2, x1, x2, rfl, rfl, s1, s2⟩, rfl⟩
        refine .nw .alloc fun b18 => (.st (.sw rfl rfl) (.nil ?_))
        refine .seq (.seq ((.region (.v (.loadA (vs := pcells p'.seq (.slice G1 p'.bs.length g1) (.slice G2 p'.ss.length g2)) rfl .whole rfl) (.v (.fieldAddr rfl) (.v (.loadA (vs := pcells p'.seq (.slice D1 p'.bs.length e1) (.slice D2 p'.ss.length e2)) rfl (.chunk fun j v hv => by rw [show 0 + 1 + j = j + 1 from by omega]; exact hv) rfl) (.pc (v := .bool true) rfl rfl (fun w s => samePicture_ok w G1 G2 D1 D2 g1 g2 e1 e2 p' (OwnS.rd s1 s (no := []) (fun y hy => by simp [hy]) (by simp)) (OwnS.rd s2 s (no := []) (fun y hy => by simp [hy]) (by simp)) (OwnS.rd w1' s (no := []) (fun y hy => by simp [hy]) (by simp)) (OwnS.rd w2' s (no := []) (fun y hy => by simp [hy]) (by simp)) (by omega)) (.v (.not rfl) (.nil ?_)))))))))
        refine .cond_false rfl (.skip ?_)
        refine .seq ((.region (.v (.loadA (vs := pcells p'.seq (.slice G1 p'.bs.length g1) (.slice G2 p'.ss.length g2)) rfl .whole rfl) ?_)))
        refine .ef (.callT (x1 ++ x2) rfl rfl (fun w s => wipe_ok w p'.seq (.slice G1 p'.bs.length g1) (.slice G2 p'.ss.length g2) p'.bs.length p'.ss.length x1 x2 s1.any s2.any (by omega))) ?_
        rintro _ _ ⟨_, rfl, rfl⟩
        refine .nil ?_
        refine .keep (LS.H b r dp ⟨i, p', .slice E1 p'.bs.length e3, .slice E2 p'.ss.length e4, k1', k2', .slice D1 p'.bs.length e1, .slice D2 p'.ss.length e2, j1', j2'⟩) ?_
        refine .seq ((.drawP [0, 2, 3, 1, 4, 5] [Rb r dp p' (.slice D1 p'.bs.length e1) (.slice D2 p'.ss.length e2)] (by intro y hy; simp at hy; subst hy; exact List.mem_cons_self) (by kernel_rfl) (by kernel_rfl) ?_))
        refine .v (fun _ f => .move rfl) (.v (fun _ f => .fieldAddr rfl) (.v (fun _ f => .loadA (vs := pcells p'.seq (.slice D1 p'.bs.length e1) (.slice D2 p'.ss.length e2)) rfl (.chunk (hb := .sub f) fun j v hv => by rw [show 0 + 1 + j = j + 1 from by omega]; exact hv) rfl) ?_))
        refine .cl rfl rfl (fun w s => Picture_ok w b dp p' E1 E2 e3 e4 (Rd.blk (T := 105) s) (OwnS.rd o1' s (no := []) (fun y hy => by simp [hy]) (by simp)) (OwnS.rd o2' s (no := []) (fun y hy => by simp [hy]) (by simp)) (by omega)) ?_
        rintro _ _ ⟨G1, G2, g1, g2, x1, x2, rfl, rfl, s1, s2⟩
        refine .pc (v := .bool true) rfl rfl (fun w s => samePicture_ok w G1 G2 D1 D2 g1 g2 e1 e2 p' (OwnS.rd s1 s (no := []) (fun y hy => by simp [hy]) (by simp)) (OwnS.rd s2 s (no := []) (fun y hy => by simp [hy]) (by simp)) (OwnS.rd w1' s (no := []) (fun y hy => by simp [hy]) (by simp)) (OwnS.rd w2' s (no := []) (fun y hy => by simp [hy]) (by simp)) (by omega)) (.v (fun _ f => .not rfl) (.nil ?_))
        refine .cond_false rfl (.skip ?_)
        refine .region (.v (.move rfl) (.v (.addi rfl rfl (by omega)) (.v (.assign rfl) (.nil ?_))))
        exact ⟨⟨i + 1, p', .slice E1 p'.bs.length e3, .slice E2 p'.ss.length e4, k1', k2', .slice D1 p'.bs.length e1, .slice D2 p'.ss.length e2, j1', j2'⟩, ⟨by show i + 1 ≤ len; omega, hq', f1', f2', hpl', o1', o2', w1', w2'⟩, by show len - (i + 1) < _; omega, .cons rfl (.cons rfl (.cons rfl (.cons rfl (.nil _)))), fun _ s => s.take⟩
    · refine .seq ((.region (.v (.assign rfl) (.nil ?_))))
      exact .ret ⟨[_], ⟨rfl, trivial⟩, rfl⟩
  · have hif : ¬ (1 ≤ d ∧ d ≤ 64) := hd
    refine .v (.move rfl) (.v (.extract rfl rfl) (.v (.extract rfl rfl) (.v (.assign rfl) (.v (.assign rfl) (.nil ?_)))))
    refine .seq ((.region (.v (.move rfl) (.pc rfl rfl (fun w s => refNewPublisher_ok w d) ?_))))
    rw [if_neg hif, if_neg hif]
    refine .v (.move rfl) (.v (.extract rfl rfl) (.v (.extract rfl rfl) (.nw .alloc fun r => (.st (.sw rfl rfl) (.v (.assign rfl) (.nil ?_))))))
    refine .seq (.seq ((.region (.v (.move rfl) (.v (.move rfl) (.v (.nei rfl rfl) (.v (.move rfl) (.or (b2 := false) 32 37 5 5 rfl rfl (fun g1 => .v (.move rfl) (.v (.eql_ptr_nil rfl rfl) (.v (.move rfl) (.v (.nei rfl rfl) (.v (.neb rfl rfl) (.nil ⟨rfl, rfl, rfl, rfl⟩)))))) (.nil ?_)))))))))
    refine .cond_false rfl (.skip ?_)
    refine .seq (.seq ((.region (.v (.assign rfl) (.nil ?_)))))
    refine .block (.loop (X := Unit) (fun x => [(1, .slice A len cap), (5, .pointer none), (9, .int .i64 0)]) (fun x => []) (fun _ => True) (fun x => 0) () trivial (.cons rfl (.cons rfl (.cons rfl (.nil _)))) (fun _ s => s.take) ?_)
    intro _ _
    refine .seq (.seq ((.region (.v (.move rfl) (.v (.move rfl) (.v (.len rfl) (.v (.lss rfl rfl) (.v (.move rfl) (.and (b2 := false) 43 45 2 2 rfl rfl (fun g2 => .v (.move rfl) (.v (.neq_ptr_nil rfl rfl) (.nil ⟨rfl, rfl, rfl, rfl⟩))) (.nil ?_))))))))))
    refine .cond rfl (fun h2 => absurd h2 (by simp)) (fun h2 => .exit ?_)
    refine .seq ((.region (.v (.assign rfl) (.nil ?_))))
    exact .ret ⟨[_], ⟨rfl, trivial⟩, rfl⟩
end Go.Proofs.Ytinmhhonpflojaa

/- VN: slices of anything that come in: the cells of each element, and what each is read as. -/
namespace Go
namespace V
open Go.RowKit Go.ChangeShapes Go.WideShapes Go.ChangeAt
set_option linter.unusedVariables false

/-- these cells are read as 'd' -/
def TC {H : Type} (enc : TypeId × Value → H) (P : Program) (w : World) (base : Nat) (spare : Nat → Bool) (held : Bool) (t : TypeId) (cs : List Value) (d : DataW H) : Prop :=
  ∃ fuel p, DataW.trod enc P w base spare held fuel t cs = some (d, p)
section
variable {H : Type} {enc : TypeId × Value → H} {P : Program} {w : World} {base : Nat} {spare : Nat → Bool} {held : Bool}
theorem TC.of {t : TypeId} {v : Value} {cs : List Value} {d : DataW H} {p : List MemPlace} (h : DataW.Trod enc P w base spare held t v d p) (hc : v.cells = ⟨cs⟩) : TC enc P w base spare held t cs d := by
  obtain ⟨fuel, hf⟩ := h
  rw [hc] at hf
  exact ⟨fuel, p, hf⟩
theorem TC.int {t : TypeId} {k : IntKind} {cs : List Value} {d : DataW H} (ht : P.underlying t = some (.int k)) (h : TC enc P w base spare held t cs d) : ∃ n, cs = [.int k n] ∧ (Lit.int k n).wf = true := by
  obtain ⟨fuel, p, hf⟩ := h
  obtain ⟨n, h1, _, h2⟩ := DataW.trod_int ht hf
  exact ⟨n, h1, h2⟩
theorem TC.bool {t : TypeId} {cs : List Value} {d : DataW H} (ht : P.underlying t = some .bool) (h : TC enc P w base spare held t cs d) : ∃ b, cs = [.bool b] := by
  obtain ⟨fuel, p, hf⟩ := h
  obtain ⟨b, h1, _⟩ := DataW.trod_bool ht hf
  exact ⟨b, h1⟩
theorem TC.plain {t : TypeId} {cs : List Value} {d : DataW H} {ls : List Lf} (hl : leaves P 8 t = some ls) (hs : P.cellsOf t = ls.length) (h : TC enc P w base spare held t cs d) : okw ls cs := by
  obtain ⟨fuel, p, hf⟩ := h
  exact trod_plain 8 t ls fuel cs _ hl hs hf
/-- a struct's fields -/
theorem TC.struct {t : TypeId} {fs : Array Field} {cs : List Value} {d : DataW H} (ht : P.underlying t = some (.struct fs)) (h : TC enc P w base spare held t cs d) :
    ∃ ds, d = .agg ds ∧ ds.length = fs.size ∧ cs.length = P.cellsOf t ∧ ∀ (i : Nat) (f : Field) (di : DataW H), fs[i]? = some f → ds[i]? = some di → TC enc P w base spare held f.type ((cs.drop f.offset).take (P.cellsOf f.type)) di := by
  obtain ⟨fuel, p, hf⟩ := h
  obtain ⟨xs, n, _, hx, hl, hn, hf⟩ := DataW.trod_struct ht hf
  simp only [Prod.mk.injEq] at hx
  refine ⟨xs.map (·.1), hx.1, by simpa using hn, hl, fun i f di h1 h2 => ?_⟩
  have := hf i f h1
  rw [List.getElem?_map] at h2
  cases h3 : xs[i]? with
  | none => rw [h3] at h2; cases h2
  | some x =>
    rw [h3] at h2 this
    simp at h2
    exact ⟨n, x.2, by rw [this, ← h2]⟩
/-- a slice's elements -/
theorem TC.slice {t e m : Nat} {cs : List Value} {d : DataW H} (ht : P.underlying t = some (.slice e)) (hm : P.cellsOf e = m) (h0 : 0 < m) (h : TC enc P w base spare held t cs d) :
    ∃ A len cap, ∃ (css : List (List Value)) (ds : List (DataW H)), cs = [.slice A len cap] ∧ css.length = len ∧ ds.length = len ∧ (∀ c ∈ css, c.length = m) ∧ (∀ (i : Nat) (c : List Value), css[i]? = some c → ∀ (j : Nat) (v : Value), c[j]? = some v → ∃ b o, A = some ⟨b, o, none⟩ ∧ w.cell? ⟨b, o + (i * m + j), none⟩ = some v) ∧
      (d = .nil ∧ len = 0 ∨ ∃ sp, d = .slice ds sp) ∧ ∀ (i : Nat) (c : List Value) (di : DataW H), css[i]? = some c → ds[i]? = some di → TC enc P w base spare held e c di := by
  obtain ⟨fuel, p, hf⟩ := h
  rcases DataW.trod_slice ht hf with ⟨rfl, hx⟩ | ⟨a, len, cap, elems, rest, n, _, rfl, hx, hb, hl, hc, hn, he, _⟩
  · simp only [Prod.mk.injEq] at hx
    exact ⟨none, 0, 0, [], [], rfl, rfl, rfl, by simp, by simp, .inl ⟨hx.1, rfl⟩, by simp⟩
  · simp only [Prod.mk.injEq] at hx
    rw [hm] at he
    have each : ∀ i, i < len → ∃ c x, w.cells? base (a.add (i * m)) m = some c ∧ DataW.trod enc P w base spare held n e c = some x ∧ elems[i]? = some x := by
      intro i hi
      have := he i hi
      rw [List.getElem?_eq_getElem (by omega)] at this
      obtain ⟨c, h1, h2⟩ := Option.bind_eq_some_iff.1 this
      exact ⟨c, _, h1, h2, List.getElem?_eq_getElem (by omega)⟩
    have hcs : ∃ css : List (List Value), css.length = len ∧ ∀ i c, css[i]? = some c → ∃ x, w.cells? base (a.add (i * m)) m = some c ∧ DataW.trod enc P w base spare held n e c = some x ∧ elems[i]? = some x := by
      have key : ∀ k, k ≤ len → ∃ css : List (List Value), css.length = k ∧ ∀ i c, css[i]? = some c → ∃ x, w.cells? base (a.add (i * m)) m = some c ∧ DataW.trod enc P w base spare held n e c = some x ∧ elems[i]? = some x := by
        intro k
        induction k with
        | zero => intro _; exact ⟨[], rfl, by simp⟩
        | succ k ih =>
          intro hk
          obtain ⟨css, h1, h2⟩ := ih (by omega)
          obtain ⟨c, x, h3⟩ := each k (by omega)
          refine ⟨css ++ [c], by simp [h1], fun i c' hc' => ?_⟩
          by_cases hi : i < k
          · rw [List.getElem?_append_left (by omega)] at hc'
            exact h2 i c' hc'
          · rw [List.getElem?_append_right (by omega)] at hc'
            have hik : i = k := by
              have := (List.getElem?_eq_some_iff.1 hc').1
              simp at this; omega
            subst hik
            simp [h1] at hc'
            subst hc'
            exact ⟨x, h3⟩
      exact key len (Nat.le_refl _)
    obtain ⟨css, h1, h2⟩ := hcs
    refine ⟨some a, len, cap, css, elems.map (·.1), rfl, h1, by simpa using hn, fun c hc => ?_, fun i c hc j v hv => ?_, .inr ⟨_, hx.1⟩, fun i c di hc hdi => ?_⟩
    · obtain ⟨i, hi⟩ := List.mem_iff_getElem?.1 hc
      obtain ⟨x, h3, _⟩ := h2 i c hi
      exact (World.cells?_some h3).2.1
    · obtain ⟨x, h3, _⟩ := h2 i c hc
      obtain ⟨g1, g2, g3⟩ := World.cells?_some h3
      have hj := (List.getElem?_eq_some_iff.1 hv).1
      have hcell := g3 j (by omega)
      rw [hv] at hcell
      obtain ⟨b, o, sp⟩ := a
      have hsp : sp = none := by
        have hlt : 0 < css.length := by
          have := (List.getElem?_eq_some_iff.1 hc).1
          omega
        obtain ⟨x0, k3, _⟩ := h2 0 css[0] (List.getElem?_eq_getElem hlt)
        obtain ⟨_, k2, k4⟩ := World.cells?_some k3
        have := k4 0 h0
        rw [List.getElem?_eq_getElem (by omega)] at this
        simpa [Addr.add] using World.cell?_spot this
      subst hsp
      refine ⟨b, o, rfl, ?_⟩
      rw [add_none, add_none, Nat.add_assoc] at hcell
      exact hcell
    · obtain ⟨x, h3, h4, h5⟩ := h2 i c hc
      rw [List.getElem?_map, h5] at hdi
      simp at hdi
      exact ⟨n, x.2, by rw [h4, ← hdi]⟩
end
/-- one for each number below n -/
theorem list_of {α : Type} {Q : Nat → α → Prop} (n : Nat) (h : ∀ i, i < n → ∃ x, Q i x) : ∃ l : List α, l.length = n ∧ ∀ (i : Nat) (x : α), l[i]? = some x → Q i x := by
  induction n with
  | zero => exact ⟨[], rfl, by simp⟩
  | succ n ih =>
    obtain ⟨l, h1, h2⟩ := ih fun i hi => h i (by omega)
    obtain ⟨x, hx⟩ := h n (by omega)
    refine ⟨l ++ [x], by simp [h1], fun i y hy => ?_⟩
    by_cases hi : i < n
    · rw [List.getElem?_append_left (by omega)] at hy
      exact h2 i y hy
    · rw [List.getElem?_append_right (by omega)] at hy
      have hlt := (List.getElem?_eq_some_iff.1 hy).1
      simp at hlt
      have : i = n := by omega
      subst this
      simp [h1] at hy
      subst hy
      exact hx
section
variable {H : Type} {enc : TypeId × Value → H} {P : Program} {w : World} {base : Nat} {spare : Nat → Bool} {held : Bool}
/-- bytes -/
theorem TC.bytes {t e : Nat} {cs : List Value} {d : DataW H} (ht : P.underlying t = some (.slice e)) (he : P.underlying e = some (.int .u8)) (hm : P.cellsOf e = 1) (h : TC enc P w base spare held t cs d) :
    ∃ A c ys, cs = [.slice A (List.length ys) c] ∧ Rd w [] A (byts ys) ∧ (d = .nil ∧ ys = [] ∨ ∃ ds sp, d = .slice ds sp ∧ ds.length = ys.length) := by
  obtain ⟨A, len, cap, css, ds, h1, h2, h3, h4, h5, h6, h7⟩ := h.slice ht hm (by omega)
  obtain ⟨ys, hy1, hy2⟩ := list_of (Q := fun i (y : BitVec 8) => css[i]? = some [.int .u8 y.toNat]) len (fun i hi => by
    have hc := List.getElem?_eq_getElem (show i < css.length by omega)
    have hd := List.getElem?_eq_getElem (show i < ds.length by omega)
    obtain ⟨n, hn, hw⟩ := (h7 i _ _ hc hd).int he
    have := wf_u8 hw
    refine ⟨BitVec.ofNat 8 n.toNat, ?_⟩
    rw [hc, hn]
    simp
    omega)
  refine ⟨A, cap, ys, by rw [h1, hy1], fun j v hv => ?_, ?_⟩
  · have hj : j < ys.length := by have := (List.getElem?_eq_some_iff.1 hv).1; simpa [byts_length] using this
    rw [byts_get hj] at hv
    have h8 := hy2 j _ (List.getElem?_eq_getElem hj)
    obtain ⟨b, o, e1, e2⟩ := h5 j _ h8 0 v (by simpa using hv)
    exact ⟨b, o, e1, by simp, by simpa using e2⟩
  · rcases h6 with ⟨e1, e2⟩ | ⟨sp, e1⟩
    · exact .inl ⟨e1, List.eq_nil_of_length_eq_zero (by omega)⟩
    · exact .inr ⟨ds, sp, e1, by omega⟩
end
end V
end Go

/- VT: lists of plain records that come in; what their lengths are held to. -/
namespace Go
namespace V
open Go.RowKit Go.ChangeShapes Go.WideShapes Go.ChangeAt
set_option linter.unusedVariables false

theorem flatten_get {m : Nat} : ∀ (rs : List (List Value)), (∀ r ∈ rs, r.length = m) → ∀ (k : Nat) (v : Value), rs.flatten[k]? = some v → ∃ i j r, rs[i]? = some r ∧ r[j]? = some v ∧ k = i * m + j
  | [], _, k, v, h => by simp at h
  | r :: rs, hm, k, v, h => by
    rw [List.flatten_cons] at h
    by_cases hk : k < r.length
    · rw [List.getElem?_append_left hk] at h
      exact ⟨0, k, r, rfl, h, by simp⟩
    · rw [List.getElem?_append_right (by omega)] at h
      obtain ⟨i, j, r', h1, h2, h3⟩ := flatten_get rs (fun r hr => hm r (List.mem_cons_of_mem _ hr)) _ v h
      have := hm r List.mem_cons_self
      exact ⟨i + 1, j, r', by simpa using h1, h2, by rw [Nat.succ_mul]; omega⟩
theorem map_of {α β : Type} {f : α → β} {Q : α → Prop} : ∀ (rs : List β), (∀ r ∈ rs, ∃ x, r = f x ∧ Q x) → ∃ l : List α, rs = l.map f ∧ ∀ x ∈ l, Q x
  | [], _ => ⟨[], rfl, by simp⟩
  | r :: rs, h => by
    obtain ⟨x, h1, h2⟩ := h r List.mem_cons_self
    obtain ⟨l, h3, h4⟩ := map_of rs fun r hr => h r (List.mem_cons_of_mem _ hr)
    exact ⟨x :: l, by simp [h1, h3], fun y hy => by rcases List.mem_cons.1 hy with rfl | hy; exact h2; exact h4 y hy⟩
theorem okw_length : ∀ {ls : List Lf} {cs : List Value}, okw ls cs → cs.length = ls.length
  | [], [], _ => rfl
  | l :: ls, c :: cs, h => by have := okw_length h.2; simp [this]
  | [], _ :: _, h => h.elim
  | _ :: _, [], h => h.elim
section
variable {H : Type} {enc : TypeId × Value → H} {P : Program} {w : World} {base : Nat} {spare : Nat → Bool} {held : Bool}
/-- a slice of plain records -/
theorem TC.recs {t e : Nat} {ls : List Lf} {cs : List Value} {d : DataW H} (ht : P.underlying t = some (.slice e)) (hl : leaves P 8 e = some ls) (hs : P.cellsOf e = ls.length) (h0 : 0 < ls.length) (h : TC enc P w base spare held t cs d) :
    ∃ A cap, ∃ rs : List (List Value), cs = [.slice A rs.length cap] ∧ (∀ r ∈ rs, okw ls r) ∧ Rd w [] A rs.flatten ∧ (d = .nil ∧ rs = [] ∨ ∃ ds sp, d = .slice ds sp ∧ ds.length = rs.length) := by
  obtain ⟨A, len, cap, css, ds, h1, h2, h3, h4, h5, h6, h7⟩ := h.slice ht hs h0
  refine ⟨A, cap, css, by rw [h1, h2], fun r hr => ?_, fun k v hv => ?_, ?_⟩
  · obtain ⟨i, hi, rfl⟩ := List.mem_iff_getElem.1 hr
    exact (h7 i _ _ (List.getElem?_eq_getElem hi) (List.getElem?_eq_getElem (by omega))).plain hl hs
  · obtain ⟨i, j, r, e1, e2, rfl⟩ := flatten_get css h4 k v hv
    obtain ⟨b, o, e3, e4⟩ := h5 i r e1 j v e2
    exact ⟨b, o, e3, by simp, e4⟩
  · rcases h6 with ⟨e1, e2⟩ | ⟨sp, e1⟩
    · exact .inl ⟨e1, List.eq_nil_of_length_eq_zero (by omega)⟩
    · exact .inr ⟨ds, sp, e1, by omega⟩
/-- the weights of a struct's parts -/
theorem sized_agg {ts : List TypeId} {ds : List (DataW H)} (h : (DataW.weightsEach P ts ds).all (· ≤ reachBytes) = true) {j : Nat} {t : TypeId} {fs : Array Field} {parts : List (DataW H)} (ht : ts[j]? = some t) (hd : ds[j]? = some (.agg parts)) (hu : P.underlying t = some (.struct fs)) :
    (DataW.weightsEach P (fs.toList.map (·.type)) parts).all (· ≤ reachBytes) = true := by
  rw [List.all_eq_true]
  intro x hx
  exact List.all_eq_true.1 h _ (DataW.weights_mem_each ht hd x (by simp only [DataW.weights, hu]; exact hx))
theorem sized_len {ts : List TypeId} {ds : List (DataW H)} (h : (DataW.weightsEach P ts ds).all (· ≤ reachBytes) = true) {j n : Nat} {t e : TypeId} {d : DataW H} (ht : ts[j]? = some t) (hd : ds[j]? = some d) (hu : P.underlying t = some (.slice e))
    (hk : d = .nil ∧ n = 0 ∨ ∃ es sp, d = .slice es sp ∧ es.length = n) : n * P.bytesOf e ≤ reachBytes := by
  rcases hk with ⟨_, rfl⟩ | ⟨es, sp, rfl, rfl⟩
  · simp
  · have := sized_slice h ht hd hu
    have h2 : es.length * P.bytesOf e ≤ (es.length + sp.length) * P.bytesOf e := Nat.mul_le_mul_right _ (by omega)
    omega
end
end V
end Go

/- VB: slices that come in: they have room for what they hold. -/
namespace Go
namespace V
open Go.RowKit Go.ChangeShapes Go.WideShapes
set_option linter.unusedVariables false
set_option linter.unusedSimpArgs false
section
variable {P : Program} {H : Type} {enc : TypeId × Value → H} {w : World} {base : Nat} {spare : Nat → Bool} {held : Bool}
theorem TC.cap {t e len cap : Nat} {A : Option Addr} {d : DataW H} (ht : P.underlying t = some (.slice e)) (h : TC enc P w base spare held t [.slice A len cap] d) : len ≤ cap := by
  obtain ⟨fuel, p, hf⟩ := h
  rcases DataW.trod_slice ht hf with ⟨e1, hx⟩ | ⟨a, len', cap', elems, rest, n, _, e1, hx, hb, hl, hc, hn, he, _⟩
  · simp at e1; omega
  · simp at e1
    obtain ⟨rfl, rfl, rfl⟩ := e1
    omega
/-- a slice of plain records, with its room -/
theorem TC.recsK {t e : Nat} {ls : List Lf} {cs : List Value} {d : DataW H} (ht : P.underlying t = some (.slice e)) (hl : leaves P 8 e = some ls) (hs : P.cellsOf e = ls.length) (h0 : 0 < ls.length) (h : TC enc P w base spare held t cs d) :
    ∃ A cap, ∃ rs : List (List Value), cs = [.slice A rs.length cap] ∧ (∀ r ∈ rs, okw ls r) ∧ Rd w [] A rs.flatten ∧ rs.length ≤ cap ∧ (d = .nil ∧ rs = [] ∨ ∃ ds sp, d = .slice ds sp ∧ ds.length = rs.length) := by
  obtain ⟨A, cap, rs, rfl, h2, h3, h4⟩ := h.recs ht hl hs h0
  exact ⟨A, cap, rs, rfl, h2, h3, TC.cap ht h, h4⟩
end
theorem okw_i {k : IntKind} {ls : List Lf} {cs : List Value} (h : okw (.i k :: ls) cs) : ∃ a cs', cs = .int k a :: cs' ∧ (Lit.int k a).wf = true ∧ okw ls cs' := by
  match cs, h with
  | .int _ a :: cs', ⟨⟨h1, w1⟩, h2⟩ => subst h1; exact ⟨a, cs', rfl, w1, h2⟩
theorem okw_b {ls : List Lf} {cs : List Value} (h : okw (.b :: ls) cs) : ∃ a cs', cs = .bool a :: cs' ∧ okw ls cs' := by
  match cs, h with
  | .bool a :: cs', ⟨h1, h2⟩ => exact ⟨a, cs', rfl, h2⟩
theorem okw_nil {cs : List Value} (h : okw [] cs) : cs = [] := by
  match cs, h with
  | [], _ => rfl
end V
end Go

/- How many values arguments hold; slices of records as they come in. -/
namespace Go.Proofs.Ytinmhhonpflojaa
open Go.V Go.ChangeShapes Go.WideShapes Go.ChangeAt
set_option linter.unusedVariables false
set_option linter.unusedSimpArgs false

theorem bulk_pos {H : Type} (d : DataW H) : 1 ≤ Rows.uptoBulk d := by
  cases d with
  | lit l => cases l <;> simp [Rows.uptoBulk]
  | _ => simp [Rows.uptoBulk]
theorem bulk_len {H : Type} : ∀ (ds : List (DataW H)), ds.length ≤ Rows.uptoBulkAll ds
  | [] => by simp
  | d :: ds => by
    have h1 := bulk_pos d
    have h2 := bulk_len ds
    simp only [Rows.uptoBulkAll, List.length_cons]
    omega
theorem bulk_get {H : Type} : ∀ {ds : List (DataW H)} {i : Nat} {d : DataW H}, ds[i]? = some d → Rows.uptoBulk d ≤ Rows.uptoBulkAll ds
  | d' :: ds, 0, d, h => by simp at h; subst h; simp [Rows.uptoBulkAll]
  | d' :: ds, i + 1, d, h => by
    have := bulk_get (ds := ds) (i := i) (by simpa using h)
    simp only [Rows.uptoBulkAll]
    omega
  | [], i, d, h => by simp at h
theorem bulk_sum {H α : Type} (f : α → Nat) : ∀ {ds : List (DataW H)} {l : List α}, l.length = ds.length → (∀ (i : Nat) (x : α) (d : DataW H), l[i]? = some x → ds[i]? = some d → f x ≤ Rows.uptoBulk d) → (l.map f).sum ≤ Rows.uptoBulkAll ds
  | [], [], _, _ => by simp
  | d :: ds, x :: l, h, k => by
    have h1 := k 0 x d rfl rfl
    have h2 := bulk_sum f (ds := ds) (l := l) (by simpa using h) (fun i x d hx hd => k (i + 1) x d (by simpa using hx) (by simpa using hd))
    simp only [List.map_cons, List.sum_cons, Rows.uptoBulkAll]
    omega
  | [], _ :: _, h, _ => by simp at h
  | _ :: _, [], h, _ => by simp at h
section
variable {P : Program} {H : Type} {enc : TypeId × Value → H} {w : World} {base : Nat} {spare : Nat → Bool} {held : Bool}
/-- plain records -/
theorem TC.list {α : Type} (f : α → List Value) (Q : α → Prop) {t e : Nat} {ls : List Lf} {cs : List Value} {d : DataW H} (ht : P.underlying t = some (.slice e)) (hl : leaves P 8 e = some ls) (hs : P.cellsOf e = ls.length) (h0 : 0 < ls.length)
    (hf : ∀ r, okw ls r → ∃ x, r = f x ∧ Q x) (h : TC enc P w base spare held t cs d) :
    ∃ A cap, ∃ l : List α, cs = [.slice A l.length cap] ∧ (∀ x ∈ l, Q x) ∧ Rd w [] A (l.flatMap f) ∧ l.length ≤ cap ∧ l.length ≤ Rows.uptoBulk d := by
  obtain ⟨A, cap, rs, rfl, h2, h3, h5, h4⟩ := TC.recsK ht hl hs h0 h
  obtain ⟨l, rfl, hl⟩ := map_of (f := f) (Q := Q) rs fun r hr => hf r (h2 r hr)
  refine ⟨A, cap, l, by rw [List.length_map], hl, by rw [List.flatMap_def]; exact h3, by simpa using h5, ?_⟩
  rcases h4 with ⟨e1, e2⟩ | ⟨ds, sp, rfl, e2⟩
  · have : l = [] := by simpa using e2
    subst this; simp
  · have := bulk_len ds
    simp only [Rows.uptoBulk]
    rw [List.length_map] at e2
    omega
/-- records of whatever -/
theorem TC.listN {α : Type} (f : α → List Value) (Q : α → DataW H → Prop) {t e m : Nat} {cs : List Value} {d : DataW H} (ht : P.underlying t = some (.slice e)) (hm : P.cellsOf e = m) (h0 : 0 < m)
    (hf : ∀ c di, TC enc P w base spare held e c di → ∃ x, c = f x ∧ Q x di) (h : TC enc P w base spare held t cs d) :
    ∃ A cap, ∃ l : List α, cs = [.slice A l.length cap] ∧ Rd w [] A (l.flatMap f) ∧ l.length ≤ cap ∧ l.length ≤ Rows.uptoBulk d ∧ (∀ x ∈ l, ∃ di, Q x di ∧ Rows.uptoBulk di ≤ Rows.uptoBulk d) ∧
      ∀ g : α → Nat, (∀ x di, Q x di → g x ≤ Rows.uptoBulk di) → (l.map g).sum ≤ Rows.uptoBulk d := by
  obtain ⟨A, len, cap, css, ds, rfl, h2, h3, h4, h5, h6, h7⟩ := TC.slice ht hm h0 h
  have hcap := TC.cap ht h
  obtain ⟨l, hl1, hl2⟩ := list_of (Q := fun i (x : α) => css[i]? = some (f x) ∧ ∃ di, ds[i]? = some di ∧ Q x di) len (fun i hi => by
    have hc := List.getElem?_eq_getElem (show i < css.length by omega)
    have hd := List.getElem?_eq_getElem (show i < ds.length by omega)
    obtain ⟨x, e1, e2⟩ := hf _ _ (h7 i _ _ hc hd)
    exact ⟨x, by rw [hc, e1], _, hd, e2⟩)
  have hcss : css = l.map f := by
    apply List.ext_getElem?
    intro i
    by_cases hi : i < len
    · have hx := List.getElem?_eq_getElem (show i < l.length by omega)
      rw [(hl2 i _ hx).1, List.getElem?_map, hx]; rfl
    · rw [List.getElem?_eq_none (by omega), List.getElem?_eq_none (by simp; omega)]
  have hb : ∀ di ∈ ds, Rows.uptoBulk di ≤ Rows.uptoBulk d := by
    intro di hdi
    rcases h6 with ⟨_, e2⟩ | ⟨sp, rfl⟩
    · have : ds = [] := List.eq_nil_of_length_eq_zero (by omega)
      subst this; cases hdi
    · obtain ⟨i, hi, rfl⟩ := List.mem_iff_getElem.1 hdi
      have := bulk_get (List.getElem?_eq_getElem hi)
      simp only [Rows.uptoBulk]
      omega
  refine ⟨A, cap, l, by rw [hl1], fun k v hv => ?_, by omega, ?_, fun x hx => ?_, fun g hg => ?_⟩
  · rw [List.flatMap_def, ← hcss] at hv
    obtain ⟨i, j, r, e1, e2, rfl⟩ := flatten_get css h4 k v hv
    obtain ⟨b, o, e3, e4⟩ := h5 i r e1 j v e2
    exact ⟨b, o, e3, by simp, e4⟩
  · rcases h6 with ⟨_, e2⟩ | ⟨sp, rfl⟩
    · have := bulk_pos d; omega
    · have := bulk_len ds
      simp only [Rows.uptoBulk]
      omega
  · obtain ⟨i, hi, rfl⟩ := List.mem_iff_getElem.1 hx
    obtain ⟨-, di, hdi, hq⟩ := hl2 i _ (List.getElem?_eq_getElem hi)
    exact ⟨di, hq, hb _ (List.mem_of_getElem? hdi)⟩
  · rcases h6 with ⟨_, e2⟩ | ⟨sp, rfl⟩
    · have : l = [] := List.eq_nil_of_length_eq_zero (by omega)
      subst this; simp
    · have := bulk_sum g (ds := ds) (l := l) (by omega) (fun i x di hx hdi => by
        obtain ⟨-, di', hdi', hq⟩ := hl2 i x hx
        rw [hdi] at hdi'; cases hdi'
        exact hg x di hq)
      simp only [Rows.uptoBulk]
      omega
end
end Go.Proofs.Ytinmhhonpflojaa

/- Turns as they come in. -/
namespace Go.Proofs.Ytinmhhonpflojaa
open Go.V Go.ChangeShapes Go.WideShapes Go.ChangeAt
set_option linter.unusedVariables false
set_option linter.unusedSimpArgs false

def IU64 (x : Int) : Prop := 0 ≤ x ∧ x ≤ 18446744073709551615
theorem wfu64 {n : Int} (h : (Lit.int .u64 n).wf = true) : IU64 n := by
  simp [Lit.wf, IntKind.min, IntKind.max, IntKind.bits, IntKind.signed] at h; unfold IU64; omega
theorem okw_lv {cs : List Value} (h : okw LL cs) : ∃ v : Lv, cs = v.cells ∧ IU64 v.q := by
  match cs, h with
  | [.int _ a, .int _ b, .int _ c], ⟨⟨h1, w1⟩, ⟨h2, w2⟩, ⟨h3, w3⟩, _⟩ =>
    subst h1; subst h2; subst h3
    exact ⟨⟨a, b, c⟩, rfl, wfu64 w2⟩
abbrev VL : List Lf := [.i .u64, .i .i64, .i .u64, .i .u64, .i .u64, .i .u32, .i .i64, .i .i64, .i .i64, .i .u64, .i .u64, .i .i64, .i .i64]
theorem okw_ev {cs : List Value} (h : okw VL cs) : ∃ v : Ev, cs = v.cells ∧ True := by
  obtain ⟨a, cs, rfl, w1, h⟩ := okw_i h
  obtain ⟨b, cs, rfl, w2, h⟩ := okw_i h
  obtain ⟨c, cs, rfl, w3, h⟩ := okw_i h
  obtain ⟨d, cs, rfl, w4, h⟩ := okw_i h
  obtain ⟨e, cs, rfl, w5, h⟩ := okw_i h
  obtain ⟨f, cs, rfl, w6, h⟩ := okw_i h
  obtain ⟨g, cs, rfl, w7, h⟩ := okw_i h
  obtain ⟨i, cs, rfl, w8, h⟩ := okw_i h
  obtain ⟨j, cs, rfl, w9, h⟩ := okw_i h
  obtain ⟨k, cs, rfl, w10, h⟩ := okw_i h
  obtain ⟨l, cs, rfl, w11, h⟩ := okw_i h
  obtain ⟨m, cs, rfl, w12, h⟩ := okw_i h
  obtain ⟨n, cs, rfl, w13, h⟩ := okw_i h
  have := okw_nil h
  subst this
  exact ⟨⟨a, b, c, d, e, f, g, i, j, k, l, m, n⟩, rfl, trivial⟩
section
variable {H : Type} {enc : TypeId × Value → H} {w : World} {base : Nat} {spare : Nat → Bool} {held : Bool}
set_option maxRecDepth 20000 in
theorem read_turns {cs : List Value} {d : DataW H} (h : TC enc Try.prog w base spare held 34 cs d) (hk : Rows.uptoBulk d ≤ 1048576) :
    ∃ A cap, ∃ l : List TD, cs = [.slice A l.length cap] ∧ Rd w [] A (l.flatMap TD.cells) ∧ l.length ≤ 1048576 ∧ ∀ t ∈ l, TD.R w t := by
  have hz : Try.prog.cellsOf 38 = 1 := by kernel_rfl
  have hz2 : Try.prog.cellsOf 46 = 1 := by kernel_rfl
  obtain ⟨A, cap, l, h1, h2, h3, h4, h5, h6⟩ := TC.listN (f := TD.cells) (Q := fun t di => Rd w [] t.B1 (lrows t.bs) ∧ Rd w [] t.B2 (lrows t.ss) ∧ Rd w [] t.Be (erows t.evs) ∧ t.bs.length ≤ t.c1 ∧ t.ss.length ≤ t.c2 ∧ t.bs.length + t.ss.length + t.evs.length ≤ Rows.uptoBulk di) Try.underlying34 (m := 3) (by kernel_rfl) (by omega) (fun c di hc => by
    obtain ⟨ds, e1, e2, e3, he⟩ := hc.struct Try.underlying48
    match ds, e2 with
    | [d1, d2, d3], _ =>
    match c, e3 with
    | [x1, x2, x3], _ =>
    obtain ⟨B1, c1, bs, g1, -, r1, k1, n1⟩ := TC.list Lv.cells (fun v => IU64 v.q) (ls := LL) (e := 109) (by kernel_rfl) (by kernel_rfl) (by kernel_rfl) (by decide) (fun r hr => okw_lv hr) (he 0 _ d1 rfl rfl)
    obtain ⟨B2, c2, ss, g2, -, r2, k2, n2⟩ := TC.list Lv.cells (fun v => IU64 v.q) (ls := LL) (e := 109) (by kernel_rfl) (by kernel_rfl) (by kernel_rfl) (by decide) (fun r hr => okw_lv hr) (he 1 _ d2 rfl rfl)
    obtain ⟨Be, ce, evs, g3, -, r3, k3, n3⟩ := TC.list Ev.cells (fun _ => True) (ls := VL) (e := 88) (by kernel_rfl) (by kernel_rfl) (by kernel_rfl) (by decide) (fun r hr => okw_ev hr) (he 2 _ d3 rfl rfl)
    have y1 : x1 = .slice B1 bs.length c1 := by simpa [hz] using g1
    have y2 : x2 = .slice B2 ss.length c2 := by simpa [hz] using g2
    have y3 : x3 = .slice Be evs.length ce := by simpa [hz2] using g3
    subst y1; subst y2; subst y3
    refine ⟨⟨B1, c1, B2, c2, Be, ce, bs, ss, evs⟩, rfl, r1, r2, r3, k1, k2, ?_⟩
    rw [e1]
    simp only [Rows.uptoBulk, Rows.uptoBulkAll]
    show bs.length + ss.length + evs.length ≤ _
    omega) h
  refine ⟨A, cap, l, h1, h2, by omega, fun t ht => ?_⟩
  obtain ⟨di, ⟨q1, q2, q3, q4, q5, q6⟩, q7⟩ := h5 t ht
  exact ⟨q1, q2, q3, q4, q5, by omega⟩
end
end Go.Proofs.Ytinmhhonpflojaa
