/- Texts that the row RFeedFrames stands on: QRest, QOrd, QRValid, QClone, QCopy, QCopied, QOrders, QBooks, QNew, QValid, QValid2, QChecks, QBk, QRef, QSlices, QTell, FPub, VC, FLSlices, FSPlain, FDone, FSub, FDoes, FRPub, FLPub, FTake. -/
import Derived.Test.YtinmhhonpflojaaYFeedFramesB
import Derived.Test.YtinmhhonpflojaaYFeedFramesA
import Derived.Maps.RangeRun
/- rules.canRest and the document's order; better: what they compute. -/
namespace Go.Proofs.Ytinmhhonpflojaa
open Go.V
set_option linter.unusedVariables false
set_option linter.unusedSimpArgs false

/-- a resting order's cells -/
def rcells (id mb ty pr v hd pk : Int) : List Value := [.int .u64 id, .int .u32 mb, .int .i64 ty, .int .i64 pr, .int .u64 v, .int .u64 hd, .int .u64 pk]
/-- can it rest? -/
def Rests (id ty pr v hd pk high : Int) : Prop :=
  (1 ≤ id ∧ id ≤ high) ∧ (ty = 1 ∨ ty = 5) ∧ (0 ≤ pr ∧ pr < 262144) ∧ (1 ≤ v ∧ v ≤ 4294967295) ∧ pk ≤ 4294967295 ∧ v + hd ≤ 4294967295 ∧ (pk = 0 ∧ hd = 0 ∨ 0 < pk ∧ v ≤ pk ∧ v + hd ≤ 256 * pk)
instance (id ty pr v hd pk high : Int) : Decidable (Rests id ty pr v hd pk high) := by unfold Rests; infer_instance
/-- u64 -/
def U (x : Int) : Prop := 0 ≤ x ∧ x ≤ 18446744073709551615
theorem better_ok (w : World) (s p q : Int) : Is Try.prog 87 [.int .i64 s, .int .i64 p, .int .i64 q] w (.bool (if s = 1 then decide (q < p) else decide (p < q))) := by
  refine Does.pure (Does.of (n := 15) Try.func87 rfl rfl rfl rfl ?_)
  refine .seq ((.region (.v (.assign rfl) (.nil ?_))))
  refine .seq (.seq ((.region (.v (.move rfl) (.v (.eqi rfl rfl) (.nil ?_))))))
  refine .cond_dec rfl (fun h1 => ?_) (fun h1 => .skip ?_)
  · refine .seq ((.region (.v (.move rfl) (.v (.move rfl) (.v (.gtr rfl rfl) (.v (.assign rfl) (.nil ?_)))))))
    exact .ret ⟨[_], ⟨rfl, trivial⟩, by rw [if_pos h1]; rfl⟩
  · refine .seq ((.region (.v (.move rfl) (.v (.move rfl) (.v (.lss rfl rfl) (.v (.assign rfl) (.nil ?_)))))))
    exact .ret ⟨[_], ⟨rfl, trivial⟩, by rw [if_neg h1]; rfl⟩
end Go.Proofs.Ytinmhhonpflojaa

/- Sides of a book: lists of resting orders; the document's twice and sorted. -/
namespace Go.Proofs.Ytinmhhonpflojaa
open Go.V
set_option linter.unusedVariables false
set_option linter.unusedSimpArgs false

structure Ord where
  id : Int
  mb : Int
  ty : Int
  pr : Int
  v : Int
  hd : Int
  pk : Int
def Ord.cells (o : Ord) : List Value := rcells o.id o.mb o.ty o.pr o.v o.hd o.pk
def rows (l : List Ord) : List Value := l.flatMap Ord.cells
theorem rows_length (l : List Ord) : (rows l).length = l.length * 7 := flatMap_length _ 7 (fun _ => rfl) l
theorem rows_get (l : List Ord) (i j : Nat) (hi : i < l.length) (hj : j < 7) : (rows l)[i * 7 + j]? = (l[i].cells)[j]? := flatMap_get _ 7 (fun _ => rfl) l i j hi hj
/-- an order's field, where a side is read -/
theorem Rd.ord {w : World} {no : List Nat} {A : Option Addr} {l : List Ord} (h : Rd w no A (rows l)) (hn : 0 < l.length) :
    ∃ b o, A = some ⟨b, o, none⟩ ∧ b ∉ no ∧ ∀ (i : Nat) (hi : i < l.length) (j : Nat) (v : Value), j < 7 → (l[i].cells)[j]? = some v → w.cell? ⟨b, o + i * 7 + j, none⟩ = some v := by
  obtain ⟨b, o, e, hb, hc⟩ := h.base (by rw [rows_length]; omega)
  refine ⟨b, o, e, hb, fun i hi j v hj hv => ?_⟩
  have := hc (i * 7 + j) v (by rw [rows_get l i j hi hj]; exact hv)
  rw [Nat.add_assoc]; exact this
def bet (s p q : Int) : Bool := if s = 1 then decide (q < p) else decide (p < q)
/-- no number stands twice -/
def Dist (l : List Ord) : Prop := ∀ i, (hi : i < l.length) → ∀ j, (hj : j < i) → l[i].id ≠ l[j].id
instance (l : List Ord) : Decidable (Dist l) := by unfold Dist; infer_instance
/-- in their priority, as far as prices tell -/
def Srt (s : Int) (l : List Ord) : Prop := ∀ i, (hi : i < l.length) → 0 < i → bet s l[i].pr l[i - 1].pr = false
instance (s : Int) (l : List Ord) : Decidable (Srt s l) := by unfold Srt; infer_instance
end Go.Proofs.Ytinmhhonpflojaa

/- The document's Valid: what it computes. -/
namespace Go.Proofs.Ytinmhhonpflojaa
open Go.V
set_option linter.unusedVariables false
set_option linter.unusedSimpArgs false

/-- a book's cells -/
def bcells (cap meet : Int) (B S : Value) (high seq : Int) : List Value := [.int .i64 cap, .int .i64 meet, B, S, .int .u64 high, .int .u64 seq]
def Ord.wf (o : Ord) : Prop := U o.id ∧ U o.v ∧ U o.hd ∧ U o.pk
def Ord.rests (o : Ord) (high : Int) : Prop := Rests o.id o.ty o.pr o.v o.hd o.pk high
instance (o : Ord) (high : Int) : Decidable (o.rests high) := by unfold Ord.rests; infer_instance
def crossB : List Ord → List Ord → Bool
  | b :: _, s :: _ => decide (s.pr ≤ b.pr)
  | _, _ => false
def Vld (cap meet high : Int) (bs ss : List Ord) : Prop :=
  (1 ≤ cap ∧ cap ≤ 4096 ∧ 0 ≤ meet ∧ meet ≤ 3) ∧ (bs.length : Int) ≤ 4096 ∧ (ss.length : Int) ≤ 4096 ∧ (bs.length : Int) + (ss.length : Int) ≤ cap ∧ (∀ o ∈ bs ++ ss, o.rests high) ∧ Dist (bs ++ ss) ∧ Srt 1 bs ∧ Srt 2 ss ∧ crossB bs ss = false
instance (cap meet high : Int) (bs ss : List Ord) : Decidable (Vld cap meet high bs ss) := by unfold Vld; infer_instance
def vld (cap meet high : Int) (bs ss : List Ord) : Int := if Vld cap meet high bs ss then 0 else 120
theorem rows_app (a b : List Ord) : rows (a ++ b) = rows a ++ rows b := by simp [rows]
theorem rows_ones (l : List Ord) : ones (rows l) = true := by
  induction l with
  | nil => rfl
  | cons a l ih =>
    have e : rows (a :: l) = a.cells ++ rows l := rfl
    have h1 : ones a.cells = true := rfl
    simp only [ones] at *
    rw [e, List.all_append, h1, ih]; rfl
end Go.Proofs.Ytinmhhonpflojaa

/- slices.Clone of a side. -/
namespace Go.Proofs.Ytinmhhonpflojaa
open Go.V
set_option linter.unusedVariables false
set_option linter.unusedSimpArgs false

set_option maxRecDepth 10000 in
theorem clone_ok (w : World) (A : Option Addr) (len cap : Nat) (l : List Ord) (hx : Rd w [] A (rows l)) (hl : len = l.length) (hb : len ≤ 2513169434843) :
    Does Try.prog 95 [.slice A len cap] [] w (fun v hs => OwnS 134 7 v l.length (rows l) hs) := by
  refine Does.less (Does.of (n := 8) Try.func95 rfl rfl rfl rfl ?_)
  refine .seq ((.region (.v (.assign rfl) (.nil ?_))))
  refine .seq (.seq ((.region (.v (.move rfl) (.v (.eql_slice_nil rfl rfl) (.nil ?_))))))
  refine .cond rfl (fun h1 => ?_) (fun h1 => .skip ?_)
  · have hA : A = none := by simpa using h1
    subst hA
    have h0 : l.length = 0 := by
      have := congrArg List.length hx.empty
      rw [rows_length] at this
      simp only [List.length_nil] at this; omega
    have hl0 : l = [] := List.eq_nil_of_length_eq_zero h0
    subst hl0
    refine .seq ((.region (.v (.assign rfl) (.nil ?_))))
    exact .ret ⟨[_], ⟨rfl, trivial⟩, [], fun _ s => s, OwnS.nil _ _⟩
  · refine .seq ((.region (.ef (.buildSlice (out := []) rfl (by decide) rfl rfl) ?_)))
    rintro _ _ ⟨b6, rfl, rfl⟩
    refine .v (.move rfl) ?_
    refine .ef (.append (c := 0) (k := len) (vs := []) (news := rows l) (h := [(b6, .cells [] 134)]) (fr := []) rfl rfl ⟨rfl, .inr ⟨b6, 0, 0, [], rfl, rfl, by omega, by simp, by simp⟩⟩ (by exact List.Perm.refl _)
      (fun w' s => (hx.keep0 s).src (by rw [rows_length, hl]) (by omega)) (by rw [rows_length, hl]) (rows_ones _) (by omega) (by omega)) ?_
    rintro v _ ⟨h', k', rfl⟩
    refine .v (.assign rfl) (.nil ?_)
    refine .ret ⟨[_], ⟨rfl, trivial⟩, h', fun _ s => by simpa using s, ?_⟩
    rw [Nat.zero_add, hl] at k'
    exact k'
end Go.Proofs.Ytinmhhonpflojaa

/- bourseref09.Copy; (*rules.Book).Len. -/
namespace Go.Proofs.Ytinmhhonpflojaa
open Go.V
set_option linter.unusedVariables false
set_option linter.unusedSimpArgs false

set_option maxRecDepth 10000 in
theorem Len_ok (w : World) (b : Nat) (cap meet high seq : Int) (A1 A2 : Option Addr) (n1 n2 c1 c2 : Nat) (hn1 : n1 ≤ 2513169434843) (hn2 : n2 ≤ 2513169434843) :
    Does Try.prog 79 [.pointer (some ⟨b, 0, none⟩)] [(b, .cells (bcells cap meet (.slice A1 n1 c1) (.slice A2 n2 c2) high seq) 126)] w
      (fun u hs => u = .int .i64 (n1 + n2) ∧ hs = [(b, .cells (bcells cap meet (.slice A1 n1 c1) (.slice A2 n2 c2) high seq) 126)]) := by
  refine Does.of (n := 16) Try.func79 rfl rfl rfl rfl ?_
  refine .seq ((.region (.v (.assign rfl) (.nil ?_))))
  refine .seq ((.drawS (by kernel_rfl) (by kernel_rfl) (.v (.move rfl) (.v (.nilCheck rfl) (.v (.fieldAddr rfl) (.v (.fieldAddr rfl) (.v (.load rfl (.one rfl)) (.v (.len rfl) (.v (.move rfl) (.v (.nilCheck rfl) (.v (.fieldAddr rfl) (.v (.fieldAddr rfl) (.v (.load rfl (.one rfl)) (.v (.len rfl) (.v (.addi rfl rfl (by omega)) (.v (.assign rfl) (.nil ?_)))))))))))))))))
  exact .ret ⟨[_], ⟨rfl, trivial⟩, rfl, rfl⟩

end Go.Proofs.Ytinmhhonpflojaa

/- rules.copied and (*rules.Book).Book. -/
namespace Go.Proofs.Ytinmhhonpflojaa
open Go.V
set_option linter.unusedVariables false
set_option linter.unusedSimpArgs false

/-- a book whose sides are new -/
def NewBook (cap meet high seq : Int) (bs ss : List Ord) (v : Value) (hs : Hp) : Prop :=
  ∃ A1 A2 d1 d2 k1 k2, v = .agg ⟨bcells cap meet (.slice A1 bs.length d1) (.slice A2 ss.length d2) high seq⟩ ∧ hs = k2 ++ k1 ∧ OwnS 134 7 (.slice A1 bs.length d1) bs.length (rows bs) k1 ∧ OwnS 134 7 (.slice A2 ss.length d2) ss.length (rows ss) k2
theorem OwnS.sl {E m n : Nat} {v : Value} {vs : List Value} {h : Hp} (k : OwnS E m v n vs h) : ∃ A c, v = .slice A n c := by
  obtain ⟨A, c, rfl⟩ := k.slice
  exact ⟨A, c, rfl⟩
set_option maxRecDepth 10000 in
theorem copied_ok (w : World) (cap meet high seq : Int) (A1 A2 : Option Addr) (c1 c2 : Nat) (bs ss : List Ord) (h1 : Rd w [] A1 (rows bs)) (h2 : Rd w [] A2 (rows ss)) (hb1 : bs.length ≤ 2513169434843) (hb2 : ss.length ≤ 2513169434843) :
    Does Try.prog 88 [.agg ⟨bcells cap meet (.slice A1 bs.length c1) (.slice A2 ss.length c2) high seq⟩] [] w (NewBook cap meet high seq bs ss) := by
  refine Does.less (Does.of (n := 12) Try.func88 rfl rfl rfl rfl ?_)
  refine .seq ((.region (.nw (.box rfl rfl) fun b1 => (.nw .alloc fun b2 => (.nil ?_)))))
  refine .seq (.drawZ 7 [(b1, .cells (bcells cap meet (.slice A1 bs.length c1) (.slice A2 ss.length c2) high seq) 124)] (by intro p hp; simp at hp; subst hp; simp) (by kernel_rfl) ?_)
  refine .v 0 rfl (by kernel_rfl) (fun hs' f => .fieldAddr rfl) ?_
  refine .v 1 rfl (by kernel_rfl) (fun hs' f => .load (v := .slice A1 bs.length c1) rfl (.one (hb := .sub f) rfl)) ?_
  refine .v 3 rfl (by kernel_rfl) (fun hs' f => .fieldAddr rfl) ?_
  refine .v 4 rfl (by kernel_rfl) (fun hs' f => .load (v := .slice A2 ss.length c2) rfl (.one (hb := .sub f) rfl)) ?_
  refine .ef 2 rfl (by kernel_rfl) (.call0 rfl rfl fun w s => clone_ok w A1 bs.length c1 bs (h1.keep0 s) rfl hb1) ?_ (fun v hs' ⟨h, _, e⟩ f => by subst e; exact fun p hp => List.mem_append_right _ (f hp)) rfl
  rintro v1 _ ⟨k1, o1, rfl⟩
  refine .v 6 rfl (by kernel_rfl) (fun hs' f => .fieldAddr rfl) ?_
  refine .ef 5 rfl (by kernel_rfl) (.call0 rfl rfl fun w s => clone_ok w A2 ss.length c2 ss (h2.keep0 s) rfl hb2) ?_ (fun v hs' ⟨h, _, e⟩ f => by subst e; exact fun p hp => List.mem_append_right _ (f hp)) rfl
  rintro v2 _ ⟨k2, o2, rfl⟩
  obtain ⟨B1, d1, rfl⟩ := OwnS.sl o1
  obtain ⟨B2, d2, rfl⟩ := OwnS.sl o2
  refine .st rfl (by kernel_rfl) rfl (.store rfl rfl rfl (by simp [bcells])) ?_
  refine .v1 8 rfl (by kernel_rfl) (.fieldAddr rfl) ?_ rfl
  refine .st2 9 rfl (by kernel_rfl) rfl rfl (.store rfl rfl rfl (by simp [bcells])) ?_
  refine .done (by kernel_rfl) ?_
  refine .seq ((.region (.v (.loadA (vs := bcells cap meet (.slice B1 bs.length d1) (.slice B2 ss.length d2) high seq) rfl .whole rfl) (.st (.sw rfl rfl) (.nil ?_)))))
  refine .ret ⟨[_], ⟨⟨_, rfl, .inr ⟨6, _, inferInstance, rfl, rfl, .whole⟩⟩, trivial⟩, k2 ++ k1, fun _ s => s.sub ?_, B1, B2, d1, d2, k1, k2, rfl, rfl, o1, o2⟩
  exact List.Sublist.append_left (List.sublist_append_left _ _) _
end Go.Proofs.Ytinmhhonpflojaa

/- Two sides that read alike are alike. -/
namespace Go.Proofs.Ytinmhhonpflojaa
open Go.V
set_option linter.unusedVariables false
set_option linter.unusedSimpArgs false

abbrev OL : List Lf := [.i .u64, .i .u32, .i .i64, .i .i64, .i .u64, .i .u64, .i .u64]
theorem Ord.oks (o : Ord) : V.oks OL o.cells := ⟨rfl, rfl, rfl, rfl, rfl, rfl, rfl, trivial⟩
end Go.Proofs.Ytinmhhonpflojaa

/- Two books that read alike are alike. -/
namespace Go.Proofs.Ytinmhhonpflojaa
open Go.V
set_option linter.unusedVariables false
set_option linter.unusedSimpArgs false

theorem cfg_oks (c m : Int) : oks [.i .i64, .i .i64] [.int .i64 c, .int .i64 m] := ⟨rfl, rfl, trivial⟩
end Go.Proofs.Ytinmhhonpflojaa

/- rules.New and the document's. -/
namespace Go.Proofs.Ytinmhhonpflojaa
open Go.V
set_option linter.unusedVariables false
set_option linter.unusedSimpArgs false

def Cfg (c m : Int) : Prop := 1 ≤ c ∧ c ≤ 4096 ∧ 0 ≤ m ∧ m ≤ 3
instance (c m : Int) : Decidable (Cfg c m) := by unfold Cfg; infer_instance
/-- a book of a config without orders -/
def bnew (c m : Int) : List Value := bcells c m (.slice none 0 0) (.slice none 0 0) 0 0
theorem New_ok (w : World) (c m : Int) : Does Try.prog 30 [.agg ⟨[.int .i64 c, .int .i64 m]⟩] [] w (fun v hs => if Cfg c m then ∃ b, v = .tuple ⟨[.pointer (some ⟨b, 0, none⟩), .int .i64 0]⟩ ∧ hs = [(b, .cells (bnew c m) 126)] else v = .tuple ⟨[.pointer none, .int .i64 1]⟩ ∧ hs = []) := by
  refine Does.less (Does.of (n := 11) Try.func30 rfl rfl rfl rfl ?_)
  refine .seq ((.region (.nw (.box rfl rfl) fun b1 => (.v (.assign rfl) (.v (.assign rfl) (.nil ?_))))))
  refine .seq (.seq ((.region (.v (.loadA rfl .whole rfl) (.pc (v := .bool (decide (Cfg c m))) rfl rfl (fun w _ => configured_ok w c m) (.v (.not rfl) (.nil ?_)))))))
  refine .cond rfl (fun h1 => ?_) (fun h1 => .skip ?_)
  · have hc : ¬ Cfg c m := by simpa using h1
    refine .seq ((.region (.v (.assign rfl) (.v (.assign rfl) (.nil ?_)))))
    exact .ret ⟨[_, _], ⟨rfl, rfl, trivial⟩, [], fun _ s => s.sub (List.nil_sublist _), by rw [if_neg hc]; exact ⟨rfl, rfl⟩⟩
  · have hc : Cfg c m := by simpa using h1
    refine .seq ((.region (.v (.loadA rfl .whole rfl) (.v (.build (out := bnew c m) rfl rfl) (.v (.build (out := bnew c m) rfl rfl) (.nw (.box rfl rfl) fun b10 => (.v (.assign rfl) (.v (.assign rfl) (.nil ?_)))))))))
    exact .ret ⟨[_, _], ⟨rfl, rfl, trivial⟩, [(b10, .cells (bnew c m) 126)], fun _ s => s.sub (.cons_cons _ (List.nil_sublist _)), by rw [if_pos hc]; exact ⟨b10, rfl, rfl⟩⟩
end Go.Proofs.Ytinmhhonpflojaa

/- rules.Valid: what it computes. -/
namespace Go.Proofs.Ytinmhhonpflojaa
open Go.V
set_option linter.unusedVariables false
set_option linter.unusedSimpArgs false

/-- the numbers that were seen -/
def seenFrom (n : Nat) : List Ord → List ME
  | [] => []
  | o :: l => (o.id, .bool true, n) :: seenFrom (n + 1) l
theorem seen_app : ∀ (l : List Ord) (o : Ord) (n : Nat), seenFrom n (l ++ [o]) = seenFrom n l ++ [(o.id, .bool true, n + l.length)]
  | [], o, n => rfl
  | a :: l, o, n => by
    simp only [List.cons_append, seenFrom, seen_app l o (n + 1), List.length_cons]
    rw [show n + 1 + l.length = n + (l.length + 1) from by omega]
theorem mfind_seen (k : Int) : ∀ (l : List Ord) (n i : Nat), (mfind k (seenFrom n l) i).map (·.2) = if ∃ o ∈ l, o.id = k then some (.bool true) else none
  | [], n, i => by simp [seenFrom, mfind]
  | a :: l, n, i => by
    unfold seenFrom mfind
    by_cases h : k = a.id
    · subst h; simp
    · have hb : (k == a.id) = false := by simpa using h
      simp only [hb, Bool.false_eq_true, if_false]
      rw [mfind_seen k l (n + 1) (i + 1)]
      have : (∃ o ∈ a :: l, o.id = k) ↔ (∃ o ∈ l, o.id = k) := by
        constructor
        · rintro ⟨o, ho, e⟩
          rcases List.mem_cons.1 ho with rfl | ho
          · exact absurd e.symm h
          · exact ⟨o, ho, e⟩
        · rintro ⟨o, ho, e⟩; exact ⟨o, List.mem_cons_of_mem _ ho, e⟩
      by_cases hh : ∃ o ∈ l, o.id = k
      · rw [if_pos hh, if_pos (this.2 hh)]
      · rw [if_neg hh, if_neg (fun q => hh (this.1 q))]
theorem mget_seen (k : Int) (l : List Ord) : (mget k (seenFrom 0 l)).getD (.bool false) = .bool (decide (∃ o ∈ l, o.id = k)) := by
  unfold mget
  rw [mfind_seen]
  by_cases h : ∃ o ∈ l, o.id = k <;> simp [h]
theorem mset_seen (l : List Ord) (o : Ord) (h : ¬ ∃ x ∈ l, x.id = o.id) : mset o.id (.bool true) (seenFrom 0 l) l.length = (seenFrom 0 (l ++ [o]), (l ++ [o]).length) := by
  have hm := mfind_seen o.id l 0 0
  rw [if_neg h] at hm
  have hn : mfind o.id (seenFrom 0 l) 0 = none := by
    cases hf : mfind o.id (seenFrom 0 l) 0 with
    | none => rfl
    | some p => rw [hf] at hm; cases hm
  unfold mset
  rw [hn, seen_app]
  simp
/-- all of a side is right, next to what stood ahead -/
def SideOk (high : Int) (s : Int) (ahead l : List Ord) (n : Nat) : Prop :=
  ∀ i, (hi : i < l.length) → i < n → l[i].rests high ∧ (¬ ∃ x ∈ ahead ++ l.take i, x.id = l[i].id) ∧ (0 < i → bet s l[i].pr l[i - 1].pr = false)
theorem dist_of {ahead l : List Ord} {high s : Int} (h1 : Dist ahead) (h2 : SideOk high s ahead l l.length) : Dist (ahead ++ l) := by
  intro i hi j hj
  by_cases ha : i < ahead.length
  · rw [List.getElem_append_left ha, List.getElem_append_left (by omega)]
    exact h1 i ha j hj
  · have hi' : i - ahead.length < l.length := by simp at hi; omega
    have := (h2 (i - ahead.length) hi' hi').2.1
    rw [List.getElem_append_right (by omega)]
    intro e
    apply this
    refine ⟨(ahead ++ l)[j], ?_, e.symm⟩
    have : (ahead ++ l)[j] ∈ (ahead ++ l).take i := by
      rw [List.mem_iff_getElem]
      exact ⟨j, by simp at hi ⊢; omega, by simp⟩
    rw [List.take_append] at this
    rwa [List.take_of_length_le (by omega)] at this
theorem not_dist {ahead l : List Ord} {i : Nat} (hi : i < l.length) (h : ∃ x ∈ ahead ++ l.take i, x.id = l[i].id) (rest : List Ord) : ¬ Dist (ahead ++ l ++ rest) := by
  intro hd
  obtain ⟨x, hx, e⟩ := h
  obtain ⟨j, hj, rfl⟩ := List.mem_iff_getElem.1 hx
  simp at hj
  have hj2 : j < ahead.length + i := by omega
  refine hd (ahead.length + i) (by simp; omega) j hj2 ?_
  have e1 : (ahead ++ l ++ rest)[ahead.length + i]'(by simp; omega) = l[i] := by
    rw [List.getElem_append_left (by simp; omega), List.getElem_append_right (by omega)]
    simp
  have e2 : (ahead ++ l ++ rest)[j]'(by simp; omega) = (ahead ++ l.take i)[j]'(by simp; omega) := by
    rw [List.getElem_append_left (by simp; omega)]
    by_cases ha : j < ahead.length
    · rw [List.getElem_append_left ha, List.getElem_append_left ha]
    · rw [List.getElem_append_right (by omega), List.getElem_append_right (by omega)]
      simp
  rw [e1, e2, e]
end Go.Proofs.Ytinmhhonpflojaa

/- rules.Valid: the walk. -/
namespace Go.Proofs.Ytinmhhonpflojaa
open Go.V
set_option linter.unusedVariables false
set_option linter.unusedSimpArgs false

def ah (bs ss : List Ord) : Nat → List Ord
  | 0 => []
  | 1 => bs
  | _ => bs ++ ss
theorem side_facts (bs ss : List Ord) (A1 A2 : Option Addr) (c1 c2 : Nat) (high : Int) (w : World) (h1 : Rd w [] A1 (rows bs)) (h2 : Rd w [] A2 (rows ss)) (hb1 : bs.length ≤ 2513169434843) (hb2 : ss.length ≤ 2513169434843) (s : Nat) (hs : s < 2) :
    ∃ (L : List Ord) (A : Option Addr) (c : Nat), ([.slice A1 bs.length c1, .slice A2 ss.length c2] : List Value)[s]? = some (.slice A L.length c) ∧ Rd w [] A (rows L) ∧ L.length ≤ 2513169434843 ∧ (∀ o ∈ L, o ∈ bs ++ ss) ∧
      (∀ (i : Nat) (hi : i < L.length), (∃ x ∈ ah bs ss s ++ L.take i, x.id = L[i].id) → ¬ Dist (bs ++ ss)) ∧ (∀ (i : Nat) (hi : i < L.length), 0 < i → bet ((s : Int) + 1) L[i].pr L[i - 1].pr = true → ¬ (Srt 1 bs ∧ Srt 2 ss)) ∧
      ah bs ss (s + 1) = ah bs ss s ++ L ∧ (SideOk high ((s : Int) + 1) (ah bs ss s) L L.length → (s = 0 → Srt 1 bs) ∧ (s = 1 → Srt 2 ss)) := by
  match s, hs with
  | 0, _ =>
    refine ⟨bs, A1, c1, rfl, h1, hb1, fun o ho => by simp [ho], fun i hi h => ?_, fun i hi h0 hb k => ?_, by simp [ah], fun k => ⟨fun _ i hi h0 => ?_, fun h => by cases h⟩⟩
    · have := not_dist hi h ss
      simpa [ah] using this
    · have := k.1 i hi h0
      simp at hb
      rw [hb] at this; cases this
    · have := (k i hi hi).2.2 h0
      simpa using this
  | 1, _ =>
    refine ⟨ss, A2, c2, rfl, h2, hb2, fun o ho => by simp [ho], fun i hi h => ?_, fun i hi h0 hb k => ?_, rfl, fun k => ⟨fun h => (nomatch h), fun _ i hi h0 => ?_⟩⟩
    · have := not_dist hi h []
      simpa [ah] using this
    · have := k.2 i hi h0
      simp at hb
      rw [hb] at this; cases this
    · have := (k i hi hi).2.2 h0
      simpa using this
end Go.Proofs.Ytinmhhonpflojaa

/- The law RulesChecks: its walk. -/
namespace Go.Proofs.Ytinmhhonpflojaa
open Go.V
set_option linter.unusedVariables false
set_option linter.unusedSimpArgs false

set_option maxRecDepth 10000 in
theorem Len_is (w : World) (b : Nat) (cap meet high seq : Int) (A1 A2 : Option Addr) (n1 n2 c1 c2 : Nat) (hb : Rd w [] (some ⟨b, 0, none⟩) (bcells cap meet (.slice A1 n1 c1) (.slice A2 n2 c2) high seq)) (hn1 : n1 ≤ 2513169434843) (hn2 : n2 ≤ 2513169434843) :
    Is Try.prog 79 [.pointer (some ⟨b, 0, none⟩)] w (.int .i64 (n1 + n2)) := by
  refine Does.pure (Does.of (n := 16) Try.func79 rfl rfl rfl rfl ?_)
  refine .seq ((.region (.v (.assign rfl) (.nil ?_))))
  refine .seq ((.drawS (by kernel_rfl) (by kernel_rfl) (.v (.move rfl) (.v (.nilCheck rfl) (.v (.fieldAddr rfl) (.v (.fieldAddr rfl) (.v (.load (v := .slice A1 n1 c1) rfl (hb.cell (i := 2) rfl)) (.v (.len rfl) (.v (.move rfl) (.v (.nilCheck rfl) (.v (.fieldAddr rfl) (.v (.fieldAddr rfl) (.v (.load (v := .slice A2 n2 c2) rfl (hb.cell (i := 3) rfl)) (.v (.len rfl) (.v (.addi rfl rfl (by omega)) (.v (.assign rfl) (.nil ?_)))))))))))))))))
  exact .ret ⟨[_], ⟨rfl, trivial⟩, rfl⟩

end Go.Proofs.Ytinmhhonpflojaa

/- A book's parts: side, place, reaches, coming. -/
namespace Go.Proofs.Ytinmhhonpflojaa
open Go.V
set_option linter.unusedVariables false
set_option linter.unusedSimpArgs false

theorem side_ok (w : World) (b : Nat) (s : Int) : Is Try.prog 57 [.pointer (some ⟨b, 0, none⟩), .int .i64 s] w (.pointer (if s = 1 then some ⟨b, 2, none⟩ else if s = 2 then some ⟨b, 3, none⟩ else none)) := by
  refine Does.pure (Does.of (n := 18) Try.func57 rfl rfl rfl rfl ?_)
  refine .seq ((.region (.v (.assign rfl) (.nil ?_))))
  refine .seq (.seq ((.region (.v (.move rfl) (.nil ?_)))))
  refine .block (.seq ((.region (.v (.eqi rfl rfl) (.v (.assign rfl) (.nil ?_))))))
  refine .cond_dec rfl (fun h1 => ?_) (fun h1 => ?_)
  · refine .seq ((.region (.v (.move rfl) (.v (.nilCheck rfl) (.v (.fieldAddr rfl) (.v (.fieldAddr rfl) (.v (.assign rfl) (.nil ?_))))))))
    exact .ret ⟨[_], ⟨rfl, trivial⟩, by rw [if_pos h1]; rfl⟩
  · refine .seq ((.region (.v (.eqi rfl rfl) (.v (.assign rfl) (.nil ?_)))))
    refine .cond_dec rfl (fun h2 => ?_) (fun h2 => .skip ?_)
    · refine .seq ((.region (.v (.move rfl) (.v (.nilCheck rfl) (.v (.fieldAddr rfl) (.v (.fieldAddr rfl) (.v (.assign rfl) (.nil ?_))))))))
      exact .ret ⟨[_], ⟨rfl, trivial⟩, by rw [if_neg h1, if_pos h2]; rfl⟩
    · refine .seq ((.region (.v (.assign rfl) (.nil ?_))))
      exact .ret ⟨[_], ⟨rfl, trivial⟩, by rw [if_neg h1, if_neg h2]; rfl⟩
theorem isId_ok (w : World) (b : Nat) (id : Int) (o : Ord) (hb : Rd w [] (some ⟨b, 0, none⟩) [.int .u64 id]) : Is Try.prog 77 [.agg ⟨o.cells⟩, .pointer (some ⟨b, 0, none⟩)] w (.bool (decide (o.id = id))) := by
  refine Does.pure (Does.of (n := 8) Try.func77 rfl rfl rfl rfl ?_)
  refine .seq ((.region (.nw (.box rfl rfl) fun b2 => (.v (.assign rfl) (.nil ?_)))))
  refine .seq ((.region (.v (.fieldAddr rfl) (.v (.load (v := .int .u64 o.id) rfl (.one rfl)) (.v (.load (v := .int .u64 id) rfl (hb.cell (i := 0) rfl)) (.v (.eqi rfl rfl) (.v (.assign rfl) (.nil ?_))))))))
  exact .ret ⟨[_], ⟨rfl, trivial⟩, rfl⟩
/-- where an order of a number stands; -1: nowhere -/
def idx (id : Int) (l : List Ord) : Int := match l.findIdx? (fun o => decide (o.id = id)) with
  | some i => i
  | none => -1
theorem idx_at {id : Int} {l : List Ord} {i : Nat} (hi : i < l.length) (h : l[i].id = id) (hb : ∀ m, (hm : m < l.length) → m < i → l[m].id ≠ id) : idx id l = i := by
  have : l.findIdx? (fun o => decide (o.id = id)) = some i := by
    rw [List.findIdx?_eq_some_iff_getElem]
    exact ⟨hi, by simpa using h, fun j hj => by simpa using hb j (by omega) hj⟩
  unfold idx; rw [this]
theorem idx_no {id : Int} {l : List Ord} (hb : ∀ m, (hm : m < l.length) → l[m].id ≠ id) : idx id l = -1 := by
  have : l.findIdx? (fun o => decide (o.id = id)) = none := by
    rw [List.findIdx?_eq_none_iff]
    intro x hx
    obtain ⟨i, hi, rfl⟩ := List.mem_iff_getElem.1 hx
    simpa using hb i hi
  unfold idx; rw [this]
theorem idx_spec (id : Int) (l : List Ord) : idx id l = -1 ∧ (∀ m, (hm : m < l.length) → l[m].id ≠ id) ∨ ∃ i, ∃ hi : i < l.length, idx id l = i ∧ l[i].id = id ∧ ∀ m, (hm : m < l.length) → m < i → l[m].id ≠ id := by
  cases h : l.findIdx? (fun o => decide (o.id = id)) with
  | none =>
    refine .inl ⟨by unfold idx; rw [h], fun m hm e => ?_⟩
    rw [List.findIdx?_eq_none_iff] at h
    simpa [e] using h l[m] (List.getElem_mem hm)
  | some i =>
    rw [List.findIdx?_eq_some_iff_getElem] at h
    obtain ⟨hi, h1, h2⟩ := h
    have h1 : l[i].id = id := by simpa using h1
    have h2 : ∀ m, (hm : m < l.length) → m < i → l[m].id ≠ id := fun m hm hmi => by simpa using h2 m hmi
    exact .inr ⟨i, hi, idx_at hi h1 h2, h1, h2⟩
set_option maxRecDepth 10000 in
theorem index_ok (w : World) (A : Option Addr) (len cap b : Nat) (id : Int) (l : List Ord) (hx : Rd w [] A (rows l)) (hl : len = l.length) (hlb : len ≤ 2513169434843) (hb : Rd w [] (some ⟨b, 0, none⟩) [.int .u64 id]) :
    Is Try.prog 76 [.slice A len cap, .func (.func 77) #[] ⟨[.pointer (some ⟨b, 0, none⟩)]⟩] w (.int .i64 (idx id l)) := by
  refine Does.pure (Does.of (n := 19) Try.func76 rfl rfl rfl rfl ?_)
  refine .seq ((.region (.v (.assign rfl) (.nil ?_))))
  refine .seq (.seq ((.region (.v (.move rfl) (.v (.len rfl) (.v (.move rfl) (.nil ?_)))))))
  refine .block (.loop (X := Nat) (fun i => [(0, .slice A len cap), (1, .func (.func 77) #[] ⟨[.pointer (some ⟨b, 0, none⟩)]⟩), (7, .int .i64 len), (8, .int .i64 i)]) (fun _ => []) (fun i => i ≤ len ∧ ∀ m, (hm : m < l.length) → m < i → l[m].id ≠ id) (fun i => len - i) 0 ⟨by omega, fun m _ hm => by omega⟩
    (.cons rfl (.cons rfl (.cons rfl (.cons rfl (.nil _))))) (fun _ s => s) ?_)
  rintro i ⟨hi, hI⟩
  refine .seq ((.region (.v (.lss rfl rfl) (.nil ?_))))
  refine .seq (.cond_dec rfl (fun h1 => .skip ?_) (fun h1 => .exit ?_))
  · have hil : i < l.length := by omega
    obtain ⟨b', o', rfl, -, hc⟩ := Rd.ord hx (by omega)
    refine .seq (.block (.seq ((.region (.v (.move rfl) (.v (.assign rfl) (.nil ?_)))))))
    refine .seq ((.region (.v (.move rfl) (.v (.move rfl) (.v (.move rfl) (.v (.indexAddr rfl rfl (by omega) (by omega)) (.v (.loadA (vs := l[i].cells) rfl (.old (fun j v hv => ?_) (by simp [bl])) rfl) (.pc (v := .bool (decide (l[i].id = id))) rfl rfl (fun w s => isId_ok w b id l[i] (hb.keep0 s)) (.nil ?_)))))))))
    · rw [add_none, Int.toNat_natCast]; exact hc i hil j v (List.getElem?_eq_some_iff.1 hv).1 hv
    refine .cond_dec rfl (fun h2 => ?_) (fun h2 => .skip ?_)
    · refine .seq ((.region (.v (.move rfl) (.v (.assign rfl) (.nil ?_)))))
      exact .ret ⟨[_], ⟨rfl, trivial⟩, by rw [idx_at hil h2 hI]; rfl⟩
    · refine .region (.v (.addi rfl rfl (by omega)) (.v (.move rfl) (.nil ?_)))
      refine ⟨i + 1, ⟨by omega, fun m hm hmi => ?_⟩, by omega, .cons rfl (.cons rfl (.cons rfl (.cons rfl (.nil _)))), fun _ s => s⟩
      by_cases e : m = i
      · subst e; exact h2
      · exact hI m hm (by omega)
  · refine .seq ((.region (.v (.assign rfl) (.nil ?_))))
    exact .ret ⟨[_], ⟨rfl, trivial⟩, by rw [idx_no fun m hm => hI m hm (by omega)]; rfl⟩
/-- where an order of a number stands in a book -/
def plc (id : Int) (bs ss : List Ord) : Int × Int × Bool := if 0 ≤ idx id bs then (1, idx id bs, true) else if 0 ≤ idx id ss then (2, idx id ss, true) else (0, 0, false)
def plcV (p : Int × Int × Bool) : Value := .tuple ⟨[.int .i64 p.1, .int .i64 p.2.1, .bool p.2.2]⟩

set_option maxRecDepth 10000 in
theorem place_ok (w : World) (b : Nat) (cap meet high seq id : Int) (A1 A2 : Option Addr) (c1 c2 : Nat) (bs ss : List Ord) (hb : Rd w [] (some ⟨b, 0, none⟩) (bcells cap meet (.slice A1 bs.length c1) (.slice A2 ss.length c2) high seq))
    (h1 : Rd w [] A1 (rows bs)) (h2 : Rd w [] A2 (rows ss)) (hb1 : bs.length ≤ 2513169434843) (hb2 : ss.length ≤ 2513169434843) :
    Is Try.prog 56 [.pointer (some ⟨b, 0, none⟩), .int .u64 id] w (plcV (plc id bs ss)) := by
  refine Does.pure (Does.of (n := 28) Try.func56 rfl rfl rfl rfl ?_)
  refine .seq ((.region (.nw (.box rfl rfl) fun b3 => (.v (.assign rfl) (.v (.assign rfl) (.v (.assign rfl) (.nil ?_)))))))
  refine .seq (.seq ((.region (.ef (.buildSlice (out := [.int .i64 1, .int .i64 2]) rfl (by decide) rfl rfl) ?_))))
  rintro _ _ ⟨b10, rfl, rfl⟩
  refine .v (.len rfl) (.v (.move rfl) (.nil ?_))
  refine .block (.loop (X := Nat) (fun k => [(0, .pointer (some ⟨b, 0, none⟩)), (3, .pointer (some ⟨b3, 0, none⟩)), (10, .slice (some ⟨b10, 0, none⟩) 2 2), (11, .int .i64 2), (12, .int .i64 k)]) (fun _ => [(b10, .cells [.int .i64 1, .int .i64 2] 3), (b3, .cells [.int .u64 id] 22)])
    (fun k => k ≤ 2 ∧ (1 ≤ k → idx id bs = -1) ∧ (2 ≤ k → idx id ss = -1)) (fun k => 2 - k) 0 ⟨by omega, by omega, by omega⟩ (.cons rfl (.cons rfl (.cons rfl (.cons rfl (.cons rfl (.nil _)))))) (fun _ s => s) ?_)
  rintro k ⟨hk, hk1, hk2⟩
  refine .seq ((.region (.v (.lss rfl rfl) (.nil ?_))))
  refine .seq (.cond_dec rfl (fun g1 => .skip ?_) (fun g1 => .exit ?_))
  · have hk' : k = 0 ∨ k = 1 := by omega
    rcases hk' with rfl | rfl
    · refine .seq (.block (.seq ((.region (.v (.indexAddr1 rfl rfl (by omega) (by omega)) (.v (.load (v := .int .i64 1) rfl (.one rfl)) (.v (.assign rfl) (.nil ?_))))))))
      refine .seq ((.region (.v (.move rfl) (.v (.move rfl) (.pc rfl rfl (fun w s => side_ok w b 1) (.v (.nilCheck rfl) (.v (.load (v := .slice A1 bs.length c1) rfl (hb.cell (i := 2) rfl)) (.v (.makeFunc rfl rfl) (.pc rfl rfl (fun w s => index_ok w A1 bs.length c1 b3 id bs (h1.keep0 s) rfl hb1 (Rd.chunk s (l := [.int .u64 id]) (T := 22) (by simp) (fun j v hv => by rw [Nat.zero_add]; exact hv))) (.v (.assign rfl) (.nil ?_)))))))))))
      refine .seq ((.region (.v (.move rfl) (.v (.geq rfl rfl) (.nil ?_)))))
      refine .cond_dec rfl (fun g2 => ?_) (fun g2 => .skip ?_)
      · refine .seq ((.region (.v (.move rfl) (.v (.move rfl) (.v (.assign rfl) (.v (.assign rfl) (.v (.assign rfl) (.nil ?_))))))))
        exact .ret ⟨[_, _, _], ⟨rfl, rfl, rfl, trivial⟩, by rw [plc, if_pos g2]; rfl⟩
      · refine .region (.v (.addi rfl rfl (by omega)) (.v (.move rfl) (.nil ?_)))
        have e : idx id bs = -1 := by
          rcases idx_spec id bs with h | ⟨i, hi, h, _⟩
          · exact h.1
          · omega
        exact ⟨1, ⟨by omega, fun _ => e, by omega⟩, by omega, .cons rfl (.cons rfl (.cons rfl (.cons rfl (.cons rfl (.nil _))))), fun _ s => s⟩
    · refine .seq (.block (.seq ((.region (.v (.indexAddr1 rfl rfl (by omega) (by omega)) (.v (.load (v := .int .i64 2) rfl (.one rfl)) (.v (.assign rfl) (.nil ?_))))))))
      refine .seq ((.region (.v (.move rfl) (.v (.move rfl) (.pc rfl rfl (fun w s => side_ok w b 2) (.v (.nilCheck rfl) (.v (.load (v := .slice A2 ss.length c2) rfl (hb.cell (i := 3) rfl)) (.v (.makeFunc rfl rfl) (.pc rfl rfl (fun w s => index_ok w A2 ss.length c2 b3 id ss (h2.keep0 s) rfl hb2 (Rd.chunk s (l := [.int .u64 id]) (T := 22) (by simp) (fun j v hv => by rw [Nat.zero_add]; exact hv))) (.v (.assign rfl) (.nil ?_)))))))))))
      refine .seq ((.region (.v (.move rfl) (.v (.geq rfl rfl) (.nil ?_)))))
      refine .cond_dec rfl (fun g2 => ?_) (fun g2 => .skip ?_)
      · refine .seq ((.region (.v (.move rfl) (.v (.move rfl) (.v (.assign rfl) (.v (.assign rfl) (.v (.assign rfl) (.nil ?_))))))))
        exact .ret ⟨[_, _, _], ⟨rfl, rfl, rfl, trivial⟩, by rw [plc, if_neg (by rw [hk1 (by omega)]; omega), if_pos g2]; rfl⟩
      · refine .region (.v (.addi rfl rfl (by omega)) (.v (.move rfl) (.nil ?_)))
        have e : idx id ss = -1 := by
          rcases idx_spec id ss with h | ⟨i, hi, h, _⟩
          · exact h.1
          · omega
        exact ⟨2, ⟨by omega, fun _ => hk1 (by omega), fun _ => e⟩, by omega, .cons rfl (.cons rfl (.cons rfl (.cons rfl (.cons rfl (.nil _))))), fun _ s => s⟩
  · refine .seq ((.region (.v (.assign rfl) (.v (.assign rfl) (.v (.assign rfl) (.nil ?_))))))
    exact .ret ⟨[_, _, _], ⟨rfl, rfl, rfl, trivial⟩, by rw [plc, if_neg (by rw [hk1 (by omega)]; omega), if_neg (by rw [hk2 (by omega)]; omega)]; rfl⟩
/-- an order that comes -/
structure Tk where
  o : Ord
  side : Int
  kind : Int
  left : Int
def Tk.cells (t : Tk) : List Value := t.o.cells ++ [.int .i64 t.side, .int .i64 t.kind, .int .u64 t.left]
def tcells (o : List Value) (side kind left : Int) : List Value := o ++ [.int .i64 side, .int .i64 kind, .int .u64 left]
def reach (side kind pr p : Int) : Bool := decide (kind = 2) || !bet side p pr
theorem reaches_ok (w : World) (id mb ty pr v hd pk side kind left p : Int) : Is Try.prog 80 [.agg ⟨[.int .u64 id, .int .u32 mb, .int .i64 ty, .int .i64 pr, .int .u64 v, .int .u64 hd, .int .u64 pk, .int .i64 side, .int .i64 kind, .int .u64 left]⟩, .int .i64 p] w (.bool (reach side kind pr p)) := by
  refine Does.pure (Does.of (n := 18) Try.func80 rfl rfl rfl rfl ?_)
  refine .seq ((.region (.nw (.box rfl rfl) fun b2 => (.v (.assign rfl) (.nil ?_)))))
  refine .seq ((.region (.v (.fieldAddr rfl) (.v (.load rfl (.one rfl)) (.v (.eqi rfl rfl) (.v (.move rfl) (.or 8 16 8 8 rfl rfl (fun g1 => .v (.fieldAddr rfl) (.v (.load rfl (.one rfl)) (.v (.move rfl) (.v (.fieldAddr rfl) (.v (.fieldAddr rfl) (.v (.load rfl (.one rfl)) (.pc rfl rfl (fun w s => better_ok w side p pr) (.v (.not rfl) (.nil ⟨rfl, rfl, rfl, rfl⟩))))))))) (.v (.assign rfl) (.nil ?_)))))))))
  exact .ret ⟨[_], ⟨rfl, trivial⟩, rfl⟩
end Go.Proofs.Ytinmhhonpflojaa

/- coming, refused. -/
namespace Go.Proofs.Ytinmhhonpflojaa
open Go.V
set_option linter.unusedVariables false
set_option linter.unusedSimpArgs false

/-- a command -/
structure Cm where
  k : Int
  id : Int
  tg : Int
  mb : Int
  sd : Int
  ty : Int
  pr : Int
  q : Int
  pk : Int
def Cm.cells (c : Cm) : List Value := ccells c.k c.id c.tg c.mb c.sd c.ty c.pr c.q c.pk
def Cm.chk (c : Cm) : Int := Proofs.Ytinmhhonpflojaa.chk c.k c.id c.sd c.ty c.pr c.q c.pk
/-- the order that comes by a command -/
def cmg (c : Cm) (tg : Option Ord) (side : Int) : Tk :=
  match tg with
  | some o => if c.k = 3 then ⟨⟨c.id, o.mb, o.ty, c.pr, 0, 0, c.pk⟩, side, o.ty, c.q⟩ else ⟨⟨c.id, c.mb, c.ty, c.pr, 0, 0, c.pk⟩, c.sd, c.ty, c.q⟩
  | none => ⟨⟨c.id, c.mb, c.ty, c.pr, 0, 0, c.pk⟩, c.sd, c.ty, c.q⟩
/-- the order that a command speaks of, in memory -/
def TgR (w : World) (no : List Nat) (tp : Option Addr) : Option Ord → Prop
  | none => tp = none
  | some o => ∃ bt, tp = some ⟨bt, 0, none⟩ ∧ Rd w no (some ⟨bt, 0, none⟩) o.cells
theorem TgR.keep0 {w0 w : World} {own : List Nat} {hs : Hp} {tp : Option Addr} {tg : Option Ord} (h : TgR w0 own tp tg) (s : Sat w0 own hs w) : TgR w [] tp tg := by
  cases tg with
  | none => exact h
  | some o => obtain ⟨bt, h1, h2⟩ := h; exact ⟨bt, h1, h2.keep0 s⟩
set_option maxRecDepth 10000 in
theorem coming_ok (w : World) (c : Cm) (tp : Option Addr) (tg : Option Ord) (side : Int) (ht : TgR w [] tp tg) (hk : c.k = 3 → tg ≠ none) :
    Is Try.prog 61 [.agg ⟨c.cells⟩, .pointer tp, .int .i64 side] w (.agg ⟨(cmg c tg side).cells⟩) := by
  obtain ⟨k, id, tgi, mb, sd, ty, pr, q, pk⟩ := c
  refine Does.pure (Does.of (n := 45) Try.func61 rfl rfl rfl rfl ?_)
  refine .seq ((.region (.nw (.box rfl rfl) fun b3 => (.nw .alloc fun b6 => (.nil ?_)))))
  refine .seq ((.region (.v (.fieldAddr rfl) (.v (.load (v := .int .u64 id) rfl (.one rfl)) (.v (.fieldAddr rfl) (.v (.load (v := .int .u32 mb) rfl (.one rfl)) (.v (.fieldAddr rfl) (.v (.load (v := .int .i64 pr) rfl (.one rfl)) (.v (.fieldAddr rfl) (.v (.load (v := .int .u64 pk) rfl (.one rfl)) (.v (.build (out := rcells id mb 0 pr 0 0 pk) rfl rfl) (.v (.fieldAddr rfl) (.v (.load (v := .int .i64 sd) rfl (.one rfl)) (.v (.fieldAddr rfl) (.v (.load (v := .int .i64 ty) rfl (.one rfl)) (.v (.fieldAddr rfl) (.v (.load (v := .int .u64 q) rfl (.one rfl)) (.v (.build (out := [.int .u64 id, .int .u32 mb, .int .i64 0, .int .i64 pr, .int .u64 0, .int .u64 0, .int .u64 pk, .int .i64 sd, .int .i64 ty, .int .u64 q]) rfl rfl) (.nw .alloc fun b7 => (.st (.sw rfl rfl) (.nil ?_)))))))))))))))))))))
  refine .seq (.seq ((.region (.v (.fieldAddr rfl) (.v (.load (v := .int .i64 k) rfl (.one rfl)) (.v (.eqi rfl rfl) (.nil ?_)))))))
  refine .cond_dec rfl (fun h1 => ?_) (fun h1 => .skip ?_)
  · cases tg with
    | none => exact absurd rfl (hk h1)
    | some o =>
      obtain ⟨bt, rfl, ho⟩ := ht
      refine (.drawK [] (List.nil_subset _) (by kernel_rfl) (by kernel_rfl) ?_)
      refine .v (fun _ f => .move rfl) (.v (fun _ f => .nilCheck rfl) (.v (fun _ f => .fieldAddr rfl) (.v (fun _ f => .load (v := .int .u32 o.mb) rfl (ho.cell (i := 1) rfl)) (.v (fun _ f => .move rfl) (.v (fun _ f => .move rfl) (.v (fun _ f => .nilCheck rfl) (.v (fun _ f => .fieldAddr rfl) (.v (fun _ f => .load (v := .int .i64 o.ty) rfl (ho.cell (i := 2) rfl)) (.v (fun _ f => .fieldAddr rfl) (.v (fun _ f => .fieldAddr rfl) ?_))))))))))
      refine .st (.storeL rfl rfl rfl) (fun _ => List.nil_subset _) (.v (fun _ f => .fieldAddr rfl) (.st (.storeL rfl rfl rfl) (fun _ => List.nil_subset _) (.v (fun _ f => .fieldAddr rfl) (.st (.storeL rfl rfl rfl) (fun _ => List.nil_subset _) (.nil ?_)))))
      refine .seq ((.region (.v (.fieldAddr rfl) (.v (.load (v := .int .i64 o.ty) rfl (.one rfl)) (.v (.fieldAddr rfl) (.v (.fieldAddr rfl) (.st (.storeL rfl rfl rfl) (.nil ?_))))))))
      refine .seq ((.region (.v (.loadA rfl .whole rfl) (.st (.sw rfl rfl) (.nil ?_)))))
      exact .ret ⟨[_], ⟨⟨_, rfl, .inr ⟨10, _, inferInstance, rfl, rfl, .whole⟩⟩, trivial⟩, by simp only [cmg]; rw [if_pos h1]; rfl⟩
  · refine .seq ((.region (.v (.fieldAddr rfl) (.v (.load (v := .int .i64 ty) rfl (.one rfl)) (.v (.fieldAddr rfl) (.v (.fieldAddr rfl) (.st (.storeL rfl rfl rfl) (.nil ?_))))))))
    refine .seq ((.region (.v (.loadA rfl .whole rfl) (.st (.sw rfl rfl) (.nil ?_)))))
    refine .ret ⟨[_], ⟨⟨_, rfl, .inr ⟨10, _, inferInstance, rfl, rfl, .whole⟩⟩, trivial⟩, ?_⟩
    cases tg with
    | none => rfl
    | some o => simp only [cmg]; rw [if_neg h1]; rfl
def headReach (side kind pr : Int) : List Ord → Bool
  | [] => false
  | x :: _ => reach side kind pr x.pr
/-- why a command is refused -/
def rfs (cap high : Int) (bs ss : List Ord) (c : Cm) (tg : Option Ord) (side : Int) : Int :=
  if c.chk = 90 then 90
  else if c.k ≠ 1 ∧ tg = none then 91
  else if c.chk ≠ 0 then c.chk
  else if c.k = 2 then 0
  else if c.id ≤ high then 97
  else if c.k = 1 ∧ ((cmg c tg side).kind = 1 ∨ (cmg c tg side).kind = 5) ∧ cap ≤ bs.length + ss.length then 98
  else if (cmg c tg side).kind = 5 ∧ headReach (cmg c tg side).side (cmg c tg side).kind (cmg c tg side).o.pr (if (cmg c tg side).side = 1 then ss else bs) then 99 else 0
theorem chk_kinds {c : Cm} (h : c.chk ≠ 90) : c.k = 1 ∨ c.k = 2 ∨ c.k = 3 := by
  unfold Cm.chk chk at h
  by_cases h1 : c.k = 1
  · exact .inl h1
  · by_cases h3 : c.k = 3
    · exact .inr (.inr h3)
    · by_cases h2 : c.k = 2
      · exact .inr (.inl h2)
      · rw [if_neg h1, if_neg h3, if_neg h2] at h; exact absurd rfl h
theorem chk_side {c : Cm} (h : c.chk = 0) (hk : c.k = 1) : c.sd = 1 ∨ c.sd = 2 := by
  unfold Cm.chk chk at h
  rw [if_pos hk] at h
  by_cases h1 : c.sd ≠ 1 ∧ c.sd ≠ 2
  · rw [if_pos h1] at h; omega
  · omega
set_option maxRecDepth 10000 in
theorem refused_ok (w : World) (b : Nat) (cap meet high seq : Int) (A1 A2 : Option Addr) (c1 c2 : Nat) (bs ss : List Ord) (hb : Rd w [] (some ⟨b, 0, none⟩) (bcells cap meet (.slice A1 bs.length c1) (.slice A2 ss.length c2) high seq))
    (hr1 : Rd w [] A1 (rows bs)) (hr2 : Rd w [] A2 (rows ss)) (hb1 : bs.length ≤ 2513169434843) (hb2 : ss.length ≤ 2513169434843) (c : Cm) (tp : Option Addr) (tg : Option Ord) (side : Int) (ht : TgR w [] tp tg) (hs : tg ≠ none → side = 1 ∨ side = 2) :
    Is Try.prog 58 [.pointer (some ⟨b, 0, none⟩), .agg ⟨c.cells⟩, .pointer tp, .int .i64 side] w (.int .i64 (rfs cap high bs ss c tg side)) := by
  have htn : tp.isNone = decide (tg = none) := by
    cases tg with
    | none => rw [show tp = none from ht]; rfl
    | some o => obtain ⟨bt, rfl, _⟩ := ht; simp
  obtain ⟨k, id, tgi, mb, sd, ty, pr, q, pk⟩ := c
  refine Does.pure (Does.of (n := 94) Try.func58 rfl rfl rfl rfl ?_)
  refine .seq ((.region (.nw (.box rfl rfl) fun b5 => (.v (.assign rfl) (.nil ?_)))))
  refine .seq ((.region (.v (.loadA (vs := ccells k id tgi mb sd ty pr q pk) rfl .whole rfl) (.pc rfl rfl (fun w s => Check_ok w k id tgi mb sd ty pr q pk) (.v (.assign rfl) (.nil ?_))))))
  have ech : chk k id sd ty pr q pk = Cm.chk ⟨k, id, tgi, mb, sd, ty, pr, q, pk⟩ := rfl
  rw [ech]
  generalize hc : (⟨k, id, tgi, mb, sd, ty, pr, q, pk⟩ : Cm) = c
  have ek : k = c.k := by rw [← hc]
  have ecells : ccells k id tgi mb sd ty pr q pk = c.cells := by rw [← hc]; rfl
  refine .seq (.block (.seq ((.region (.v (.move rfl) (.v (.eqi rfl rfl) (.v (.assign rfl) (.nil ?_))))))))
  refine .cond_dec rfl (fun h1 => ?_) (fun h1 => ?_)
  · refine .seq ((.region (.v (.move rfl) (.v (.assign rfl) (.nil ?_)))))
    exact .ret ⟨[_], ⟨rfl, trivial⟩, by rw [rfs, if_pos h1, h1]; rfl⟩
  refine .seq ((.region (.v (.fieldAddr rfl) (.v (.load (v := .int .i64 k) rfl (.one (by rw [← ecells]; rfl))) (.v (.nei rfl rfl) (.v (.move rfl) (.and 22 24 2 2 rfl rfl (fun g1 => .v (.move rfl) (.v (.eql_ptr_nil rfl rfl) (.nil ⟨rfl, rfl, rfl, rfl⟩))) (.v (.assign rfl) (.nil ?_)))))))))
  rw [htn]
  refine .cond rfl (fun h2 => ?_) (fun h2 => ?_)
  · refine .seq ((.region (.v (.assign rfl) (.nil ?_))))
    exact .ret ⟨[_], ⟨rfl, trivial⟩, by rw [rfs, if_neg h1, if_pos (by rw [← ek]; simpa using h2)]; rfl⟩
  have h2' : ¬ (c.k ≠ 1 ∧ tg = none) := by rw [← ek]; simpa using h2
  refine .seq ((.region (.v (.move rfl) (.v (.nei rfl rfl) (.v (.assign rfl) (.nil ?_))))))
  refine .cond_dec rfl (fun h3 => ?_) (fun h3 => ?_)
  · refine .seq ((.region (.v (.move rfl) (.v (.assign rfl) (.nil ?_)))))
    exact .ret ⟨[_], ⟨rfl, trivial⟩, by rw [rfs, if_neg h1, if_neg h2', if_pos h3]; rfl⟩
  refine .seq ((.region (.v (.fieldAddr rfl) (.v (.load (v := .int .i64 k) rfl (.one (by rw [← ecells]; rfl))) (.v (.eqi rfl rfl) (.v (.assign rfl) (.nil ?_)))))))
  refine .cond_dec rfl (fun h4 => ?_) (fun h4 => ?_)
  · refine .seq ((.region (.v (.assign rfl) (.nil ?_))))
    exact .ret ⟨[_], ⟨rfl, trivial⟩, by rw [rfs, if_neg h1, if_neg h2', if_neg h3, if_pos (by rw [← ek]; exact h4)]; rfl⟩
  refine .seq ((.drawK _ (fun _ h => h) (by kernel_rfl) (by kernel_rfl) ?_))
  refine .v (fun _ f => .fieldAddr rfl) (.v (fun _ f => .load (v := .int .u64 id) rfl (.one (hb := .sub f) (by rw [← ecells]; rfl))) (.v (fun _ f => .move rfl) (.v (fun _ f => .nilCheck rfl) (.v (fun _ f => .fieldAddr rfl) (.v (fun _ f => .fieldAddr rfl) (.v (fun _ f => .load (v := .int .u64 high) rfl (hb.cell (i := 4) rfl)) (.v (fun _ f => .leq rfl rfl) (.v (fun _ f => .assign rfl) (.nil ?_)))))))))
  have eid : id = c.id := by rw [← hc]
  refine .cond_dec rfl (fun h5 => ?_) (fun h5 => .skip ?_)
  · refine .seq ((.region (.v (.assign rfl) (.nil ?_))))
    exact .ret ⟨[_], ⟨rfl, trivial⟩, by rw [rfs, if_neg h1, if_neg h2', if_neg h3, if_neg (by rw [← ek]; exact h4), if_pos (by rw [← eid]; exact h5)]; rfl⟩
  have h3' : c.chk = 0 := Decidable.of_not_not h3
  have hk3 : c.k = 3 → tg ≠ none := fun e ht' => h2' ⟨by omega, ht'⟩
  refine .seq ((.region (.v (.loadA (vs := c.cells) rfl .whole (by rw [← ecells]; rfl)) (.v (.move rfl) (.v (.move rfl) ?_)))))
  refine .pc rfl rfl (fun w s => coming_ok w c tp tg side (ht.keep0 s) hk3) ?_
  have hside : (cmg c tg side).side = 1 ∨ (cmg c tg side).side = 2 := by
    have hk := chk_kinds h1
    unfold cmg
    cases tg with
    | none =>
      refine chk_side h3' ?_
      rcases hk with h | h | h
      · exact h
      · exact absurd h (by rw [← ek]; exact h4)
      · exact absurd rfl (hk3 h)
    | some o =>
      simp only
      split
      · exact hs (by simp)
      · rename_i hk'
        refine chk_side h3' ?_
        rcases hk with h | h | h
        · exact h
        · exact absurd h (by rw [← ek]; exact h4)
        · exact absurd h hk'
  generalize htk : cmg c tg side = t at hside ⊢
  obtain ⟨⟨x0, x1, x2, x3, x4, x5, x6⟩, s, kd, lf⟩ := t
  refine .nw .alloc fun b10 => (.st (.sw rfl rfl) (.nil ?_))
  refine .seq (.seq ((.drawP [0, 1, 2, 3, 4, 5, 6, 7, 8, 9, 10, 11, 12, 13, 14, 16, 17, 18, 19, 20, 21, 15, 22, 23] _ (fun _ h => h) (by kernel_rfl) (by kernel_rfl) ?_)))
  refine .v (fun _ f => .fieldAddr rfl) (.v (fun _ f => .load (v := .int .i64 k) rfl (.one (hb := .sub f) (by rw [← ecells]; rfl))) (.v (fun _ f => .eqi rfl rfl) (.v (fun _ f => .move rfl) (.and 50 58 8 5 rfl rfl (fun g2 => .v (fun _ f => .fieldAddr rfl) (.v (fun _ f => .load (v := .int .i64 kd) rfl (.one (hb := .sub f) rfl)) (.v (fun _ f => .eqi rfl rfl) (.v (fun _ f => .move rfl) (.or 54 57 3 3 rfl rfl (fun g3 => .v (fun _ f => .fieldAddr rfl) (.v (fun _ f => .load (v := .int .i64 kd) rfl (.one (hb := .sub f) rfl)) (.v (fun _ f => .eqi rfl rfl) (.nil ⟨rfl, rfl, rfl, rfl⟩)))) (.nil ⟨rfl, rfl, rfl, rfl⟩)))))) (.v (fun _ f => .move rfl) (.and 60 69 9 9 rfl rfl (fun g4 => .v (fun _ f => .move rfl) (.v (fun _ f => .move rfl) (.v (fun _ f => .nilCheck rfl) (.v (fun _ f => .fieldAddr rfl) (.v (fun _ f => .fieldAddr rfl) (.v (fun _ f => .fieldAddr rfl) (.v (fun _ f => .load (v := .int .i64 cap) rfl (hb.cell (i := 0) rfl)) (.pc rfl rfl (fun w s => Len_is w b cap meet high seq A1 A2 bs.length ss.length c1 c2 (hb.keep0 s) hb1 hb2) (.v (fun _ f => .geq rfl rfl) (.nil ⟨rfl, rfl, rfl, rfl⟩)))))))))) (.nil ?_)))))))
  refine .cond rfl (fun h6 => ?_) (fun h6 => .skip ?_) <;> simp only [Bool.and_eq_true, Bool.or_eq_true, Bool.not_eq_true', Bool.and_eq_false_iff, Bool.or_eq_false_iff, Bool.not_eq_false', decide_eq_true_eq, decide_eq_false_iff_not, Bool.false_eq_true, false_iff] at h6
  · refine .seq ((.region (.v (.assign rfl) (.nil ?_))))
    exact .ret ⟨[_], ⟨rfl, trivial⟩, by rw [rfs, if_neg h1, if_neg h2', if_neg h3, if_neg (by rw [← ek]; exact h4), if_neg (by rw [← eid]; exact h5), htk, if_pos (by rw [← ek]; exact ⟨h6.1.1, h6.1.2, h6.2⟩)]; rfl⟩
  have h6' : ¬ (c.k = 1 ∧ (kd = 1 ∨ kd = 5) ∧ cap ≤ bs.length + ss.length) := by rw [← ek]; omega
  have fin : ∀ {r : Int}, r = (if kd = 5 ∧ headReach s kd x3 (if s = 1 then ss else bs) then 99 else 0) → tup [.int .i64 r] = .int .i64 (rfs cap high bs ss c tg side) := fun e => by
    rw [rfs, if_neg h1, if_neg h2', if_neg h3, if_neg (by rw [← ek]; exact h4), if_neg (by rw [← eid]; exact h5), htk, if_neg h6', e]; rfl
  rcases hside with hside | hside
  · have hside : s = 1 := hside
    subst hside
    refine .seq ((.region (.v (.move rfl) (.v (.fieldAddr rfl) (.v (.load (v := .int .i64 1) rfl (.one rfl)) (.v (.subi rfl rfl (by omega)) (.pc rfl rfl (fun w s => side_ok w b 2) (.v (.nilCheck rfl) (.v (.load (v := .slice A2 ss.length c2) rfl (hb.cell (i := 3) rfl)) (.v (.assign rfl) (.nil ?_)))))))))))
    cases hl : ss with
    | nil =>
      subst hl
      refine .seq (.seq ((.drawK _ (fun _ h => h) (by kernel_rfl) (by kernel_rfl) ?_)))
      refine .v (fun _ f => .fieldAddr rfl) (.v (fun _ f => .load (v := .int .i64 kd) rfl (.one (hb := .sub f) rfl)) (.v (fun _ f => .eqi rfl rfl) (.v (fun _ f => .move rfl) (.and 81 84 3 3 rfl rfl (fun g5 => .v (fun _ f => .move rfl) (.v (fun _ f => .len rfl) (.v (fun _ f => .gtr rfl rfl) (.nil ⟨rfl, rfl, rfl, rfl⟩)))) (.v (fun _ f => .move rfl) (.and (b2 := false) 86 92 6 6 rfl rfl (fun g6 => absurd g6 (by simp)) (.nil ?_)))))))
      refine .cond rfl (fun h7 => absurd h7 (by simp)) (fun _ => .skip ?_)
      refine .seq ((.region (.v (.assign rfl) (.nil ?_))))
      exact .ret ⟨[_], ⟨rfl, trivial⟩, fin (by simp [headReach])⟩
    | cons x rest =>
      subst hl
      obtain ⟨b', o', rfl, -, hcx⟩ := Rd.ord hr2 (by simp)
      have hx := hcx 0 (by simp) 3 (.int .i64 x.pr) (by omega) rfl
      refine .seq (.seq ((.drawK _ (fun _ h => h) (by kernel_rfl) (by kernel_rfl) ?_)))
      refine .v (fun _ f => .fieldAddr rfl) (.v (fun _ f => .load (v := .int .i64 kd) rfl (.one (hb := .sub f) rfl)) (.v (fun _ f => .eqi rfl rfl) (.v (fun _ f => .move rfl) (.and 81 84 3 3 rfl rfl (fun g5 => .v (fun _ f => .move rfl) (.v (fun _ f => .len rfl) (.v (fun _ f => .gtr rfl rfl) (.nil ⟨rfl, rfl, rfl, rfl⟩)))) (.v (fun _ f => .move rfl) (.and 86 92 6 6 rfl rfl (fun g6 => .v (fun _ f => .loadA (vs := (⟨⟨x0, x1, x2, x3, x4, x5, x6⟩, 1, kd, lf⟩ : Tk).cells) rfl (.whole (hb := .sub f)) rfl) (.v (fun _ f => .move rfl) (.v (fun _ f => .indexAddr rfl rfl (by simp) (by simp)) (.v (fun _ f => .fieldAddr rfl) (.v (fun _ f => .load (v := .int .i64 x.pr) rfl (.old1 (by simpa using hx) (by simp [bl]))) (.pc (v := .bool (reach 1 kd x3 x.pr)) rfl rfl (fun w s => reaches_ok w x0 x1 x2 x3 x4 x5 x6 1 kd lf x.pr) (.nil ⟨rfl, rfl, rfl, rfl⟩))))))) (.nil ?_)))))))
      refine .cond rfl (fun h7 => ?_) (fun h7 => .skip ?_)
      · refine .seq ((.region (.v (.assign rfl) (.nil ?_))))
        exact .ret ⟨[_], ⟨rfl, trivial⟩, fin (by simp at h7; obtain ⟨k1, k2⟩ := h7; subst k1; simp [headReach, k2])⟩
      · refine .seq ((.region (.v (.assign rfl) (.nil ?_))))
        refine .ret ⟨[_], ⟨rfl, trivial⟩, fin ?_⟩
        rw [if_neg]
        rintro ⟨k1, k2⟩
        subst k1
        simp [headReach] at k2
        simp [k2] at h7
  · have hside : s = 2 := hside
    subst hside
    refine .seq ((.region (.v (.move rfl) (.v (.fieldAddr rfl) (.v (.load (v := .int .i64 2) rfl (.one rfl)) (.v (.subi rfl rfl (by omega)) (.pc rfl rfl (fun w s => side_ok w b 1) (.v (.nilCheck rfl) (.v (.load (v := .slice A1 bs.length c1) rfl (hb.cell (i := 2) rfl)) (.v (.assign rfl) (.nil ?_)))))))))))
    cases hl : bs with
    | nil =>
      subst hl
      refine .seq (.seq ((.drawK _ (fun _ h => h) (by kernel_rfl) (by kernel_rfl) ?_)))
      refine .v (fun _ f => .fieldAddr rfl) (.v (fun _ f => .load (v := .int .i64 kd) rfl (.one (hb := .sub f) rfl)) (.v (fun _ f => .eqi rfl rfl) (.v (fun _ f => .move rfl) (.and 81 84 3 3 rfl rfl (fun g5 => .v (fun _ f => .move rfl) (.v (fun _ f => .len rfl) (.v (fun _ f => .gtr rfl rfl) (.nil ⟨rfl, rfl, rfl, rfl⟩)))) (.v (fun _ f => .move rfl) (.and (b2 := false) 86 92 6 6 rfl rfl (fun g6 => absurd g6 (by simp)) (.nil ?_)))))))
      refine .cond rfl (fun h7 => absurd h7 (by simp)) (fun _ => .skip ?_)
      refine .seq ((.region (.v (.assign rfl) (.nil ?_))))
      exact .ret ⟨[_], ⟨rfl, trivial⟩, fin (by simp [headReach])⟩
    | cons x rest =>
      subst hl
      obtain ⟨b', o', rfl, -, hcx⟩ := Rd.ord hr1 (by simp)
      have hx := hcx 0 (by simp) 3 (.int .i64 x.pr) (by omega) rfl
      refine .seq (.seq ((.drawK _ (fun _ h => h) (by kernel_rfl) (by kernel_rfl) ?_)))
      refine .v (fun _ f => .fieldAddr rfl) (.v (fun _ f => .load (v := .int .i64 kd) rfl (.one (hb := .sub f) rfl)) (.v (fun _ f => .eqi rfl rfl) (.v (fun _ f => .move rfl) (.and 81 84 3 3 rfl rfl (fun g5 => .v (fun _ f => .move rfl) (.v (fun _ f => .len rfl) (.v (fun _ f => .gtr rfl rfl) (.nil ⟨rfl, rfl, rfl, rfl⟩)))) (.v (fun _ f => .move rfl) (.and 86 92 6 6 rfl rfl (fun g6 => .v (fun _ f => .loadA (vs := (⟨⟨x0, x1, x2, x3, x4, x5, x6⟩, 2, kd, lf⟩ : Tk).cells) rfl (.whole (hb := .sub f)) rfl) (.v (fun _ f => .move rfl) (.v (fun _ f => .indexAddr rfl rfl (by simp) (by simp)) (.v (fun _ f => .fieldAddr rfl) (.v (fun _ f => .load (v := .int .i64 x.pr) rfl (.old1 (by simpa using hx) (by simp [bl]))) (.pc (v := .bool (reach 2 kd x3 x.pr)) rfl rfl (fun w s => reaches_ok w x0 x1 x2 x3 x4 x5 x6 2 kd lf x.pr) (.nil ⟨rfl, rfl, rfl, rfl⟩))))))) (.nil ?_)))))))
      refine .cond rfl (fun h7 => ?_) (fun h7 => .skip ?_)
      · refine .seq ((.region (.v (.assign rfl) (.nil ?_))))
        exact .ret ⟨[_], ⟨rfl, trivial⟩, fin (by simp at h7; obtain ⟨k1, k2⟩ := h7; subst k1; simp [headReach, k2])⟩
      · refine .seq ((.region (.v (.assign rfl) (.nil ?_))))
        refine .ret ⟨[_], ⟨rfl, trivial⟩, fin ?_⟩
        rw [if_neg]
        rintro ⟨k1, k2⟩
        subst k1
        simp [headReach] at k2
        simp [k2] at h7
end Go.Proofs.Ytinmhhonpflojaa

/- slices.Delete of one, slices.Insert of one, over orders. -/
namespace Go.Proofs.Ytinmhhonpflojaa
open Go.V
set_option linter.unusedVariables false
set_option linter.unusedSimpArgs false

set_option maxRecDepth 10000 in
theorem delete_ok (w : World) (A : Option Addr) (n c i : Nat) (vs : List Value) (h : Hp) (k : OwnS 134 7 (.slice A n c) n vs h) (hi : i < n) (hb : n ≤ 2513169434843) (h1 : ones vs = true) :
    Does Try.prog 60 [.slice A n c, .int .i64 i, .int .i64 (i + 1)] h w (fun v hs => OwnS 134 7 v (n - 1) (vs.take (i * 7) ++ vs.drop ((i + 1) * 7)) hs) := by
  obtain ⟨b, o, l, rfl, -, rfl, hc, hl, hv⟩ := k.some_ (by omega)
  have hvl := k.1
  refine Does.of (n := 33) Try.func60 rfl rfl rfl rfl ?_
  refine .seq ((.region (.v (.assign rfl) (.nil ?_))))
  refine .seq ((.region (.v (.move rfl) (.v (.move rfl) (.v (.move rfl) (.v (.move rfl) (.v (.len rfl) (.v (.sl3 rfl rfl rfl rfl (by omega) (by omega) (by omega) (by omega)) (.nil ?_)))))))))
  refine .seq (.seq ((.region (.v (.move rfl) (.v (.move rfl) (.v (.eqi rfl rfl) (.nil ?_)))))))
  refine .cond_dec rfl (fun h1 => by omega) (fun _ => .skip ?_)
  refine .seq ((.region (.v (.move rfl) (.v (.len rfl) (.v (.assign rfl) (.nil ?_))))))
  refine .seq (.drawK [] (List.nil_subset _) (by kernel_rfl) (by kernel_rfl) ?_)
  refine .v (fun _ f => .move rfl) (.v (fun _ f => .move rfl) (.v (fun _ f => .slHi rfl rfl (by omega) (by omega)) (.v (fun _ f => .move rfl) (.v (fun _ f => .move rfl) (.v (fun _ f => .slLo rfl rfl (by omega) (by omega)) ?_)))))
  have e1 : ((i : Int)).toNat = i := by omega
  have e2 : ((i : Int) + 1).toNat = i + 1 := by omega
  have hnews : (vs.drop ((i + 1) * 7)).length = (n - (i + 1)) * 7 := by rw [List.length_drop, hvl, Nat.sub_mul]
  have hones : ones (vs.drop ((i + 1) * 7)) = true := by
    simp only [ones, List.all_eq_true] at h1 ⊢
    exact fun x hx => h1 x (List.mem_of_mem_drop hx)
  have kc := k.cut (i := i + 1) (by omega) (by omega)
  refine .ef (.appendIn (c := i) (k := n - (i + 1)) (news := vs.drop ((i + 1) * 7)) (b := b) (o := o) (cap := c) (l := l) rfl rfl
    (fun w s => by simp only [e1, e2]; exact (OwnS.rd kc s (fun p hp => hp) (by simp) (no := [])).src hnews (by omega)) hnews hones (by omega) (by omega)) (fun _ _ ⟨_, h2⟩ _ => List.nil_subset _) ?_
  rintro _ _ ⟨rfl, rfl⟩
  refine .v (fun _ f => .assign rfl) (.nil ?_)
  have e3 : i + (n - (i + 1)) = n - 1 := by omega
  rw [e3]
  refine .seq ((.region (.v (.move rfl) (.v (.move rfl) (.v (.len rfl) (.v (.move rfl) (.v (.slLoHi rfl rfl rfl (by omega) (by omega) (by omega)) ?_)))))))
  have e4 : (((n - 1 : Nat) : Int)).toNat = n - 1 := by omega
  have e5 : ((n : Int)).toNat = n := by omega
  simp only [e4, e5]
  rw [cutA_some (by omega)]
  have hlen2 : (V.splice l (o + i * 7) (vs.drop ((i + 1) * 7))).length = l.length := splice_length _ _ _ (by rw [hnews]; omega)
  refine .ef0 (.clearIn (z := [.int .u64 0, .int .u32 0, .int .i64 0, .int .i64 0, .int .u64 0, .int .u64 0, .int .u64 0]) rfl rfl (by rw [hlen2]; omega)) ?_
  rintro _ _ ⟨rfl, rfl⟩
  refine .nil ?_
  refine .seq ((.region (.v (.move rfl) (.v (.assign rfl) (.nil ?_)))))
  refine .ret ⟨[_], ⟨rfl, trivial⟩, ?_, .inr ⟨b, o, c, _, rfl, rfl, by omega, ?_, ?_⟩⟩
  · rw [List.length_append, List.length_take, hnews, hvl]
    rw [Nat.min_eq_left (Nat.mul_le_mul_right _ (by omega)), ← Nat.add_mul]
    congr 1
  · rw [splice_length _ _ _ (by rw [zeros_length, hlen2]; simp; omega), hlen2]; exact hl
  · rw [splice_keep _ _ o _ _ (Nat.le_refl _) (by rw [hlen2]; omega)]
    have := splice_app l (vs.take (i * 7)) (vs.drop ((i + 1) * 7)) o i 7 (n - (i + 1)) c (by rw [List.length_take, hvl]; omega) hnews (by omega) hl (by rw [← hv, List.take_take]; congr 1; omega)
    rw [e3] at this
    exact this

instance : OvT Try.prog 96 122 4 := ⟨_, Try.func96, by kernel_rfl, by kernel_rfl, by kernel_rfl, by kernel_rfl⟩
theorem ones_take {l : List Value} (h : ones l = true) (k : Nat) : ones (l.take k) = true := by
  simp only [ones, List.all_eq_true] at h ⊢
  exact fun x hx => h x (List.mem_of_mem_take hx)
theorem ones_drop {l : List Value} (h : ones l = true) (k : Nat) : ones (l.drop k) = true := by
  simp only [ones, List.all_eq_true] at h ⊢
  exact fun x hx => h x (List.mem_of_mem_drop hx)
set_option maxRecDepth 10000 in
theorem insert_ok (w : World) (A : Option Addr) (n c i vb : Nat) (vs oc : List Value) (h : Hp) (k : OwnS 134 7 (.slice A n c) n vs h) (hi : i ≤ n) (hb : n + 1 ≤ 2513169434843) (h1 : ones vs = true) (h2 : ones oc = true) (ho : oc.length = 7) :
    Does Try.prog 90 [.slice A n c, .int .i64 i, .slice (some ⟨vb, 0, none⟩) 1 1] (h ++ [(vb, .cells oc 134)]) w
      (fun v hs => OwnS 134 7 v (n + 1) (vs.take (i * 7) ++ oc ++ vs.drop (i * 7)) hs) := by
  have hvl := k.1
  refine Does.less (Does.of (n := 95) Try.func90 rfl rfl rfl rfl ?_)
  refine .seq ((.region (.v (.assign rfl) (.nil ?_))))
  refine .seq ((.region (.v (.move rfl) (.v (.move rfl) (.v (.slLo rfl rfl (by omega) (by omega)) (.nil ?_))))))
  refine .seq ((.region (.v (.move rfl) (.v (.len rfl) (.v (.assign rfl) (.nil ?_))))))
  refine .seq (.seq ((.region (.v (.move rfl) (.v (.eqi rfl rfl) (.nil ?_))))))
  refine .cond_dec rfl (fun h1 => by omega) (fun _ => .skip ?_)
  refine .seq ((.region (.v (.move rfl) (.v (.len rfl) (.v (.assign rfl) (.nil ?_))))))
  refine .seq (.seq ((.region (.v (.move rfl) (.v (.move rfl) (.v (.eqi rfl rfl) (.nil ?_)))))))
  refine .cond_dec rfl (fun g1 => ?_) (fun g1 => .skip ?_)
  · have hin : i = n := by omega
    subst hin
    refine .seq ((.region (.v (.move rfl) (.v (.move rfl) ?_))))
    refine .ef (.append (c := i) (k := 1) (vs := vs) (news := oc) (h := h) (fr := [(vb, .cells oc 134)]) rfl rfl k (by exact List.Perm.refl _) (fun w s => Src.cells (by omega) (fun j v hv => by rw [add_none, s.cell (b := vb) (T := 134) (l := oc) (by simp)]; simpa using hv)) (by omega) h2 (by omega) (by omega)) ?_
    rintro v _ ⟨h', k', rfl⟩
    refine .v (.assign rfl) (.nil ?_)
    refine .ret ⟨[_], ⟨rfl, trivial⟩, h', fun _ s => s.sub (List.sublist_append_left _ _), ?_⟩
    rw [List.take_of_length_le (by omega), List.drop_of_length_le (by omega), List.append_nil]
    exact k'
  · obtain ⟨b, o, l, rfl, -, rfl, hc, hl, hv⟩ := k.some_ (by omega)
    have e1 : ((i : Int)).toNat = i := by omega
    have e2 : ((i : Int) + 1).toNat = i + 1 := by omega
    have hD : (vs.drop (i * 7)).length = (n - i) * 7 := by rw [List.length_drop, hvl, Nat.sub_mul]
    have hT : (vs.take (i * 7)).length = i * 7 := by rw [List.length_take, hvl]; omega
    have hTl : (l.drop o).take (i * 7) = vs.take (i * 7) := by rw [← hv, List.take_take]; congr 1; omega
    have hDg : ∀ (j : Nat) (v : Value), (vs.drop (i * 7))[j]? = some v → l[o + i * 7 + j]? = some v := fun j v hj => by
      rw [← hv, List.getElem?_drop, List.getElem?_take] at hj
      split at hj
      · rw [List.getElem?_drop] at hj; rw [← hj]; congr 1; omega
      · cases hj
    refine .seq (.seq ((.region (.v (.move rfl) (.v (.move rfl) (.v (.addi rfl rfl (by omega)) (.v (.move rfl) (.v (.cap_ rfl) (.v (.gtr rfl rfl) (.nil ?_))))))))))
    refine .cond_dec rfl (fun g2 => ?_) (fun g2 => .skip ?_)
    · refine .seq ((.region (.v (.move rfl) (.v (.move rfl) (.v (.slHi rfl rfl (by omega) (by omega)) (.v (.move rfl) (.v (.move rfl) (.v (.addi rfl rfl (by omega)) (.v (.move rfl) (.v (.subi rfl rfl (by omega)) ?_))))))))))
      have e3 : ((n : Int) + (1 : Nat) - (i : Int)) = ((n + 1 - i : Nat) : Int) := by omega
      rw [e3, e1]
      refine .ef (.appendZ (b := b) (o := o) (c := i) (cap := c) (k := n + 1 - i) (l := l) (vs := vs.take (i * 7)) rfl rfl hTl hl (by omega) (by omega) (by omega) (by omega) (by omega)) ?_
      rintro _ _ ⟨nb, cap', r, rfl, rfl, hc', hr'⟩
      refine .v (.assign rfl) (.nil ?_)
      have e4 : i + (n + 1 - i) = n + 1 := by omega
      rw [e4] at hc' ⊢
      simp only [List.length_append, hT, zeros_length] at hr'
      refine .seq ((.region (.v (.move rfl) (.v (.move rfl) (.v (.slLo rfl rfl (by omega) (by omega)) (.v (.move rfl) ?_))))))
      rw [cutA_some (by omega)]
      have e6 : ((i : Int) + ((1 : Nat) : Int)).toNat = i + 1 := by omega
      have e7 : (i + 1) * 7 = i * 7 + 7 := by omega
      have hlen : (List.take (i * 7) vs ++ zeros [.int .u64 0, .int .u32 0, .int .i64 0, .int .i64 0, .int .u64 0, .int .u64 0, .int .u64 0] (n + 1 - i) ++ r).length = cap' * 7 := by
        simp only [List.length_append, hT, zeros_length]; exact hr'
      refine .ef (.copyIn (b := nb) (o := 0 + i * 7) (dl := n + 1 - i) (dc := cap' - i) (sl := 1) (k := 1) (news := oc) rfl rfl (by omega) (fun w s => run_lenOf_sl) (fun w s => s.first (T := 134) (l := oc) (by omega) (fun j v hv => by simpa using hv)) h2 (by rw [hlen]; omega)) ?_
      rintro _ _ ⟨rfl, rfl⟩
      refine .nil ?_
      refine .seq (.drawK [] (List.nil_subset _) (by kernel_rfl) (by kernel_rfl) ?_)
      refine .v (fun _ f => .move rfl) (.v (fun _ f => .move rfl) (.v (fun _ f => .move rfl) (.v (fun _ f => .addi rfl rfl (by omega)) (.v (fun _ f => .slLo rfl rfl (by omega) (by omega)) (.v (fun _ f => .move rfl) (.v (fun _ f => .move rfl) (.v (fun _ f => .slLo rfl rfl (by omega) (by omega)) ?_)))))))
      rw [e6, e1, cutA_some (by omega), cutA_some (by omega)]
      refine .ef (.copyIn (b := nb) (o := 0 + (i + 1) * 7) (dl := n + 1 - (i + 1)) (dc := cap' - (i + 1)) (sl := n - i) (k := n - i) (news := vs.drop (i * 7)) rfl rfl (by omega) (fun w s => run_lenOf_sl) (fun w s => s.first (T := 134) (l := l) hD hDg) (ones_drop h1 _)
        (by rw [splice_length _ _ _ (by rw [hlen]; omega), hlen, hD]; omega)) (fun _ _ _ _ => List.nil_subset _) ?_
      rintro _ _ ⟨rfl, rfl⟩
      refine .nil ?_
      refine .seq ((.region (.v (.move rfl) (.v (.assign rfl) (.nil ?_)))))
      refine .ret ⟨[_], ⟨rfl, trivial⟩, [(nb, _)], fun _ s => s.sub (.cons_cons _ (List.nil_sublist _)), ?_, .inr ⟨nb, 0, cap', _, rfl, rfl, hc', ?_, ?_⟩⟩
      · simp only [List.length_append, hT, ho, hD]; omega
      · rw [splice_length _ _ _ (by rw [splice_length _ _ _ (by rw [hlen]; omega), hlen, hD]; omega), splice_length _ _ _ (by rw [hlen]; omega), hlen]; omega
      · have := ins_two' (List.take (i * 7) vs ++ zeros [.int .u64 0, .int .u32 0, .int .i64 0, .int .i64 0, .int .u64 0, .int .u64 0, .int .u64 0] (n + 1 - i) ++ r) oc (vs.drop (i * 7)) 0 (i * 7) 7 ho (by rw [hlen, hD]; omega)
        rw [hD] at this
        rw [e7, show (n + 1) * 7 = i * 7 + 7 + (n - i) * 7 from by omega, this]
        congr 2
        rw [List.drop_zero, List.append_assoc, List.take_append_of_le_length (by omega), List.take_of_length_le (by omega)]
    · refine .nd fun hnd => ?_
      have hne : vb ≠ b := by
        simp [bl] at hnd
        exact fun e => hnd e.symm
      refine .seq ((.region (.v (.move rfl) (.v (.move rfl) (.v (.move rfl) (.v (.addi rfl rfl (by omega)) (.v (.slHi rfl rfl (by omega) (by omega)) (.v (.assign rfl) (.nil ?_)))))))))
      have e5 : ((n : Int) + ((1 : Nat) : Int)).toNat = n + 1 := by omega
      have e6 : ((i : Int) + ((1 : Nat) : Int)).toNat = i + 1 := by omega
      have e7 : (i + 1) * 7 = i * 7 + 7 := by omega
      rw [e5]
      refine .seq (.seq ((.region (.v (.move rfl) (.v (.move rfl) (.v (.move rfl) (.v (.move rfl) (.v (.addi rfl rfl (by omega)) (.v (.slLo rfl rfl (by omega) (by omega)) ?_)))))))))
      rw [e6, cutA_some (by omega)]
      refine .v (.overlapsNo rfl rfl (b1 := vb) (b2 := b) (l1 := oc) (l2 := l) (T1 := 134) (T2 := 134) hne (by intro e; subst e; simp at hl; omega)) (.v (.not rfl) (.nil ?_))
      refine .cond_true rfl ?_
      refine .seq (.drawK [] (List.nil_subset _) (by kernel_rfl) (by kernel_rfl) ?_)
      refine .v (fun _ f => .move rfl) (.v (fun _ f => .move rfl) (.v (fun _ f => .move rfl) (.v (fun _ f => .addi rfl rfl (by omega)) (.v (fun _ f => .slLo rfl rfl (by omega) (by omega)) (.v (fun _ f => .move rfl) (.v (fun _ f => .move rfl) (.v (fun _ f => .slLo rfl rfl (by omega) (by omega)) ?_)))))))
      rw [e6, e1, cutA_some (by omega), cutA_some (by omega)]
      refine .ef (.copyIn (b := b) (o := o + (i + 1) * 7) (dl := n + 1 - (i + 1)) (dc := c - (i + 1)) (sl := n + 1 - i) (k := n - i) (news := vs.drop (i * 7)) (l := l) rfl rfl (by omega) (fun w s => run_lenOf_sl) (fun w s => s.first (T := 134) (l := l) hD hDg) (ones_drop h1 _)
        (by rw [hD]; omega)) (fun _ _ _ _ => List.nil_subset _) ?_
      rintro _ _ ⟨rfl, rfl⟩
      refine .nil ?_
      have hlen : (V.splice l (o + (i + 1) * 7) (vs.drop (i * 7))).length = l.length := splice_length _ _ _ (by rw [hD]; omega)
      refine .seq ((.region (.v (.move rfl) (.v (.move rfl) (.v (.slLo rfl rfl (by omega) (by omega)) (.v (.move rfl) ?_))))))
      rw [e1, cutA_some (by omega)]
      refine .ef (.copyIn (b := b) (o := o + i * 7) (dl := n + 1 - i) (dc := c - i) (sl := 1) (k := 1) (news := oc) rfl rfl (by omega) (fun w s => run_lenOf_sl) (fun w s => s.first (T := 134) (l := oc) (by omega) (fun j v hv => by simpa using hv)) h2 (by rw [hlen]; omega)) ?_
      rintro _ _ ⟨rfl, rfl⟩
      refine .nil ?_
      refine .seq ((.region (.v (.move rfl) (.v (.assign rfl) (.nil ?_)))))
      refine .ret ⟨[_], ⟨rfl, trivial⟩, [(b, _)], fun _ s => s.sub (.cons_cons _ (List.nil_sublist _)), ?_, .inr ⟨b, o, c, _, rfl, rfl, by omega, ?_, ?_⟩⟩
      · simp only [List.length_append, hT, ho, hD]; omega
      · rw [splice_length _ _ _ (by rw [hlen]; omega), hlen]; exact hl
      · have := ins_two l oc (vs.drop (i * 7)) o (i * 7) 7 ho (by rw [hD]; omega)
        rw [hD] at this
        rw [e7, show (n + 1) * 7 = i * 7 + 7 + (n - i) * 7 from by omega, this, hTl]
end Go.Proofs.Ytinmhhonpflojaa

/- Events; (*teller).tell. -/
namespace Go.Proofs.Ytinmhhonpflojaa
open Go.V
set_option linter.unusedVariables false
set_option linter.unusedSimpArgs false

structure Ev where
  seq : Int
  kind : Int
  id : Int
  other : Int
  target : Int
  mb : Int
  sd : Int
  ty : Int
  pr : Int
  q : Int
  pk : Int
  reason : Int
  code : Int
abbrev ecells (seq kind id other target mb sd ty pr q pk reason code : Int) : List Value := [.int .u64 seq, .int .i64 kind, .int .u64 id, .int .u64 other, .int .u64 target, .int .u32 mb, .int .i64 sd, .int .i64 ty, .int .i64 pr, .int .u64 q, .int .u64 pk, .int .i64 reason, .int .i64 code]
def Ev.cells (e : Ev) : List Value := ecells e.seq e.kind e.id e.other e.target e.mb e.sd e.ty e.pr e.q e.pk e.reason e.code
/-- an event with its number -/
def Ev.num (e : Ev) (s : Int) : Ev := ⟨s, e.kind, e.id, e.other, e.target, e.mb, e.sd, e.ty, e.pr, e.q, e.pk, e.reason, e.code⟩
def erows (l : List Ev) : List Value := l.flatMap Ev.cells
theorem erows_length (l : List Ev) : (erows l).length = l.length * 13 := flatMap_length _ 13 (fun _ => rfl) l
theorem erows_get (l : List Ev) (i j : Nat) (hi : i < l.length) (hj : j < 13) : (erows l)[i * 13 + j]? = (l[i].cells)[j]? := flatMap_get _ 13 (fun _ => rfl) l i j hi hj
theorem erows_app (a b : List Ev) : erows (a ++ b) = erows a ++ erows b := by simp [erows]
theorem erows_ones (l : List Ev) : ones (erows l) = true := by
  induction l with
  | nil => rfl
  | cons e l ih => rw [show e :: l = [e] ++ l from rfl, erows_app, ones, List.all_append, Bool.and_eq_true]; exact ⟨rfl, ih⟩
theorem Rd.ev {w : World} {no : List Nat} {A : Option Addr} {l : List Ev} (h : Rd w no A (erows l)) (hn : 0 < l.length) :
    ∃ b o, A = some ⟨b, o, none⟩ ∧ b ∉ no ∧ ∀ (i : Nat) (hi : i < l.length) (j : Nat) (v : Value), j < 13 → (l[i].cells)[j]? = some v → w.cell? ⟨b, o + i * 13 + j, none⟩ = some v := by
  obtain ⟨b, o, e, hb, hc⟩ := h.base (by rw [erows_length]; omega)
  refine ⟨b, o, e, hb, fun i hi j v hj hv => ?_⟩
  have := hc (i * 13 + j) v (by rw [erows_get l i j hi hj]; exact hv)
  rw [Nat.add_assoc]; exact this
/-- the next number -/
def nx (s : Int) : Int := IntKind.u64.wrap (s + 1)
/-- a list of events that is somebody's own -/
abbrev Evs (v : Value) (l : List Ev) (h : Hp) : Prop := OwnS 88 13 v l.length (erows l) h
abbrev Tt (t b : Nat) (v : Value) : Nat × Ch := (t, .cells [.pointer (some ⟨b, 0, none⟩), v] 129)
abbrev Tb (b : Nat) (l : List Value) : Nat × Ch := (b, .cells l 126)

set_option maxRecDepth 10000 in
theorem tell_ok (w : World) (t b : Nat) (x0 x1 x2 x3 x4 : Value) (seq : Int) (e : Ev) (evs : List Ev) (v : Value) (ke : Hp) (ho : Evs v evs ke) (hn : evs.length + 1 ≤ 1000000000000) :
    Does Try.prog 59 [.pointer (some ⟨t, 0, none⟩), .agg ⟨e.cells⟩] (Tt t b v :: Tb b [x0, x1, x2, x3, x4, .int .u64 seq] :: ke) w
      (fun _ hs => ∃ v' ke', hs = Tt t b v' :: Tb b [x0, x1, x2, x3, x4, .int .u64 (nx seq)] :: ke' ∧ Evs v' (evs ++ [e.num (nx seq)]) ke') := by
  obtain ⟨A, c, rfl⟩ := OwnS.sl ho
  obtain ⟨q0, q1, q2, q3, q4, q5, q6, q7, q8, q9, q10, q11, q12⟩ := e
  refine Does.less (Does.of (n := 35) Try.func59 rfl rfl rfl rfl ?_)
  refine .seq ((.region (.nw (.box (l := [.int .u64 q0, .int .i64 q1, .int .u64 q2, .int .u64 q3, .int .u64 q4, .int .u32 q5, .int .i64 q6, .int .i64 q7, .int .i64 q8, .int .u64 q9, .int .u64 q10, .int .i64 q11, .int .i64 q12]) rfl rfl) fun b3 => (.nil ?_))))
  refine .seq ((.region (.v (.move rfl) (.v (.nilCheck rfl) (.v (.fieldAddr rfl) (.v (.load (v := .pointer (some ⟨b, 0, none⟩)) rfl (.one rfl)) (.v (.nilCheck rfl) (.v (.fieldAddr rfl) (.v (.fieldAddr rfl) (.v (.load (v := .int .u64 seq) rfl (.one rfl)) (.v (.add rfl rfl) (.v (.nilCheck rfl) (.v (.fieldAddr rfl) (.v (.fieldAddr rfl) (.st (.storeL rfl rfl rfl) (.nil ?_))))))))))))))))
  refine .seq ((.region (.v (.move rfl) (.v (.nilCheck rfl) (.v (.fieldAddr rfl) (.v (.load (v := .pointer (some ⟨b, 0, none⟩)) rfl (.one rfl)) (.v (.nilCheck rfl) (.v (.fieldAddr rfl) (.v (.fieldAddr rfl) (.v (.load (v := .int .u64 (nx seq)) rfl (.one rfl)) (.v (.fieldAddr rfl) (.st (.storeL rfl rfl rfl) (.nil ?_)))))))))))))
  refine (.drawQ 10 [0, 1, 2, 3, 4, 5, 6, 7, 8, 9, 10] [(b3, .cells [.int .u64 (nx seq), .int .i64 q1, .int .u64 q2, .int .u64 q3, .int .u64 q4, .int .u32 q5, .int .i64 q6, .int .i64 q7, .int .i64 q8, .int .u64 q9, .int .u64 q10, .int .i64 q11, .int .i64 q12] 88), Tt t b (.slice A evs.length c)] (by intro p hp; simp at hp ⊢; rcases hp with rfl | rfl <;> simp) (by kernel_rfl) (by kernel_rfl) ?_)
  refine .v (fun _ f => .move rfl) (.v (fun _ f => .move rfl) (.v (fun _ f => .nilCheck rfl) (.v (fun _ f => .fieldAddr rfl) (.v (fun _ f => .load (v := .slice A evs.length c) rfl (.one (b := t) (T := 129) (hb := .sub f) rfl)) (.v (fun _ f => .loadA (vs := [.int .u64 (nx seq), .int .i64 q1, .int .u64 q2, .int .u64 q3, .int .u64 q4, .int .u32 q5, .int .i64 q6, .int .i64 q7, .int .i64 q8, .int .u64 q9, .int .u64 q10, .int .i64 q11, .int .i64 q12]) rfl (.whole (hb := .sub f)) rfl) ?_)))))
  refine .ef (.buildSlice (out := [.int .u64 (nx seq), .int .i64 q1, .int .u64 q2, .int .u64 q3, .int .u64 q4, .int .u32 q5, .int .i64 q6, .int .i64 q7, .int .i64 q8, .int .u64 q9, .int .u64 q10, .int .i64 q11, .int .i64 q12]) rfl (by decide) rfl rfl) (fun v hs' ⟨b, _, e⟩ f => by subst e; exact fun p hp => List.mem_cons_of_mem _ (f hp)) ?_
  rintro _ _ ⟨nb, rfl, rfl⟩
  refine .ef (.append (c := evs.length) (k := 1) (vs := erows evs) (news := [.int .u64 (nx seq), .int .i64 q1, .int .u64 q2, .int .u64 q3, .int .u64 q4, .int .u32 q5, .int .i64 q6, .int .i64 q7, .int .i64 q8, .int .u64 q9, .int .u64 q10, .int .i64 q11, .int .i64 q12]) (h := ke) (fr := (nb, .cells [.int .u64 (nx seq), .int .i64 q1, .int .u64 q2, .int .u64 q3, .int .u64 q4, .int .u32 q5, .int .i64 q6, .int .i64 q7, .int .i64 q8, .int .u64 q9, .int .u64 q10, .int .i64 q11, .int .i64 q12] 88) :: (b3, .cells [.int .u64 (nx seq), .int .i64 q1, .int .u64 q2, .int .u64 q3, .int .u64 q4, .int .u32 q5, .int .i64 q6, .int .i64 q7, .int .i64 q8, .int .u64 q9, .int .u64 q10, .int .i64 q11, .int .i64 q12] 88) :: Tt t b (.slice A evs.length c) :: [Tb b [x0, x1, x2, x3, x4, .int .u64 (nx seq)]]) rfl rfl ho (by exact List.perm_append_comm (l₁ := [_, _, _, _]))
    (fun w s => Src.cells rfl (fun j v hv => by rw [add_none, s.cell (b := nb) (T := 88) (l := [.int .u64 (nx seq), .int .i64 q1, .int .u64 q2, .int .u64 q3, .int .u64 q4, .int .u32 q5, .int .i64 q6, .int .i64 q7, .int .i64 q8, .int .u64 q9, .int .u64 q10, .int .i64 q11, .int .i64 q12]) (by simp)]; simpa using hv)) rfl rfl (by omega) (by omega)) (fun v hs' ⟨h', _, e⟩ _ => by subst e; intro p hp; simp at hp ⊢; rcases hp with rfl | rfl <;> simp) ?_
  rintro v' _ ⟨ke', o', rfl⟩
  obtain ⟨A', c', rfl⟩ := OwnS.sl o'
  refine .v (fun _ f => .nilCheck rfl) (.v (fun _ f => .fieldAddr rfl) (.st (.storeL rfl rfl rfl) (.nil ?_)))
  refine ⟨[], trivial, Tt t b (.slice A' (evs.length + 1) c') :: Tb b [x0, x1, x2, x3, x4, .int .u64 (nx seq)] :: ke', fun _ s => ?_, _, ke', rfl, ?_⟩
  · refine (s.perm (List.perm_append_comm (l₁ := ke'))).sub ?_
    exact .cons _ (.cons _ (.refl _))
  · unfold Evs
    rw [erows_app, List.length_append]
    exact o'
end Go.Proofs.Ytinmhhonpflojaa

/- (*feed.Publisher).Publish and the document's. -/
namespace Go.Proofs.Ytinmhhonpflojaa
open Go.V
set_option linter.unusedVariables false
set_option linter.unusedSimpArgs false

def trd (e : Ev) : Dt := ⟨1, 2, e.sd, e.pr, e.q, 0⟩
def trs (l : List Ev) : List Dt := (l.filter fun e => decide (e.kind = 3)).map trd
def trOk (l : List Ev) : Prop := ∀ e ∈ l, e.kind = 3 → (trd e).can
theorem trs_length (l : List Ev) : (trs l).length ≤ l.length := by
  unfold trs; rw [List.length_map]; exact List.length_filter_le _ _
theorem trs_take {l : List Ev} {i : Nat} (h : i < l.length) : trs (l.take (i + 1)) = trs (l.take i) ++ if l[i].kind = 3 then [trd l[i]] else [] := by
  rw [List.take_succ_eq_append_getElem h]
  unfold trs
  rw [List.filter_append, List.map_append]
  by_cases e : l[i].kind = 3 <;> simp [e]
abbrev okPub (bs ss : List Lv) (evs : List Ev) : Prop := Fit 1 bs ∧ Fit 2 ss ∧ trOk evs
def raw (p : Pc) (bs ss : List Lv) (evs : List Ev) : List Dt := trs evs ++ chg 1 p.bs bs ++ chg 2 p.ss ss
def Pc.next (p : Pc) (bs ss : List Lv) (evs : List Ev) : Pc := ⟨(p.seq + (raw p bs ss evs).length) % 18446744073709551616, bs, ss⟩
abbrev ubcells (depth seq : Int) (v1 v2 : Value) : List Value := [.int .i64 depth, .int .u64 seq, v1, v2]
abbrev Ub (b : Nat) (depth : Int) (p : Pc) (v1 v2 : Value) : Nat × Ch := (b, .cells (ubcells depth p.seq v1 v2) 105)
/-- a publisher in memory -/
def PubH (b : Nat) (depth : Int) (p : Pc) (hs : Hp) : Prop := ∃ v1 v2 k1 k2, hs = Ub b depth p v1 v2 :: (k1 ++ k2) ∧ LOwn v1 p.bs k1 ∧ LOwn v2 p.ss k2
/-- what a Publish leaves and tells -/
noncomputable def Pc.pub (p : Pc) (depth : Nat) (bs ss : List Lv) (evs : List Ev) : Option (Pc × List Dt) :=
  open Classical in if okPub bs ss evs then some (p.next (bs.take depth) (ss.take depth) evs, num p.seq (raw p (bs.take depth) (ss.take depth) evs)) else none
theorem Pc.pub_some {p : Pc} {depth : Nat} {bs ss : List Lv} {evs : List Ev} (h : okPub bs ss evs) : p.pub depth bs ss evs = some (p.next (bs.take depth) (ss.take depth) evs, num p.seq (raw p (bs.take depth) (ss.take depth) evs)) := by
  unfold Pc.pub; rw [if_pos h]
theorem Pc.pub_none {p : Pc} {depth : Nat} {bs ss : List Lv} {evs : List Ev} (h : ¬ okPub bs ss evs) : p.pub depth bs ss evs = none := by
  unfold Pc.pub; rw [if_neg h]
structure TrS where
  i : Nat
  v : Value
  h : Hp
structure TrS.I (evs : List Ev) (x : TrS) : Prop where
  le : x.i ≤ evs.length
  o : DOwn x.v (trs (evs.take x.i)) x.h
  ok : trOk (evs.take x.i)
theorem TrS.I.step {evs : List Ev} {x : TrS} (h : TrS.I evs x) (hi : x.i < evs.length) {e : Ev} (he : evs[x.i] = e) (hk : e.kind = 3 → (trd e).can) : trOk (evs.take (x.i + 1)) := by
  rw [List.take_succ_eq_append_getElem hi, he]
  intro y hy hk'
  rcases List.mem_append.1 hy with hy | hy
  · exact h.ok y hy hk'
  · have : y = e := by simpa using hy
    subst this; exact hk hk'
theorem trOk_full {evs : List Ev} {i : Nat} (h : ¬ i < evs.length) (k : trOk (evs.take i)) : trOk evs := by
  rwa [List.take_of_length_le (by omega)] at k
theorem trOk_not {evs : List Ev} {i : Nat} (hi : i < evs.length) {e : Ev} (he : evs[i] = e) (hk : e.kind = 3) (h : ¬ (trd e).can) : ¬ trOk evs := fun k => h (he ▸ k _ (List.getElem_mem hi) (by rw [he]; exact hk))
/-- numbers are being given -/
structure NmS where
  i : Nat
  h : Hp
  v : Value
def numd (s : Int) (l : List Dt) (i : Nat) : List Dt := num s (l.take i) ++ l.drop i
theorem num_app (s : Int) : ∀ a b : List Dt, num s (a ++ b) = num s a ++ num ((s + a.length) % 18446744073709551616) b
  | [], b => by
    cases b with
    | nil => rfl
    | cons x l => simp [num]
  | x :: a, b => by
    have e : ((s + 1) % 18446744073709551616 + (a.length : Int)) % 18446744073709551616 = (s + ((a.length + 1 : Nat) : Int)) % 18446744073709551616 := by omega
    simp only [List.cons_append, num, num_app _ a b, e, List.length_cons]
theorem numd_succ (s : Int) (l : List Dt) (i : Nat) (h : i < l.length) : numd s l (i + 1) = (numd s l i).set i { l[i] with s := (s + i + 1) % 18446744073709551616 } := by
  unfold numd
  have hl : (num s (l.take i)).length = i := by rw [num_length, List.length_take]; omega
  rw [List.take_succ_eq_append_getElem h, num_app, List.drop_eq_getElem_cons h, List.set_append_right _ _ (by omega), hl, Nat.sub_self, List.set_cons_zero, List.append_assoc]
  congr 1
  rw [List.length_take, Nat.min_eq_left (by omega)]
  have e : ((s + (i : Int)) % 18446744073709551616 + 1) % 18446744073709551616 = (s + i + 1) % 18446744073709551616 := by omega
  simp [num, e]
theorem numd_length (s : Int) (l : List Dt) (i : Nat) : (numd s l i).length = l.length := by
  unfold numd; rw [List.length_append, num_length, List.length_take, List.length_drop]; omega
theorem numd_get (s : Int) (l : List Dt) (i : Nat) (h : i < l.length) : (numd s l i)[i]'(by rw [numd_length]; exact h) = l[i] := by
  have hl : (num s (l.take i)).length = i := by rw [num_length, List.length_take]; omega
  unfold numd
  rw [List.getElem_append_right (by omega)]
  simp [hl]
theorem drows_set {l : List Dt} {i : Nat} {q : Int} (h : i < l.length) : drows (l.set i { l[i] with s := q }) = (drows l).set (i * 6) (.int .u64 q) := by
  apply List.ext_getElem?
  intro k
  by_cases hk : k < l.length * 6
  · have e : k = k / 6 * 6 + k % 6 := by omega
    have hq : k / 6 < l.length := by omega
    have hr : k % 6 < 6 := Nat.mod_lt _ (by omega)
    rw [e, drows_get _ _ _ (by simpa using hq) hr, List.getElem?_set, List.getElem_set, drows_get _ _ _ hq hr, drows_length]
    by_cases e1 : i = k / 6
    · subst e1
      rw [if_pos rfl]
      by_cases e2 : k % 6 = 0
      · rw [if_pos (by omega), if_pos (by omega), e2]; rfl
      · rw [if_neg (by omega)]
        have : ∀ r, r < 6 → r ≠ 0 → (Dt.cells { l[k / 6] with s := q })[r]? = (l[k / 6].cells)[r]? := by
          intro r h1 h2
          match r, h1, h2 with
          | 1, _, _ => rfl
          | 2, _, _ => rfl
          | 3, _, _ => rfl
          | 4, _, _ => rfl
          | 5, _, _ => rfl
        exact this _ hr e2
    · rw [if_neg e1, if_neg (by omega)]
  · rw [List.getElem?_eq_none (by rw [drows_length, List.length_set]; omega), List.getElem?_eq_none (by rw [List.length_set, drows_length]; omega)]

theorem numd_zero (s : Int) (l : List Dt) : numd s l 0 = l := by simp [numd, num]
theorem numd_full (s : Int) (l : List Dt) : numd s l l.length = num s l := by simp [numd]
theorem down_set {l : List Dt} {b o c : Nat} {lc : List Value} {i : Nat} {q : Int} (k : DOwn (.slice (some ⟨b, o, none⟩) l.length c) l [(b, .cells lc 24)]) (h : i < l.length) :
    DOwn (.slice (some ⟨b, o, none⟩) l.length c) (l.set i { l[i] with s := q }) [(b, .cells (lc.set (o + i * 6) (.int .u64 q)) 24)] := by
  have := OwnS.setAt (i := i * 6) (v := .int .u64 q) k (by omega)
  unfold DOwn
  rw [drows_set h, List.length_set]; exact this
structure PbS where
  v1 : Value
  v2 : Value
  k1 : Hp
  k2 : Hp
  v : Value
  h : Hp
set_option maxRecDepth 20000 in
set_option maxHeartbeats 1000000 in
theorem publish_ok (w : World) (b depth : Nat) (hd : depth ≤ 64) (p : Pc) (hq : 0 ≤ p.seq ∧ p.seq < 18446744073709551616) (v1 v2 : Value) (k1 k2 : Hp) (h1 : LOwn v1 p.bs k1) (h2 : LOwn v2 p.ss k2) (B1 B2 Be : Option Addr) (c1 c2 ce : Nat) (bs ss : List Lv) (evs : List Ev)
    (r1 : Rd w (bl (Ub b depth p v1 v2 :: (k1 ++ k2))) B1 (lrows bs)) (r2 : Rd w (bl (Ub b depth p v1 v2 :: (k1 ++ k2))) B2 (lrows ss)) (re : Rd w (bl (Ub b depth p v1 v2 :: (k1 ++ k2))) Be (erows evs)) (hc1 : bs.length ≤ c1) (hc2 : ss.length ≤ c2)
    (hb : bs.length + ss.length + evs.length ≤ 4000000) (hp : p.bs.length + p.ss.length ≤ 1000) :
    Does Try.prog 18 [.pointer (some ⟨b, 0, none⟩), .slice B1 bs.length c1, .slice B2 ss.length c2, .slice Be evs.length ce] (Ub b depth p v1 v2 :: (k1 ++ k2)) w
      (fun v hs => match p.pub depth bs ss evs with
        | none => v = .tuple ⟨[.slice none 0 0, .int .i64 1]⟩ ∧ hs = Ub b depth p v1 v2 :: (k1 ++ k2)
        | some (p', ms) => ∃ vm hm hp, v = .tuple ⟨[vm, .int .i64 0]⟩ ∧ DOwn vm ms hm ∧ hs = hp ++ hm ∧ PubH b depth p' hp) := by
  obtain ⟨A1, a1, rfl⟩ := lown_sl h1
  obtain ⟨A2, a2, rfl⟩ := lown_sl h2
  refine Does.less (Does.of (n := 120) Try.func18 rfl rfl rfl rfl ?_)
  refine .seq ((.region (.v (.assign rfl) (.v (.assign rfl) (.nil ?_)))))
  refine .seq (.seq ((.region (.v (.move rfl) (.pc (v := .bool (decide (Fit 1 bs))) rfl rfl (fun w s => fit_ok w 1 B1 bs.length c1 bs (r1.keep0 s) rfl (by omega)) (.v (.not rfl) (.v (.move rfl) (.or (b2 := !decide (Fit 2 ss)) 18 21 3 3 rfl rfl (fun g1 => .v (.move rfl) (.pc (v := .bool (decide (Fit 2 ss))) rfl rfl (fun w s => fit_ok w 2 B2 ss.length c2 ss (r2.keep0 s) rfl (by omega)) (.v (.not rfl) (.nil ⟨rfl, rfl, rfl, rfl⟩)))) (.nil ?_)))))))))
  refine .cond rfl (fun h1 => ?_) (fun h1 => .skip ?_)
  · simp only [Bool.and_eq_true, Bool.or_eq_true, Bool.not_eq_true', Bool.and_eq_false_iff, Bool.or_eq_false_iff, Bool.not_eq_false', decide_eq_true_eq, decide_eq_false_iff_not, Bool.false_eq_true, false_iff] at h1
    have e : p.pub depth bs ss evs = none := Pc.pub_none fun h => by rcases h1 with h1 | h1; exact h1 h.1; exact h1 h.2.1
    rw [e]
    refine .seq ((.region (.v (.assign rfl) (.v (.assign rfl) (.nil ?_)))))
    exact .ret ⟨[_, _], ⟨rfl, rfl, trivial⟩, _, fun _ s => s, rfl, rfl⟩
  · simp only [Bool.and_eq_true, Bool.or_eq_true, Bool.not_eq_true', Bool.and_eq_false_iff, Bool.or_eq_false_iff, Bool.not_eq_false', decide_eq_true_eq, decide_eq_false_iff_not, Bool.false_eq_true, false_iff] at h1
    refine .seq ((.region (.v (.assign rfl) (.nil ?_))))
    refine .seq (.seq ((.region (.v (.move rfl) (.v (.len rfl) (.v (.move rfl) (.nil ?_)))))))
    refine .block (.loop (X := TrS) (fun x => [(0, .pointer (some ⟨b, 0, none⟩)), (1, .slice B1 bs.length c1), (2, .slice B2 ss.length c2), (10, x.v), (23, .slice Be evs.length ce), (24, .int .i64 evs.length), (25, .int .i64 x.i)]) (fun x => x.h ++ (Ub b depth p (.slice A1 p.bs.length a1) (.slice A2 p.ss.length a2) :: (k1 ++ k2))) (TrS.I evs) (fun x => evs.length - x.i) ⟨0, .slice none 0 0, []⟩ ⟨by simp, OwnS.nil _ _, fun e he => by simp at he⟩ (.cons rfl (.cons rfl (.cons rfl (.cons rfl (.cons rfl (.cons rfl (.cons rfl (.nil _)))))))) (fun _ s => s) ?_)
    intro x hI
    have hle := hI.le
    have htl := trs_length (evs.take x.i)
    rw [List.length_take] at htl
    refine .seq ((.region (.v (.lss rfl rfl) (.nil ?_))))
    refine .seq (.cond_dec rfl (fun h2 => .skip ?_) (fun h2 => .exit ?_))
    · have hil : x.i < evs.length := by omega
      obtain ⟨be, oe, rfl, hc⟩ := Rd.recs Ev.cells 13 (fun _ => rfl) re (by omega) (by omega)
      have q := fun hs => recAt Ev.cells 13 (fun _ => rfl) (z := (x.i : Int)) (hc hs) hil
      have hst := trs_take hil
      obtain ⟨e, he⟩ : ∃ e, evs[x.i] = e := ⟨_, rfl⟩
      rw [he] at q hst
      refine .seq (.block (.seq ((.region (.v (.indexAddr rfl rfl (by omega) (by omega)) (.v (.loadA (vs := e.cells) rfl (q _) rfl) (.nw .alloc fun b12 => (.st (.sw rfl rfl) (.nil ?_)))))))))
      refine .seq (.seq ((.region (.v (.fieldAddr rfl) (.v (.load (v := .int .i64 e.kind) rfl (.one rfl)) (.v (.nei rfl rfl) (.nil ?_)))))))
      refine .cond_dec rfl (fun h3 => .exit ?_) (fun h3 => .skip ?_)
      · refine .region (.v (.addi rfl rfl (by omega)) (.v (.move rfl) (.nil ?_)))
        rw [if_neg (by omega), List.append_nil] at hst
        refine ⟨⟨x.i + 1, x.v, x.h⟩, ⟨by show x.i + 1 ≤ _; omega, ?_, hI.step hil he (fun hk => absurd hk (by omega))⟩, by show evs.length - (x.i + 1) < _; omega, .cons rfl (.cons rfl (.cons rfl (.cons rfl (.cons rfl (.cons rfl (.cons rfl (.nil _))))))), fun _ s => s.take⟩
        rw [hst]; exact hI.o
      · have hk : e.kind = 3 := by omega
        refine .seq ((.region (.v (.fieldAddr rfl) (.v (.load (v := .int .i64 e.sd) rfl (.one rfl)) (.v (.fieldAddr rfl) (.v (.load (v := .int .i64 e.pr) rfl (.one rfl)) (.v (.fieldAddr rfl) (.v (.load (v := .int .u64 e.q) rfl (.one rfl)) (.v (.build (out := (trd e).cells) rfl rfl) (.nw .alloc fun b13 => (.st (.sw rfl rfl) (.nil ?_))))))))))))
        refine .seq (.seq ((.region (.v (.loadA (vs := (trd e).cells) rfl .whole rfl) (.pc (v := .bool (decide (trd e).can)) rfl rfl (fun w s => canBe_ok w 1 2 e.sd e.pr e.q 0) (.v (.not rfl) (.nil ?_)))))))
        refine .cond rfl (fun h4 => ?_) (fun h4 => .skip ?_)
        · simp only [Bool.and_eq_true, Bool.or_eq_true, Bool.not_eq_true', Bool.and_eq_false_iff, Bool.or_eq_false_iff, Bool.not_eq_false', decide_eq_true_eq, decide_eq_false_iff_not, Bool.false_eq_true, false_iff] at h4
          have e1 : p.pub depth bs ss evs = none := Pc.pub_none fun h => trOk_not hil he hk h4 h.2.2
          rw [e1]
          refine .seq ((.region (.v (.assign rfl) (.v (.assign rfl) (.nil ?_)))))
          exact .ret ⟨[_, _], ⟨rfl, rfl, trivial⟩, _, fun _ s => s.take, rfl, rfl⟩
        · simp only [Bool.and_eq_true, Bool.or_eq_true, Bool.not_eq_true', Bool.and_eq_false_iff, Bool.or_eq_false_iff, Bool.not_eq_false', decide_eq_true_eq, decide_eq_false_iff_not, Bool.false_eq_true, false_iff] at h4
          refine .region (.v (.move rfl) (.v (.loadA (vs := (trd e).cells) rfl .whole rfl) (.push (vs := drows (trs (evs.take x.i))) (c := (trs (evs.take x.i)).length) (oc := (trd e).cells) rfl rfl hI.o rfl rfl rfl (by omega) (by omega) ?_)))
          intro b9 v' h' k'
          refine .v (.assign rfl) (.nil ?_)
          refine .region (.v (.addi rfl rfl (by omega)) (.v (.move rfl) (.nil ?_)))
          rw [if_pos hk] at hst
          refine ⟨⟨x.i + 1, v', h'⟩, ⟨by show x.i + 1 ≤ _; omega, ?_, hI.step hil he (fun _ => h4)⟩, by show evs.length - (x.i + 1) < _; omega, .cons rfl (.cons rfl (.cons rfl (.cons rfl (.cons rfl (.cons rfl (.cons rfl (.nil _))))))), fun _ s => s.take⟩
          unfold DOwn
          rw [hst, List.length_append, drows_app]; simpa [drows] using k'
    · have hok : okPub bs ss evs := ⟨h1.1, h1.2, trOk_full (by omega) hI.ok⟩
      have hfull : evs.take x.i = evs := List.take_of_length_le (by omega)
      have ho := hI.o
      rw [hfull] at ho
      rw [Pc.pub_some hok]
      obtain ⟨i0, v0, h0⟩ := x
      dsimp only at ho ⊢
      clear hI hfull hle htl
      have htl := trs_length evs
      refine .seq ((.drawP [0, 1, 2, 3, 4, 5, 6, 7, 8, 10, 11, 12, 13, 14, 15, 16, 17, 18, 9, 19, 20, 21] [Ub b depth p (.slice A1 p.bs.length a1) (.slice A2 p.ss.length a2)] (by intro y hy; simp at hy; subst hy; simp) (by kernel_rfl) (by kernel_rfl) ?_))
      refine .v (fun _ f => .move rfl) (.v (fun _ f => .move rfl) (.v (fun _ f => .len rfl) (.v (fun _ f => .move rfl) (.v (fun _ f => .nilCheck rfl) (.v (fun _ f => .fieldAddr rfl) (.v (fun _ f => .load (v := .int .i64 depth) rfl (.one (hb := .sub f) rfl)) (.v (fun _ f => .min2 rfl rfl) (.v (fun _ f => .slHi rfl rfl (by omega) (by omega)) (.v (fun _ f => .move rfl) (.v (fun _ f => .move rfl) (.v (fun _ f => .len rfl) (.v (fun _ f => .move rfl) (.v (fun _ f => .nilCheck rfl) (.v (fun _ f => .fieldAddr rfl) (.v (fun _ f => .load (v := .int .i64 depth) rfl (.one (hb := .sub f) rfl)) (.v (fun _ f => .min2 rfl rfl) (.v (fun _ f => .slHi rfl rfl (by omega) (by omega)) ?_)))))))))))))))))
      refine .cl rfl rfl (fun w s => lclone_ok w B1 _ c1 (bs.take depth) (by rw [lrows_take]; exact (r1.keep0 s).take _) (by rw [List.length_take]; omega) (by omega)) ?_
      intro n1 q1 o1
      refine .cl rfl rfl (fun w s => lclone_ok w B2 _ c2 (ss.take depth) (by rw [lrows_take]; exact (r2.keep0 s).take _) (by rw [List.length_take]; omega) (by omega)) ?_
      intro n2 q2 o2
      obtain ⟨N1, d1, rfl⟩ := lown_sl o1
      obtain ⟨N2, d2, rfl⟩ := lown_sl o2
      refine .v (fun _ f => .assign rfl) (.v (fun _ f => .assign rfl) (.nil ?_))
      have t1 : (bs.take depth).length ≤ 64 := by rw [List.length_take]; omega
      have t2 : (ss.take depth).length ≤ 64 := by rw [List.length_take]; omega
      generalize bs.take depth = nb at o1 t1 ⊢
      generalize ss.take depth = ns at o2 t2 ⊢
      have cl1 := chg_length 1 p.bs nb
      have cl2 := chg_length 2 p.ss ns
      refine .seq ((.region (.v (.move rfl) (.v (.move rfl) (.v (.nilCheck rfl) (.v (.fieldAddr rfl) (.v (.fieldAddr rfl) (.v (.load (v := .slice A1 p.bs.length a1) rfl (.one rfl)) (.v (.move rfl) ?_)))))))))
      refine .ef (.call0 rfl rfl fun w s => changes_ok w 1 A1 N1 a1 d1 p.bs nb (OwnS.rd ‹LOwn (.slice A1 p.bs.length a1) p.bs k1› s (no := []) (fun y hy => by simp [hy]) (by simp)) (OwnS.rd o1 s (no := []) (fun y hy => by simp [hy]) (by simp)) (OwnS.cap_ ‹LOwn (.slice A1 p.bs.length a1) p.bs k1›).2 (OwnS.cap_ o1).2 2000 (by omega) (by omega)) ?_
      rintro vc _ ⟨hc1', oc1, rfl⟩
      refine .appT (vs := drows (trs evs)) (c := (trs evs).length) (k := (chg 1 p.bs nb).length) (news := drows (chg 1 p.bs nb)) rfl rfl ho (fun w s => oc1.src s (fun y hy => by simp [hy]) (by omega)) (drows_length _) (drows_ones _) (by omega) (by omega) ?_
      intro va ha oa
      refine .v (.assign rfl) (.nil ?_)
      refine .seq ((.region (.v (.move rfl) (.v (.move rfl) (.v (.nilCheck rfl) (.v (.fieldAddr rfl) (.v (.fieldAddr rfl) (.v (.load (v := .slice A2 p.ss.length a2) rfl (.one rfl)) (.v (.move rfl) ?_)))))))))
      refine .ef (.call0 rfl rfl fun w s => changes_ok w 2 A2 N2 a2 d2 p.ss ns (OwnS.rd ‹LOwn (.slice A2 p.ss.length a2) p.ss k2› s (no := []) (fun y hy => by simp [hy]) (by simp)) (OwnS.rd o2 s (no := []) (fun y hy => by simp [hy]) (by simp)) (OwnS.cap_ ‹LOwn (.slice A2 p.ss.length a2) p.ss k2›).2 (OwnS.cap_ o2).2 2000 (by omega) (by omega)) ?_
      rintro vc2 _ ⟨hc2', oc2, rfl⟩
      refine .appT (vs := drows (trs evs) ++ drows (chg 1 p.bs nb)) (c := (trs evs).length + (chg 1 p.bs nb).length) (k := (chg 2 p.ss ns).length) (news := drows (chg 2 p.ss ns)) rfl rfl oa (fun w s => oc2.src s (fun y hy => by simp [hy]) (by omega)) (drows_length _) (drows_ones _) (by omega) (by omega) ?_
      intro vb' hb' ob
      refine .v (.assign rfl) (.nil ?_)
      have obr : DOwn vb' (raw p nb ns evs) hb' := by
        unfold DOwn raw
        rw [List.length_append, List.length_append, drows_app, drows_app]; exact ob
      have hrl : (raw p nb ns evs).length ≤ 4010000 := by unfold raw; rw [List.length_append, List.length_append]; omega
      obtain ⟨M, m, rfl⟩ := OwnS.slice obr
      generalize hraw : raw p nb ns evs = rw_ at obr hrl ⊢
      clear ob oa ho oc1 oc2
      refine .keep (hb' ++ (Ub b depth p (.slice A1 p.bs.length a1) (.slice A2 p.ss.length a2) :: (q1 ++ q2))) ?_
      refine .seq (.seq ((.region (.v (.move rfl) (.v (.len rfl) (.v (.move rfl) (.nil ?_)))))))
      refine .block (.loop (X := Nat × Hp) (fun x => [(0, .pointer (some ⟨b, 0, none⟩)), (1, .slice N1 nb.length d1), (2, .slice N2 ns.length d2), (10, .slice M rw_.length m), (86, .int .i64 rw_.length), (87, .int .i64 x.1)]) (fun x => x.2 ++ (Ub b depth ⟨(p.seq + x.1) % 18446744073709551616, p.bs, p.ss⟩ (.slice A1 p.bs.length a1) (.slice A2 p.ss.length a2) :: (q1 ++ q2)))
        (fun x => x.1 ≤ rw_.length ∧ OwnS 24 6 (.slice M rw_.length m) rw_.length (drows (numd p.seq rw_ x.1)) x.2) (fun x => rw_.length - x.1) ⟨0, hb'⟩ ⟨by simp, by rw [numd_zero]; exact obr⟩ (.cons rfl (.cons rfl (.cons rfl (.cons rfl (.cons rfl (.cons rfl (.nil _))))))) (fun _ s => ?_) ?_)
      · have e0 : (p.seq + ((0 : Nat) : Int)) % 18446744073709551616 = p.seq := by omega
        show Sat _ _ (hb' ++ (Ub b depth ⟨(p.seq + ((0 : Nat) : Int)) % 18446744073709551616, p.bs, p.ss⟩ _ _ :: _)) _
        rw [e0]; exact s
      rintro ⟨i, h⟩ ⟨hi, k'⟩
      dsimp only at hi k' ⊢
      refine .seq ((.region (.v (.lss rfl rfl) (.nil ?_))))
      refine .seq (.cond_dec rfl (fun h5 => .skip ?_) (fun h5 => .exit ?_))
      · have hil : i < rw_.length := by omega
        obtain ⟨bm, om, lm, rfl, -, rfl, hcm, hlm, hvm⟩ := k'.some_ (by omega)
        have hw : IntKind.u64.wrap ((p.seq + (i : Int)) % 18446744073709551616 + 1) = (p.seq + ((i + 1 : Nat) : Int)) % 18446744073709551616 := by rw [u64w]; omega
        refine .seq (.block (.seq ((.region (.v (.move rfl) (.v (.assign rfl) (.nil ?_)))))))
        refine .seq ((.region (.v (.move rfl) (.v (.nilCheck rfl) (.v (.fieldAddr rfl) (.v (.fieldAddr rfl) (.v (.load (v := .int .u64 ((p.seq + (i : Int)) % 18446744073709551616)) rfl (.one rfl)) (.v (.add rfl rfl) (.v (.nilCheck rfl) (.v (.fieldAddr rfl) (.v (.fieldAddr rfl) (.st (.storeL rfl rfl rfl) (.nil ?_)))))))))))))
        rw [hw]
        refine .region (.v (.move rfl) (.v (.move rfl) (.v (.move rfl) (.v (.nilCheck rfl) (.v (.fieldAddr rfl) (.v (.fieldAddr rfl) (.v (.load (v := .int .u64 ((p.seq + ((i + 1 : Nat) : Int)) % 18446744073709551616)) rfl (.one rfl)) (.v (.indexAddr rfl rfl (by omega) (by omega)) (.v (.fieldAddr rfl) (.st (.store (b := bm) (l := lm) rfl rfl rfl (by omega)) (.nil ?_)))))))))))
        refine .region (.v (.addi rfl rfl (by omega)) (.v (.move rfl) (.nil ?_)))
        have hn : numd p.seq rw_ (i + 1) = (numd p.seq rw_ i).set i { (numd p.seq rw_ i)[i]'(by rw [numd_length]; exact hil) with s := (p.seq + ((i + 1 : Nat) : Int)) % 18446744073709551616 } := by
          rw [numd_succ _ _ _ hil, numd_get _ _ _ hil]
          have e : (p.seq + (i : Int) + 1) % 18446744073709551616 = (p.seq + ((i + 1 : Nat) : Int)) % 18446744073709551616 := by omega
          rw [e]
        have k2 : DOwn (.slice (some ⟨bm, om, none⟩) (numd p.seq rw_ i).length m) (numd p.seq rw_ i) [(bm, .cells lm 24)] := by
          unfold DOwn; rw [numd_length]; exact k'
        have k3 := down_set (i := i) (q := (p.seq + ((i + 1 : Nat) : Int)) % 18446744073709551616) k2 (by rw [numd_length]; exact hil)
        rw [← hn] at k3
        unfold DOwn at k3
        rw [numd_length, numd_length] at k3
        refine ⟨⟨i + 1, _⟩, ⟨by show i + 1 ≤ _; omega, k3⟩, by show rw_.length - (i + 1) < _; omega, .cons rfl (.cons rfl (.cons rfl (.cons rfl (.cons rfl (.cons rfl (.nil _)))))), fun _ s => ?_⟩
        rw [Int.toNat_natCast] at s
        exact s
      · have ei : i = rw_.length := by omega
        subst ei
        rw [numd_full] at k'
        refine .seq ((.region (.v (.move rfl) (.v (.move rfl) (.v (.move rfl) (.v (.move rfl) (.v (.nilCheck rfl) (.v (.fieldAddr rfl) (.v (.fieldAddr rfl) (.st (.storeL rfl rfl rfl) (.v (.nilCheck rfl) (.v (.fieldAddr rfl) (.v (.fieldAddr rfl) (.st (.storeL rfl rfl rfl) (.nil ?_)))))))))))))))
        refine .seq ((.region (.v (.move rfl) (.v (.assign rfl) (.v (.assign rfl) (.nil ?_))))))
        refine .ret ⟨[_, _], ⟨rfl, rfl, trivial⟩, (Ub b depth (p.next nb ns evs) (.slice N1 nb.length d1) (.slice N2 ns.length d2) :: (q1 ++ q2)) ++ h, fun _ s => ?_, ?_⟩
        · unfold Pc.next; rw [hraw]; exact Sat.take s
        · refine ⟨_, h, _, rfl, ?_, rfl, _, _, q1, q2, rfl, o1, o2⟩
          unfold DOwn; rw [num_length]; exact k'
end Go.Proofs.Ytinmhhonpflojaa

/- VC: maps whose keys are numbers, further: look-up with 'ok', delete, len, a range over them; max. -/
namespace Go
namespace V
open Go.RowKit
set_option linter.unusedVariables false
set_option linter.unusedSimpArgs false

abbrev ME.born (x : ME) : Nat := x.2.2
/-- the map behind a deletion -/
def mdel (k : Int) (es : List ME) : List ME := match mfind k es 0 with
  | some (i, _) => es.eraseIdx i
  | none => es
abbrev iter_ (m since : Nat) (seen : List Nat) (last : Nat) : Ch := .obj (.mapIter (some m) since ⟨seen⟩ last)
section
variable {P : Program} {n : Nat} {w0 : World} {own : List Nat} {e : Env} {hs : Hp}
theorem Val.lookup2 {T kT eT b c : Nat} {q : IntKind} {k : Int} {x y : Operand} {es : List ME} {z : Value} (hx : ev e x = some (.map (some b))) (hy : ev e y = some (.int q k)) [hT : MapT P T kT eT] [hk : IntT P kT q] [hz : ZrV P eT z]
    [hb : Mem b (.obj (mapOf q es c)) hs] : Val P n w0 own e hs (.lookup T x y true) (.tuple ⟨[(mget k es).getD z, .bool (mget k es).isSome]⟩) := fun a w ty pos aft g d hr s => by
  obtain ⟨i, hi, hzz⟩ := hz.out
  have h1 := s.mrow hb.out
  have h1' : w.heap[b]? = some (.map ⟨es.map (mentry q)⟩ c) := h1
  have key : (Instr.lookup T (.map (some b)) (.int q k) true).run P w = .ok (.tuple ⟨[(mget k es).getD z, .bool (mget k es).isSome]⟩) w := by
    unfold Instr.lookup
    simp [run_underlying hT.out, MapKept.run_getObj_map h1', run_checkKey_int hk.out, run_findKey_int hk.out]
    unfold mget
    cases mfind k es 0 with
    | none => simp [zeroValue, typeInfo, hi, hzz]
    | some p => simp
  simp [execOp, hr.eval hx, hr.eval hy, key]
theorem Val.lookup2E {T kT eT b c : Nat} {q : IntKind} {k : Int} {x y : Operand} {es : List ME} {z v : Value} {ok : Bool} (hx : ev e x = some (.map (some b))) (hy : ev e y = some (.int q k)) [hT : MapT P T kT eT] [hk : IntT P kT q] [hz : ZrV P eT z]
    [hb : Mem b (.obj (mapOf q es c)) hs] (hv : (mget k es).getD z = v) (ho : (mget k es).isSome = ok) : Val P n w0 own e hs (.lookup T x y true) (.tuple ⟨[v, .bool ok]⟩) := hv ▸ ho ▸ Val.lookup2 hx hy
theorem Eff.del {T kT eT uT b c : Nat} {q : IntKind} {k : Int} {x y : Operand} {es : List ME} {hs' : Hp} (hx : ev e x = some (.map (some b))) (hy : ev e y = some (.int q k)) [hT : MapT P T kT eT] [hk : IntT P kT q]
    [hb : Mem b (.obj (mapOf q es c)) hs] [u : UpdI b (.obj (mapOf q (mdel k es) c)) hs hs'] : Eff P n w0 own e hs (.call { callee := .builtin .delete, args := #[x, y], argTypes := #[T, uT] }) (fun v h => v = .tuple ⟨[]⟩ ∧ h = hs') :=
  Eff.of_run fun a w ty pos aft g d hr s => by
    have h1 := s.mrow hb.out
    have h1' : w.heap[b]? = some (.map ⟨es.map (mentry q)⟩ c) := h1
    have hlt : b < w.heap.size := (Array.getElem?_eq_some_iff.1 h1').1
    have key : (Builtin.delete_ #[T, uT] ty #[.map (some b), .int q k]).run P w = .ok (.tuple #[]) { w with heap := w.heap.setIfInBounds b (mapOf q (mdel k es) c) } := by
      unfold Builtin.delete_
      cases hf : mfind k es 0 with
      | none =>
        simp [run_underlying hT.out, MapKept.run_getObj_map h1', run_checkKey_int hk.out, run_findKey_int hk.out, hf, MapKept.run_setObj_map _ h1', mdel, mapOf]
      | some p =>
        obtain ⟨i, v0⟩ := p
        obtain ⟨_, y0, g1, g2, _⟩ := mfind_key k es 0 i v0 hf
        have hi : i < es.length := by have := (List.getElem?_eq_some_iff.1 g1).1; omega
        simp [run_underlying hT.out, MapKept.run_getObj_map h1', run_checkKey_int hk.out, run_findKey_int hk.out, hf, MapKept.run_setObj_map _ h1', mdel, mapOf, Array.eraseIdxIfInBounds, hi]
        congr 2
        apply Array.ext'
        apply List.ext_getElem?
        intro m
        simp only [List.getElem?_eraseIdx, List.getElem?_map]
        split <;> rfl
    refine ⟨.tuple ⟨[]⟩, hs', { w with heap := w.heap.setIfInBounds b (mapOf q (mdel k es) c) }, ?_, ⟨rfl, rfl⟩, ?_⟩
    · simp [execOp, hr.eval hx, hr.eval hy, resolve, invoke, builtin, key]
    · refine s.upd u.out ?_ ?_ ?_ rfl rfl rfl
      · simp
      · intro i hi
        simp [Array.getElem?_setIfInBounds, Ne.symm hi]
      · simp [Array.getElem?_setIfInBounds, hlt, Ch.toObj]
theorem Val.lenM {T kT eT b c : Nat} {q : IntKind} {x : Operand} {es : List ME} (hx : ev e x = some (.map (some b))) [hT : MapT P T kT eT] [hb : Mem b (.obj (mapOf q es c)) hs] :
    Val P n w0 own e hs (.call { callee := .builtin .len, args := #[x], argTypes := #[T] }) (.int .i64 es.length) := fun a w ty pos aft g d hr s => by
  have h1 := s.mrow hb.out
  have h1' : w.heap[b]? = some (.map ⟨es.map (mentry q)⟩ c) := h1
  have hu := hT.out
  simp [execOp, hr.eval hx, resolve, invoke, builtin, Builtin.len_, run_underlying hu, goInt, MapKept.run_getObj_map h1']
theorem Val.max2 {x y : Operand} {q : IntKind} {i j : Int} {ts : Array TypeId} (hx : ev e x = some (.int q i)) (hy : ev e y = some (.int q j)) :
    Val P n w0 own e hs (.call { callee := .builtin .max, args := #[x, y], argTypes := ts }) (.int q (max i j)) := fun a w ty pos aft g d hr s => by
  simp [execOp, hr.eval hx, hr.eval hy, resolve, invoke, builtin, Builtin.max_, Builtin.max2]
  by_cases h : i < j
  · simp [h]; omega
  · simp [h]; omega
theorem Eff.range {T kT eT b c : Nat} {q : IntKind} {x : Operand} {es : List ME} (hx : ev e x = some (.map (some b))) [hT : MapT P T kT eT] [hb : Mem b (.obj (mapOf q es c)) hs] :
    Eff P n w0 own e hs (.range T x) (NewP hs (iter_ b c [] c)) :=
  Eff.of_run fun a w ty pos aft g d hr s => by
    have h1 := s.mrow hb.out
    have h1' : w.heap[b]? = some (.map ⟨es.map (mentry q)⟩ c) := h1
    refine ⟨.pointer (some ⟨w.heap.size, 0, none⟩), _, w.alloc (.mapIter (some b) c #[] c), ?_, ⟨w.heap.size, rfl, rfl⟩, s.new (iter_ b c [] c)⟩
    have key : (Instr.range T (.map (some b))).run P w = .ok (.pointer (some ⟨w.heap.size, 0, none⟩)) (w.alloc (.mapIter (some b) c #[] c)) := by
      unfold Instr.range
      simp [run_underlying hT.out, MapKept.run_getObj_map h1', run_newObj_alloc]
    simp [execOp, hr.eval hx, key]
theorem left_nil {q : IntKind} {es : List ME} {seen : List Nat} : (leftOf ⟨es.map (mentry q)⟩ ⟨seen⟩).size = 0 ↔ ∀ x ∈ es, x.born ∈ seen := by
  unfold leftOf
  rw [Array.size_eq_zero_iff, Array.filter_eq_empty_iff]
  constructor
  · intro h x hx
    have := h (mentry q x) (by simp; exact ⟨_, _, _, hx, rfl⟩)
    simpa [mentry] using this
  · intro h y hy
    simp at hy
    obtain ⟨a, b, c, hx, rfl⟩ := hy
    simpa [mentry] using h _ hx
theorem Eff.next {r b since last c : Nat} {q : IntKind} {x : Operand} {es : List ME} {seen : List Nat} {fr : Hp} (hx : ev e x = some (.pointer (some ⟨r, 0, none⟩))) [hr_ : Rem (r, iter_ b since seen last) hs fr] [hb : Mem b (.obj (mapOf q es c)) hs]
    (hold : ∀ y ∈ es, y.born < since) (hl : since ≤ last) :
    Eff P n w0 own e hs (.next x false) (fun v h => (v = .tuple ⟨[.bool false]⟩ ∧ (∀ y ∈ es, y.born ∈ seen) ∧ h = hs) ∨
      ∃ y ∈ es, y.born ∉ seen ∧ v = .tuple ⟨[.bool true, .int q y.1, y.2.1]⟩ ∧ h = (r, iter_ b since (seen ++ [y.born]) c) :: fr) :=
  Eff.of_run fun a w ty pos aft g d hr s => by
    have h1 := s.mrow hb.out
    have h1' : w.heap[b]? = some (.map ⟨es.map (mentry q)⟩ c) := h1
    have hrr : w.heap[r]? = some (.mapIter (some b) since ⟨seen⟩ last) := s.has r _ (hr_.out.mem_iff.2 List.mem_cons_self)
    have hlt : r < w.heap.size := (Array.getElem?_eq_some_iff.1 hrr).1
    rcases run_next_at (P := P) w ty r b since last ⟨seen⟩ ⟨es.map (mentry q)⟩ c hrr h1' (by
      intro y hy
      simp at hy
      obtain ⟨a, b, c, hm, rfl⟩ := hy
      exact hold _ hm) hl with ⟨h0, hrun⟩ | ⟨y, hy, w1, hw1, hrun⟩
    · exact ⟨_, hs, w, by simp [execOp, hr.eval hx, hrun], .inl ⟨rfl, left_nil.1 h0, rfl⟩, s⟩
    · unfold leftOf at hy
      simp at hy
      obtain ⟨⟨a1, a2, a3, hm, rfl⟩, hns⟩ := hy
      have hpu : (⟨seen⟩ : Array Nat).push (mentry q (a1, a2, a3)).born = ⟨seen ++ [a3]⟩ := by apply Array.ext'; simp [mentry]
      rw [hpu] at hrun
      have s1 : Sat w0 own hs w1 := by rcases hw1 with rfl | rfl; exact s; exact s.drew
      have s2 := (s1.perm hr_.out).upd (w' := ChangeMaps.setBlock w1 r (.mapIter (some b) since ⟨seen ++ [a3]⟩ c)) (c := iter_ b since (seen ++ [a3]) c) (.head) (by simp [ChangeMaps.setBlock]) (fun i hi => by simp [ChangeMaps.setBlock, Array.getElem?_setIfInBounds, Ne.symm hi]) (by
        have hlt1 : r < w1.heap.size := by rcases hw1 with rfl | rfl <;> exact hlt
        simp [ChangeMaps.setBlock, Array.getElem?_setIfInBounds, hlt1, Ch.toObj]) rfl rfl rfl
      exact ⟨_, _, _, by simp [execOp, hr.eval hx, hrun, mentry], .inr ⟨(a1, a2, a3), hm, by simpa [mentry] using hns, rfl, rfl⟩, s2⟩
theorem Val.entry {r b since c : Nat} {q : IntKind} {x : Operand} {es : List ME} {seen : List Nat} {y : ME} (hx : ev e x = some (.pointer (some ⟨r, 0, none⟩))) [hr_ : Mem r (iter_ b since (seen ++ [y.born]) c) hs] [hb : Mem b (.obj (mapOf q es c)) hs]
    (hy : y ∈ es) (hn : (es.map ME.born).Nodup) : Val P n w0 own e hs (.entry x) (.tuple ⟨[.int q y.1, y.2.1]⟩) := fun a w ty pos aft g d hr s => by
  have h1 := s.mrow hb.out
  have h1' : w.heap[b]? = some (.map ⟨es.map (mentry q)⟩ c) := h1
  have hrr : w.heap[r]? = some (.mapIter (some b) since ⟨seen ++ [y.born]⟩ c) := s.has r _ hr_.out
  have hpu : (⟨seen ++ [y.born]⟩ : Array Nat) = (⟨seen⟩ : Array Nat).push (mentry q y).born := by apply Array.ext'; simp [mentry]
  rw [hpu] at hrr
  have := run_entry_at (P := P) w r b since ⟨seen⟩ ⟨es.map (mentry q)⟩ c (mentry q y) hrr h1' (by simp; exact ⟨_, _, _, hy, rfl⟩) (by
    simpa [List.map_map, Function.comp_def, mentry] using hn)
  simp [execOp, hr.eval hx, this, mentry]
end
section
variable {P : Program} {n : Nat} {w0 : World} {own : List Nat} {e : Env} {hs F : Hp} {ops : Array Oper} {rest : List Oper} {K : Env → Hp → Prop}
variable {d : Nat} {ty : TypeId} {pos : String} {aft : Array Edge} {g : Option (Nat × Bool)}
/-- what works on memory and leaves nothing, when it is alone -/
theorem JK.ef0 {op : Op} {R : Value → Hp → Prop} (h : Eff P n w0 own e hs op R) (hF : ∀ v hs', R v hs' → F ⊆ hs → F ⊆ hs') (kk : ∀ v hs', R v hs' → JK P n w0 own ops F rest e hs' K)
    (hE : isEff ⟨none, op, ty, pos, aft, g⟩ = true := by rfl) (hg : wantB ops e g = some true := by rfl) : JK P n w0 own ops F (⟨none, op, ty, pos, aft, g⟩ :: rest) e hs K := by
  intro m is listed Z h1 h2 h3 hz
  cases is with
  | nil => exact h1.elim
  | cons k is =>
  obtain ⟨h0, h1⟩ := h1
  unfold ordB at h2
  rw [Bool.and_eq_true, Bool.or_eq_true, Bool.and_eq_true] at h2
  rw [show (⟨none, op, ty, pos, aft, g⟩ :: rest : List Oper).length + m = (rest.length + m) + 1 from by simp; omega]
  rcases h2.1 with ho | ⟨hn, _⟩
  · exact JD.ef0 k h0 ho h (fun v hs' r => kk v hs' r m is _ Z h1 h2.2 (hF v hs' r h3) hz) hF hg
  · rw [hE] at hn; cases hn
theorem JY.nw {z : Nat} {late : Bool} {K' : Bool → Env → Hp → Prop} {op : Op} {c : Ch} (h : Eff P n w0 own e hs op (NewP hs c)) (kk : ∀ b, JY P n w0 own ops F z late rest ((d, .pointer (some ⟨b, 0, none⟩)) :: e) ((b, c) :: hs) K')
    (hE : isEff ⟨some d, op, ty, pos, aft, g⟩ = true := by rfl) (hdn : Nat.blt d n = true := by rfl) (hg : wantB ops e g = some true := by rfl) (hzo : ((ops[z]?).map (·.dst.isNone)) = some true := by rfl) : JY P n w0 own ops F z late (⟨some d, op, ty, pos, aft, g⟩ :: rest) e hs K' :=
  .ef h (fun v h' ⟨b, _, e2⟩ f => by subst e2; exact fun p hp => List.mem_cons_of_mem _ (f hp)) (fun v h' ⟨b, e1, e2⟩ => by subst e1; subst e2; exact kk b) hE hdn hg hzo
/-- a record stored into a record -/
theorem Eff.storeR {T m b o U : Nat} {x y : Operand} {vs l : List Value} {hs' : Hp} (l' : List Value) (hx : ev e x = some (.pointer (some ⟨b, o, none⟩))) (hy : ev e y = some (.agg ⟨vs⟩)) [hT : Sz P T m] [hb : Mem b (.cells l U) hs]
    [u : UpdI b (.cells l' U) hs hs'] (hm : vs.length = m := by rfl) (h1 : ones vs = true := by rfl) (ho : Nat.ble (o + vs.length) l.length = true := by rfl) (hl : splice l o vs = l' := by rfl) : Eff P n w0 own e hs (.store T x y) (fun v h => v = undef ∧ h = hs') := by
  subst hl
  exact Eff.storeA hx hy hm h1 (Nat.le_of_ble_eq_true ho)
end
end V
end Go

/- slices.Delete of one, slices.Insert of one, over levels. -/
namespace Go.Proofs.Ytinmhhonpflojaa
open Go.V
set_option linter.unusedVariables false
set_option linter.unusedSimpArgs false

set_option maxRecDepth 10000 in
theorem ldelete_ok (w : World) (A : Option Addr) (n c i : Nat) (vs : List Value) (h : Hp) (k : OwnS 109 3 (.slice A n c) n vs h) (hi : i < n) (hb : n ≤ 5864062014805) (h1 : ones vs = true) :
    Does Try.prog 93 [.slice A n c, .int .i64 i, .int .i64 (i + 1)] h w (fun v hs => OwnS 109 3 v (n - 1) (vs.take (i * 3) ++ vs.drop ((i + 1) * 3)) hs) := by
  obtain ⟨b, o, l, rfl, -, rfl, hc, hl, hv⟩ := k.some_ (by omega)
  have hvl := k.1
  refine Does.of (n := 33) Try.func93 rfl rfl rfl rfl ?_
  refine .seq ((.region (.v (.assign rfl) (.nil ?_))))
  refine .seq ((.region (.v (.move rfl) (.v (.move rfl) (.v (.move rfl) (.v (.move rfl) (.v (.len rfl) (.v (.sl3 rfl rfl rfl rfl (by omega) (by omega) (by omega) (by omega)) (.nil ?_)))))))))
  refine .seq (.seq ((.region (.v (.move rfl) (.v (.move rfl) (.v (.eqi rfl rfl) (.nil ?_)))))))
  refine .cond_dec rfl (fun h1 => by omega) (fun _ => .skip ?_)
  refine .seq ((.region (.v (.move rfl) (.v (.len rfl) (.v (.assign rfl) (.nil ?_))))))
  refine .seq (.drawK [] (List.nil_subset _) (by kernel_rfl) (by kernel_rfl) ?_)
  refine .v (fun _ f => .move rfl) (.v (fun _ f => .move rfl) (.v (fun _ f => .slHi rfl rfl (by omega) (by omega)) (.v (fun _ f => .move rfl) (.v (fun _ f => .move rfl) (.v (fun _ f => .slLo rfl rfl (by omega) (by omega)) ?_)))))
  have e1 : ((i : Int)).toNat = i := by omega
  have e2 : ((i : Int) + 1).toNat = i + 1 := by omega
  have hnews : (vs.drop ((i + 1) * 3)).length = (n - (i + 1)) * 3 := by rw [List.length_drop, hvl, Nat.sub_mul]
  have hones : ones (vs.drop ((i + 1) * 3)) = true := by
    simp only [ones, List.all_eq_true] at h1 ⊢
    exact fun x hx => h1 x (List.mem_of_mem_drop hx)
  have kc := k.cut (i := i + 1) (by omega) (by omega)
  refine .ef (.appendIn (c := i) (k := n - (i + 1)) (news := vs.drop ((i + 1) * 3)) (b := b) (o := o) (cap := c) (l := l) rfl rfl
    (fun w s => by simp only [e1, e2]; exact (OwnS.rd kc s (fun p hp => hp) (by simp) (no := [])).src hnews (by omega)) hnews hones (by omega) (by omega)) (fun _ _ ⟨_, h2⟩ _ => List.nil_subset _) ?_
  rintro _ _ ⟨rfl, rfl⟩
  refine .v (fun _ f => .assign rfl) (.nil ?_)
  have e3 : i + (n - (i + 1)) = n - 1 := by omega
  rw [e3]
  refine .seq ((.region (.v (.move rfl) (.v (.move rfl) (.v (.len rfl) (.v (.move rfl) (.v (.slLoHi rfl rfl rfl (by omega) (by omega) (by omega)) ?_)))))))
  have e4 : (((n - 1 : Nat) : Int)).toNat = n - 1 := by omega
  have e5 : ((n : Int)).toNat = n := by omega
  simp only [e4, e5]
  rw [cutA_some (by omega)]
  have hlen2 : (V.splice l (o + i * 3) (vs.drop ((i + 1) * 3))).length = l.length := splice_length _ _ _ (by rw [hnews]; omega)
  refine .ef0 (.clearIn (z := [.int .i64 0, .int .u64 0, .int .i64 0]) rfl rfl (by rw [hlen2]; omega)) ?_
  rintro _ _ ⟨rfl, rfl⟩
  refine .nil ?_
  refine .seq ((.region (.v (.move rfl) (.v (.assign rfl) (.nil ?_)))))
  refine .ret ⟨[_], ⟨rfl, trivial⟩, ?_, .inr ⟨b, o, c, _, rfl, rfl, by omega, ?_, ?_⟩⟩
  · rw [List.length_append, List.length_take, hnews, hvl]
    rw [Nat.min_eq_left (Nat.mul_le_mul_right _ (by omega)), ← Nat.add_mul]
    congr 1
  · rw [splice_length _ _ _ (by rw [zeros_length, hlen2]; simp; omega), hlen2]; exact hl
  · rw [splice_keep _ _ o _ _ (Nat.le_refl _) (by rw [hlen2]; omega)]
    have := splice_app l (vs.take (i * 3)) (vs.drop ((i + 1) * 3)) o i 3 (n - (i + 1)) c (by rw [List.length_take, hvl]; omega) hnews (by omega) hl (by rw [← hv, List.take_take]; congr 1; omega)
    rw [e3] at this
    exact this

instance : OvT Try.prog 98 38 4 := ⟨_, Try.func98, by kernel_rfl, by kernel_rfl, by kernel_rfl, by kernel_rfl⟩
set_option maxRecDepth 10000 in
theorem linsert_ok (w : World) (A : Option Addr) (n c i vb : Nat) (vs oc : List Value) (h : Hp) (k : OwnS 109 3 (.slice A n c) n vs h) (hi : i ≤ n) (hb : n + 1 ≤ 5864062014805) (h1 : ones vs = true) (h2 : ones oc = true) (ho : oc.length = 3) :
    Does Try.prog 94 [.slice A n c, .int .i64 i, .slice (some ⟨vb, 0, none⟩) 1 1] (h ++ [(vb, .cells oc 109)]) w
      (fun v hs => OwnS 109 3 v (n + 1) (vs.take (i * 3) ++ oc ++ vs.drop (i * 3)) hs) := by
  have hvl := k.1
  refine Does.less (Does.of (n := 95) Try.func94 rfl rfl rfl rfl ?_)
  refine .seq ((.region (.v (.assign rfl) (.nil ?_))))
  refine .seq ((.region (.v (.move rfl) (.v (.move rfl) (.v (.slLo rfl rfl (by omega) (by omega)) (.nil ?_))))))
  refine .seq ((.region (.v (.move rfl) (.v (.len rfl) (.v (.assign rfl) (.nil ?_))))))
  refine .seq (.seq ((.region (.v (.move rfl) (.v (.eqi rfl rfl) (.nil ?_))))))
  refine .cond_dec rfl (fun h1 => by omega) (fun _ => .skip ?_)
  refine .seq ((.region (.v (.move rfl) (.v (.len rfl) (.v (.assign rfl) (.nil ?_))))))
  refine .seq (.seq ((.region (.v (.move rfl) (.v (.move rfl) (.v (.eqi rfl rfl) (.nil ?_)))))))
  refine .cond_dec rfl (fun g1 => ?_) (fun g1 => .skip ?_)
  · have hin : i = n := by omega
    subst hin
    refine .seq ((.region (.v (.move rfl) (.v (.move rfl) ?_))))
    refine .ef (.append (c := i) (k := 1) (vs := vs) (news := oc) (h := h) (fr := [(vb, .cells oc 109)]) rfl rfl k (by exact List.Perm.refl _) (fun w s => Src.cells (by omega) (fun j v hv => by rw [add_none, s.cell (b := vb) (T := 109) (l := oc) (by simp)]; simpa using hv)) (by omega) h2 (by omega) (by omega)) ?_
    rintro v _ ⟨h', k', rfl⟩
    refine .v (.assign rfl) (.nil ?_)
    refine .ret ⟨[_], ⟨rfl, trivial⟩, h', fun _ s => s.sub (List.sublist_append_left _ _), ?_⟩
    rw [List.take_of_length_le (by omega), List.drop_of_length_le (by omega), List.append_nil]
    exact k'
  · obtain ⟨b, o, l, rfl, -, rfl, hc, hl, hv⟩ := k.some_ (by omega)
    have e1 : ((i : Int)).toNat = i := by omega
    have e2 : ((i : Int) + 1).toNat = i + 1 := by omega
    have hD : (vs.drop (i * 3)).length = (n - i) * 3 := by rw [List.length_drop, hvl, Nat.sub_mul]
    have hT : (vs.take (i * 3)).length = i * 3 := by rw [List.length_take, hvl]; omega
    have hTl : (l.drop o).take (i * 3) = vs.take (i * 3) := by rw [← hv, List.take_take]; congr 1; omega
    have hDg : ∀ (j : Nat) (v : Value), (vs.drop (i * 3))[j]? = some v → l[o + i * 3 + j]? = some v := fun j v hj => by
      rw [← hv, List.getElem?_drop, List.getElem?_take] at hj
      split at hj
      · rw [List.getElem?_drop] at hj; rw [← hj]; congr 1; omega
      · cases hj
    refine .seq (.seq ((.region (.v (.move rfl) (.v (.move rfl) (.v (.addi rfl rfl (by omega)) (.v (.move rfl) (.v (.cap_ rfl) (.v (.gtr rfl rfl) (.nil ?_))))))))))
    refine .cond_dec rfl (fun g2 => ?_) (fun g2 => .skip ?_)
    · refine .seq ((.region (.v (.move rfl) (.v (.move rfl) (.v (.slHi rfl rfl (by omega) (by omega)) (.v (.move rfl) (.v (.move rfl) (.v (.addi rfl rfl (by omega)) (.v (.move rfl) (.v (.subi rfl rfl (by omega)) ?_))))))))))
      have e3 : ((n : Int) + (1 : Nat) - (i : Int)) = ((n + 1 - i : Nat) : Int) := by omega
      rw [e3, e1]
      refine .ef (.appendZ (b := b) (o := o) (c := i) (cap := c) (k := n + 1 - i) (l := l) (vs := vs.take (i * 3)) rfl rfl hTl hl (by omega) (by omega) (by omega) (by omega) (by omega)) ?_
      rintro _ _ ⟨nb, cap', r, rfl, rfl, hc', hr'⟩
      refine .v (.assign rfl) (.nil ?_)
      have e4 : i + (n + 1 - i) = n + 1 := by omega
      rw [e4] at hc' ⊢
      simp only [List.length_append, hT, zeros_length] at hr'
      refine .seq ((.region (.v (.move rfl) (.v (.move rfl) (.v (.slLo rfl rfl (by omega) (by omega)) (.v (.move rfl) ?_))))))
      rw [cutA_some (by omega)]
      have e6 : ((i : Int) + ((1 : Nat) : Int)).toNat = i + 1 := by omega
      have e7 : (i + 1) * 3 = i * 3 + 3 := by omega
      have hlen : (List.take (i * 3) vs ++ zeros [.int .i64 0, .int .u64 0, .int .i64 0] (n + 1 - i) ++ r).length = cap' * 3 := by
        simp only [List.length_append, hT, zeros_length]; exact hr'
      refine .ef (.copyIn (b := nb) (o := 0 + i * 3) (dl := n + 1 - i) (dc := cap' - i) (sl := 1) (k := 1) (news := oc) rfl rfl (by omega) (fun w s => run_lenOf_sl) (fun w s => s.first (T := 109) (l := oc) (by omega) (fun j v hv => by simpa using hv)) h2 (by rw [hlen]; omega)) ?_
      rintro _ _ ⟨rfl, rfl⟩
      refine .nil ?_
      refine .seq (.drawK [] (List.nil_subset _) (by kernel_rfl) (by kernel_rfl) ?_)
      refine .v (fun _ f => .move rfl) (.v (fun _ f => .move rfl) (.v (fun _ f => .move rfl) (.v (fun _ f => .addi rfl rfl (by omega)) (.v (fun _ f => .slLo rfl rfl (by omega) (by omega)) (.v (fun _ f => .move rfl) (.v (fun _ f => .move rfl) (.v (fun _ f => .slLo rfl rfl (by omega) (by omega)) ?_)))))))
      rw [e6, e1, cutA_some (by omega), cutA_some (by omega)]
      refine .ef (.copyIn (b := nb) (o := 0 + (i + 1) * 3) (dl := n + 1 - (i + 1)) (dc := cap' - (i + 1)) (sl := n - i) (k := n - i) (news := vs.drop (i * 3)) rfl rfl (by omega) (fun w s => run_lenOf_sl) (fun w s => s.first (T := 109) (l := l) hD hDg) (ones_drop h1 _)
        (by rw [splice_length _ _ _ (by rw [hlen]; omega), hlen, hD]; omega)) (fun _ _ _ _ => List.nil_subset _) ?_
      rintro _ _ ⟨rfl, rfl⟩
      refine .nil ?_
      refine .seq ((.region (.v (.move rfl) (.v (.assign rfl) (.nil ?_)))))
      refine .ret ⟨[_], ⟨rfl, trivial⟩, [(nb, _)], fun _ s => s.sub (.cons_cons _ (List.nil_sublist _)), ?_, .inr ⟨nb, 0, cap', _, rfl, rfl, hc', ?_, ?_⟩⟩
      · simp only [List.length_append, hT, ho, hD]; omega
      · rw [splice_length _ _ _ (by rw [splice_length _ _ _ (by rw [hlen]; omega), hlen, hD]; omega), splice_length _ _ _ (by rw [hlen]; omega), hlen]; omega
      · have := ins_two' (List.take (i * 3) vs ++ zeros [.int .i64 0, .int .u64 0, .int .i64 0] (n + 1 - i) ++ r) oc (vs.drop (i * 3)) 0 (i * 3) 3 ho (by rw [hlen, hD]; omega)
        rw [hD] at this
        rw [e7, show (n + 1) * 3 = i * 3 + 3 + (n - i) * 3 from by omega, this]
        congr 2
        rw [List.drop_zero, List.append_assoc, List.take_append_of_le_length (by omega), List.take_of_length_le (by omega)]
    · refine .nd fun hnd => ?_
      have hne : vb ≠ b := by
        simp [bl] at hnd
        exact fun e => hnd e.symm
      refine .seq ((.region (.v (.move rfl) (.v (.move rfl) (.v (.move rfl) (.v (.addi rfl rfl (by omega)) (.v (.slHi rfl rfl (by omega) (by omega)) (.v (.assign rfl) (.nil ?_)))))))))
      have e5 : ((n : Int) + ((1 : Nat) : Int)).toNat = n + 1 := by omega
      have e6 : ((i : Int) + ((1 : Nat) : Int)).toNat = i + 1 := by omega
      have e7 : (i + 1) * 3 = i * 3 + 3 := by omega
      rw [e5]
      refine .seq (.seq ((.region (.v (.move rfl) (.v (.move rfl) (.v (.move rfl) (.v (.move rfl) (.v (.addi rfl rfl (by omega)) (.v (.slLo rfl rfl (by omega) (by omega)) ?_)))))))))
      rw [e6, cutA_some (by omega)]
      refine .v (.overlapsNo rfl rfl (b1 := vb) (b2 := b) (l1 := oc) (l2 := l) (T1 := 109) (T2 := 109) hne (by intro e; subst e; simp at hl; omega)) (.v (.not rfl) (.nil ?_))
      refine .cond_true rfl ?_
      refine .seq (.drawK [] (List.nil_subset _) (by kernel_rfl) (by kernel_rfl) ?_)
      refine .v (fun _ f => .move rfl) (.v (fun _ f => .move rfl) (.v (fun _ f => .move rfl) (.v (fun _ f => .addi rfl rfl (by omega)) (.v (fun _ f => .slLo rfl rfl (by omega) (by omega)) (.v (fun _ f => .move rfl) (.v (fun _ f => .move rfl) (.v (fun _ f => .slLo rfl rfl (by omega) (by omega)) ?_)))))))
      rw [e6, e1, cutA_some (by omega), cutA_some (by omega)]
      refine .ef (.copyIn (b := b) (o := o + (i + 1) * 3) (dl := n + 1 - (i + 1)) (dc := c - (i + 1)) (sl := n + 1 - i) (k := n - i) (news := vs.drop (i * 3)) (l := l) rfl rfl (by omega) (fun w s => run_lenOf_sl) (fun w s => s.first (T := 109) (l := l) hD hDg) (ones_drop h1 _)
        (by rw [hD]; omega)) (fun _ _ _ _ => List.nil_subset _) ?_
      rintro _ _ ⟨rfl, rfl⟩
      refine .nil ?_
      have hlen : (V.splice l (o + (i + 1) * 3) (vs.drop (i * 3))).length = l.length := splice_length _ _ _ (by rw [hD]; omega)
      refine .seq ((.region (.v (.move rfl) (.v (.move rfl) (.v (.slLo rfl rfl (by omega) (by omega)) (.v (.move rfl) ?_))))))
      rw [e1, cutA_some (by omega)]
      refine .ef (.copyIn (b := b) (o := o + i * 3) (dl := n + 1 - i) (dc := c - i) (sl := 1) (k := 1) (news := oc) rfl rfl (by omega) (fun w s => run_lenOf_sl) (fun w s => s.first (T := 109) (l := oc) (by omega) (fun j v hv => by simpa using hv)) h2 (by rw [hlen]; omega)) ?_
      rintro _ _ ⟨rfl, rfl⟩
      refine .nil ?_
      refine .seq ((.region (.v (.move rfl) (.v (.assign rfl) (.nil ?_)))))
      refine .ret ⟨[_], ⟨rfl, trivial⟩, [(b, _)], fun _ s => s.sub (.cons_cons _ (List.nil_sublist _)), ?_, .inr ⟨b, o, c, _, rfl, rfl, by omega, ?_, ?_⟩⟩
      · simp only [List.length_append, hT, ho, hD]; omega
      · rw [splice_length _ _ _ (by rw [hlen]; omega), hlen]; exact hl
      · have := ins_two l oc (vs.drop (i * 3)) o (i * 3) 3 ho (by rw [hD]; omega)
        rw [hD] at this
        rw [e7, show (n + 1) * 3 = i * 3 + 3 + (n - i) * 3 from by omega, this, hTl]
end Go.Proofs.Ytinmhhonpflojaa

/- Subscribers: the plain words. -/
namespace Go.Proofs.Ytinmhhonpflojaa
open Go.V
set_option linter.unusedVariables false
set_option linter.unusedSimpArgs false

def nxs (s : Int) : Int := (s + 1) % 18446744073709551616
structure Sb where
  hold : Int
  seq : Int
  bs : List Lv
  ss : List Lv
  held : List Dt
  gr : Int
  last : Dt
/-- a message is done -/
def Sb.app (S : Sb) (x : Dt) : Sb := if x.k = 2 then { S with last := x, seq := x.s } else if x.d = 1 then { S with bs := dn x S.bs, seq := x.s } else { S with ss := dn x S.ss, seq := x.s }
/-- where a message of a number is held -/
def hat (n : Int) (l : List Dt) : Option Nat := l.findIdx? fun x => decide (x.s = n)
theorem hat_some {n : Int} {l : List Dt} {i : Nat} (h : hat n l = some i) : ∃ hi : i < l.length, l[i].s = n ∧ ∀ j, (hj : j < i) → l[j].s ≠ n := by
  unfold hat at h
  rw [List.findIdx?_eq_some_iff_getElem] at h
  obtain ⟨hi, h1, h2⟩ := h
  exact ⟨hi, by simpa using h1, fun j hj => by simpa using h2 j hj⟩
theorem hat_none {n : Int} {l : List Dt} (h : hat n l = none) : ∀ x ∈ l, x.s ≠ n := by
  unfold hat at h
  rw [List.findIdx?_eq_none_iff] at h
  exact fun x hx => by simpa using h x hx
theorem hat_is {n : Int} {l : List Dt} {i : Nat} (hi : i < l.length) (h : l[i].s = n) (hb : ∀ j, (hj : j < l.length) → j < i → l[j].s ≠ n) : hat n l = some i := by
  unfold hat
  rw [List.findIdx?_eq_some_iff_getElem]
  exact ⟨hi, by simpa using h, fun j hj => by simpa using hb j (by omega) hj⟩
theorem hat_no {n : Int} {l : List Dt} (h : ∀ x ∈ l, x.s ≠ n) : hat n l = none := by
  unfold hat
  rw [List.findIdx?_eq_none_iff]
  exact fun x hx => by simpa using h x hx
/-- one message that is held is done -/
def Sb.one (S : Sb) (i : Nat) (x : Dt) : Sb := ({ S with held := S.held.eraseIdx i } : Sb).app x
def Sb.goes : Nat → Sb → Sb
  | 0, S => S
  | k + 1, S => match hat (nxs S.seq) S.held with
    | none => S
    | some i => match S.held[i]? with
      | none => S
      | some x => goes k (S.one i x)
def Sb.go (S : Sb) : Sb := S.goes S.held.length
theorem Sb.app_held (S : Sb) (x : Dt) : (S.app x).held = S.held := by unfold Sb.app; split <;> (try split) <;> rfl
theorem Sb.app_hold (S : Sb) (x : Dt) : (S.app x).hold = S.hold := by unfold Sb.app; split <;> (try split) <;> rfl
theorem Sb.app_gr (S : Sb) (x : Dt) : (S.app x).gr = S.gr := by unfold Sb.app; split <;> (try split) <;> rfl
theorem Sb.app_seq (S : Sb) (x : Dt) : (S.app x).seq = x.s := by unfold Sb.app; split <;> (try split) <;> rfl
theorem Sb.one_held (S : Sb) (i : Nat) (x : Dt) : (S.one i x).held = S.held.eraseIdx i := by unfold Sb.one; rw [Sb.app_held]
theorem Sb.go_none {S : Sb} (h : hat (nxs S.seq) S.held = none) : S.go = S := by
  unfold Sb.go
  cases hn : S.held.length with
  | zero => rfl
  | succ k => simp [Sb.goes, h]
theorem Sb.go_some {S : Sb} {i : Nat} (h : hat (nxs S.seq) S.held = some i) : ∃ hi : i < S.held.length, S.go = (S.one i S.held[i]).go := by
  obtain ⟨hi, -, -⟩ := hat_some h
  refine ⟨hi, ?_⟩
  unfold Sb.go
  obtain ⟨k, hk⟩ : ∃ k, S.held.length = k + 1 := ⟨S.held.length - 1, by omega⟩
  rw [hk, Sb.one_held, List.length_eraseIdx_of_lt hi, hk]
  simp [Sb.goes, h, List.getElem?_eq_getElem hi]
def Sb.has (S : Sb) (n : Int) : Bool := (hat n S.held).isSome
/-- Take -/
def Sb.take (S : Sb) (x : Dt) : Sb × Int :=
  if ¬ x.can then (S, 1)
  else if S.has x.s = true ∨ x.s ≤ S.seq then (S, 180)
  else if x.s ≠ nxs S.seq then ((if (S.held.length : Int) < S.hold then { S with gr := max S.gr x.s, held := S.held ++ [x] } else { S with gr := max S.gr x.s }), 181)
  else ((({ S with gr := max S.gr x.s } : Sb).app x).go, 0)
/-- Recover -/
noncomputable def Sb.rec_ (S : Sb) (seq : Int) (bs ss : List Lv) : Sb × Int :=
  if ¬ (Fit 1 bs ∧ Fit 2 ss) then (S, 1)
  else if seq < S.seq then (S, 180)
  else (({ S with seq := seq, bs := bs, ss := ss, held := S.held.filter fun x => decide (seq < x.s) } : Sb).go, 0)
def Sb.good (S : Sb) : Bool := decide (S.gr ≤ S.seq)
/-- the number ahead of the least one that is held -/
def mnh (e : Int) (l : List Dt) : Int := l.foldl (fun m x => min m (x.s - 1)) e
def Sb.miss (S : Sb) : Int × Int × Bool := if S.good then (0, 0, false) else (nxs S.seq, mnh S.gr S.held, true)
/-- what a subscriber that came about so keeps to -/
structure Sb.Ok (S : Sb) : Prop where
  sq : 0 ≤ S.seq ∧ S.seq < 18446744073709551616
  b : Wrs 1 S.bs
  s : Wrs 2 S.ss
  can : ∀ x ∈ S.held, x.can ∧ x.s < 18446744073709551616
  nd : (S.held.map Dt.s).Nodup
  gr : ∀ x ∈ S.held, x.s ≤ S.gr
  len : S.held.length ≤ 1024 ∧ (S.held.length : Int) ≤ max S.hold 0
theorem Can.side {x : Dt} (h : x.can) : x.d = 1 ∨ x.d = 2 := h.2.1
theorem Sb.Ok.app {S : Sb} (h : S.Ok) {x : Dt} (hx : x.can) (hs : x.s < 18446744073709551616) : (S.app x).Ok := by
  have h0 : 0 ≤ x.s := by have := hx.1; omega
  unfold Sb.app
  split
  · exact ⟨⟨h0, hs⟩, h.b, h.s, h.can, h.nd, h.gr, h.len⟩
  · split
    · rename_i e
      refine ⟨⟨h0, hs⟩, ?_, h.s, h.can, h.nd, h.gr, h.len⟩
      have := (dn_wrs x S.bs (by rw [e]; exact h.b)).1
      rwa [e] at this
    · rename_i e
      have e2 : x.d = 2 := by rcases Can.side hx with e' | e' <;> omega
      refine ⟨⟨h0, hs⟩, h.b, ?_, h.can, h.nd, h.gr, h.len⟩
      have := (dn_wrs x S.ss (by rw [e2]; exact h.s)).1
      rwa [e2] at this
theorem Sb.Ok.one {S : Sb} (h : S.Ok) {i : Nat} (hi : i < S.held.length) : (S.one i S.held[i]).Ok := by
  unfold Sb.one
  have hm := List.getElem_mem hi
  refine Sb.Ok.app (S := { S with held := S.held.eraseIdx i }) ⟨h.sq, h.b, h.s, fun x hx => h.can x (List.mem_of_mem_eraseIdx hx), ?_, fun x hx => h.gr x (List.mem_of_mem_eraseIdx hx), ?_⟩ (h.can _ hm).1 (h.can _ hm).2
  · exact h.nd.sublist ((List.eraseIdx_sublist S.held i).map _)
  · have := h.len
    have e : (S.held.eraseIdx i).length = S.held.length - 1 := List.length_eraseIdx_of_lt hi
    show (S.held.eraseIdx i).length ≤ 1024 ∧ ((S.held.eraseIdx i).length : Int) ≤ max S.hold 0
    omega
theorem Sb.Ok.go {S : Sb} (h : S.Ok) : S.go.Ok := by
  generalize hn : S.held.length = n
  induction n using Nat.strongRecOn generalizing S with
  | _ n ih =>
    cases hh : hat (nxs S.seq) S.held with
    | none => rw [Sb.go_none hh]; exact h
    | some i =>
      obtain ⟨hi, e⟩ := Sb.go_some hh
      rw [e]
      exact ih (n - 1) (by omega) (h.one hi) (by rw [Sb.one_held, List.length_eraseIdx_of_lt hi]; omega)
theorem has_false {S : Sb} {n : Int} (h : ¬ S.has n = true) : ∀ x ∈ S.held, x.s ≠ n := by
  unfold Sb.has at h
  cases hh : hat n S.held with
  | none => exact hat_none hh
  | some i => rw [hh] at h; exact absurd rfl h
theorem Sb.Ok.take {S : Sb} (h : S.Ok) {x : Dt} (hs : x.s < 18446744073709551616) (hh : S.hold ≤ 1024) : (S.take x).1.Ok := by
  unfold Sb.take
  split
  · exact h
  · rename_i hc
    have hc := Decidable.of_not_not hc
    split
    · exact h
    · rename_i h1
      have hn := has_false (fun e => h1 (.inl e))
      have hg : ∀ y ∈ S.held, y.s ≤ max S.gr x.s := fun y hy => by have := h.gr y hy; omega
      split
      · split
        · rename_i h2 h3
          refine ⟨h.sq, h.b, h.s, fun y hy => ?_, ?_, fun y hy => ?_, ?_⟩
          · rcases List.mem_append.1 hy with hy | hy
            · exact h.can y hy
            · have : y = x := by simpa using hy
              subst this; exact ⟨hc, hs⟩
          · show ((S.held ++ [x]).map Dt.s).Nodup
            rw [List.map_append, List.nodup_append]
            refine ⟨h.nd, by simp, fun a ha b hb e => ?_⟩
            obtain ⟨y, hy, rfl⟩ := List.mem_map.1 ha
            have hb : b = x.s := by simpa using hb
            exact hn y hy (by rw [e, hb])
          · rcases List.mem_append.1 hy with hy | hy
            · exact hg y hy
            · have : y = x := by simpa using hy
              subst this; show y.s ≤ max S.gr y.s; omega
          · show (S.held ++ [x]).length ≤ 1024 ∧ ((S.held ++ [x]).length : Int) ≤ max S.hold 0
            rw [List.length_append, List.length_singleton]
            omega
        · exact ⟨h.sq, h.b, h.s, h.can, h.nd, hg, h.len⟩
      · exact (Sb.Ok.app (S := { S with gr := max S.gr x.s }) ⟨h.sq, h.b, h.s, h.can, h.nd, hg, h.len⟩ hc hs).go
theorem Sb.Ok.rec_ {S : Sb} (h : S.Ok) {seq : Int} {bs ss : List Lv} (hs : 0 ≤ seq ∧ seq < 18446744073709551616) : (S.rec_ seq bs ss).1.Ok := by
  unfold Sb.rec_
  split
  · exact h
  · rename_i hf
    have hf := Classical.not_not.1 hf
    split
    · exact h
    · refine Sb.Ok.go ⟨hs, hf.1.wrs, hf.2.wrs, fun x hx => h.can x ((List.mem_filter.1 hx).1), h.nd.sublist ((List.filter_sublist).map _), fun x hx => h.gr x ((List.mem_filter.1 hx).1), ?_⟩
      have := List.length_filter_le (fun x : Dt => decide (seq < x.s)) S.held
      have := h.len
      show (S.held.filter _).length ≤ 1024 ∧ ((S.held.filter _).length : Int) ≤ max S.hold 0
      omega
end Go.Proofs.Ytinmhhonpflojaa

/- A message done on levels: the program's and the document's. -/
namespace Go.Proofs.Ytinmhhonpflojaa
open Go.V
set_option linter.unusedVariables false
set_option linter.unusedSimpArgs false

theorem notWorse_ok (w : World) (b : Nat) (x : Dt) (v : Lv) (hb : Rd w [] (some ⟨b, 0, none⟩) x.cells) : Is Try.prog 92 [.agg ⟨v.cells⟩, .pointer (some ⟨b, 0, none⟩)] w (.bool (!wse x.d x.p v.p)) := by
  refine Does.pure (Does.of (n := 12) Try.func92 rfl rfl rfl rfl ?_)
  refine .seq ((.region (.nw (.box (l := v.cells) rfl rfl) fun b2 => (.v (.assign rfl) (.nil ?_)))))
  refine .seq ((.region (.v (.fieldAddr rfl) (.v (.load (v := .int .i64 x.d) rfl (hb.cell (i := 2) rfl)) (.v (.fieldAddr rfl) (.v (.load (v := .int .i64 x.p) rfl (hb.cell (i := 3) rfl)) (.v (.fieldAddr rfl) (.v (.load (v := .int .i64 v.p) rfl (.one rfl)) (.pc (v := .bool (wse x.d x.p v.p)) rfl rfl (fun w s => worse_ok w x.d x.p v.p) (.v (.not rfl) (.v (.assign rfl) (.nil ?_))))))))))))
  exact .ret ⟨[_], ⟨rfl, trivial⟩, rfl⟩
def pidx (x : Dt) (l : List Lv) : Int := if plv x l < l.length then plv x l else -1
theorem plv_is {x : Dt} {l : List Lv} {i : Nat} (hi : i < l.length) (h : wse x.d x.p l[i].p = false) (hb : ∀ j, (hj : j < l.length) → j < i → wse x.d x.p l[j].p = true) : plv x l = i := by
  unfold plv
  rw [List.findIdx_eq hi]
  exact ⟨by simpa using h, fun j hj => by simpa using hb j (by omega) hj⟩
theorem plv_no {x : Dt} {l : List Lv} (hb : ∀ j, (hj : j < l.length) → wse x.d x.p l[j].p = true) : plv x l = l.length := by
  unfold plv
  rw [List.findIdx_eq_length]
  intro v hv
  obtain ⟨j, hj, rfl⟩ := List.mem_iff_getElem.1 hv
  simpa using hb j hj
set_option maxRecDepth 10000 in
theorem lindex_ok (w : World) (A : Option Addr) (len cap b : Nat) (x : Dt) (l : List Lv) (hx : Rd w [] A (lrows l)) (hl : len = l.length) (hlb : len ≤ 5864062014805) (hb : Rd w [] (some ⟨b, 0, none⟩) x.cells) :
    Is Try.prog 91 [.slice A len cap, .func (.func 92) #[] ⟨[.pointer (some ⟨b, 0, none⟩)]⟩] w (.int .i64 (pidx x l)) := by
  refine Does.pure (Does.of (n := 19) Try.func91 rfl rfl rfl rfl ?_)
  refine .seq ((.region (.v (.assign rfl) (.nil ?_))))
  refine .seq (.seq ((.region (.v (.move rfl) (.v (.len rfl) (.v (.move rfl) (.nil ?_)))))))
  refine .block (.loop (X := Nat) (fun i => [(0, .slice A len cap), (1, .func (.func 92) #[] ⟨[.pointer (some ⟨b, 0, none⟩)]⟩), (7, .int .i64 len), (8, .int .i64 i)]) (fun _ => []) (fun i => i ≤ len ∧ ∀ j, (hj : j < l.length) → j < i → wse x.d x.p l[j].p = true) (fun i => len - i) 0 ⟨by omega, fun m _ hm => by omega⟩
    (.cons rfl (.cons rfl (.cons rfl (.cons rfl (.nil _))))) (fun _ s => s) ?_)
  rintro i ⟨hi, hI⟩
  refine .seq ((.region (.v (.lss rfl rfl) (.nil ?_))))
  refine .seq (.cond_dec rfl (fun h1 => .skip ?_) (fun h1 => .exit ?_))
  · have hil : i < l.length := by omega
    obtain ⟨b', o', rfl, hA⟩ := Rd.lev hx (by omega)
    have hlv := fun hs => lvAt (z := (i : Int)) (hA hs) hil
    obtain ⟨v, hv⟩ : ∃ v, l[i] = v := ⟨_, rfl⟩
    rw [hv] at hlv
    refine .seq (.block (.seq ((.region (.v (.move rfl) (.v (.assign rfl) (.nil ?_)))))))
    refine .seq ((.region (.v (.move rfl) (.v (.move rfl) (.v (.move rfl) (.v (.indexAddr rfl rfl (by omega) (by omega)) (.v (.loadA (vs := v.cells) rfl (hlv _) rfl) (.pc (v := .bool (!wse x.d x.p v.p)) rfl rfl (fun w s => notWorse_ok w b x v (hb.keep0 s)) (.nil ?_)))))))))
    refine .cond rfl (fun h2 => ?_) (fun h2 => .skip ?_)
    · refine .seq ((.region (.v (.move rfl) (.v (.assign rfl) (.nil ?_)))))
      have e : plv x l = i := plv_is hil (by rw [hv]; simpa using h2) hI
      exact .ret ⟨[_], ⟨rfl, trivial⟩, by unfold pidx; rw [e, if_pos hil]; rfl⟩
    · refine .region (.v (.addi rfl rfl (by omega)) (.v (.move rfl) (.nil ?_)))
      refine ⟨i + 1, ⟨by omega, fun m hm hmi => ?_⟩, by omega, .cons rfl (.cons rfl (.cons rfl (.cons rfl (.nil _)))), fun _ s => s⟩
      by_cases e : m = i
      · subst e; rw [hv]; simpa using h2
      · exact hI m hm (by omega)
  · refine .seq ((.region (.v (.assign rfl) (.nil ?_))))
    have e : plv x l = l.length := plv_no fun m hm => hI m hm (by omega)
    exact .ret ⟨[_], ⟨rfl, trivial⟩, by unfold pidx; rw [e, if_neg (by omega)]; rfl⟩
theorem lrows_put (l : List Lv) (i : Nat) (v : Lv) (h : i < l.length) : splice (lrows l) (i * 3) v.cells = lrows (l.take i ++ v :: l.drop (i + 1)) := by
  unfold V.splice
  rw [lrows_app, lrows_take, show lrows (v :: l.drop (i + 1)) = v.cells ++ lrows (l.drop (i + 1)) from rfl, lrows_drop, List.append_assoc]
  congr 3
  show i * 3 + 3 = _
  omega
abbrev Db (b : Nat) (x : Dt) : Nat × Ch := (b, .cells x.cells 24)
theorem ldn_len (x : Dt) (l : List Lv) : (dn x l).length ≤ l.length + 1 := by
  induction l with
  | nil => unfold dn; split <;> simp
  | cons v l ih =>
    unfold dn
    split
    · simpa using ih
    · split <;> split <;> simp <;> omega
set_option maxRecDepth 20000 in
set_option maxHeartbeats 1000000 in
theorem done_ok (w : World) (x : Dt) (v0 : Value) (l : List Lv) (h : Hp) (k : LOwn v0 l h) (hb : l.length ≤ 3000000) :
    Does Try.prog 84 [v0, .agg ⟨x.cells⟩] h w (fun v hs => LOwn v (dn x l) hs) := by
  obtain ⟨A, c, rfl⟩ := lown_sl k
  have hcap := (OwnS.cap_ k).2
  have hform := dn_form x l
  have hple := plv_le x l
  refine Does.less (Does.of (n := 69) Try.func84 rfl rfl rfl rfl ?_)
  refine .seq ((.region (.nw (.box (l := x.cells) rfl rfl) fun b3 => (.v (.assign rfl) (.nil ?_)))))
  refine .seq ((.region (.v (.move rfl) (.v (.makeFunc rfl rfl) (.pc (v := .int .i64 (pidx x l)) rfl rfl (fun w s => lindex_ok w A l.length c b3 x l (OwnS.rd k s (no := []) (fun y hy => by simp [hy]) (by simp)) rfl (by omega) (Rd.blk (T := 24) s)) (.v (.assign rfl) (.nil ?_)))))))
  refine .mid (X := Unit) (fun _ => [(0, .slice A l.length c), (3, .pointer (some ⟨b3, 0, none⟩)), (5, .int .i64 (plv x l))]) (fun _ => Db b3 x :: h) (fun _ => True) (.seq ((.region (.v (.move rfl) (.v (.lss rfl rfl) (.nil ?_)))))) ?_
  · refine .cond_dec rfl (fun h1 => ?_) (fun h1 => .skip ?_)
    · refine .region (.v (.move rfl) (.v (.len rfl) (.v (.assign rfl) (.nil ?_))))
      have e : plv x l = l.length := by unfold pidx at h1; split at h1 <;> omega
      exact ⟨(), trivial, .cons rfl (.cons rfl (.cons (by rw [e]; rfl) (.nil _))), fun _ s => s.take⟩
    · have e : pidx x l = plv x l := by
        unfold pidx at h1 ⊢
        by_cases hh : plv x l < l.length
        · rw [if_pos hh]
        · rw [if_neg hh] at h1; omega
      exact ⟨(), trivial, .cons rfl (.cons rfl (.cons (by rw [← e]; rfl) (.nil _))), fun _ s => s.take⟩
  rintro _ _
  generalize hp : plv x l = p at hform hple ⊢
  obtain ⟨u, hu⟩ := get_of l p
  have lu : ∀ own hs', h ⊆ hs' → p < l.length → ∃ b o, A = some ⟨b, o, none⟩ ∧ At w own hs' ⟨b, o + ((p : Int)).toNat * 3 + 0, none⟩ [.int .i64 u.p] := fun own hs' hh hpl => by
    obtain ⟨b, o, lx, rfl, -, -, -, -, -⟩ := k.some_ (by omega)
    exact ⟨b, o, rfl, by rw [← hu hpl]; exact lpAt (k.at0 hh) hpl⟩
  obtain ⟨bA, oA, hA⟩ : ∃ b o, p < l.length → A = some ⟨b, o, none⟩ ∧ ∀ own hs', h ⊆ hs' → At w own hs' ⟨b, o + ((p : Int)).toNat * 3 + 0, none⟩ [.int .i64 u.p] := by
    by_cases hpl : p < l.length
    · obtain ⟨b, o, lx, rfl, -, -, -, -, -⟩ := k.some_ (by omega)
      exact ⟨b, o, fun _ => ⟨rfl, fun own hs' hh => by rw [← hu hpl]; exact lpAt (k.at0 hh) hpl⟩⟩
    · exact ⟨0, 0, fun hh => absurd hh hpl⟩
  refine .seq ((.drawK (Db b3 x :: h) (fun _ h => h) (by kernel_rfl) (by kernel_rfl) ?_))
  refine .v (fun _ f => .move rfl) (.v (fun _ f => .move rfl) (.v (fun _ f => .len rfl) (.v (fun _ f => .lss rfl rfl) (.v (fun _ f => .move rfl) (.and (b2 := decide (u.p = x.p)) 19 27 8 8 rfl rfl (fun g1 => have g2 : (p : Int) < l.length := of_decide_eq_true g1; .v (fun _ f => .move rfl) (.v (fun _ f => .move rfl) (.v (fun _ f => .indexAddr (b := bA) (o := oA) (len := l.length) (cap := c) (by rw [← (hA (by omega)).1]; rfl) rfl (by omega) (by omega)) (.v (fun _ f => .fieldAddr rfl) (.v (fun _ f => .load (v := .int .i64 u.p) rfl ((hA (by omega)).2 _ _ (fun y hy => f (List.mem_cons_of_mem _ hy)))) (.v (fun _ f => .fieldAddr rfl) (.v (fun _ f => .load (v := .int .i64 x.p) rfl (.one (b := b3) (l := x.cells) (T := 24) (hb := ⟨f List.mem_cons_self⟩) rfl)) (.v (fun _ f => .eqi rfl rfl) (.nil ⟨rfl, rfl, rfl, rfl⟩))))))))) (.v (fun _ f => .assign rfl) (.nil ?_)))))))
  refine .seq ((.region (.v (.fieldAddr rfl) (.v (.load (v := .int .i64 x.p) rfl (.one rfl)) (.v (.fieldAddr rfl) (.v (.load (v := .int .u64 x.q) rfl (.one rfl)) (.v (.fieldAddr rfl) (.v (.load (v := .int .i64 x.c) rfl (.one rfl)) (.v (.build (out := x.lv.cells) rfl rfl) (.nw .alloc fun b7 => (.st (.sw rfl rfl) (.nil ?_))))))))))))
  refine .seq (.block (.seq ((.region (.v (.move rfl) (.v (.move rfl) (.and (b2 := decide (x.c = 0)) 38 41 3 3 rfl rfl (fun g2 => .v (.fieldAddr rfl) (.v (.load (v := .int .i64 x.c) rfl (.one rfl)) (.v (.eqi rfl rfl) (.nil ⟨rfl, rfl, rfl, rfl⟩)))) (.v (.assign rfl) (.nil ?_)))))))))
  refine .cond rfl (fun h2 => ?_) (fun h2 => ?_)
  · simp only [Bool.and_eq_true, Bool.or_eq_true, Bool.not_eq_true', Bool.and_eq_false_iff, Bool.or_eq_false_iff, Bool.not_eq_false', decide_eq_true_eq, decide_eq_false_iff_not, Bool.false_eq_true, false_iff] at h2
    obtain ⟨⟨g1, g2⟩, g3⟩ := h2
    have hpl : p < l.length := by omega
    have e := hform.1 hpl (by rw [hu hpl]; exact g2)
    rw [if_pos g3] at e
    refine .seq ((.region (.v (.move rfl) ?_)))
    refine .ef (.call0 rfl rfl fun w s => lclone_ok w A l.length c l (OwnS.rd k s (no := []) (fun y hy => by simp [hy]) (by simp)) rfl (by omega)) ?_
    rintro v1 _ ⟨k1, o1, rfl⟩
    obtain ⟨B, d, rfl⟩ := lown_sl o1
    refine .v (.move rfl) (.v (.move rfl) (.v (.addi rfl rfl (by omega)) ?_))
    refine .ef (.callT k1 rfl rfl fun w s => ldelete_ok w B l.length d p (lrows l) k1 o1 hpl (by omega) (lrows_ones _)) ?_
    rintro v2 _ ⟨k2, o2, rfl⟩
    refine .v (.assign rfl) (.nil ?_)
    refine .ret ⟨[_], ⟨rfl, trivial⟩, k2, fun _ s => Sat.take (pre := k2) s, ?_⟩
    rw [e]
    unfold LOwn
    rw [List.length_append, List.length_take, List.length_drop, lrows_app, lrows_take, lrows_drop, Nat.min_eq_left (by omega), show p + (l.length - (p + 1)) = l.length - 1 by omega]
    exact o2
  · refine .seq ((.region (.v (.move rfl) (.v (.assign rfl) (.nil ?_)))))
    refine .cond rfl (fun h3 => ?_) (fun h3 => ?_)
    · simp only [Bool.and_eq_true, Bool.or_eq_true, Bool.not_eq_true', Bool.and_eq_false_iff, Bool.or_eq_false_iff, Bool.not_eq_false', decide_eq_true_eq, decide_eq_false_iff_not, Bool.false_eq_true, false_iff] at h2 h3
      obtain ⟨g1, g2⟩ := h3
      have hpl : p < l.length := by omega
      have g3 : ¬ x.c = 0 := by rcases h2 with (h2 | h2) | h2 <;> omega
      have e := hform.1 hpl (by rw [hu hpl]; exact g2)
      rw [if_neg g3] at e
      refine .seq ((.region (.v (.move rfl) ?_)))
      refine .ef (.call0 rfl rfl fun w s => lclone_ok w A l.length c l (OwnS.rd k s (no := []) (fun y hy => by simp [hy]) (by simp)) rfl (by omega)) ?_
      rintro v1 _ ⟨k1, o1, rfl⟩
      obtain ⟨B, d, rfl⟩ := lown_sl o1
      obtain ⟨bm, om, lm, rfl, -, rfl, hcm, hlm, hvm⟩ := o1.some_ (by omega)
      refine .v (.assign rfl) (.nil ?_)
      refine .seq ((.region (.v (.move rfl) (.v (.move rfl) (.v (.loadA (vs := x.lv.cells) rfl .whole rfl) (.v (.indexAddr rfl rfl (by omega) (by omega)) (.st (.storeA (l := lm) rfl rfl rfl rfl (by show om + (p : Int).toNat * 3 + 3 ≤ lm.length; omega)) (.nil ?_))))))))
      have o2 := OwnS.spliceAt (i := p * 3) (us := x.lv.cells) o1 (by show p * 3 + 3 ≤ _; omega)
      refine .seq ((.region (.v (.move rfl) (.v (.assign rfl) (.nil ?_)))))
      refine .ret ⟨[_], ⟨rfl, trivial⟩, [(bm, .cells (V.splice lm (om + p * 3) x.lv.cells) 109)], fun _ s => ?_, ?_⟩
      · rw [Int.toNat_natCast] at s
        exact Sat.take s
      · rw [e]
        unfold LOwn
        rw [← lrows_put _ _ _ hpl, List.length_append, List.length_cons, List.length_take, List.length_drop, Nat.min_eq_left (by omega), show p + (l.length - (p + 1) + 1) = l.length by omega]
        exact o2
    · simp only [Bool.and_eq_true, Bool.or_eq_true, Bool.not_eq_true', Bool.and_eq_false_iff, Bool.or_eq_false_iff, Bool.not_eq_false', decide_eq_true_eq, decide_eq_false_iff_not, Bool.false_eq_true, false_iff] at h3
      have e := hform.2 (fun hpl => by rw [hu hpl]; rcases h3 with h3 | h3; omega; exact h3)
      refine .seq ((.region (.v (.fieldAddr rfl) (.v (.load (v := .int .i64 x.c) rfl (.one rfl)) (.v (.eqi rfl rfl) (.v (.assign rfl) (.nil ?_)))))))
      refine .cond_dec rfl (fun h4 => ?_) (fun h4 => .skip ?_)
      · rw [if_pos h4] at e
        refine .seq ((.region (.v (.move rfl) (.v (.assign rfl) (.nil ?_)))))
        exact .ret ⟨[_], ⟨rfl, trivial⟩, h, fun _ s => Sat.take (pre := h) s, by rw [e]; exact k⟩
      · rw [if_neg h4] at e
        have fin : ∀ (v2 : Value) (k2 : Hp), OwnS 109 3 v2 (l.length + 1) ((lrows l).take (p * 3) ++ x.lv.cells ++ (lrows l).drop (p * 3)) k2 → LOwn v2 (dn x l) k2 := by
          intro v2 k2 o2
          rw [e]
          unfold LOwn
          rw [List.length_append, List.length_cons, List.length_take, List.length_drop, lrows_app, lrows_take, show lrows (x.lv :: l.drop p) = x.lv.cells ++ lrows (l.drop p) from rfl, lrows_drop, Nat.min_eq_left (by omega), show p + (l.length - p + 1) = l.length + 1 by omega, ← List.append_assoc]
          exact o2
        refine .seq (.drawX [0, 2, 3] [(b7, .cells x.lv.cells 109)] (by intro y hy; simp at hy; subst hy; simp) (by kernel_rfl) (by kernel_rfl) ?_)
        refine .v (fun _ f => .move rfl) (.v (fun _ f => .move rfl) (.v (fun _ f => .loadA (vs := x.lv.cells) rfl (.whole (hb := .sub f)) rfl) (.nil ?_)))
        refine .two 1 4 (by kernel_rfl) (.cl rfl rfl rfl (fun w s => lclone_ok w A l.length c l (OwnS.rd k s (no := []) (fun y hy => by simp [hy]) (by simp)) rfl (by omega)) ?_) (.ef rfl (.buildSlice (out := x.lv.cells) rfl (by decide) rfl rfl) (fun v hs' ⟨b, _, e⟩ f => by subst e; exact fun y hy => List.mem_cons_of_mem _ (f hy)) ?_)
        · intro v1 k1 o1
          obtain ⟨B, d, rfl⟩ := lown_sl o1
          refine .run [4, 5, 6] (by intro y hy; simp at hy; subst hy; simp) (by kernel_rfl) ?_
          refine .ef (.buildSlice (out := x.lv.cells) rfl (by decide) rfl rfl) (fun v hs' ⟨b, _, e⟩ f => by subst e; exact fun y hy => List.mem_cons_of_mem _ (f hy)) ?_
          rintro _ _ ⟨b67, rfl, rfl⟩
          refine .clT (k1 ++ [(b67, Ch.cells x.lv.cells 109)]) rfl rfl (fun w s => linsert_ok w B l.length d p b67 (lrows l) x.lv.cells k1 o1 hple (by omega) (lrows_ones _) rfl rfl) (fun h => by intro y hy; simp at hy; subst hy; simp) ?_
          intro v2 k2 o2
          refine .v (fun _ f => .assign rfl) (.nil ?_)
          exact .ret ⟨[_], ⟨rfl, trivial⟩, k2, fun _ s => Sat.take (pre := k2) s, fin _ _ o2⟩
        · rintro _ _ ⟨b67, rfl, rfl⟩
          refine .run [1, 5, 6] (by intro y hy; simp at hy; subst hy; simp) (by kernel_rfl) ?_
          refine .cl rfl rfl (fun w s => lclone_ok w A l.length c l (OwnS.rd k s (no := []) (fun y hy => by simp [hy]) (by simp)) rfl (by omega)) ?_
          intro v1 k1 o1
          obtain ⟨B, d, rfl⟩ := lown_sl o1
          refine .clT (k1 ++ [(b67, Ch.cells x.lv.cells 109)]) rfl rfl (fun w s => linsert_ok w B l.length d p b67 (lrows l) x.lv.cells k1 o1 hple (by omega) (lrows_ones _) rfl rfl) (fun h => by intro y hy; simp at hy; subst hy; simp) ?_
          intro v2 k2 o2
          refine .v (fun _ f => .assign rfl) (.nil ?_)
          exact .ret ⟨[_], ⟨rfl, trivial⟩, k2, fun _ s => Sat.take (pre := k2) s, fin _ _ o2⟩
end Go.Proofs.Ytinmhhonpflojaa

/- A subscriber in memory: does, follows. -/
namespace Go.Proofs.Ytinmhhonpflojaa
open Go.V
set_option linter.unusedVariables false
set_option linter.unusedSimpArgs false

set_option maxRecDepth 20000 in
set_option maxHeartbeats 1000000 in
theorem refdone_ok (w : World) (x : Dt) (A : Option Addr) (len c : Nat) (l : List Lv) (hx : Rd w [] A (lrows l)) (hl : len = l.length) (hw : Wrs x.d l) (hb : l.length ≤ 3000000) :
    Does Try.prog 85 [.slice A len c, .agg ⟨x.cells⟩] [] w (fun v hs => LOwn v (dn x l) hs) := by
  rw [← dnr_eq x l hw]
  refine Does.less (Does.of (n := 70) Try.func85 rfl rfl rfl rfl ?_)
  refine .seq ((.region (.nw (.box (l := x.cells) rfl rfl) fun b3 => (.v (.assign rfl) (.nil ?_)))))
  refine .seq ((.region (.v (.assign rfl) (.nil ?_))))
  refine .seq ((.region (.v (.fieldAddr rfl) (.v (.load (v := .int .i64 x.c) rfl (.one rfl)) (.v (.eqi rfl rfl) (.v (.assign rfl) (.nil ?_)))))))
  refine .seq (.seq ((.region (.v (.assign rfl) (.nil ?_)))))
  refine .block (.loop (X := Nat × Bool × List Lv × Value × Hp) (fun z => [(0, .slice A len c), (3, .pointer (some ⟨b3, 0, none⟩)), (5, z.2.2.2.1), (6, .bool z.2.1), (7, .int .i64 z.1)]) (fun z => Db b3 x :: z.2.2.2.2) (fun z => z.1 ≤ len ∧ z.2.2.1 ++ dnr x z.2.1 (l.drop z.1) = dnr x (decide (x.c = 0)) l ∧ LOwn z.2.2.2.1 z.2.2.1 z.2.2.2.2 ∧ z.2.2.1.length ≤ 2 * z.1) (fun z => len - z.1) ⟨0, decide (x.c = 0), [], .slice none 0 0, []⟩ ⟨by simp, by simp, OwnS.nil _ _, by simp⟩ (.cons rfl (.cons rfl (.cons rfl (.cons rfl (.cons rfl (.nil _)))))) (fun _ s => s) ?_)
  rintro ⟨i, put, out, v, h⟩ ⟨hi, hI, ho, hlo⟩
  dsimp only at hi hI ho hlo ⊢
  refine .seq (.seq ((.region (.v (.move rfl) (.v (.move rfl) (.v (.len rfl) (.v (.lss rfl rfl) (.nil ?_))))))))
  refine .cond_dec rfl (fun h1 => .skip ?_) (fun h1 => .exit ?_)
  · have hil : i < l.length := by omega
    obtain ⟨b, o, rfl, hA⟩ := Rd.lev hx (by omega)
    have hlv := fun hs => lvAt (z := (i : Int)) (hA hs) hil
    have hlp := fun hs => lpAt (z := (i : Int)) (hA hs) hil
    rw [List.drop_eq_getElem_cons hil] at hI
    obtain ⟨u, hu⟩ : ∃ u, l[i] = u := ⟨_, rfl⟩
    rw [hu] at hlv hlp hI
    rw [dnr] at hI
    refine .mid (X := Bool × List Lv × Value × Hp) (fun z => [(0, .slice (some ⟨b, o, none⟩) len c), (3, .pointer (some ⟨b3, 0, none⟩)), (5, z.2.2.1), (6, .bool z.1), (7, .int .i64 i)]) (fun z => Db b3 x :: z.2.2.2)
      (fun z => z.2.1 ++ dnr x z.1 (l.drop (i + 1)) = dnr x (decide (x.c = 0)) l ∧ LOwn z.2.2.1 z.2.1 z.2.2.2 ∧ z.2.1.length ≤ 2 * (i + 1)) (.block ?_) ?_
    · refine .mid (X := List Lv × Value × Hp) (fun z => [(0, .slice (some ⟨b, o, none⟩) len c), (3, .pointer (some ⟨b3, 0, none⟩)), (5, z.2.1), (6, .bool (put || !wse x.d x.p u.p)), (7, .int .i64 i)]) (fun z => Db b3 x :: z.2.2)
        (fun z => z.1 ++ ((if u.p ≠ x.p then [u] else []) ++ dnr x (put || !wse x.d x.p u.p) (l.drop (i + 1))) = dnr x (decide (x.c = 0)) l ∧ LOwn z.2.1 z.1 z.2.2 ∧ z.1.length ≤ 2 * i + 1) (.seq ((.drawK [Db b3 x] (by intro y hy; simp at hy; subst hy; simp) (by kernel_rfl) (by kernel_rfl) ?_))) ?_
      · refine .v (fun _ f => .move rfl) (.v (fun _ f => .not rfl) (.v (fun _ f => .move rfl) (.and (b2 := !wse x.d x.p u.p) 19 30 11 11 rfl rfl (fun g1 => .v (fun _ f => .fieldAddr rfl) (.v (fun _ f => .load (v := .int .i64 x.d) rfl (.one (hb := .sub f) rfl)) (.v (fun _ f => .fieldAddr rfl) (.v (fun _ f => .load (v := .int .i64 x.p) rfl (.one (hb := .sub f) rfl)) (.v (fun _ f => .move rfl) (.v (fun _ f => .move rfl) (.v (fun _ f => .indexAddr rfl rfl (by omega) (by omega)) (.v (fun _ f => .fieldAddr rfl) (.v (fun _ f => .load (v := .int .i64 u.p) rfl (hlp _)) (.pc (v := .bool (wse x.d x.p u.p)) rfl rfl (fun w s => refworse_ok w x.d x.p u.p) (.v (fun _ f => .not rfl) (.nil ⟨rfl, rfl, rfl, rfl⟩)))))))))))) (.nil ?_))))
        refine .cond rfl (fun h2 => ?_) (fun h2 => .skip ?_)
        · rw [if_pos h2] at hI
          simp only [Bool.and_eq_true, Bool.or_eq_true, Bool.not_eq_true', Bool.and_eq_false_iff, Bool.or_eq_false_iff, Bool.not_eq_false', decide_eq_true_eq, decide_eq_false_iff_not, Bool.false_eq_true, false_iff] at h2
          have hput : (put || !wse x.d x.p u.p) = true := by rw [h2.1, h2.2]; rfl
          rw [hput] at hI ⊢
          refine .seq ((.region (.v (.move rfl) (.v (.fieldAddr rfl) (.v (.load (v := .int .i64 x.p) rfl (.one rfl)) (.v (.fieldAddr rfl) (.v (.load (v := .int .u64 x.q) rfl (.one rfl)) (.v (.fieldAddr rfl) (.v (.load (v := .int .i64 x.c) rfl (.one rfl)) (.v (.build (out := x.lv.cells) rfl rfl) (.push (vs := lrows out) (c := out.length) (oc := x.lv.cells) rfl rfl ho rfl rfl rfl (by omega) (by omega) ?_)))))))))))
          intro b9 v' h' k'
          refine .v (.assign rfl) (.nil ?_)
          refine .region (.v (.assign rfl) (.nil ?_))
          refine ⟨(out ++ [x.lv], v', h'), ⟨by rw [List.append_assoc]; exact hI, ?_, by simp; omega⟩, .cons rfl (.cons rfl (.cons rfl (.cons rfl (.cons rfl (.nil _))))), fun _ s => s.take⟩
          unfold LOwn; rw [List.length_append, lrows_app]; simpa [lrows] using k'
        · rw [if_neg (by rw [h2]; simp), List.nil_append] at hI
          have hput : (put || !wse x.d x.p u.p) = put := by
            simp only [Bool.and_eq_true, Bool.or_eq_true, Bool.not_eq_true', Bool.and_eq_false_iff, Bool.or_eq_false_iff, Bool.not_eq_false', decide_eq_true_eq, decide_eq_false_iff_not, Bool.false_eq_true, false_iff] at h2
            rcases h2 with h2 | h2
            · rw [h2]; rfl
            · rw [h2]; simp
          rw [hput] at hI ⊢
          exact ⟨(out, v, h), ⟨hI, ho, by show out.length ≤ _; omega⟩, .cons rfl (.cons rfl (.cons rfl (.cons rfl (.cons rfl (.nil _))))), fun _ s => s.take⟩
      · rintro ⟨out1, v1, h1'⟩ ⟨hI1, ho1, hl1⟩
        dsimp only at hI1 ho1 hl1 ⊢
        refine .seq ((.drawK [Db b3 x] (by intro y hy; simp at hy; subst hy; simp) (by kernel_rfl) (by kernel_rfl) ?_))
        refine .v (fun _ f => .move rfl) (.v (fun _ f => .move rfl) (.v (fun _ f => .indexAddr rfl rfl (by omega) (by omega)) (.v (fun _ f => .fieldAddr rfl) (.v (fun _ f => .load (v := .int .i64 u.p) rfl (hlp _)) (.v (fun _ f => .fieldAddr rfl) (.v (fun _ f => .load (v := .int .i64 x.p) rfl (.one (hb := .sub f) rfl)) (.v (fun _ f => .nei rfl rfl) (.nil ?_))))))))
        refine .cond_dec rfl (fun h3 => ?_) (fun h3 => .skip ?_)
        · rw [if_pos h3] at hI1
          refine .region (.v (.move rfl) (.v (.move rfl) (.v (.move rfl) (.v (.indexAddr rfl rfl (by omega) (by omega)) (.v (.loadA (vs := u.cells) rfl (hlv _) rfl) (.push (vs := lrows out1) (c := out1.length) (oc := u.cells) rfl rfl ho1 rfl rfl rfl (by omega) (by omega) ?_))))))
          intro b9 v' h' k'
          refine .v (.assign rfl) (.nil ?_)
          refine ⟨(put || !wse x.d x.p u.p, out1 ++ [u], v', h'), ⟨by rw [List.append_assoc]; exact hI1, ?_, by simp; omega⟩, .cons rfl (.cons rfl (.cons rfl (.cons rfl (.cons rfl (.nil _))))), fun _ s => s.take⟩
          unfold LOwn; rw [List.length_append, lrows_app]; simpa [lrows] using k'
        · rw [if_neg h3, List.nil_append] at hI1
          exact ⟨(put || !wse x.d x.p u.p, out1, v1, h1'), ⟨hI1, ho1, by show out1.length ≤ _; omega⟩, .cons rfl (.cons rfl (.cons rfl (.cons rfl (.cons rfl (.nil _))))), fun _ s => s.take⟩
    · rintro ⟨put1, out1, v1, h1'⟩ ⟨hI1, ho1, hl1⟩
      dsimp only at hI1 ho1 hl1 ⊢
      refine .region (.v (.move rfl) (.v (.addi rfl rfl (by omega)) (.v (.assign rfl) (.nil ?_))))
      exact ⟨⟨i + 1, put1, out1, v1, h1'⟩, ⟨by show i + 1 ≤ _; omega, hI1, ho1, hl1⟩, by show len - (i + 1) < _; omega, .cons rfl (.cons rfl (.cons rfl (.cons rfl (.cons rfl (.nil _))))), fun _ s => s⟩
  · have hd : l.drop i = [] := List.drop_eq_nil_of_le (by omega)
    rw [hd, dnr] at hI
    refine .mid (X := Value × Hp) (fun z => [(5, z.1)]) (fun z => z.2) (fun z => LOwn z.1 (dnr x (decide (x.c = 0)) l) z.2) (.seq ((.region (.v (.move rfl) (.v (.not rfl) (.nil ?_)))))) ?_
    · refine .cond rfl (fun h5 => ?_) (fun h5 => .skip ?_)
      · have hp : put = false := by simpa using h5
        rw [hp] at hI
        refine .region (.v (.move rfl) (.v (.fieldAddr rfl) (.v (.load (v := .int .i64 x.p) rfl (.one rfl)) (.v (.fieldAddr rfl) (.v (.load (v := .int .u64 x.q) rfl (.one rfl)) (.v (.fieldAddr rfl) (.v (.load (v := .int .i64 x.c) rfl (.one rfl)) (.v (.build (out := x.lv.cells) rfl rfl) (.push (vs := lrows out) (c := out.length) (oc := x.lv.cells) rfl rfl ho rfl rfl rfl (by omega) (by omega) ?_)))))))))
        intro b9 v' h' k'
        refine .v (.assign rfl) (.nil ?_)
        refine ⟨(v', h'), ?_, .cons rfl (.nil _), fun _ s => s.take⟩
        rw [← hI]
        show LOwn v' (out ++ [x.lv]) h'
        unfold LOwn; rw [List.length_append, lrows_app]; simpa [lrows] using k'
      · have hp : put = true := by simpa using h5
        rw [hp] at hI
        refine ⟨(v, h), ?_, .cons rfl (.nil _), fun _ s => s.take⟩
        rw [← hI]
        show LOwn v (out ++ []) h
        rw [List.append_nil]; exact ho
    · rintro ⟨v', h'⟩ k'
      refine .seq ((.region (.v (.move rfl) (.v (.assign rfl) (.nil ?_)))))
      exact .ret ⟨[_], ⟨rfl, trivial⟩, h', fun _ s => s, k'⟩

/-! ### what is held, as a map -/
structure MapH (es : List ME) (c : Nat) (held : List Dt) : Prop where
  kv : es.map (fun e => (e.1, e.2.1)) = held.map fun x => (x.s, Value.agg ⟨x.cells⟩)
  lt : ∀ e ∈ es, e.born < c
  nd : (es.map ME.born).Nodup
theorem MapH.nil : MapH [] 0 [] := ⟨rfl, by simp, by simp⟩
theorem MapH.len {es : List ME} {c : Nat} {held : List Dt} (h : MapH es c held) : es.length = held.length := by
  have := congrArg List.length h.kv; simpa using this
theorem mfind_kv (n : Int) : ∀ (es : List ME) (held : List Dt) (i : Nat), es.map (fun e => (e.1, e.2.1)) = held.map (fun x => (x.s, Value.agg ⟨x.cells⟩)) →
    mfind n es i = (held.findIdx? fun x => decide (x.s = n)).bind fun j => (held[j]?).map fun x => (i + j, Value.agg ⟨x.cells⟩)
  | [], [], i, _ => rfl
  | e :: es, x :: held, i, h => by
    simp only [List.map_cons, List.cons.injEq, Prod.mk.injEq] at h
    obtain ⟨⟨h1, h2⟩, h3⟩ := h
    unfold mfind
    rw [h1, List.findIdx?_cons]
    by_cases hn : x.s = n
    · simp [hn, h2]
    · have hne : (n == x.s) = false := by simp; exact fun e => hn e.symm
      rw [hne]
      simp only [hn, decide_false, Bool.false_eq_true, if_false]
      rw [mfind_kv n es held (i + 1) h3]
      cases held.findIdx? (fun x => decide (x.s = n)) with
      | none => rfl
      | some j => simp; cases held[j]? <;> simp; omega
  | [], _ :: _, i, h => by simp at h
  | _ :: _, [], i, h => by simp at h
theorem MapH.gno {es : List ME} {c : Nat} {held : List Dt} (h : MapH es c held) {n : Int} (hn : hat n held = none) : mget n es = none := by
  unfold mget; rw [mfind_kv n es held 0 h.kv]; unfold hat at hn; rw [hn]; rfl
theorem MapH.gso {es : List ME} {c : Nat} {held : List Dt} (h : MapH es c held) {n : Int} {i : Nat} (hn : hat n held = some i) (hi : i < held.length) : mget n es = some (.agg ⟨held[i].cells⟩) := by
  unfold mget; rw [mfind_kv n es held 0 h.kv]; unfold hat at hn; rw [hn]
  simp [List.getElem?_eq_getElem hi]
theorem MapH.del {es : List ME} {c : Nat} {held : List Dt} (h : MapH es c held) {n : Int} {i : Nat} (hn : hat n held = some i) (hi : i < held.length) : MapH (mdel n es) c (held.eraseIdx i) := by
  have e : mdel n es = es.eraseIdx i := by
    unfold mdel; rw [mfind_kv n es held 0 h.kv]; unfold hat at hn; rw [hn]
    simp [List.getElem?_eq_getElem hi]
  rw [e]
  refine ⟨?_, fun e he => h.lt e (List.mem_of_mem_eraseIdx he), h.nd.sublist ((List.eraseIdx_sublist es i).map _)⟩
  have hk := h.kv
  apply List.ext_getElem?
  intro j
  have h1 := fun (j : Nat) => congrArg (fun (l : List (Int × Value)) => l[j]?) hk
  simp only [List.getElem?_map, List.getElem?_eraseIdx] at h1 ⊢
  split
  · exact h1 j
  · exact h1 (j + 1)
theorem MapH.put {es : List ME} {c : Nat} {held : List Dt} (h : MapH es c held) {x : Dt} (hn : hat x.s held = none) : MapH (mset x.s (.agg ⟨x.cells⟩) es c).1 (mset x.s (.agg ⟨x.cells⟩) es c).2 (held ++ [x]) := by
  have e : mset x.s (.agg ⟨x.cells⟩) es c = (es ++ [(x.s, .agg ⟨x.cells⟩, c)], c + 1) := by
    unfold mset; rw [mfind_kv _ es held 0 h.kv]; unfold hat at hn; rw [hn]; rfl
  rw [e]
  refine ⟨by simp [h.kv], fun e he => ?_, ?_⟩
  · rcases List.mem_append.1 he with he | he
    · have := h.lt e he; show e.born < c + 1; omega
    · have he := List.mem_singleton.1 he
      subst he; show c < c + 1; omega
  · rw [List.map_append, List.nodup_append]
    refine ⟨h.nd, by simp, fun a ha b hb e => ?_⟩
    obtain ⟨y, hy, rfl⟩ := List.mem_map.1 ha
    have hb : b = c := by simpa using hb
    have := h.lt y hy
    omega

abbrev sbcells (S : Sb) (v1 v2 : Value) (m : Nat) : List Value := [.int .i64 S.hold, .int .u64 S.seq, v1, v2, .map (some m), .int .u64 S.gr, .int .u64 S.last.s, .int .i64 S.last.k, .int .i64 S.last.d, .int .i64 S.last.p, .int .u64 S.last.q, .int .i64 S.last.c, .bool (decide (S.last.k = 2))]
abbrev Sbk (b : Nat) (S : Sb) (v1 v2 : Value) (m : Nat) : Nat × Ch := (b, .cells (sbcells S v1 v2 m) 114)
abbrev SBH (b m : Nat) (S : Sb) (v1 v2 : Value) (k1 k2 : Hp) (es : List ME) (c : Nat) : Hp := Sbk b S v1 v2 m :: (m, Ch.obj (mapOf .u64 es c)) :: (k1 ++ k2)
structure SubI (S : Sb) (v1 v2 : Value) (k1 k2 : Hp) (es : List ME) (c : Nat) : Prop where
  o1 : LOwn v1 S.bs k1
  o2 : LOwn v2 S.ss k2
  m : MapH es c S.held
/-- a subscriber in memory -/
def SubH (b m : Nat) (S : Sb) (hs : Hp) : Prop := ∃ v1 v2 k1 k2 es c, hs = SBH b m S v1 v2 k1 k2 es c ∧ SubI S v1 v2 k1 k2 es c
end Go.Proofs.Ytinmhhonpflojaa

/- (*feed.Subscriber).does and follows. -/
namespace Go.Proofs.Ytinmhhonpflojaa
open Go.V
set_option linter.unusedVariables false
set_option linter.unusedSimpArgs false

theorem dn_len (x : Dt) : ∀ l : List Lv, (dn x l).length ≤ l.length + 1 := by
  intro l
  have h1 := (dn_form x l)
  have h2 := plv_le x l
  by_cases h : ∃ h : plv x l < l.length, l[plv x l].p = x.p
  · obtain ⟨ha, hb⟩ := h
    rw [h1.1 ha hb]; split <;> simp <;> omega
  · rw [h1.2 (fun ha hb => h ⟨ha, hb⟩)]; split <;> simp <;> omega
def Sb.size (S : Sb) : Nat := S.bs.length + S.ss.length + S.held.length
theorem Sb.app_size (S : Sb) (x : Dt) : (S.app x).size ≤ S.size + 1 := by
  unfold Sb.app Sb.size
  have h1 := dn_len x S.bs
  have h2 := dn_len x S.ss
  split
  · show S.bs.length + S.ss.length + S.held.length ≤ _; omega
  · split
    · show (dn x S.bs).length + S.ss.length + S.held.length ≤ _; omega
    · show S.bs.length + (dn x S.ss).length + S.held.length ≤ _; omega
theorem Sb.one_size {S : Sb} {i : Nat} (hi : i < S.held.length) (x : Dt) : (S.one i x).size ≤ S.size := by
  have h := Sb.app_size { S with held := S.held.eraseIdx i } x
  have e : (S.held.eraseIdx i).length = S.held.length - 1 := List.length_eraseIdx_of_lt hi
  unfold Sb.one
  unfold Sb.size at h ⊢
  dsimp only at h
  omega
theorem Sb.go_size (S : Sb) : S.go.size ≤ S.size := by
  generalize hn : S.held.length = n
  induction n using Nat.strongRecOn generalizing S with
  | _ n ih =>
    cases hh : hat (nxs S.seq) S.held with
    | none => rw [Sb.go_none hh]; omega
    | some i =>
      obtain ⟨hi, e⟩ := Sb.go_some hh
      rw [e]
      have := Sb.one_size hi S.held[i]
      have := ih (n - 1) (by omega) (S.one i S.held[i]) (by rw [Sb.one_held, List.length_eraseIdx_of_lt hi]; omega)
      omega
theorem Sb.app_last {S : Sb} {x : Dt} (h : x.k = 2) : S.app x = { S with last := x, seq := x.s } := by unfold Sb.app; rw [if_pos h]
theorem Sb.app_b {S : Sb} {x : Dt} (h : x.k ≠ 2) (h1 : x.d = 1) : S.app x = { S with bs := dn x S.bs, seq := x.s } := by unfold Sb.app; rw [if_neg h, if_pos h1]
theorem Sb.app_s {S : Sb} {x : Dt} (h : x.k ≠ 2) (h1 : x.d ≠ 1) : S.app x = { S with ss := dn x S.ss, seq := x.s } := by unfold Sb.app; rw [if_neg h, if_neg h1]

/-- a subscriber whose number is not written yet -/
structure DoX where
  v1 : Value
  v2 : Value
  k1 : Hp
  k2 : Hp
abbrev Sb.num_ (S : Sb) (q : Int) : Sb := { S with seq := q }
set_option maxRecDepth 20000 in
set_option maxHeartbeats 1000000 in
theorem does_ok (w : World) (b m : Nat) (S : Sb) (x : Dt) (v1 v2 : Value) (k1 k2 : Hp) (es : List ME) (c : Nat) (h : SubI S v1 v2 k1 k2 es c) (hb : S.size ≤ 2900000) :
    Does Try.prog 63 [.pointer (some ⟨b, 0, none⟩), .agg ⟨x.cells⟩] (SBH b m S v1 v2 k1 k2 es c) w (fun v hs => v = .tuple ⟨[]⟩ ∧ SubH b m (S.app x) hs) := by
  have hb1 : S.bs.length ≤ 3000000 := by unfold Sb.size at hb; omega
  have hb2 : S.ss.length ≤ 3000000 := by unfold Sb.size at hb; omega
  have o1 := h.o1
  have o2 := h.o2
  refine Does.less (Does.of (n := 47) Try.func63 rfl rfl rfl rfl ?_)
  refine .seq ((.region (.nw (.box (l := x.cells) rfl rfl) fun b3 => (.nil ?_))))
  refine .mid (X := DoX) (fun z => [(0, .pointer (some ⟨b, 0, none⟩)), (3, .pointer (some ⟨b3, 0, none⟩))]) (fun z => Db b3 x :: SBH b m ((S.app x).num_ S.seq) z.v1 z.v2 z.k1 z.k2 es c) (fun z => LOwn z.v1 (S.app x).bs z.k1 ∧ LOwn z.v2 (S.app x).ss z.k2) (.block (.seq ((.region (.v (.fieldAddr rfl) (.v (.load (v := .int .i64 x.k) rfl (.one rfl)) (.v (.eqi rfl rfl) (.v (.assign rfl) (.nil ?_))))))))) ?_
  · refine .cond_dec rfl (fun h1 => ?_) (fun h1 => ?_)
    · refine .region (.v (.move rfl) (.v (.move rfl) (.v (.loadA (vs := x.cells) rfl .whole rfl) (.v (.nilCheck rfl) (.v (.fieldAddr rfl) (.st (.storeR [.int .i64 S.hold, .int .u64 S.seq, v1, v2, .map (some m), .int .u64 S.gr, .int .u64 x.s, .int .i64 x.k, .int .i64 x.d, .int .i64 x.p, .int .u64 x.q, .int .i64 x.c, .bool (decide (S.last.k = 2))] rfl rfl) (.v (.nilCheck rfl) (.v (.fieldAddr rfl) (.st (.storeL rfl rfl rfl) (.nil ?_))))))))))
      rw [Sb.app_last h1]
      refine ⟨⟨v1, v2, k1, k2⟩, ⟨o1, o2⟩, .cons rfl (.cons rfl (.nil _)), fun _ s => ?_⟩
      have e : (true : Bool) = decide (x.k = 2) := by simp [h1]
      rw [e] at s
      exact s.take
    · refine .seq ((.region (.v (.fieldAddr rfl) (.v (.load (v := .int .i64 x.d) rfl (.one rfl)) (.v (.eqi rfl rfl) (.v (.assign rfl) (.nil ?_)))))))
      refine .cond_dec rfl (fun h2 => ?_) (fun h2 => ?_)
      · obtain ⟨A1, a1, rfl⟩ := lown_sl o1
        refine (.drawQ 11 [0, 1, 2, 3, 4, 5, 6, 7, 8, 9, 10, 11] [Db b3 x, Sbk b S (.slice A1 S.bs.length a1) v2 m] (by intro p hp; simp at hp ⊢; rcases hp with rfl | rfl <;> simp) (by kernel_rfl) (by kernel_rfl) ?_)
        refine .v (fun _ f => .move rfl) (.v (fun _ f => .move rfl) (.v (fun _ f => .nilCheck rfl) (.v (fun _ f => .fieldAddr rfl) (.v (fun _ f => .fieldAddr rfl) (.v (fun _ f => .load (v := .slice A1 S.bs.length a1) rfl (.one (hb := .sub f) rfl)) (.v (fun _ f => .loadA (vs := x.cells) rfl (.whole (hb := .sub f)) rfl) ?_))))))
        refine .ef (.callT k1 rfl rfl (fun w s => done_ok w x _ S.bs k1 o1 hb1)) (fun _ _ ⟨_, _, e⟩ _ => by subst e; intro p hp; simp at hp ⊢; rcases hp with rfl | rfl <;> simp) ?_
        rintro v1' _ ⟨k1', k', rfl⟩
        obtain ⟨A1', a1', rfl⟩ := lown_sl k'
        refine .v (fun _ f => .nilCheck rfl) (.v (fun _ f => .fieldAddr rfl) (.v (fun _ f => .fieldAddr rfl) (.st (.storeL rfl rfl rfl) (.nil ?_))))
        rw [Sb.app_b h1 h2]
        exact ⟨⟨_, v2, k1', k2⟩, ⟨k', o2⟩, .cons rfl (.cons rfl (.nil _)), fun _ s => s.take⟩
      · obtain ⟨A2, a2, rfl⟩ := lown_sl o2
        refine (.drawQ 11 [0, 1, 2, 3, 4, 5, 6, 7, 8, 9, 10, 11] [Db b3 x, Sbk b S v1 (.slice A2 S.ss.length a2) m] (by intro p hp; simp at hp ⊢; rcases hp with rfl | rfl <;> simp) (by kernel_rfl) (by kernel_rfl) ?_)
        refine .v (fun _ f => .move rfl) (.v (fun _ f => .move rfl) (.v (fun _ f => .nilCheck rfl) (.v (fun _ f => .fieldAddr rfl) (.v (fun _ f => .fieldAddr rfl) (.v (fun _ f => .load (v := .slice A2 S.ss.length a2) rfl (.one (hb := .sub f) rfl)) (.v (fun _ f => .loadA (vs := x.cells) rfl (.whole (hb := .sub f)) rfl) ?_))))))
        refine .ef (.callT k2 rfl rfl (fun w s => done_ok w x _ S.ss k2 o2 hb2)) (fun _ _ ⟨_, _, e⟩ _ => by subst e; intro p hp; simp at hp ⊢; rcases hp with rfl | rfl <;> simp) ?_
        rintro v2' _ ⟨k2', k', rfl⟩
        obtain ⟨A2', a2', rfl⟩ := lown_sl k'
        refine .v (fun _ f => .nilCheck rfl) (.v (fun _ f => .fieldAddr rfl) (.v (fun _ f => .fieldAddr rfl) (.st (.storeL rfl rfl rfl) (.nil ?_))))
        rw [Sb.app_s h1 h2]
        exact ⟨⟨v1, _, k1, k2'⟩, ⟨o1, k'⟩, .cons rfl (.cons rfl (.nil _)), fun _ s => s.take⟩
  · rintro ⟨v1, v2, k1, k2⟩ ⟨o1, o2⟩
    dsimp only at o1 o2 ⊢
    have eq := Sb.app_seq S x
    have eh := Sb.app_held S x
    generalize S.app x = S' at *
    refine .region (.v (.move rfl) (.v (.fieldAddr rfl) (.v (.load (v := .int .u64 x.s) rfl (.one rfl)) (.v (.nilCheck rfl) (.v (.fieldAddr rfl) (.v (.fieldAddr rfl) (.st (.storeL rfl rfl rfl) (.nil ?_))))))))
    refine ⟨[], trivial, SBH b m S' v1 v2 k1 k2 es c, fun _ s => ?_, rfl, v1, v2, k1, k2, es, c, rfl, o1, o2, ⟨by rw [eh]; exact h.m.kv, h.m.lt, h.m.nd⟩⟩
    rw [← eq] at s
    exact s.take
set_option maxRecDepth 20000 in
set_option maxHeartbeats 1000000 in
theorem follows_ok (w : World) (b m : Nat) (S : Sb) (v1 v2 : Value) (k1 k2 : Hp) (es : List ME) (c : Nat) (h : SubI S v1 v2 k1 k2 es c) (hb : S.size ≤ 2900000) :
    Does Try.prog 64 [.pointer (some ⟨b, 0, none⟩)] (SBH b m S v1 v2 k1 k2 es c) w (fun v hs => v = .tuple ⟨[]⟩ ∧ SubH b m S.go hs) := by
  refine Does.less (Does.of (n := 29) Try.func64 rfl rfl rfl rfl ?_)
  refine .block (.loop (X := Sb × DoX × List ME × Nat) (fun z => [(0, .pointer (some ⟨b, 0, none⟩))]) (fun z => SBH b m z.1 z.2.1.v1 z.2.1.v2 z.2.1.k1 z.2.1.k2 z.2.2.1 z.2.2.2) (fun z => SubI z.1 z.2.1.v1 z.2.1.v2 z.2.1.k1 z.2.1.k2 z.2.2.1 z.2.2.2 ∧ z.1.go = S.go ∧ z.1.size ≤ S.size) (fun z => z.1.held.length) (S, ⟨v1, v2, k1, k2⟩, es, c) ⟨h, rfl, by simp⟩ (.cons rfl (.nil _)) (fun _ s => s) ?_)
  rintro ⟨S1, ⟨v1, v2, k1, k2⟩, es, c⟩ ⟨h, hg, hz⟩
  dsimp only at h hg hz ⊢
  have hw : (IntKind.u64.wrap (S1.seq + 1)) = nxs S1.seq := u64w _
  cases hh : hat (nxs S1.seq) S1.held with
  | none =>
    have hno := h.m.gno hh
    refine .block (.seq ((.drawY 15 [0, 1, 2, 3, 4, 5, 6, 7, 8, 9, 10, 11, 12, 13, 14, 15, 16] (SBH b m S1 v1 v2 k1 k2 es c) (fun _ h => h) (by kernel_rfl) (by kernel_rfl) ?_)))
    refine .x (fun _ _ _ => .move rfl) (.v (fun _ f => .nilCheck rfl) (.x (fun _ _ _ => .fieldAddr rfl) (.v (fun _ f => .load (v := .map (some m)) rfl (.one (hb := .sub f) rfl)) (.x (fun _ _ _ => .move rfl) (.v (fun _ f => .nilCheck rfl) (.x (fun _ _ _ => .fieldAddr rfl) (.x (fun _ _ _ => .fieldAddr rfl) (.v (fun _ f => .load (v := .int .u64 S1.seq) rfl (.one (hb := .sub f) rfl)) (.x (fun _ _ _ => .add rfl rfl) ?_)))))))))
    rw [hw]
    refine .v (fun _ f => .lookup2E (es := es) (c := c) (v := .agg ⟨(⟨0, 0, 0, 0, 0, 0⟩ : Dt).cells⟩) (ok := false) rfl rfl (hb := .sub f) (by rw [hno]; rfl) (by rw [hno]; rfl)) ?_
    refine .x (fun _ _ _ => .move rfl) (.x (fun _ _ _ => .extract rfl rfl) (.x (fun _ _ _ => .extract rfl rfl) (.nw .alloc fun b2 => (.st (.sw rfl rfl) (.w (.assign rfl) (.nil ?_))))))
    refine .seq (.seq ((.region (.v (.move rfl) (.v (.not rfl) (.nil ?_))))))
    refine .cond rfl (fun h1 => ?_) (fun h1 => by simp at h1)
    refine .ret ⟨[], trivial, SBH b m S1 v1 v2 k1 k2 es c, fun _ s => s.take, rfl, v1, v2, k1, k2, es, c, by rw [← hg, Sb.go_none hh], ?_⟩
    rw [← hg, Sb.go_none hh]; exact h
  | some i =>
    obtain ⟨hi, hgo⟩ := Sb.go_some hh
    have hyes := h.m.gso hh hi
    have hd := h.m.del hh hi
    have hs1 := Sb.one_size hi S1.held[i]
    have hlen : (S1.one i S1.held[i]).held.length = S1.held.length - 1 := by rw [Sb.one_held, List.length_eraseIdx_of_lt hi]
    have hks : S1.held[i].s = nxs S1.seq := by obtain ⟨_, h2, _⟩ := hat_some hh; exact h2
    have hone : S1.one i S1.held[i] = ({ S1 with held := S1.held.eraseIdx i } : Sb).app S1.held[i] := rfl
    have hez : Sb.size { S1 with held := S1.held.eraseIdx i } ≤ S1.size := by
      have e : (S1.held.eraseIdx i).length = S1.held.length - 1 := List.length_eraseIdx_of_lt hi
      unfold Sb.size; dsimp only; omega
    generalize S1.held[i] = x at *
    refine .block (.seq ((.drawY 15 [0, 1, 2, 3, 4, 5, 6, 7, 8, 9, 10, 11, 12, 13, 14, 15, 16] (SBH b m S1 v1 v2 k1 k2 es c) (fun _ h => h) (by kernel_rfl) (by kernel_rfl) ?_)))
    refine .x (fun _ _ _ => .move rfl) (.v (fun _ f => .nilCheck rfl) (.x (fun _ _ _ => .fieldAddr rfl) (.v (fun _ f => .load (v := .map (some m)) rfl (.one (hb := .sub f) rfl)) (.x (fun _ _ _ => .move rfl) (.v (fun _ f => .nilCheck rfl) (.x (fun _ _ _ => .fieldAddr rfl) (.x (fun _ _ _ => .fieldAddr rfl) (.v (fun _ f => .load (v := .int .u64 S1.seq) rfl (.one (hb := .sub f) rfl)) (.x (fun _ _ _ => .add rfl rfl) ?_)))))))))
    rw [hw]
    refine .v (fun _ f => .lookup2E (es := es) (c := c) (v := .agg ⟨x.cells⟩) (ok := true) rfl rfl (hb := .sub f) (by rw [hyes]; rfl) (by rw [hyes]; rfl)) ?_
    refine .x (fun _ _ _ => .move rfl) (.x (fun _ _ _ => .extract rfl rfl) (.x (fun _ _ _ => .extract rfl rfl) (.nw .alloc fun b2 => (.st (.sw rfl rfl) (.w (.assign rfl) (.nil ?_))))))
    refine .seq (.seq ((.region (.v (.move rfl) (.v (.not rfl) (.nil ?_))))))
    refine .cond rfl (fun h1 => by simp at h1) (fun h1 => .skip ?_)
    refine .seq ((.drawP [0, 4, 5, 1, 2, 3, 6] [Db b2 x, Sbk b S1 v1 v2 m] (by intro p hp; simp at hp ⊢; rcases hp with rfl | rfl <;> simp) (by kernel_rfl) (by kernel_rfl) ?_))
    refine .v (fun _ f => .move rfl) (.v (fun _ f => .fieldAddr rfl) (.v (fun _ f => .load (v := .int .u64 x.s) rfl (.one (hb := .sub f) rfl)) (.v (fun _ f => .nilCheck rfl) (.v (fun _ f => .fieldAddr rfl) (.v (fun _ f => .load (v := .map (some m)) rfl (.one (hb := .sub f) rfl)) ?_)))))
    rw [hks]
    refine .ef0 (.del (es := es) (c := c) rfl rfl) (fun _ _ ⟨_, e⟩ _ => by subst e; intro p hp; simp at hp ⊢; rcases hp with rfl | rfl <;> simp) ?_
    rintro _ _ ⟨rfl, rfl⟩
    refine .nil ?_
    refine .region (.v (.move rfl) (.v (.loadA (vs := x.cells) rfl .whole rfl) ?_))
    refine .ef (.callT (SBH b m { S1 with held := S1.held.eraseIdx i } v1 v2 k1 k2 (mdel (nxs S1.seq) es) c) rfl rfl fun w s => does_ok w b m { S1 with held := S1.held.eraseIdx i } x v1 v2 k1 k2 (mdel (nxs S1.seq) es) c ⟨h.o1, h.o2, hd⟩ (by omega)) ?_
    rintro _ _ ⟨_, ⟨rfl, v1', v2', k1', k2', es', c', rfl, h'⟩, rfl⟩
    refine .nil ?_
    exact ⟨(S1.one i x, ⟨v1', v2', k1', k2'⟩, es', c'), ⟨h', by rw [← hg, hgo], by show (S1.one i x).size ≤ _; omega⟩, by show (S1.one i x).held.length < S1.held.length; omega, .cons rfl (.nil _), fun _ s => by rw [← hone] at s; exact Sat.take (pre := SBH b m (S1.one i x) v1' v2' k1' k2' es' c') s⟩
end Go.Proofs.Ytinmhhonpflojaa

/- The document's Publish. -/
namespace Go.Proofs.Ytinmhhonpflojaa
open Go.V
set_option linter.unusedVariables false
set_option linter.unusedSimpArgs false

set_option maxRecDepth 20000 in
set_option maxHeartbeats 1000000 in
theorem refpublish_ok (w : World) (depth : Nat) (hd : depth ≤ 64) (p : Pc) (hq : 0 ≤ p.seq ∧ p.seq < 18446744073709551616) (f1 : Fit 1 p.bs) (f2 : Fit 2 p.ss) (A1 A2 B1 B2 Be : Option Addr) (a1 a2 c1 c2 ce : Nat) (bs ss : List Lv) (evs : List Ev)
    (h1 : Rd w [] A1 (lrows p.bs)) (h2 : Rd w [] A2 (lrows p.ss)) (r1 : Rd w [] B1 (lrows bs)) (r2 : Rd w [] B2 (lrows ss)) (re : Rd w [] Be (erows evs)) (hc1 : bs.length ≤ c1) (hc2 : ss.length ≤ c2)
    (hb : bs.length + ss.length + evs.length ≤ 4000000) (hp : p.bs.length + p.ss.length ≤ 1000) :
    Does Try.prog 19 [.agg ⟨ubcells depth p.seq (.slice A1 p.bs.length a1) (.slice A2 p.ss.length a2)⟩, .slice B1 bs.length c1, .slice B2 ss.length c2, .slice Be evs.length ce] [] w
      (fun v hs => match p.pub depth bs ss evs with
        | none => v = .tuple ⟨[.agg ⟨ubcells depth p.seq (.slice A1 p.bs.length a1) (.slice A2 p.ss.length a2)⟩, .slice none 0 0, .int .i64 1]⟩ ∧ hs = []
        | some (p', ms) => ∃ v1 v2 vm k1 k2 hm, v = .tuple ⟨[.agg ⟨ubcells depth p'.seq v1 v2⟩, vm, .int .i64 0]⟩ ∧ LOwn v1 p'.bs k1 ∧ LOwn v2 p'.ss k2 ∧ DOwn vm ms hm ∧ hs = k1 ++ (k2 ++ hm)) := by
  refine Does.less (Does.of (n := 107) Try.func19 rfl rfl rfl rfl ?_)
  refine .seq ((.region (.nw (.box (l := ubcells depth p.seq (.slice A1 p.bs.length a1) (.slice A2 p.ss.length a2)) rfl rfl) fun b4 => (.nw .alloc fun b8 => (.v (.assign rfl) (.v (.assign rfl) (.nil ?_)))))))
  refine .seq (.seq ((.region (.v (.move rfl) (.pc (v := .bool (decide (Fit 1 bs))) rfl rfl (fun w s => levels_ok w 1 B1 bs.length c1 bs (r1.keep0 s) rfl (by omega)) (.v (.not rfl) (.v (.move rfl) (.or (b2 := !decide (Fit 2 ss)) 21 24 3 3 rfl rfl (fun g1 => .v (.move rfl) (.pc (v := .bool (decide (Fit 2 ss))) rfl rfl (fun w s => levels_ok w 2 B2 ss.length c2 ss (r2.keep0 s) rfl (by omega)) (.v (.not rfl) (.nil ⟨rfl, rfl, rfl, rfl⟩)))) (.nil ?_)))))))))
  refine .cond rfl (fun h1 => ?_) (fun h1 => .skip ?_)
  · simp only [Bool.and_eq_true, Bool.or_eq_true, Bool.not_eq_true', Bool.and_eq_false_iff, Bool.or_eq_false_iff, Bool.not_eq_false', decide_eq_true_eq, decide_eq_false_iff_not, Bool.false_eq_true, false_iff] at h1
    have e : p.pub depth bs ss evs = none := Pc.pub_none fun h => by rcases h1 with h1 | h1; exact h1 h.1; exact h1 h.2.1
    rw [e]
    refine .seq ((.region (.v (.loadA (vs := ubcells depth p.seq (.slice A1 p.bs.length a1) (.slice A2 p.ss.length a2)) rfl .whole rfl) (.st (.sw rfl rfl) (.v (.assign rfl) (.v (.assign rfl) (.nil ?_)))))))
    exact .ret ⟨[_, _, _], ⟨⟨_, rfl, .inr ⟨4, _, inferInstance, rfl, rfl, .whole⟩⟩, rfl, rfl, trivial⟩, [], fun _ s => s.take, rfl, rfl⟩
  · simp only [Bool.and_eq_true, Bool.or_eq_true, Bool.not_eq_true', Bool.and_eq_false_iff, Bool.or_eq_false_iff, Bool.not_eq_false', decide_eq_true_eq, decide_eq_false_iff_not, Bool.false_eq_true, false_iff] at h1
    refine .seq ((.region (.v (.assign rfl) (.nil ?_))))
    refine .seq (.seq ((.region (.v (.assign rfl) (.nil ?_)))))
    refine .block (.loop (X := TrS) (fun x => [(1, .slice B1 bs.length c1), (2, .slice B2 ss.length c2), (3, .slice Be evs.length ce), (4, .pointer (some ⟨b4, 0, none⟩)), (8, .pointer (some ⟨b8, 0, none⟩)), (11, x.v), (12, .int .i64 x.i)]) (fun x => x.h ++ [(b4, .cells (ubcells depth p.seq (.slice A1 p.bs.length a1) (.slice A2 p.ss.length a2)) 42), (b8, .cells (ubcells 0 0 (.slice none 0 0) (.slice none 0 0)) 42)]) (TrS.I evs) (fun x => evs.length - x.i) ⟨0, .slice none 0 0, []⟩ ⟨by simp, OwnS.nil _ _, fun e he => by simp at he⟩ (.cons rfl (.cons rfl (.cons rfl (.cons rfl (.cons rfl (.cons rfl (.cons rfl (.nil _)))))))) (fun _ s => s.take) ?_)
    intro x hI
    have hle := hI.le
    have htl := trs_length (evs.take x.i)
    rw [List.length_take] at htl
    refine .seq (.seq ((.region (.v (.move rfl) (.v (.move rfl) (.v (.len rfl) (.v (.lss rfl rfl) (.nil ?_))))))))
    refine .cond_dec rfl (fun h2 => .skip ?_) (fun h2 => .exit ?_)
    · have hil : x.i < evs.length := by omega
      obtain ⟨be, oe, rfl, hc⟩ := Rd.recs Ev.cells 13 (fun _ => rfl) re (by omega) (by omega)
      have q := fun hs => recAt Ev.cells 13 (fun _ => rfl) (z := (x.i : Int)) (hc hs) hil
      have hst := trs_take hil
      obtain ⟨e, he⟩ : ∃ e, evs[x.i] = e := ⟨_, rfl⟩
      rw [he] at q hst
      refine .seq (.block (.seq ((.region (.v (.move rfl) (.v (.move rfl) (.v (.indexAddr rfl rfl (by omega) (by omega)) (.v (.loadA (vs := e.cells) rfl (q _) rfl) (.nw .alloc fun b13 => (.st (.sw rfl rfl) (.nil ?_)))))))))))
      refine .seq (.seq ((.region (.v (.fieldAddr rfl) (.v (.load (v := .int .i64 e.kind) rfl (.one rfl)) (.v (.nei rfl rfl) (.nil ?_)))))))
      refine .cond_dec rfl (fun h3 => .exit ?_) (fun h3 => .skip ?_)
      · refine .region (.v (.move rfl) (.v (.addi rfl rfl (by omega)) (.v (.assign rfl) (.nil ?_))))
        rw [if_neg (by omega), List.append_nil] at hst
        refine ⟨⟨x.i + 1, x.v, x.h⟩, ⟨by show x.i + 1 ≤ _; omega, ?_, hI.step hil he (fun hk => absurd hk (by omega))⟩, by show evs.length - (x.i + 1) < _; omega, .cons rfl (.cons rfl (.cons rfl (.cons rfl (.cons rfl (.cons rfl (.cons rfl (.nil _))))))), fun _ s => s.take⟩
        rw [hst]; exact hI.o
      · have hk : e.kind = 3 := by omega
        refine .seq ((.region (.v (.fieldAddr rfl) (.v (.load (v := .int .i64 e.sd) rfl (.one rfl)) (.v (.fieldAddr rfl) (.v (.load (v := .int .i64 e.pr) rfl (.one rfl)) (.v (.fieldAddr rfl) (.v (.load (v := .int .u64 e.q) rfl (.one rfl)) (.v (.build (out := (trd e).cells) rfl rfl) (.nw .alloc fun b14 => (.st (.sw rfl rfl) (.nil ?_))))))))))))
        refine .seq (.seq ((.region (.v (.loadA (vs := (trd e).cells) rfl .whole rfl) (.pc (v := .bool (decide (trd e).can)) rfl rfl (fun w s => Message_ok w 1 2 e.sd e.pr e.q 0) (.v (.not rfl) (.nil ?_)))))))
        refine .cond rfl (fun h4 => ?_) (fun h4 => .skip ?_)
        · simp only [Bool.and_eq_true, Bool.or_eq_true, Bool.not_eq_true', Bool.and_eq_false_iff, Bool.or_eq_false_iff, Bool.not_eq_false', decide_eq_true_eq, decide_eq_false_iff_not, Bool.false_eq_true, false_iff] at h4
          have e1 : p.pub depth bs ss evs = none := Pc.pub_none fun h => trOk_not hil he hk h4 h.2.2
          rw [e1]
          refine .seq ((.region (.v (.loadA (vs := ubcells depth p.seq (.slice A1 p.bs.length a1) (.slice A2 p.ss.length a2)) rfl .whole rfl) (.st (.sw rfl rfl) (.v (.assign rfl) (.v (.assign rfl) (.nil ?_)))))))
          exact .ret ⟨[_, _, _], ⟨⟨_, rfl, .inr ⟨4, _, inferInstance, rfl, rfl, .whole⟩⟩, rfl, rfl, trivial⟩, [], fun _ s => s.take, rfl, rfl⟩
        · simp only [Bool.and_eq_true, Bool.or_eq_true, Bool.not_eq_true', Bool.and_eq_false_iff, Bool.or_eq_false_iff, Bool.not_eq_false', decide_eq_true_eq, decide_eq_false_iff_not, Bool.false_eq_true, false_iff] at h4
          refine .region (.v (.move rfl) (.v (.loadA (vs := (trd e).cells) rfl .whole rfl) (.push (vs := drows (trs (evs.take x.i))) (c := (trs (evs.take x.i)).length) (oc := (trd e).cells) rfl rfl hI.o rfl rfl rfl (by omega) (by omega) ?_)))
          intro b9 v' h' k'
          refine .v (.assign rfl) (.nil ?_)
          refine .region (.v (.move rfl) (.v (.addi rfl rfl (by omega)) (.v (.assign rfl) (.nil ?_))))
          rw [if_pos hk] at hst
          refine ⟨⟨x.i + 1, v', h'⟩, ⟨by show x.i + 1 ≤ _; omega, ?_, hI.step hil he (fun _ => h4)⟩, by show evs.length - (x.i + 1) < _; omega, .cons rfl (.cons rfl (.cons rfl (.cons rfl (.cons rfl (.cons rfl (.cons rfl (.nil _))))))), fun _ s => s.take⟩
          unfold DOwn
          rw [hst, List.length_append, drows_app]; simpa [drows] using k'
    · have hok : okPub bs ss evs := ⟨h1.1, h1.2, trOk_full (by omega) hI.ok⟩
      have hfull : evs.take x.i = evs := List.take_of_length_le (by omega)
      have ho := hI.o
      rw [hfull] at ho
      rw [Pc.pub_some hok]
      obtain ⟨i0, v0, h0⟩ := x
      dsimp only at ho ⊢
      clear hI hfull hle htl
      have htl := trs_length evs
      refine .seq ((.drawP [0, 1, 2, 4, 5, 6, 3, 7, 8, 9] [(b4, .cells (ubcells depth p.seq (.slice A1 p.bs.length a1) (.slice A2 p.ss.length a2)) 42)] (by intro y hy; simp at hy; subst hy; simp) (by kernel_rfl) (by kernel_rfl) ?_))
      refine .v (fun _ f => .move rfl) (.v (fun _ f => .fieldAddr rfl) (.v (fun _ f => .load (v := .int .i64 depth) rfl (.one (hb := .sub f) rfl)) (.v (fun _ f => .move rfl) (.v (fun _ f => .fieldAddr rfl) (.v (fun _ f => .load (v := .int .i64 depth) rfl (.one (hb := .sub f) rfl)) ?_)))))
      refine .cl rfl rfl (fun w s => first_ok w B1 bs.length c1 depth bs (r1.keep0 s) rfl hc1 (by omega) (by omega)) ?_
      intro n1 q1 o1
      refine .cl rfl rfl (fun w s => first_ok w B2 ss.length c2 depth ss (r2.keep0 s) rfl hc2 (by omega) (by omega)) ?_
      intro n2 q2 o2
      obtain ⟨N1, d1, rfl⟩ := lown_sl o1
      obtain ⟨N2, d2, rfl⟩ := lown_sl o2
      refine .v (fun _ f => .assign rfl) (.v (fun _ f => .assign rfl) (.nil ?_))
      have t1 : (bs.take depth).length ≤ 64 := by rw [List.length_take]; omega
      have t2 : (ss.take depth).length ≤ 64 := by rw [List.length_take]; omega
      have g1 := hok.1.take depth
      have g2 := hok.2.1.take depth
      generalize bs.take depth = nb at o1 t1 g1 ⊢
      generalize ss.take depth = ns at o2 t2 g2 ⊢
      have cl1 := chg_length 1 p.bs nb
      have cl2 := chg_length 2 p.ss ns
      refine .seq ((.region (.v (.move rfl) (.v (.fieldAddr rfl) (.v (.fieldAddr rfl) (.v (.load (v := .slice A1 p.bs.length a1) rfl (.one rfl)) (.v (.move rfl) ?_)))))))
      refine .ef (.call0 rfl rfl fun w s => refchanges_ok w 1 A1 N1 a1 d1 p.bs nb (Rd.keep0 (by assumption) s) (OwnS.rd o1 s (no := []) (fun y hy => by simp [hy]) (by simp)) f1 g1 (by omega)) ?_
      rintro vc _ ⟨hc1', oc1, rfl⟩
      refine .appT (vs := drows (trs evs)) (c := (trs evs).length) (k := (chg 1 p.bs nb).length) (news := drows (chg 1 p.bs nb)) rfl rfl ho (fun w s => oc1.src s (fun y hy => by simp [hy]) (by omega)) (drows_length _) (drows_ones _) (by omega) (by omega) ?_
      intro va ha oa
      refine .v (.assign rfl) (.nil ?_)
      refine .seq ((.region (.v (.move rfl) (.v (.fieldAddr rfl) (.v (.fieldAddr rfl) (.v (.load (v := .slice A2 p.ss.length a2) rfl (.one rfl)) (.v (.move rfl) ?_)))))))
      refine .ef (.call0 rfl rfl fun w s => refchanges_ok w 2 A2 N2 a2 d2 p.ss ns (Rd.keep0 (by assumption) s) (OwnS.rd o2 s (no := []) (fun y hy => by simp [hy]) (by simp)) f2 g2 (by omega)) ?_
      rintro vc2 _ ⟨hc2', oc2, rfl⟩
      refine .appT (vs := drows (trs evs) ++ drows (chg 1 p.bs nb)) (c := (trs evs).length + (chg 1 p.bs nb).length) (k := (chg 2 p.ss ns).length) (news := drows (chg 2 p.ss ns)) rfl rfl oa (fun w s => oc2.src s (fun y hy => by simp [hy]) (by omega)) (drows_length _) (drows_ones _) (by omega) (by omega) ?_
      intro vb' hb' ob
      refine .v (.assign rfl) (.nil ?_)
      have obr : DOwn vb' (raw p nb ns evs) hb' := by
        unfold DOwn raw
        rw [List.length_append, List.length_append, drows_app, drows_app]; exact ob
      have hrl : (raw p nb ns evs).length ≤ 4010000 := by unfold raw; rw [List.length_append, List.length_append]; omega
      obtain ⟨M, m, rfl⟩ := OwnS.slice obr
      generalize hraw : raw p nb ns evs = rw_ at obr hrl ⊢
      clear ob oa ho oc1 oc2
      refine .keep (hb' ++ ((b4, .cells (ubcells depth p.seq (.slice A1 p.bs.length a1) (.slice A2 p.ss.length a2)) 42) :: (b8, .cells (ubcells 0 0 (.slice none 0 0) (.slice none 0 0)) 42) :: (q1 ++ q2))) ?_
      refine .seq (.seq ((.region (.v (.assign rfl) (.nil ?_)))))
      refine .block (.loop (X := Nat × Hp) (fun x => [(4, .pointer (some ⟨b4, 0, none⟩)), (8, .pointer (some ⟨b8, 0, none⟩)), (11, .slice M rw_.length m), (15, .slice N1 nb.length d1), (16, .slice N2 ns.length d2), (17, .int .i64 x.1)]) (fun x => x.2 ++ ((b4, .cells (ubcells depth p.seq (.slice A1 p.bs.length a1) (.slice A2 p.ss.length a2)) 42) :: (b8, .cells (ubcells 0 0 (.slice none 0 0) (.slice none 0 0)) 42) :: (q1 ++ q2)))
        (fun x => x.1 ≤ rw_.length ∧ OwnS 24 6 (.slice M rw_.length m) rw_.length (drows (numd p.seq rw_ x.1)) x.2) (fun x => rw_.length - x.1) ⟨0, hb'⟩ ⟨by simp, by rw [numd_zero]; exact obr⟩ (.cons rfl (.cons rfl (.cons rfl (.cons rfl (.cons rfl (.cons rfl (.nil _))))))) (fun _ s => s) ?_)
      rintro ⟨i, h⟩ ⟨hi, k'⟩
      dsimp only at hi k' ⊢
      refine .seq (.seq ((.region (.v (.move rfl) (.v (.move rfl) (.v (.len rfl) (.v (.lss rfl rfl) (.nil ?_))))))))
      refine .cond_dec rfl (fun h5 => .skip ?_) (fun h5 => .exit ?_)
      · have hil : i < rw_.length := by omega
        obtain ⟨bm, om, lm, rfl, -, rfl, hcm, hlm, hvm⟩ := k'.some_ (by omega)
        have hw : IntKind.u64.wrap (IntKind.u64.wrap (p.seq + IntKind.u64.wrap (i : Int)) + 1) = (p.seq + ((i + 1 : Nat) : Int)) % 18446744073709551616 := by simp only [u64w]; omega
        refine .seq (.block ((.region (.v (.move rfl) (.v (.move rfl) (.v (.fieldAddr rfl) (.v (.fieldAddr rfl) (.v (.load (v := .int .u64 p.seq) rfl (.one rfl)) (.v (.move rfl) (.v (.conv rfl) (.v (.add rfl rfl) (.v (.add rfl rfl) (.v (.indexAddr rfl rfl (by omega) (by omega)) (.v (.fieldAddr rfl) (.st (.store (b := bm) (l := lm) rfl rfl rfl (by omega)) (.nil ?_))))))))))))))))
        rw [hw]
        refine .region (.v (.move rfl) (.v (.addi rfl rfl (by omega)) (.v (.assign rfl) (.nil ?_))))
        have hn : numd p.seq rw_ (i + 1) = (numd p.seq rw_ i).set i { (numd p.seq rw_ i)[i]'(by rw [numd_length]; exact hil) with s := (p.seq + ((i + 1 : Nat) : Int)) % 18446744073709551616 } := by
          rw [numd_succ _ _ _ hil, numd_get _ _ _ hil]
          have e : (p.seq + (i : Int) + 1) % 18446744073709551616 = (p.seq + ((i + 1 : Nat) : Int)) % 18446744073709551616 := by omega
          rw [e]
        have k2 : DOwn (.slice (some ⟨bm, om, none⟩) (numd p.seq rw_ i).length m) (numd p.seq rw_ i) [(bm, .cells lm 24)] := by
          unfold DOwn; rw [numd_length]; exact k'
        have k3 := down_set (i := i) (q := (p.seq + ((i + 1 : Nat) : Int)) % 18446744073709551616) k2 (by rw [numd_length]; exact hil)
        rw [← hn] at k3
        unfold DOwn at k3
        rw [numd_length, numd_length] at k3
        refine ⟨⟨i + 1, _⟩, ⟨by show i + 1 ≤ _; omega, k3⟩, by show rw_.length - (i + 1) < _; omega, .cons rfl (.cons rfl (.cons rfl (.cons rfl (.cons rfl (.cons rfl (.nil _)))))), fun _ s => ?_⟩
        rw [Int.toNat_natCast] at s
        exact s
      · have ei : i = rw_.length := by omega
        subst ei
        rw [numd_full] at k'
        have hw : IntKind.u64.wrap (p.seq + IntKind.u64.wrap (rw_.length : Int)) = (p.seq + (rw_.length : Int)) % 18446744073709551616 := by simp only [u64w]; omega
        refine .seq ((.region (.v (.fieldAddr rfl) (.v (.fieldAddr rfl) (.v (.load (v := .int .u64 p.seq) rfl (.one rfl)) (.v (.move rfl) (.v (.len rfl) (.v (.conv rfl) (.v (.add rfl rfl) (.v (.move rfl) (.v (.move rfl) (.v (.build (out := pcells (IntKind.u64.wrap (p.seq + IntKind.u64.wrap (rw_.length : Int))) (.slice N1 nb.length d1) (.slice N2 ns.length d2)) rfl rfl) (.v (.fieldAddr rfl) (.st (.storeA rfl rfl rfl rfl (by simp)) (.nil ?_)))))))))))))))
        rw [hw]
        refine .seq ((.region (.v (.loadA (vs := ubcells depth (p.next nb ns evs).seq (.slice N1 nb.length d1) (.slice N2 ns.length d2)) rfl (by unfold Pc.next; rw [hraw]; exact .whole) rfl) (.v (.move rfl) (.st (.sw rfl rfl) (.v (.assign rfl) (.v (.assign rfl) (.nil ?_))))))))
        refine .ret ⟨[_, _, _], ⟨⟨_, rfl, .inr ⟨4, _, inferInstance, rfl, rfl, .whole⟩⟩, rfl, rfl, trivial⟩, q1 ++ (q2 ++ h), fun _ s => Sat.take (pre := q1 ++ (q2 ++ h)) s, ?_⟩
        refine ⟨_, _, _, q1, q2, h, rfl, o1, o2, ?_, rfl⟩
        unfold DOwn; rw [num_length]; exact k'
end Go.Proofs.Ytinmhhonpflojaa

/- The law FeedPublishes: copies, what is written over, the makers. -/
namespace Go.Proofs.Ytinmhhonpflojaa
open Go.V
set_option linter.unusedVariables false
set_option linter.unusedSimpArgs false

set_option maxRecDepth 10000 in
theorem lcopied_ok (w : World) (A1 A2 : Option Addr) (c1 c2 : Nat) (p : Pc) (h1 : Rd w [] A1 (lrows p.bs)) (h2 : Rd w [] A2 (lrows p.ss)) (hb : p.bs.length + p.ss.length ≤ 10000000) :
    Does Try.prog 17 [.agg ⟨pcells p.seq (.slice A1 p.bs.length c1) (.slice A2 p.ss.length c2)⟩] [] w (NewPic p) := by
  refine Does.less (Does.of (n := 14) Try.func17 rfl rfl rfl rfl ?_)
  refine .seq ((.region (.nw (.box (l := pcells p.seq (.slice A1 p.bs.length c1) (.slice A2 p.ss.length c2)) rfl rfl) fun b1 => (.nw .alloc fun b2 => (.nil ?_)))))
  refine .seq ((.region (.ef (.buildSlice (out := []) rfl (by decide) rfl rfl) ?_)))
  rintro _ _ ⟨b3, rfl, rfl⟩
  refine .v (.fieldAddr rfl) (.v (.load (v := .slice A1 p.bs.length c1) rfl (.one rfl)) ?_)
  refine .appT (h := [(b3, .cells [] 109)]) (vs := []) (c := 0) (k := p.bs.length) (news := lrows p.bs) rfl rfl ⟨rfl, .inr ⟨b3, 0, 0, [], rfl, rfl, by omega, by simp, by simp⟩⟩ (fun w s => (h1.keep0 s).src (lrows_length _) (by omega)) (lrows_length _) (lrows_ones _) (by omega) (by omega) ?_
  intro v1 k1 o1
  rw [Nat.zero_add] at o1
  obtain ⟨B1, d1, rfl⟩ := lown_sl o1
  refine .v (.fieldAddr rfl) (.st (.storeL rfl rfl rfl) (.nil ?_))
  refine .seq ((.region (.ef (.buildSlice (out := []) rfl (by decide) rfl rfl) ?_)))
  rintro _ _ ⟨b8, rfl, rfl⟩
  refine .v (.fieldAddr rfl) (.v (.load (v := .slice A2 p.ss.length c2) rfl (.one rfl)) ?_)
  refine .appT (h := [(b8, .cells [] 109)]) (vs := []) (c := 0) (k := p.ss.length) (news := lrows p.ss) rfl rfl ⟨rfl, .inr ⟨b8, 0, 0, [], rfl, rfl, by omega, by simp, by simp⟩⟩ (fun w s => (h2.keep0 s).src (lrows_length _) (by omega)) (lrows_length _) (lrows_ones _) (by omega) (by omega) ?_
  intro v2 k2 o2
  rw [Nat.zero_add] at o2
  obtain ⟨B2, d2, rfl⟩ := lown_sl o2
  refine .v (.fieldAddr rfl) (.st (.storeL rfl rfl rfl) (.nil ?_))
  refine .seq ((.region (.v (.loadA (vs := pcells p.seq (.slice B1 p.bs.length d1) (.slice B2 p.ss.length d2)) rfl .whole rfl) (.st (.sw rfl rfl) (.nil ?_)))))
  exact .ret ⟨[_], ⟨⟨_, rfl, .inr ⟨3, _, inferInstance, rfl, rfl, .whole⟩⟩, trivial⟩, k2 ++ k1, fun _ s => Sat.take (pre := k2 ++ k1) s, B1, B2, d1, d2, k1, k2, rfl, rfl, o1, o2⟩
set_option maxRecDepth 10000 in
theorem Picture_ok (w : World) (b : Nat) (depth : Int) (p : Pc) (A1 A2 : Option Addr) (c1 c2 : Nat) (hb : Rd w [] (some ⟨b, 0, none⟩) (ubcells depth p.seq (.slice A1 p.bs.length c1) (.slice A2 p.ss.length c2))) (h1 : Rd w [] A1 (lrows p.bs)) (h2 : Rd w [] A2 (lrows p.ss)) (hl : p.bs.length + p.ss.length ≤ 10000000) :
    Does Try.prog 23 [.pointer (some ⟨b, 0, none⟩)] [] w (NewPic p) := by
  refine Does.less (Does.of (n := 8) Try.func23 rfl rfl rfl rfl ?_)
  refine .seq ((.region (.nw .alloc fun b2 => (.nil ?_))))
  refine .seq ((.region (.v (.move rfl) (.v (.nilCheck rfl) (.v (.fieldAddr rfl) (.v (.loadA (vs := pcells p.seq (.slice A1 p.bs.length c1) (.slice A2 p.ss.length c2)) rfl (Rd.part (i := 1) hb (fun j v hv => by rw [Nat.add_comm]; exact hv)) rfl) ?_))))))
  refine .ef (.call0 rfl rfl fun w s => pcopied_ok w A1 A2 c1 c2 p (h1.keep0 s) (h2.keep0 s) hl) ?_
  rintro _ _ ⟨_, ⟨B1, B2, d1, d2, k1, k2, rfl, rfl, o1, o2⟩, rfl⟩
  refine .st (.sw rfl rfl) (.nil ?_)
  exact .ret ⟨[_], ⟨⟨_, rfl, .inr ⟨3, _, inferInstance, rfl, rfl, .whole⟩⟩, trivial⟩, k2 ++ k1, fun _ s => Sat.take (pre := k2 ++ k1) s, B1, B2, d1, d2, k1, k2, rfl, rfl, o1, o2⟩
abbrev AnyL (v : Value) (n : Nat) (h : Hp) : Prop := AnyS 109 3 v n h
theorem LOwn.any {v : Value} {l : List Lv} {h : Hp} (k : LOwn v l h) : AnyL v l.length h := ⟨_, k⟩
set_option maxRecDepth 10000 in
theorem wipe_ok (w : World) (seq : Int) (v1 v2 : Value) (n1 n2 : Nat) (k1 k2 : Hp) (h1 : AnyL v1 n1 k1) (h2 : AnyL v2 n2 k2) (hb : n1 + n2 ≤ 10000000) :
    Does Try.prog 22 [.agg ⟨pcells seq v1 v2⟩] (k1 ++ k2) w (fun _ hs => hs = []) := by
  obtain ⟨A1, c1, rfl⟩ := h1.sl
  obtain ⟨A2, c2, rfl⟩ := h2.sl
  refine Does.less (Does.of (n := 38) Try.func22 rfl rfl rfl rfl ?_)
  refine .seq ((.region (.nw (.box (l := pcells seq (.slice A1 n1 c1) (.slice A2 n2 c2)) rfl rfl) fun b1 => (.nil ?_))))
  refine .seq (.seq ((.region (.v (.assign rfl) (.nil ?_)))))
  refine .block (.loop (X := Nat × Hp) (fun x => [(1, .pointer (some ⟨b1, 0, none⟩)), (2, .int .i64 x.1)]) (fun x => (b1, .cells (pcells seq (.slice A1 n1 c1) (.slice A2 n2 c2)) 40) :: (x.2 ++ k2)) (fun x => x.1 ≤ n1 ∧ AnyL (.slice A1 n1 c1) n1 x.2) (fun x => n1 - x.1) ⟨0, k1⟩ ⟨by simp, h1⟩ (.cons rfl (.cons rfl (.nil _))) (fun _ s => s) ?_)
  rintro ⟨i, h⟩ ⟨hi, hh⟩
  dsimp only at hi hh ⊢
  refine .seq (.seq ((.region (.v (.move rfl) (.v (.fieldAddr rfl) (.v (.load (v := .slice A1 n1 c1) rfl (.one rfl)) (.v (.len rfl) (.v (.lss rfl rfl) (.nil ?_)))))))))
  refine .cond_dec rfl (fun g1 => .skip ?_) (fun g1 => .exit ?_)
  · obtain ⟨b, o, l, rfl, rfl, hl, hput⟩ := hh.put (i := i) (by omega)
    refine .seq (.block ((.region (.v (.fieldAddr rfl) (.v (.load (v := .slice (some ⟨b, o, none⟩) n1 c1) rfl (.one rfl)) (.v (.move rfl) (.v (.build (out := [.int .i64 4711, .int .u64 0, .int .i64 0]) rfl rfl) (.v (.indexAddr rfl rfl (by omega) (by omega)) (.st (.storeA (l := l) rfl rfl rfl rfl (by simp; omega)) (.nil ?_))))))))))
    refine .region (.v (.move rfl) (.v (.addi rfl rfl (by omega)) (.v (.assign rfl) (.nil ?_))))
    refine ⟨⟨i + 1, _⟩, ⟨by show i + 1 ≤ n1; omega, hput [.int .i64 4711, .int .u64 0, .int .i64 0] rfl⟩, by show n1 - (i + 1) < _; omega, .cons rfl (.cons rfl (.nil _)), fun _ s => ?_⟩
    rw [Int.toNat_natCast] at s
    exact s
  · refine .seq (.seq ((.region (.v (.assign rfl) (.nil ?_)))))
    refine .block (.loop (X := Nat × Hp) (fun x => [(1, .pointer (some ⟨b1, 0, none⟩)), (3, .int .i64 x.1)]) (fun x => (b1, .cells (pcells seq (.slice A1 n1 c1) (.slice A2 n2 c2)) 40) :: (h ++ x.2)) (fun x => x.1 ≤ n2 ∧ AnyL (.slice A2 n2 c2) n2 x.2) (fun x => n2 - x.1) ⟨0, k2⟩ ⟨by simp, h2⟩ (.cons rfl (.cons rfl (.nil _))) (fun _ s => s) ?_)
    rintro ⟨i', h'⟩ ⟨hi', hh'⟩
    dsimp only at hi' hh' ⊢
    refine .seq (.seq ((.region (.v (.move rfl) (.v (.fieldAddr rfl) (.v (.load (v := .slice A2 n2 c2) rfl (.one rfl)) (.v (.len rfl) (.v (.lss rfl rfl) (.nil ?_)))))))))
    refine .cond_dec rfl (fun g2 => .skip ?_) (fun g2 => .exit ?_)
    · obtain ⟨b, o, l, rfl, rfl, hl, hput⟩ := hh'.put (i := i') (by omega)
      refine .seq (.block ((.region (.v (.fieldAddr rfl) (.v (.load (v := .slice (some ⟨b, o, none⟩) n2 c2) rfl (.one rfl)) (.v (.move rfl) (.v (.build (out := [.int .i64 4712, .int .u64 0, .int .i64 0]) rfl rfl) (.v (.indexAddr rfl rfl (by omega) (by omega)) (.st (.storeA (l := l) rfl rfl rfl rfl (by simp; omega)) (.nil ?_))))))))))
      refine .region (.v (.move rfl) (.v (.addi rfl rfl (by omega)) (.v (.assign rfl) (.nil ?_))))
      refine ⟨⟨i' + 1, _⟩, ⟨by show i' + 1 ≤ n2; omega, hput [.int .i64 4712, .int .u64 0, .int .i64 0] rfl⟩, by show n2 - (i' + 1) < _; omega, .cons rfl (.cons rfl (.nil _)), fun _ s => ?_⟩
      rw [Int.toNat_natCast] at s
      exact s
    · obtain ⟨us1, hh⟩ := hh
      obtain ⟨us2, hh'⟩ := hh'
      refine .seq ((.region (.v (.fieldAddr rfl) (.v (.load (v := .slice A1 n1 c1) rfl (.one rfl)) (.v (.build (out := [.int .i64 4713, .int .u64 0, .int .i64 0]) rfl rfl) (.push (vs := us1) (c := n1) (oc := [.int .i64 4713, .int .u64 0, .int .i64 0]) rfl rfl hh rfl rfl rfl (by omega) (by omega) ?_))))))
      intro b9 v' q1 k'
      refine .nil ?_
      refine .region (.v (.fieldAddr rfl) (.v (.load (v := .slice A2 n2 c2) rfl (.one rfl)) (.v (.build (out := [.int .i64 4714, .int .u64 0, .int .i64 0]) rfl rfl) (.push (vs := us2) (c := n2) (oc := [.int .i64 4714, .int .u64 0, .int .i64 0]) rfl rfl hh' rfl rfl rfl (by omega) (by omega) ?_))))
      intro b10 v'' q2 k''
      refine .nil ?_
      exact ⟨[], trivial, [], fun _ s => s.take, rfl⟩
/-- a picture of nothing -/
abbrev pc0 : Pc := ⟨0, [], []⟩
theorem NewPublisher_ok (w : World) (d : Int) : Does Try.prog 15 [.int .i64 d] [] w (fun v hs => (1 ≤ d ∧ d ≤ 64 ∧ ∃ b, v = .tuple ⟨[.pointer (some ⟨b, 0, none⟩), .int .i64 0]⟩ ∧ hs = [Ub b d pc0 (.slice none 0 0) (.slice none 0 0)]) ∨ (¬ (1 ≤ d ∧ d ≤ 64) ∧ v = .tuple ⟨[.pointer none, .int .i64 1]⟩ ∧ hs = [])) := by
  refine Does.of (n := 13) Try.func15 rfl rfl rfl rfl ?_
  refine .seq ((.region (.v (.assign rfl) (.v (.assign rfl) (.nil ?_)))))
  refine .seq (.seq ((.region (.v (.move rfl) (.v (.lss rfl rfl) (.v (.move rfl) (.or 6 8 2 2 rfl rfl (fun g1 => .v (.move rfl) (.v (.gtr rfl rfl) (.nil ⟨rfl, rfl, rfl, rfl⟩))) (.nil ?_))))))))
  refine .cond rfl (fun h1 => ?_) (fun h1 => .skip ?_)
  · simp only [Bool.and_eq_true, Bool.or_eq_true, Bool.not_eq_true', Bool.and_eq_false_iff, Bool.or_eq_false_iff, Bool.not_eq_false', decide_eq_true_eq, decide_eq_false_iff_not, Bool.false_eq_true, false_iff] at h1
    refine .seq ((.region (.v (.assign rfl) (.v (.assign rfl) (.nil ?_)))))
    exact .ret ⟨[_, _], ⟨rfl, rfl, trivial⟩, .inr ⟨by omega, rfl, rfl⟩⟩
  · simp only [Bool.and_eq_true, Bool.or_eq_true, Bool.not_eq_true', Bool.and_eq_false_iff, Bool.or_eq_false_iff, Bool.not_eq_false', decide_eq_true_eq, decide_eq_false_iff_not, Bool.false_eq_true, false_iff] at h1
    refine .seq ((.region (.v (.move rfl) (.v (.build (out := ubcells d 0 (.slice none 0 0) (.slice none 0 0)) rfl rfl) (.nw (.box rfl rfl) fun b12 => (.v (.assign rfl) (.v (.assign rfl) (.nil ?_))))))))
    exact .ret ⟨[_, _], ⟨rfl, rfl, trivial⟩, .inl ⟨by omega, by omega, b12, rfl, rfl⟩⟩
theorem refNewPublisher_ok (w : World) (d : Int) : Is Try.prog 16 [.int .i64 d] w (.tuple ⟨[.agg ⟨ubcells (if 1 ≤ d ∧ d ≤ 64 then d else 0) 0 (.slice none 0 0) (.slice none 0 0)⟩, .int .i64 (if 1 ≤ d ∧ d ≤ 64 then 0 else 1)]⟩) := by
  refine Does.pure (Does.of (n := 13) Try.func16 rfl rfl rfl rfl ?_)
  refine .seq ((.region (.nw .alloc fun b2 => (.v (.assign rfl) (.nil ?_)))))
  refine .seq (.seq ((.region (.v (.move rfl) (.v (.lss rfl rfl) (.v (.move rfl) (.or 6 8 2 2 rfl rfl (fun g1 => .v (.move rfl) (.v (.gtr rfl rfl) (.nil ⟨rfl, rfl, rfl, rfl⟩))) (.nil ?_))))))))
  refine .cond rfl (fun h1 => ?_) (fun h1 => .skip ?_)
  · simp only [Bool.and_eq_true, Bool.or_eq_true, Bool.not_eq_true', Bool.and_eq_false_iff, Bool.or_eq_false_iff, Bool.not_eq_false', decide_eq_true_eq, decide_eq_false_iff_not, Bool.false_eq_true, false_iff] at h1
    refine .seq ((.region (.v (.build (out := ubcells 0 0 (.slice none 0 0) (.slice none 0 0)) rfl rfl) (.st (.sw rfl rfl) (.v (.assign rfl) (.nil ?_))))))
    have hn : ¬ (1 ≤ d ∧ d ≤ 64) := by omega
    exact .ret ⟨[_, _], ⟨⟨_, rfl, .inr ⟨4, _, inferInstance, rfl, rfl, .whole⟩⟩, rfl, trivial⟩, by rw [if_neg hn, if_neg hn]; rfl⟩
  · simp only [Bool.and_eq_true, Bool.or_eq_true, Bool.not_eq_true', Bool.and_eq_false_iff, Bool.or_eq_false_iff, Bool.not_eq_false', decide_eq_true_eq, decide_eq_false_iff_not, Bool.false_eq_true, false_iff] at h1
    refine .seq ((.region (.v (.move rfl) (.v (.build (out := ubcells d 0 (.slice none 0 0) (.slice none 0 0)) rfl rfl) (.st (.sw rfl rfl) (.v (.assign rfl) (.nil ?_)))))))
    have hn : 1 ≤ d ∧ d ≤ 64 := by omega
    exact .ret ⟨[_, _], ⟨⟨_, rfl, .inr ⟨4, _, inferInstance, rfl, rfl, .whole⟩⟩, rfl, trivial⟩, by rw [if_pos hn, if_pos hn]; rfl⟩
end Go.Proofs.Ytinmhhonpflojaa

/- (*feed.Subscriber).Take, Good, Missing, Last, Picture, NewSubscriber. -/
namespace Go.Proofs.Ytinmhhonpflojaa
open Go.V
set_option linter.unusedVariables false
set_option linter.unusedSimpArgs false

theorem Sb.take_arg {S : Sb} {x : Dt} (h : ¬ x.can) : S.take x = (S, 1) := by unfold Sb.take; rw [if_pos h]
theorem Sb.take_stale {S : Sb} {x : Dt} (h : x.can) (h2 : S.has x.s = true ∨ x.s ≤ S.seq) : S.take x = (S, 180) := by unfold Sb.take; rw [if_neg (by simpa using h), if_pos h2]
theorem Sb.take_gap {S : Sb} {x : Dt} (h : x.can) (h2 : ¬ (S.has x.s = true ∨ x.s ≤ S.seq)) (h3 : x.s ≠ nxs S.seq) : S.take x = ((if (S.held.length : Int) < S.hold then { S with gr := max S.gr x.s, held := S.held ++ [x] } else { S with gr := max S.gr x.s }), 181) := by
  unfold Sb.take; rw [if_neg (by simpa using h), if_neg h2, if_pos h3]
theorem Sb.take_ok {S : Sb} {x : Dt} (h : x.can) (h2 : ¬ (S.has x.s = true ∨ x.s ≤ S.seq)) (h3 : x.s = nxs S.seq) : S.take x = ((({ S with gr := max S.gr x.s } : Sb).app x).go, 0) := by
  unfold Sb.take; rw [if_neg (by simpa using h), if_neg h2, if_neg (by simpa using h3)]
theorem Sb.has_get {S : Sb} {es : List ME} {c : Nat} (h : MapH es c S.held) (n : Int) : (mget n es).isSome = S.has n := by
  unfold Sb.has
  cases hh : hat n S.held with
  | none => rw [h.gno hh]; rfl
  | some i => obtain ⟨hi, _⟩ := hat_some hh; rw [h.gso hh hi]; rfl
theorem getD_agg {S : Sb} {es : List ME} {c : Nat} (h : MapH es c S.held) (n : Int) : ∃ y : Dt, (mget n es).getD (.agg ⟨[.int .u64 0, .int .i64 0, .int .i64 0, .int .i64 0, .int .u64 0, .int .i64 0]⟩) = .agg ⟨y.cells⟩ := by
  cases hh : hat n S.held with
  | none => rw [h.gno hh]; exact ⟨⟨0, 0, 0, 0, 0, 0⟩, rfl⟩
  | some i => obtain ⟨hi, _⟩ := hat_some hh; rw [h.gso hh hi]; exact ⟨_, rfl⟩
set_option maxRecDepth 20000 in
set_option maxHeartbeats 1000000 in
theorem take_ok (w : World) (b m : Nat) (S : Sb) (x : Dt) (hs0 : Hp) (hS : SubH b m S hs0) (hb : S.size ≤ 2899990) :
    Does Try.prog 34 [.pointer (some ⟨b, 0, none⟩), .agg ⟨x.cells⟩] hs0 w (fun v hs => v = .int .i64 (S.take x).2 ∧ SubH b m (S.take x).1 hs) := by
  obtain ⟨v1, v2, k1, k2, es, c, rfl, h⟩ := hS
  refine Does.less (Does.of (n := 72) Try.func34 rfl rfl rfl rfl ?_)
  refine .seq ((.region (.nw (.box (l := x.cells) rfl rfl) fun b3 => (.v (.assign rfl) (.nil ?_)))))
  refine .seq (.seq ((.region (.v (.loadA (vs := x.cells) rfl .whole rfl) (.pc (v := .bool (decide x.can)) rfl rfl (fun w s => canBe_ok w x.s x.k x.d x.p x.q x.c) (.v (.not rfl) (.nil ?_)))))))
  refine .cond rfl (fun h1 => ?_) (fun h1 => .skip ?_)
  · have h1 : ¬ x.can := by simpa using h1
    refine .seq ((.region (.v (.assign rfl) (.nil ?_))))
    rw [Sb.take_arg h1]
    exact .ret ⟨[_], ⟨rfl, trivial⟩, _, fun _ s => s.take, rfl, v1, v2, k1, k2, es, c, rfl, h⟩
  · have h1 : x.can := by simpa using h1
    obtain ⟨y, hy⟩ := getD_agg h.m x.s
    refine .seq (.seq ((.drawY 11 [0, 1, 2, 3, 4, 5, 6, 7, 8, 9, 10, 11, 12] (Db b3 x :: SBH b m S v1 v2 k1 k2 es c) (fun _ h => h) (by kernel_rfl) (by kernel_rfl) ?_)))
    refine .x (fun _ _ _ => .move rfl) (.v (fun _ f => .nilCheck rfl) (.x (fun _ _ _ => .fieldAddr rfl) (.v (fun _ f => .load (v := .map (some m)) rfl (.one (hb := .sub f) rfl)) (.x (fun _ _ _ => .fieldAddr rfl) (.v (fun _ f => .load (v := .int .u64 x.s) rfl (.one (hb := .sub f) rfl)) ?_)))))
    refine .v (fun _ f => .lookup2E (es := es) (c := c) (v := .agg ⟨y.cells⟩) (ok := S.has x.s) rfl rfl (hb := .sub f) hy (Sb.has_get h.m x.s)) ?_
    refine .x (fun _ _ _ => .move rfl) (.x (fun _ _ _ => .extract rfl rfl) (.x (fun _ _ _ => .extract rfl rfl) (.nw .alloc fun b5 => (.st (.sw rfl rfl) (.w (.assign rfl) (.nil ?_))))))
    refine .keep (Db b3 x :: SBH b m S v1 v2 k1 k2 es c) ?_
    refine .seq ((.drawK [Db b3 x, Sbk b S v1 v2 m] (by intro p hp; simp at hp ⊢; rcases hp with rfl | rfl <;> simp) (by kernel_rfl) (by kernel_rfl) ?_))
    refine .v (fun _ f => .move rfl) (.v (fun _ f => .move rfl) (.or (b2 := decide (x.s ≤ S.seq)) 21 29 8 8 rfl rfl (fun g1 => .v (fun _ f => .fieldAddr rfl) (.v (fun _ f => .load (v := .int .u64 x.s) rfl (.one (hb := .sub f) rfl)) (.v (fun _ f => .move rfl) (.v (fun _ f => .nilCheck rfl) (.v (fun _ f => .fieldAddr rfl) (.v (fun _ f => .fieldAddr rfl) (.v (fun _ f => .load (v := .int .u64 S.seq) rfl (.one (hb := .sub f) rfl)) (.v (fun _ f => .leq rfl rfl) (.nil ⟨rfl, rfl, rfl, rfl⟩))))))))) (.nil ?_)))
    refine .cond rfl (fun h2 => ?_) (fun h2 => .skip ?_)
    · have h2 : S.has x.s = true ∨ x.s ≤ S.seq := by simpa using h2
      refine .seq ((.region (.v (.assign rfl) (.nil ?_))))
      rw [Sb.take_stale h1 h2]
      exact .ret ⟨[_], ⟨rfl, trivial⟩, SBH b m S v1 v2 k1 k2 es c, fun _ s => s.take, rfl, v1, v2, k1, k2, es, c, rfl, h⟩
    · have h2 : ¬ (S.has x.s = true ∨ x.s ≤ S.seq) := by simpa using h2
      refine .seq ((.drawQ 10 [0, 1, 2, 3, 4, 5, 6, 7, 8, 9, 10] [Db b3 x, Sbk b S v1 v2 m] (by intro p hp; simp at hp ⊢; rcases hp with rfl | rfl <;> simp) (by kernel_rfl) (by kernel_rfl) ?_))
      refine .v (fun _ f => .move rfl) (.v (fun _ f => .move rfl) (.v (fun _ f => .nilCheck rfl) (.v (fun _ f => .fieldAddr rfl) (.v (fun _ f => .load (v := .int .u64 S.gr) rfl (.one (hb := .sub f) rfl)) (.v (fun _ f => .fieldAddr rfl) (.v (fun _ f => .load (v := .int .u64 x.s) rfl (.one (hb := .sub f) rfl)) (.v (fun _ f => .max2 rfl rfl) (.v (fun _ f => .nilCheck rfl) (.v (fun _ f => .fieldAddr rfl) (.st (.storeL rfl rfl rfl) (.nil ?_)))))))))))
      have hw : (IntKind.u64.wrap (S.seq + 1)) = nxs S.seq := u64w _
      have hmg : max S.gr x.s = max S.gr x.s := rfl
      refine .keep (Db b3 x :: SBH b m { S with gr := max S.gr x.s } v1 v2 k1 k2 es c) ?_
      refine .seq (.seq ((.drawK [Db b3 x, Sbk b { S with gr := max S.gr x.s } v1 v2 m] (by intro p hp; simp at hp ⊢; rcases hp with rfl | rfl <;> simp) (by kernel_rfl) (by kernel_rfl) ?_)))
      refine .v (fun _ f => .fieldAddr rfl) (.v (fun _ f => .load (v := .int .u64 x.s) rfl (.one (hb := .sub f) rfl)) (.v (fun _ f => .move rfl) (.v (fun _ f => .nilCheck rfl) (.v (fun _ f => .fieldAddr rfl) (.v (fun _ f => .fieldAddr rfl) (.v (fun _ f => .load (v := .int .u64 S.seq) rfl (.one (hb := .sub f) rfl)) (.v (fun _ f => .add rfl rfl) (.v (fun _ f => .nei rfl rfl) (.nil ?_)))))))))
      rw [hw]
      have hS1 : SubI { S with gr := max S.gr x.s } v1 v2 k1 k2 es c := ⟨h.o1, h.o2, h.m⟩
      refine .cond_dec rfl (fun h3 => ?_) (fun h3 => .skip ?_)
      · rw [Sb.take_gap h1 h2 h3]
        dsimp only
        have hno : hat x.s S.held = none := by
          cases hh : hat x.s S.held with
          | none => rfl
          | some i => exact absurd (.inl (by unfold Sb.has; rw [hh]; rfl)) h2
        have hml := h.m.len
        refine .mid (X := List ME × Nat) (fun z => []) (fun z => SBH b m { S with gr := max S.gr x.s } v1 v2 k1 k2 z.1 z.2) (fun z => MapH z.1 z.2 (if (S.held.length : Int) < S.hold then S.held ++ [x] else S.held)) (.seq ((.drawK (Db b3 x :: SBH b m { S with gr := max S.gr x.s } v1 v2 k1 k2 es c) (fun _ h => h) (by kernel_rfl) (by kernel_rfl) ?_))) ?_
        · refine .v (fun _ f => .move rfl) (.v (fun _ f => .nilCheck rfl) (.v (fun _ f => .fieldAddr rfl) (.v (fun _ f => .load (v := .map (some m)) rfl (.one (hb := .sub f) rfl)) (.v (fun _ f => .lenM (es := es) (c := c) (q := .u64) rfl (hb := .sub f)) (.v (fun _ f => .move rfl) (.v (fun _ f => .nilCheck rfl) (.v (fun _ f => .fieldAddr rfl) (.v (fun _ f => .load (v := .int .i64 S.hold) rfl (.one (hb := .sub f) rfl)) (.v (fun _ f => .lss rfl rfl) (.nil ?_))))))))))
          refine .cond_dec rfl (fun h4 => ?_) (fun h4 => .skip ?_)
          · refine (.drawQ 7 [0, 1, 2, 3, 4, 5, 6, 7] [Db b3 x, Sbk b { S with gr := max S.gr x.s } v1 v2 m] (by intro p hp; simp at hp ⊢; rcases hp with rfl | rfl <;> simp) (by kernel_rfl) (by kernel_rfl) ?_)
            refine .v (fun _ f => .move rfl) (.v (fun _ f => .nilCheck rfl) (.v (fun _ f => .fieldAddr rfl) (.v (fun _ f => .load (v := .map (some m)) rfl (.one (hb := .sub f) rfl)) (.v (fun _ f => .fieldAddr rfl) (.v (fun _ f => .load (v := .int .u64 x.s) rfl (.one (hb := .sub f) rfl)) (.v (fun _ f => .loadA (vs := x.cells) rfl (.whole (hb := .sub f)) rfl) ?_))))))
            refine .st (.mapUpdate (es := es) (c := c) rfl rfl rfl) (.nil ?_)
            refine ⟨mset x.s (.agg ⟨x.cells⟩) es c, ?_, .nil _, fun _ s => s.take⟩
            rw [if_pos (by omega)]
            exact h.m.put hno
          · refine ⟨(es, c), ?_, .nil _, fun _ s => s.take⟩
            rw [if_neg (by omega)]
            exact h.m
        · rintro ⟨es1, c1⟩ hm1
          refine .seq ((.region (.v (.assign rfl) (.nil ?_))))
          refine .ret ⟨[_], ⟨rfl, trivial⟩, SBH b m { S with gr := max S.gr x.s } v1 v2 k1 k2 es1 c1, fun _ s => s.take, rfl, v1, v2, k1, k2, es1, c1, ?_, ?_⟩
          · split <;> rfl
          · split
            · rename_i h4; rw [if_pos h4] at hm1; exact ⟨h.o1, h.o2, hm1⟩
            · rename_i h4; rw [if_neg h4] at hm1; exact ⟨h.o1, h.o2, hm1⟩
      · rw [Sb.take_ok h1 h2 (by simpa using h3)]
        dsimp only
        have hz1 := Sb.app_size { S with gr := max S.gr x.s } x
        have hz0 : Sb.size { S with gr := max S.gr x.s } = S.size := rfl
        refine .seq ((.region (.v (.move rfl) (.v (.loadA (vs := x.cells) rfl .whole rfl) ?_))))
        refine .ef (.callT (SBH b m { S with gr := max S.gr x.s } v1 v2 k1 k2 es c) rfl rfl fun w s => does_ok w b m _ x v1 v2 k1 k2 es c hS1 (by omega)) ?_
        rintro _ _ ⟨_, ⟨rfl, v1', v2', k1', k2', es', c', rfl, h'⟩, rfl⟩
        refine .nil ?_
        refine .seq ((.region (.v (.move rfl) ?_)))
        refine .ef (.callT (SBH b m (({ S with gr := max S.gr x.s } : Sb).app x) v1' v2' k1' k2' es' c') rfl rfl fun w s => follows_ok w b m _ v1' v2' k1' k2' es' c' h' (by omega)) ?_
        rintro _ _ ⟨hq, ⟨rfl, h''⟩, rfl⟩
        refine .nil ?_
        refine .seq ((.region (.v (.assign rfl) (.nil ?_))))
        exact .ret ⟨[_], ⟨rfl, trivial⟩, hq, fun _ s => s.take, rfl, h''⟩
theorem getPart {vs us : List Value} (i : Nat) (h : (vs.drop i).take us.length = us) : ∀ (j : Nat) (v : Value), us[j]? = some v → vs[i + j]? = some v := by
  intro j v hj
  have e : us[j]? = ((vs.drop i).take us.length)[j]? := by rw [h]
  rw [e, List.getElem?_take] at hj
  split at hj
  · rw [List.getElem?_drop] at hj; exact hj
  · cases hj
theorem rdPart {w0 : World} {own : List Nat} {hs : Hp} {b o : Nat} {vs us : List Value} (i : Nat) (h : Rd w0 own (some ⟨b, o, none⟩) vs) (hu : (vs.drop i).take us.length = us) : At w0 own hs ⟨b, o + i, none⟩ us := Rd.part h (getPart i hu)
set_option maxRecDepth 20000 in
theorem Good_ok (w : World) (b m : Nat) (S : Sb) (v1 v2 : Value) (hb : Rd w [] (some ⟨b, 0, none⟩) (sbcells S v1 v2 m)) : Is Try.prog 36 [.pointer (some ⟨b, 0, none⟩)] w (.bool S.good) := by
  refine Does.pure (Does.of (n := 13) Try.func36 rfl rfl rfl rfl ?_)
  refine .seq ((.region (.v (.assign rfl) (.nil ?_))))
  refine .seq ((.drawK [] (fun _ h => h) (by kernel_rfl) (by kernel_rfl) ?_))
  refine .v (fun _ f => .move rfl) (.v (fun _ f => .nilCheck rfl) (.v (fun _ f => .fieldAddr rfl) (.v (fun _ f => .fieldAddr rfl) (.v (fun _ f => .load (v := .int .u64 S.seq) rfl (rdPart 1 hb rfl)) (.v (fun _ f => .move rfl) (.v (fun _ f => .nilCheck rfl) (.v (fun _ f => .fieldAddr rfl) (.v (fun _ f => .load (v := .int .u64 S.gr) rfl (rdPart 5 hb rfl)) (.v (fun _ f => .geq rfl rfl) (.v (fun _ f => .assign rfl) (.nil ?_)))))))))))
  exact .ret ⟨[_], ⟨rfl, trivial⟩, rfl⟩
set_option maxRecDepth 20000 in
theorem Last_ok (w : World) (b m : Nat) (S : Sb) (v1 v2 : Value) (hb : Rd w [] (some ⟨b, 0, none⟩) (sbcells S v1 v2 m)) : Is Try.prog 52 [.pointer (some ⟨b, 0, none⟩)] w (.tuple ⟨[.agg ⟨S.last.cells⟩, .bool (decide (S.last.k = 2))]⟩) := by
  refine Does.pure (Does.of (n := 12) Try.func52 rfl rfl rfl rfl ?_)
  refine .seq ((.region (.nw .alloc fun b2 => (.v (.assign rfl) (.nil ?_)))))
  refine .seq ((.drawX [0, 1, 2, 3] [] (List.nil_subset _) (by kernel_rfl) (by kernel_rfl) ?_))
  refine .v (fun _ f => .move rfl) (.v (fun _ f => .nilCheck rfl) (.v (fun _ f => .fieldAddr rfl) (.v (fun _ f => .loadA (vs := S.last.cells) rfl (rdPart 6 hb rfl) rfl) (.nil ?_))))
  refine .two 4 8 (by kernel_rfl) (.v rfl (.move rfl) (.two 5 8 (by kernel_rfl) (.v rfl (.nilCheck rfl) (.two 6 8 (by kernel_rfl) (.v rfl (.fieldAddr rfl) (.two 7 8 (by kernel_rfl) (.v rfl (.load (v := .bool (decide (S.last.k = 2))) rfl (rdPart 12 hb rfl)) (.run [8, 9] (List.nil_subset _) (by kernel_rfl) (.st (.sw rfl rfl) (fun _ => List.nil_subset _) (.v (fun _ f => .assign rfl) (.nil ?_))))) (.st rfl (.sw rfl rfl) (List.nil_subset _) (.run [7, 9] (List.nil_subset _) (by kernel_rfl) (.v (fun _ f => .load (v := .bool (decide (S.last.k = 2))) rfl (rdPart 12 hb rfl)) (.v (fun _ f => .assign rfl) (.nil ?_))))))) (.st rfl (.sw rfl rfl) (List.nil_subset _) (.run [6, 7, 9] (List.nil_subset _) (by kernel_rfl) (.v (fun _ f => .fieldAddr rfl) (.v (fun _ f => .load (v := .bool (decide (S.last.k = 2))) rfl (rdPart 12 hb rfl)) (.v (fun _ f => .assign rfl) (.nil ?_)))))))) (.st rfl (.sw rfl rfl) (List.nil_subset _) (.run [5, 6, 7, 9] (List.nil_subset _) (by kernel_rfl) (.v (fun _ f => .nilCheck rfl) (.v (fun _ f => .fieldAddr rfl) (.v (fun _ f => .load (v := .bool (decide (S.last.k = 2))) rfl (rdPart 12 hb rfl)) (.v (fun _ f => .assign rfl) (.nil ?_))))))))) (.st rfl (.sw rfl rfl) (List.nil_subset _) (.run [4, 5, 6, 7, 9] (List.nil_subset _) (by kernel_rfl) (.v (fun _ f => .move rfl) (.v (fun _ f => .nilCheck rfl) (.v (fun _ f => .fieldAddr rfl) (.v (fun _ f => .load (v := .bool (decide (S.last.k = 2))) rfl (rdPart 12 hb rfl)) (.v (fun _ f => .assign rfl) (.nil ?_))))))))
  all_goals
    exact .ret ⟨[_, _], ⟨⟨_, rfl, .inr ⟨6, _, inferInstance, rfl, rfl, .whole⟩⟩, rfl, trivial⟩, rfl⟩
set_option maxRecDepth 20000 in
theorem SPicture_ok (w : World) (b m : Nat) (S : Sb) (A1 A2 : Option Addr) (c1 c2 : Nat) (hb : Rd w [] (some ⟨b, 0, none⟩) (sbcells S (.slice A1 S.bs.length c1) (.slice A2 S.ss.length c2) m)) (h1 : Rd w [] A1 (lrows S.bs)) (h2 : Rd w [] A2 (lrows S.ss)) (hl : S.size ≤ 10000000) :
    Does Try.prog 37 [.pointer (some ⟨b, 0, none⟩)] [] w (NewPic ⟨S.seq, S.bs, S.ss⟩) := by
  refine Does.less (Does.of (n := 8) Try.func37 rfl rfl rfl rfl ?_)
  refine .seq ((.region (.nw .alloc fun b2 => (.nil ?_))))
  refine .seq ((.region (.v (.move rfl) (.v (.nilCheck rfl) (.v (.fieldAddr rfl) (.v (.loadA (vs := pcells S.seq (.slice A1 S.bs.length c1) (.slice A2 S.ss.length c2)) rfl (rdPart 1 hb rfl) rfl) ?_))))))
  refine .ef (.call0 rfl rfl fun w s => pcopied_ok w A1 A2 c1 c2 ⟨S.seq, S.bs, S.ss⟩ (h1.keep0 s) (h2.keep0 s) (by unfold Sb.size at hl; show S.bs.length + S.ss.length ≤ _; omega)) ?_
  rintro _ _ ⟨_, ⟨B1, B2, d1, d2, k1, k2, rfl, rfl, o1, o2⟩, rfl⟩
  refine .st (.sw rfl rfl) (.nil ?_)
  exact .ret ⟨[_], ⟨⟨_, rfl, .inr ⟨3, _, inferInstance, rfl, rfl, .whole⟩⟩, trivial⟩, k2 ++ k1, fun _ s => Sat.take (pre := k2 ++ k1) s, B1, B2, d1, d2, k1, k2, rfl, rfl, o1, o2⟩
/-- a new one -/
def Sb.new (hold : Int) : Sb := ⟨hold, 0, [], [], [], 0, ⟨0, 0, 0, 0, 0, 0⟩⟩
set_option maxRecDepth 20000 in
theorem NewSub_ok (w : World) (hold : Int) : Does Try.prog 25 [.int .i64 hold] [] w (fun v hs => if 0 ≤ hold ∧ hold ≤ 1024 then ∃ b m, v = .tuple ⟨[.pointer (some ⟨b, 0, none⟩), .int .i64 0]⟩ ∧ SubH b m (Sb.new hold) hs else v = .tuple ⟨[.pointer none, .int .i64 1]⟩ ∧ hs = []) := by
  refine Does.less (Does.of (n := 14) Try.func25 rfl rfl rfl rfl ?_)
  refine .seq ((.region (.v (.assign rfl) (.v (.assign rfl) (.nil ?_)))))
  refine .seq (.seq ((.region (.v (.move rfl) (.v (.lss rfl rfl) (.v (.move rfl) (.or (b2 := decide (hold > 1024)) 6 8 2 2 rfl rfl (fun g1 => .v (.move rfl) (.v (.gtr rfl rfl) (.nil ⟨rfl, rfl, rfl, rfl⟩))) (.nil ?_))))))))
  refine .cond rfl (fun h1 => ?_) (fun h1 => .skip ?_)
  · simp only [Bool.and_eq_true, Bool.or_eq_true, Bool.not_eq_true', Bool.and_eq_false_iff, Bool.or_eq_false_iff, Bool.not_eq_false', decide_eq_true_eq, decide_eq_false_iff_not, Bool.false_eq_true, false_iff] at h1
    refine .seq ((.region (.v (.assign rfl) (.v (.assign rfl) (.nil ?_)))))
    exact .ret ⟨[_, _], ⟨rfl, rfl, trivial⟩, [], fun _ s => s, by rw [if_neg (by omega)]; exact ⟨rfl, rfl⟩⟩
  · simp only [Bool.and_eq_true, Bool.or_eq_true, Bool.not_eq_true', Bool.and_eq_false_iff, Bool.or_eq_false_iff, Bool.not_eq_false', decide_eq_true_eq, decide_eq_false_iff_not, Bool.false_eq_true, false_iff] at h1
    refine .seq ((.region (.v (.move rfl) (.ef (.makeMap .u64) ?_))))
    rintro _ _ ⟨m, rfl, rfl⟩
    refine .v (.build (out := sbcells (Sb.new hold) (.slice none 0 0) (.slice none 0 0) m) rfl rfl) (.nw (.box (l := sbcells (Sb.new hold) (.slice none 0 0) (.slice none 0 0) m) rfl rfl) fun b13 => (.v (.assign rfl) (.v (.assign rfl) (.nil ?_))))
    exact .ret ⟨[_, _], ⟨rfl, rfl, trivial⟩, SBH b13 m (Sb.new hold) (.slice none 0 0) (.slice none 0 0) [] [] [] 0, fun _ s => s, by rw [if_pos (by omega)]; exact ⟨b13, m, rfl, _, _, _, _, _, _, rfl, OwnS.nil _ _, OwnS.nil _ _, MapH.nil⟩⟩
end Go.Proofs.Ytinmhhonpflojaa
