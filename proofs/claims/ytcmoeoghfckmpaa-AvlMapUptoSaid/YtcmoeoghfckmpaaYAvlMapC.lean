/- Texts that the row RAvlMap stands on: TLook, TLook2, TPut, TDrop, TTwin, VF, TLaw, VMA, TMap, TMapL, VG, VN, VT, VB, KBulk, TRdT. -/
import Derived.Test.YtcmoeoghfckmpaaYAvlMapB
import Derived.Test.YtcmoeoghfckmpaaYAvlMapA
import Derived.ProofKit
import Derived.OpenShut
import Derived.ShutString
import Derived.ChangeOld
import Derived.SizedLaws
import Derived.JoinedCond
import Derived.Test.YtcmoeoghfckmpaaRows
/- What a tree tells, in memory: find, Len, Height, Rank, At, Min, Max, Below, Above. -/
namespace Go.Proofs.Ytcmoeoghfckmpaa
open Go.V
open Tr
set_option linter.unusedVariables false
set_option linter.unusedSimpArgs false

/-- a tree is read -/
def Tr.Rdd (w : World) : Tr → Prop
  | nil => True
  | node b l k v h n r => Rd w [] (some ⟨b, 0, none⟩) (nc k v h n l.ptr r.ptr) ∧ l.Rdd w ∧ r.Rdd w
theorem Tr.Rdd.keep {w0 w : World} {own : List Nat} {hs : Hp} : ∀ {t : Tr}, t.Rdd w0 → Sat w0 own hs w → own = [] → t.Rdd w
  | .nil, _, _, _ => trivial
  | .node b l k v h n r, hr, s, e => by subst e; exact ⟨hr.1.keep0 s, Tr.Rdd.keep hr.2.1 s rfl, Tr.Rdd.keep hr.2.2 s rfl⟩
theorem Tr.Rdd.top {w : World} {t : Tr} (h : t.Rdd w) : t.Top w [] := by
  cases t with
  | nil => trivial
  | node b l k v h' n r => exact h.1
theorem Tr.Rdd.of {w0 w : World} {own : List Nat} {hs : Hp} (s : Sat w0 own hs w) : ∀ {t : Tr}, t.H ⊆ hs → t.Rdd w
  | .nil, _ => trivial
  | .node b l k v h n r, hh => by
    rw [H_node] at hh
    haveI : Mem b (.cells (nc k v h n l.ptr r.ptr) 63) hs := ⟨hh List.mem_cons_self⟩
    exact ⟨Rd.chunk s (T := 63) (l := nc k v h n l.ptr r.ptr) (by simp) (fun j u hv => by rw [Nat.zero_add]; exact hv), Tr.Rdd.of s (fun y hy => hh (by simp [hy])), Tr.Rdd.of s (fun y hy => hh (by simp [hy]))⟩
def TRd (w : World) (tb : Nat) (t : Tr) : Prop := Rd w [] (some ⟨tb, 0, none⟩) [t.ptr] ∧ t.Rdd w
theorem TRd.of {w0 w : World} {own : List Nat} {hs : Hp} {tb : Nat} {t : Tr} (s : Sat w0 own hs w) (hh : TH tb t ⊆ hs) : TRd w tb t := by
  haveI : Mem tb (.cells [t.ptr] 26) hs := ⟨hh List.mem_cons_self⟩
  exact ⟨Rd.chunk s (T := 26) (l := [t.ptr]) (by simp) (fun j u hv => by rw [Nat.zero_add]; exact hv), Tr.Rdd.of s (fun y hy => hh (List.mem_cons_of_mem _ hy))⟩
theorem TRd.keep0 {w0 w : World} {hs : Hp} {tb : Nat} {t : Tr} (h : TRd w0 tb t) (s : Sat w0 [] hs w) : TRd w tb t := ⟨h.1.keep0 s, h.2.keep s rfl⟩
abbrev gv (o : Option Int) : Value := .tuple ⟨[.int .i64 (o.getD 0), .bool o.isSome]⟩

theorem way_snd (key : Int) : ∀ (t : Tr) (fs gs : List Fr), (way key t fs).2 = (way key t gs).2
  | .nil, _, _ => rfl
  | .node b l k v h n r, fs, gs => by
    simp only [way]
    split
    · rfl
    · split
      · exact way_snd key r _ _
      · exact way_snd key l _ _
theorem way_rdd {w : World} (key : Int) : ∀ (t : Tr) (fs : List Fr), t.Rdd w → ((way key t fs).2).Rdd w
  | .nil, _, h => h
  | .node b l k v h' n r, fs, h => by
    simp only [way]
    split
    · exact h
    · split
      · exact way_rdd key r _ h.2.2
      · exact way_rdd key l _ h.2.1
set_option maxRecDepth 10000 in
theorem find_ok (w : World) (tb : Nat) (t : Tr) (key : Int) (hR : TRd w tb t) : Is Try.prog 30 [.pointer (some ⟨tb, 0, none⟩), .int .i64 key] w ((way key t []).2.ptr) := by
  refine Does.pure (Does.of (n := 29) Try.func30 rfl rfl rfl rfl ?_)
  refine .seq ((.region (.v (.assign rfl) (.nil ?_))))
  refine .seq ((.region (.v (.move rfl) (.v (.nilCheck rfl) (.v (.fieldAddr rfl) (.v (.load (v := t.ptr) rfl (Rd.cell hR.1 rfl)) (.v (.assign rfl) (.nil ?_))))))))
  refine .seq (.block (.loop (X := Tr) (fun x => [(1, .int .i64 key), (5, x.ptr)]) (fun x => []) (fun x => x.Rdd w ∧ (way key x []).2 = (way key t []).2) (fun x => x.mass) t ⟨hR.2, rfl⟩ (.cons rfl (.cons rfl (.nil _))) (fun _ s => s) ?_))
  rintro x ⟨hx, hw⟩
  cases x with
  | nil =>
    refine .seq (.seq ((.region (.v (.move rfl) (.v (.neq_ptr_nil (a := none) rfl rfl) (.v (.move rfl) (.and (b2 := false) 12 18 6 6 rfl rfl (fun g1 => absurd g1 (by simp)) (.nil ?_))))))))
    refine .cond rfl (fun h => absurd h (by simp)) (fun _ => .exit ?_)
    refine .seq ((.region (.v (.move rfl) (.v (.assign rfl) (.nil ?_)))))
    exact .ret ⟨[_], ⟨rfl, trivial⟩, by rw [← hw]; rfl⟩
  | node b l k v h n r =>
    have hc := fun j u hv => Rd.cell (hs := []) hx.1 (i := j) (v := u) hv
    refine .seq (.seq ((.region (.v (.move rfl) (.v (.neq_ptr_nil (a := some ⟨b, 0, none⟩) rfl rfl) (.v (.move rfl) (.and (b2 := decide (k ≠ key)) 12 18 6 6 rfl rfl (fun g1 => .v (.move rfl) (.v (.nilCheck (a := ⟨b, 0, none⟩) rfl) (.v (.fieldAddr rfl) (.v (.load (v := .int .i64 k) rfl (hc 0 _ rfl)) (.v (.move rfl) (.v (.nei rfl rfl) (.nil ⟨rfl, rfl, rfl, rfl⟩))))))) (.nil ?_))))))))
    refine .cond rfl (fun h1 => .skip ?_) (fun h1 => .exit ?_)
    · have hk : k ≠ key := by simpa using h1
      refine .block ((.drawP [0, 1, 2, 4, 5, 3, 6, 7, 8] [] (List.nil_subset _) (by kernel_rfl) (by kernel_rfl) ?_))
      refine .v (fun _ f => .move rfl) (.v (fun _ f => .move rfl) (.v (fun _ f => .move rfl) (.v (fun _ f => .nilCheck (a := ⟨b, 0, none⟩) rfl) (.v (fun _ f => .fieldAddr rfl) ?_))))
      refine .pc rfl rfl (fun w s => side_ok w b l.ptr r.ptr k v h n key (hx.1.keep0 s)) ?_
      by_cases hkk : k < key
      · rw [if_pos hkk]
        refine .v (fun _ f => .indexAddrA1 rfl rfl (by omega) (by omega)) (.v (fun hs' f => .load (v := r.ptr) rfl (Rd.cell (hs := hs') hx.1 (i := 4 + 1) rfl)) (.v (fun _ f => .assign rfl) (.nil ?_)))
        refine ⟨r, ⟨hx.2.2, ?_⟩, by show r.mass < l.mass + r.mass + 1; omega, .cons rfl (.cons rfl (.nil _)), fun _ s => s⟩
        rw [← hw]; simp only [way]; rw [if_neg hk, if_pos hkk]; exact way_snd key r _ _
      · rw [if_neg hkk]
        refine .v (fun _ f => .indexAddrA1 rfl rfl (by omega) (by omega)) (.v (fun hs' f => .load (v := l.ptr) rfl (Rd.cell (hs := hs') hx.1 (i := 4 + 0) rfl)) (.v (fun _ f => .assign rfl) (.nil ?_)))
        refine ⟨l, ⟨hx.2.1, ?_⟩, by show l.mass < l.mass + r.mass + 1; omega, .cons rfl (.cons rfl (.nil _)), fun _ s => s⟩
        rw [← hw]; simp only [way]; rw [if_neg hk, if_neg hkk]; exact way_snd key l _ _
    · have hk : k = key := by simpa using h1
      refine .seq ((.region (.v (.move rfl) (.v (.assign rfl) (.nil ?_)))))
      exact .ret ⟨[_], ⟨rfl, trivial⟩, by rw [← hw]; simp [way, hk, tup]⟩
def valT : Tr → Option Int
  | .nil => none
  | .node _ _ _ v _ _ _ => some v
theorem was_ok (w : World) (t : Tr) (hR : t.Top w []) : Is Try.prog 25 [t.ptr] w (gv (valT t)) := by
  refine Does.pure (Does.of (n := 12) Try.func25 rfl rfl rfl rfl ?_)
  refine .seq ((.region (.v (.assign rfl) (.v (.assign rfl) (.nil ?_)))))
  cases t with
  | nil =>
    refine .seq (.seq ((.region (.v (.move rfl) (.v (.eql_ptr_nil rfl rfl) (.nil ?_))))))
    refine .cond rfl (fun _ => ?_) (fun h => absurd h (by simp))
    refine .seq ((.region (.v (.assign rfl) (.nil ?_))))
    refine .seq ((.region (.v (.move rfl) (.v (.assign rfl) (.v (.assign rfl) (.nil ?_))))))
    exact .ret ⟨[_, _], ⟨rfl, rfl, trivial⟩, rfl⟩
  | node b l k v h n r =>
    refine .seq (.seq ((.region (.v (.move rfl) (.v (.eql_ptr_nil (a := some ⟨b, 0, none⟩) rfl rfl) (.nil ?_))))))
    refine .cond rfl (fun h => absurd h (by simp)) (fun _ => .skip ?_)
    refine .seq ((.region (.v (.move rfl) (.v (.nilCheck (a := ⟨b, 0, none⟩) rfl) (.v (.fieldAddr rfl) (.v (.load (v := .int .i64 v) rfl (Rd.cell (vs := nc k v h n l.ptr r.ptr) hR rfl)) (.v (.assign rfl) (.v (.assign rfl) (.nil ?_)))))))))
    exact .ret ⟨[_, _], ⟨rfl, rfl, trivial⟩, rfl⟩
theorem valT_way (key : Int) {t : Tr} (hk : Keyed t.toL) : valT (way key t []).2 = getL key t.toL := by
  rw [get_is key hk]
  generalize (way key t []).2 = s
  cases s <;> rfl
theorem Get_ok (w : World) (tb : Nat) (t : Tr) (key : Int) (hk : Keyed t.toL) (hR : TRd w tb t) : Is Try.prog 12 [.pointer (some ⟨tb, 0, none⟩), .int .i64 key] w (gv (getL key t.toL)) := by
  refine Does.pure (Does.of (n := 12) Try.func12 rfl rfl rfl rfl ?_)
  refine .seq ((.region (.v (.assign rfl) (.v (.assign rfl) (.nil ?_)))))
  refine .seq ((.region (.v (.move rfl) (.v (.move rfl) (.pc rfl rfl (fun w s => find_ok w tb t key (hR.keep0 s)) (.pc rfl rfl (fun w s => was_ok w _ (way_rdd key t [] (hR.keep0 s).2).top) (.v (.extract rfl rfl) (.v (.extract rfl rfl) (.v (.assign rfl) (.v (.assign rfl) (.nil ?_)))))))))))
  exact .ret ⟨[_, _], ⟨rfl, rfl, trivial⟩, by rw [valT_way key hk]; rfl⟩
theorem Len_ok (w : World) (tb : Nat) (t : Tr) (ho : t.Ok) (hR : TRd w tb t) : Is Try.prog 10 [.pointer (some ⟨tb, 0, none⟩)] w (.int .i64 t.toL.length) := by
  refine Does.pure (Does.of (n := 8) Try.func10 rfl rfl rfl rfl ?_)
  refine .seq ((.region (.v (.assign rfl) (.nil ?_))))
  refine .seq ((.region (.v (.move rfl) (.v (.nilCheck rfl) (.v (.fieldAddr rfl) (.v (.load (v := t.ptr) rfl (Rd.cell hR.1 rfl)) (.pc rfl rfl (fun w s => size_ok w t (hR.keep0 s).2.top) (.v (.assign rfl) (.nil ?_)))))))))
  exact .ret ⟨[_], ⟨rfl, trivial⟩, by rw [ho.sz_len]; rfl⟩
theorem Height_ok (w : World) (tb : Nat) (t : Tr) (hR : TRd w tb t) : Is Try.prog 14 [.pointer (some ⟨tb, 0, none⟩)] w (.int .i64 t.ht) := by
  refine Does.pure (Does.of (n := 8) Try.func14 rfl rfl rfl rfl ?_)
  refine .seq ((.region (.v (.assign rfl) (.nil ?_))))
  refine .seq ((.region (.v (.move rfl) (.v (.nilCheck rfl) (.v (.fieldAddr rfl) (.v (.load (v := t.ptr) rfl (Rd.cell hR.1 rfl)) (.pc rfl rfl (fun w s => high_ok w t (hR.keep0 s).2.top) (.v (.assign rfl) (.nil ?_)))))))))
  exact .ret ⟨[_], ⟨rfl, trivial⟩, rfl⟩
set_option maxRecDepth 10000 in
theorem Rank_ok (w : World) (tb : Nat) (t : Tr) (key : Int) (ho : t.Ok) (hk : Keyed t.toL) (hM : t.toL.length ≤ 1000000000) (hR : TRd w tb t) : Is Try.prog 16 [.pointer (some ⟨tb, 0, none⟩), .int .i64 key] w (.int .i64 (rnkL key t.toL)) := by
  refine Does.pure (Does.of (n := 39) Try.func16 rfl rfl rfl rfl ?_)
  refine .seq ((.region (.v (.assign rfl) (.nil ?_))))
  refine .seq ((.region (.v (.assign rfl) (.nil ?_))))
  refine .seq (.seq ((.region (.v (.move rfl) (.v (.nilCheck rfl) (.v (.fieldAddr rfl) (.v (.load (v := t.ptr) rfl (Rd.cell hR.1 rfl)) (.v (.assign rfl) (.nil ?_)))))))))
  refine .block (.loop (X := Nat × Tr) (fun x => [(1, .int .i64 key), (5, .int .i64 x.1), (6, x.2.ptr)]) (fun x => []) (fun x => x.2.Rdd w ∧ x.2.Ok ∧ Keyed x.2.toL ∧ x.1 + rnkL key x.2.toL = rnkL key t.toL ∧ x.1 + x.2.toL.length ≤ 1000000000) (fun x => x.2.mass) ⟨0, t⟩ ⟨hR.2, ho, hk, by simp, by show 0 + t.toL.length ≤ _; omega⟩ (.cons rfl (.cons rfl (.cons rfl (.nil _)))) (fun _ s => s) ?_)
  rintro ⟨m, x⟩ ⟨hx, hxo, hxk, hm, hb⟩
  dsimp only at hx hxo hxk hm hb ⊢
  cases x with
  | nil =>
    refine .seq (.seq ((.region (.v (.move rfl) (.v (.neq_ptr_nil (a := none) rfl rfl) (.nil ?_))))))
    refine .cond rfl (fun h => absurd h (by simp)) (fun _ => .exit ?_)
    refine .seq ((.region (.v (.move rfl) (.v (.assign rfl) (.nil ?_)))))
    exact .ret ⟨[_], ⟨rfl, trivial⟩, by rw [← hm]; simp [rnkL, Tr.toL, tup]⟩
  | node b l k v h n r =>
    have hc := fun j u hv => Rd.cell (hs := []) hx.1 (i := j) (v := u) hv
    obtain ⟨lo, ro, _, _, _, _⟩ := hxo
    simp only [Tr.toL] at hxk hm hb
    obtain ⟨kl, kr, kx⟩ := List.pairwise_append.1 hxk
    obtain ⟨k1, k2⟩ := List.pairwise_cons.1 kr
    simp only [List.length_append, List.length_cons] at hb
    refine .seq (.seq ((.region (.v (.move rfl) (.v (.neq_ptr_nil (a := some ⟨b, 0, none⟩) rfl rfl) (.nil ?_))))))
    refine .cond rfl (fun _ => .skip ?_) (fun h => absurd h (by simp))
    refine .block (.seq (.seq ((.region (.v (.move rfl) (.v (.move rfl) (.v (.nilCheck (a := ⟨b, 0, none⟩) rfl) (.v (.fieldAddr rfl) (.v (.load (v := .int .i64 k) rfl (hc 0 _ rfl)) (.v (.leq rfl rfl) (.nil ?_)))))))))))
    refine .cond_dec rfl (fun h2 => ?_) (fun h2 => .skip ?_)
    · refine .seq ((.region (.v (.move rfl) (.v (.nilCheck (a := ⟨b, 0, none⟩) rfl) (.v (.fieldAddr rfl) (.v (.indexAddrA1 rfl rfl (by omega) (by omega)) (.v (.load (v := l.ptr) rfl (hc (4 + 0) _ rfl)) (.v (.assign rfl) (.nil ?_)))))))))
      refine .exit ?_
      refine ⟨⟨m, l⟩, ⟨hx.2.1, lo, kl, ?_, by dsimp only; omega⟩, by show l.mass < l.mass + r.mass + 1; omega, .cons rfl (.cons rfl (.cons rfl (.nil _))), fun _ s => s⟩
      dsimp only
      rw [← hm, rnk_app, rnk_none (a := (k, v) :: r.toL) (fun y hy => by
        rcases List.mem_cons.1 hy with rfl | hy
        · exact h2
        · have := k1 y hy; dsimp only at this; omega)]
      rfl
    · have hlen : l.sz = l.toL.length := lo.sz_len
      refine .seq ((.region (.v (.move rfl) (.v (.move rfl) (.v (.nilCheck (a := ⟨b, 0, none⟩) rfl) (.v (.fieldAddr rfl) (.v (.indexAddrA1 rfl rfl (by omega) (by omega)) (.v (.load (v := l.ptr) rfl (hc (4 + 0) _ rfl)) (.pc rfl rfl (fun w s => size_ok w l (Tr.Rdd.keep hx.2.1 s rfl).top) (.v (.addi rfl rfl (by omega)) (.v (.addi rfl rfl (by omega)) (.v (.assign rfl) (.nil ?_)))))))))))))
      refine .region (.v (.move rfl) (.v (.nilCheck (a := ⟨b, 0, none⟩) rfl) (.v (.fieldAddr rfl) (.v (.indexAddrA1 rfl rfl (by omega) (by omega)) (.v (.load (v := r.ptr) rfl (hc (4 + 1) _ rfl)) (.v (.assign rfl) (.nil ?_)))))))
      refine ⟨⟨m + (1 + l.toL.length), r⟩, ⟨hx.2.2, ro, k2, ?_, by dsimp only; omega⟩, by show r.mass < l.mass + r.mass + 1; omega, .cons rfl (.cons (show some (Value.int .i64 ((m : Int) + (1 + l.sz))) = some (Value.int .i64 ((m + (1 + l.toL.length) : Nat))) from by rw [hlen, Int.natCast_add, Int.natCast_add]; rfl) (.cons rfl (.nil _))), fun _ s => s⟩
      dsimp only
      have e1 : rnkL key l.toL = l.toL.length := rnk_all fun y hy => by have := kx y hy (k, v) (by simp); dsimp only at this; omega
      have e2 : rnkL key ((k, v) :: r.toL) = 1 + rnkL key r.toL := by
        unfold rnkL
        rw [List.filter_cons_of_pos (by simp; omega), List.length_cons]; omega
      rw [← hm, rnk_app, e1, e2]; omega
end Go.Proofs.Ytcmoeoghfckmpaa

/- What a tree tells, in memory: At, Min, Max, Below, Above. -/
namespace Go.Proofs.Ytcmoeoghfckmpaa
open Go.V
open Tr
set_option linter.unusedVariables false
set_option linter.unusedSimpArgs false

def atL (i : Int) (L : List (Int × Int)) : Option Int := if 0 ≤ i then (L[i.toNat]?).map (·.1) else none
theorem get_mid {l r : List (Int × Int)} {x : Int × Int} (i : Nat) : (l ++ x :: r)[i]? = if i < l.length then l[i]? else if i = l.length then some x else r[i - (l.length + 1)]? := by
  by_cases h : i < l.length
  · rw [if_pos h, List.getElem?_append_left h]
  · rw [if_neg h, List.getElem?_append_right (by omega)]
    by_cases e : i = l.length
    · rw [if_pos e, e]; simp
    · rw [if_neg e]
      obtain ⟨j, hj⟩ : ∃ j, i - l.length = j + 1 := ⟨i - l.length - 1, by omega⟩
      rw [hj, List.getElem?_cons_succ]
      congr 1; omega
set_option maxRecDepth 10000 in
theorem At_ok (w : World) (tb : Nat) (t : Tr) (i : Int) (ho : t.Ok) (hM : t.toL.length ≤ 1000000000) (hR : TRd w tb t) : Is Try.prog 15 [.pointer (some ⟨tb, 0, none⟩), .int .i64 i] w (gv (atL i t.toL)) := by
  refine Does.pure (Does.of (n := 52) Try.func15 rfl rfl rfl rfl ?_)
  refine .seq ((.region (.v (.assign rfl) (.v (.assign rfl) (.nil ?_)))))
  refine .seq (.seq ((.region (.v (.move rfl) (.v (.lss rfl rfl) (.v (.move rfl) (.or 10 14 4 4 rfl rfl (fun g1 => .v (.move rfl) (.v (.move rfl) (.pc rfl rfl (fun w s => Len_ok w tb t ho (hR.keep0 s)) (.v (.geq rfl rfl) (.nil ⟨rfl, rfl, rfl, rfl⟩))))) (.nil ?_))))))))
  refine .cond rfl (fun h1 => ?_) (fun h1 => .skip ?_)
  · simp only [Bool.and_eq_true, Bool.or_eq_true, Bool.not_eq_true', Bool.and_eq_false_iff, Bool.or_eq_false_iff, Bool.not_eq_false', decide_eq_true_eq, decide_eq_false_iff_not, Bool.false_eq_true, false_iff] at h1
    refine .seq ((.region (.v (.assign rfl) (.v (.assign rfl) (.nil ?_)))))
    refine .ret ⟨[_, _], ⟨rfl, rfl, trivial⟩, ?_⟩
    unfold atL
    by_cases h0 : 0 ≤ i
    · rw [if_pos h0, List.getElem?_eq_none (by omega)]; rfl
    · rw [if_neg h0]; rfl
  · simp only [Bool.and_eq_true, Bool.or_eq_true, Bool.not_eq_true', Bool.and_eq_false_iff, Bool.or_eq_false_iff, Bool.not_eq_false', decide_eq_true_eq, decide_eq_false_iff_not, Bool.false_eq_true, false_iff] at h1
    refine .seq ((.region (.v (.move rfl) (.v (.nilCheck rfl) (.v (.fieldAddr rfl) (.v (.load (v := t.ptr) rfl (Rd.cell hR.1 rfl)) (.v (.assign rfl) (.nil ?_))))))))
    refine .block (.loop (X := Nat × Tr) (fun x => [(1, .int .i64 x.1), (6, x.2.ptr)]) (fun x => []) (fun x => x.2.Rdd w ∧ x.2.Ok ∧ x.1 < x.2.toL.length ∧ x.2.toL.length ≤ 1000000000 ∧ x.2.toL[x.1]? = t.toL[i.toNat]?) (fun x => x.2.mass) ⟨i.toNat, t⟩ ⟨hR.2, ho, by show i.toNat < t.toL.length; omega, hM, rfl⟩ (.cons (show some (Value.int .i64 i) = some (.int .i64 ((i.toNat : Nat) : Int)) from by rw [Int.toNat_of_nonneg (by omega)]) (.cons rfl (.nil _))) (fun _ s => s) ?_)
    rintro ⟨m, x⟩ ⟨hx, hxo, hlt, hb, he⟩
    dsimp only at hx hxo hlt hb he ⊢
    cases x with
    | nil => exact absurd hlt (by simp [Tr.toL])
    | node b l k v h n r =>
      have hc := fun j u hv => Rd.cell (hs := []) hx.1 (i := j) (v := u) hv
      obtain ⟨lo, ro, _, _, _, _⟩ := hxo
      have hsz := lo.sz_len
      simp only [Tr.toL] at hlt he hb
      rw [get_mid] at he
      simp only [List.length_append, List.length_cons] at hlt hb
      refine .block (.seq ((.region (.v (.move rfl) (.v (.nilCheck (a := ⟨b, 0, none⟩) rfl) (.v (.fieldAddr rfl) (.v (.indexAddrA1 rfl rfl (by omega) (by omega)) (.v (.load (v := l.ptr) rfl (hc (4 + 0) _ rfl)) (.pc rfl rfl (fun w s => size_ok w l (Tr.Rdd.keep hx.2.1 s rfl).top) (.v (.assign rfl) (.nil ?_)))))))))))
      rw [hsz]
      refine .block (.seq ((.region (.v (.move rfl) (.v (.move rfl) (.v (.eqi rfl rfl) (.v (.assign rfl) (.nil ?_))))))))
      refine .cond_dec rfl (fun h2 => ?_) (fun h2 => ?_)
      · refine .seq ((.region (.v (.move rfl) (.v (.nilCheck (a := ⟨b, 0, none⟩) rfl) (.v (.fieldAddr rfl) (.v (.load (v := .int .i64 k) rfl (hc 0 _ rfl)) (.v (.assign rfl) (.v (.assign rfl) (.nil ?_)))))))))
        refine .ret ⟨[_, _], ⟨rfl, rfl, trivial⟩, ?_⟩
        unfold atL
        rw [if_pos (by omega), ← he, if_neg (by omega), if_pos (by omega)]; rfl
      · refine .seq ((.region (.v (.move rfl) (.v (.move rfl) (.v (.lss rfl rfl) (.v (.assign rfl) (.nil ?_)))))))
        refine .cond_dec rfl (fun h3 => ?_) (fun h3 => ?_)
        · refine .region (.v (.move rfl) (.v (.nilCheck (a := ⟨b, 0, none⟩) rfl) (.v (.fieldAddr rfl) (.v (.indexAddrA1 rfl rfl (by omega) (by omega)) (.v (.load (v := l.ptr) rfl (hc (4 + 0) _ rfl)) (.v (.assign rfl) (.nil ?_)))))))
          refine ⟨⟨m, l⟩, ⟨hx.2.1, lo, by show m < l.toL.length; omega, by show l.toL.length ≤ _; omega, ?_⟩, by show l.mass < l.mass + r.mass + 1; omega, .cons rfl (.cons rfl (.nil _)), fun _ s => s⟩
          rw [if_pos (by omega)] at he; exact he
        · refine .seq ((.region (.v (.move rfl) (.v (.move rfl) (.v (.addi rfl rfl (by omega)) (.v (.subE ((m - (l.toL.length + 1) : Nat) : Int) rfl rfl (by omega) (by omega)) (.v (.assign rfl) (.nil ?_))))))))
          refine .region (.v (.move rfl) (.v (.nilCheck (a := ⟨b, 0, none⟩) rfl) (.v (.fieldAddr rfl) (.v (.indexAddrA1 rfl rfl (by omega) (by omega)) (.v (.load (v := r.ptr) rfl (hc (4 + 1) _ rfl)) (.v (.assign rfl) (.nil ?_)))))))
          refine ⟨⟨m - (l.toL.length + 1), r⟩, ⟨hx.2.2, ro, by show m - (l.toL.length + 1) < r.toL.length; omega, by show r.toL.length ≤ _; omega, ?_⟩, by show r.mass < l.mass + r.mass + 1; omega, .cons rfl (.cons rfl (.nil _)), fun _ s => s⟩
          rw [if_neg (by omega), if_neg (by omega)] at he; exact he
def endL (s : Nat) (L : List (Int × Int)) : Option Int := if s = 0 then L.head?.map (·.1) else L.getLast?.map (·.1)
theorem endL_node {s : Nat} (b : Nat) (l r : Tr) (k v h n : Int) (hs : s < 2) : endL s (Tr.node b l k v h n r).toL = match (if s = 0 then l else r) with | .nil => some k | x => endL s x.toL := by
  obtain rfl | rfl : s = 0 ∨ s = 1 := by omega
  · cases l with
    | nil => rfl
    | node b2 l2 k2 v2 h2 n2 r2 => simp [endL, Tr.toL]
  · cases r with
    | nil => simp [endL, Tr.toL]
    | node b2 l2 k2 v2 h2 n2 r2 =>
      have key : ∀ (A R : List (Int × Int)), R ≠ [] → (A ++ R).getLast? = R.getLast? := fun A R h => by
        rw [List.getLast?_append]
        cases hR : R.getLast? with
        | none => exact absurd (List.getLast?_eq_none_iff.1 hR) h
        | some x => rfl
      show Option.map (fun x => x.fst) ((l.toL ++ (k, v) :: (l2.toL ++ (k2, v2) :: r2.toL)).getLast?) = Option.map (fun x => x.fst) ((l2.toL ++ (k2, v2) :: r2.toL).getLast?)
      rw [show l.toL ++ (k, v) :: (l2.toL ++ (k2, v2) :: r2.toL) = (l.toL ++ [(k, v)]) ++ (l2.toL ++ (k2, v2) :: r2.toL) from by simp, key _ _ (by simp)]
set_option maxRecDepth 10000 in
theorem ends_ok (w : World) (tb : Nat) (t : Tr) (s : Nat) (hs : s < 2) (hR : TRd w tb t) : Is Try.prog 32 [.pointer (some ⟨tb, 0, none⟩), .int .i64 s] w (gv (endL s t.toL)) := by
  refine Does.pure (Does.of (n := 30) Try.func32 rfl rfl rfl rfl ?_)
  refine .seq ((.region (.v (.assign rfl) (.v (.assign rfl) (.nil ?_)))))
  refine .seq ((.region (.v (.move rfl) (.v (.nilCheck rfl) (.v (.fieldAddr rfl) (.v (.load (v := t.ptr) rfl (Rd.cell hR.1 rfl)) (.v (.assign rfl) (.nil ?_))))))))
  cases t with
  | nil =>
    refine .seq (.seq ((.region (.v (.move rfl) (.v (.eql_ptr_nil (a := none) rfl rfl) (.nil ?_))))))
    refine .cond rfl (fun _ => ?_) (fun h => absurd h (by simp))
    refine .seq ((.region (.v (.assign rfl) (.v (.assign rfl) (.nil ?_)))))
    exact .ret ⟨[_, _], ⟨rfl, rfl, trivial⟩, by unfold endL; split <;> rfl⟩
  | node b l k v h n r =>
    refine .seq (.seq ((.region (.v (.move rfl) (.v (.eql_ptr_nil (a := some ⟨b, 0, none⟩) rfl rfl) (.nil ?_))))))
    refine .cond rfl (fun h => absurd h (by simp)) (fun _ => .skip ?_)
    refine .seq (.block (.loop (X := Tr) (fun x => [(1, .int .i64 s), (6, x.ptr)]) (fun x => []) (fun x => x.Rdd w ∧ x ≠ .nil ∧ endL s x.toL = endL s (Tr.node b l k v h n r).toL) (fun x => x.mass) (.node b l k v h n r) ⟨hR.2, by simp, rfl⟩ (.cons rfl (.cons rfl (.nil _))) (fun _ s => s) ?_))
    rintro x ⟨hx, hne, he⟩
    generalize endL s (Tr.node b l k v h n r).toL = R at he ⊢
    cases x with
    | nil => exact absurd rfl hne
    | node b l k v h n r =>
      rw [endL_node b l r k v h n hs] at he
      obtain ⟨y, hy⟩ : ∃ y, y = if s = 0 then l else r := ⟨_, rfl⟩
      have hyr : y.Rdd w := by rw [hy]; split; exact hx.2.1; exact hx.2.2
      have hym : y.mass < l.mass + r.mass + 1 := by rw [hy]; split <;> omega
      have hcell : (nc k v h n l.ptr r.ptr)[4 + s]? = some y.ptr := by
        rw [hy]
        obtain rfl | rfl : s = 0 ∨ s = 1 := by omega
        · rfl
        · rfl
      have hc : At w [] [] ⟨b, 0 + 4 + ((s : Nat) : Int).toNat, none⟩ [y.ptr] := by
        have := Rd.cell (hs := []) hx.1 (i := 4 + s) hcell
        simpa using this
      rw [← hy] at he
      refine .seq (.seq ((.region (.v (.move rfl) (.v (.move rfl) (.v (.nilCheck (a := ⟨b, 0, none⟩) rfl) (.v (.fieldAddr rfl) (.v (.indexAddrA1 rfl rfl (by omega) (by omega)) (.v (.load (v := y.ptr) rfl hc) ?_)))))))))
      clear hy hcell
      cases y with
      | nil =>
        refine .v (.neq_ptr_nil (a := none) rfl rfl) (.nil ?_)
        refine .cond rfl (fun h => absurd h (by simp)) (fun _ => .exit ?_)
        refine .seq ((.region (.v (.move rfl) (.v (.nilCheck (a := ⟨b, 0, none⟩) rfl) (.v (.fieldAddr rfl) (.v (.load (v := .int .i64 k) rfl (Rd.cell hx.1 rfl)) (.v (.assign rfl) (.v (.assign rfl) (.nil ?_)))))))))
        refine .ret ⟨[_, _], ⟨rfl, rfl, trivial⟩, by rw [← he]; rfl⟩
      | node b2 l2 k2 v2 h2 n2 r2 =>
        refine .v (.neq_ptr_nil (a := some ⟨b2, 0, none⟩) rfl rfl) (.nil ?_)
        refine .cond rfl (fun _ => .skip ?_) (fun h => absurd h (by simp))
        refine .block ((.region (.v (.move rfl) (.v (.move rfl) (.v (.nilCheck (a := ⟨b, 0, none⟩) rfl) (.v (.fieldAddr rfl) (.v (.indexAddrA1 rfl rfl (by omega) (by omega)) (.v (.load (v := (Tr.node b2 l2 k2 v2 h2 n2 r2).ptr) rfl hc) (.v (.assign rfl) (.nil ?_))))))))))
        exact ⟨.node b2 l2 k2 v2 h2 n2 r2, ⟨hyr, by simp, he⟩, hym, .cons rfl (.cons rfl (.nil _)), fun _ s => s⟩
theorem endL_min (L : List (Int × Int)) : endL 0 L = atL 0 L := by
  unfold endL atL
  rw [if_pos rfl, if_pos (by decide)]
  cases L <;> rfl
theorem endL_max (L : List (Int × Int)) : endL 1 L = atL ((L.length : Int) - 1) L := by
  unfold endL atL
  rw [if_neg (by decide)]
  by_cases h : L = []
  · subst h; rfl
  · have : 0 < L.length := List.length_pos_iff.2 h
    rw [if_pos (by omega), List.getLast?_eq_getElem?, show ((L.length : Int) - 1).toNat = L.length - 1 from by omega]
theorem Min_ok (w : World) (tb : Nat) (t : Tr) (hR : TRd w tb t) : Is Try.prog 17 [.pointer (some ⟨tb, 0, none⟩)] w (gv (atL 0 t.toL)) := by
  refine Does.pure (Does.of (n := 8) Try.func17 rfl rfl rfl rfl ?_)
  refine .seq ((.region (.v (.assign rfl) (.v (.assign rfl) (.nil ?_)))))
  refine .seq ((.region (.v (.move rfl) (.pc rfl rfl (fun w s => ends_ok w tb t 0 (by decide) (hR.keep0 s)) (.v (.extract rfl rfl) (.v (.extract rfl rfl) (.v (.assign rfl) (.v (.assign rfl) (.nil ?_)))))))))
  exact .ret ⟨[_, _], ⟨rfl, rfl, trivial⟩, by rw [endL_min]; rfl⟩
theorem Max_ok (w : World) (tb : Nat) (t : Tr) (hR : TRd w tb t) : Is Try.prog 20 [.pointer (some ⟨tb, 0, none⟩)] w (gv (atL ((t.toL.length : Int) - 1) t.toL)) := by
  refine Does.pure (Does.of (n := 8) Try.func20 rfl rfl rfl rfl ?_)
  refine .seq ((.region (.v (.assign rfl) (.v (.assign rfl) (.nil ?_)))))
  refine .seq ((.region (.v (.move rfl) (.pc rfl rfl (fun w s => ends_ok w tb t 1 (by decide) (hR.keep0 s)) (.v (.extract rfl rfl) (.v (.extract rfl rfl) (.v (.assign rfl) (.v (.assign rfl) (.nil ?_)))))))))
  exact .ret ⟨[_, _], ⟨rfl, rfl, trivial⟩, by rw [endL_max]; rfl⟩
def abvL (key : Int) (L : List (Int × Int)) : Option Int := atL (if (getL key L).isSome then rnkL key L + 1 else rnkL key L) L
theorem rnk_le (key : Int) (L : List (Int × Int)) : rnkL key L ≤ L.length := List.length_filter_le _ _
set_option maxRecDepth 10000 in
theorem Above_ok (w : World) (tb : Nat) (t : Tr) (key : Int) (ho : t.Ok) (hk : Keyed t.toL) (hM : t.toL.length ≤ 1000000000) (hR : TRd w tb t) : Is Try.prog 18 [.pointer (some ⟨tb, 0, none⟩), .int .i64 key] w (gv (abvL key t.toL)) := by
  have hrl := rnk_le key t.toL
  have hgv := valT_way key hk
  refine Does.pure (Does.of (n := 21) Try.func18 rfl rfl rfl rfl ?_)
  refine .seq ((.region (.v (.assign rfl) (.v (.assign rfl) (.nil ?_)))))
  refine .seq ((.region (.v (.move rfl) (.v (.move rfl) (.pc rfl rfl (fun w s => Rank_ok w tb t key ho hk hM (hR.keep0 s)) (.v (.assign rfl) (.nil ?_)))))))
  refine .mid (X := Unit) (fun _ => [(0, .pointer (some ⟨tb, 0, none⟩)), (6, .int .i64 (if (getL key t.toL).isSome then rnkL key t.toL + 1 else rnkL key t.toL))]) (fun _ => []) (fun _ => True) (.seq ((.region (.v (.move rfl) (.v (.move rfl) (.pc rfl rfl (fun w s => find_ok w tb t key (hR.keep0 s)) ?_)))))) ?_
  · generalize (way key t []).2 = s at hgv
    cases s with
    | nil =>
      refine .v (.neq_ptr_nil (a := none) rfl rfl) (.nil ?_)
      refine .cond rfl (fun h => absurd h (by simp)) (fun _ => .skip ?_)
      exact ⟨(), trivial, .cons rfl (.cons (by rw [← hgv]; rfl) (.nil _)), fun _ s => s⟩
    | node b l k v h n r =>
      refine .v (.neq_ptr_nil (a := some ⟨b, 0, none⟩) rfl rfl) (.nil ?_)
      refine .cond rfl (fun _ => ?_) (fun h => absurd h (by simp))
      refine .region (.v (.move rfl) (.v (.addi rfl rfl (by omega)) (.v (.assign rfl) (.nil ?_))))
      exact ⟨(), trivial, .cons rfl (.cons (by rw [← hgv]; rfl) (.nil _)), fun _ s => s⟩
  · rintro ⟨⟩ -
    refine .seq ((.region (.v (.move rfl) (.v (.move rfl) (.pc rfl rfl (fun w s => At_ok w tb t _ ho hM (hR.keep0 s)) (.v (.extract rfl rfl) (.v (.extract rfl rfl) (.v (.assign rfl) (.v (.assign rfl) (.nil ?_))))))))))
    exact .ret ⟨[_, _], ⟨rfl, rfl, trivial⟩, rfl⟩
set_option maxRecDepth 10000 in
theorem Below_ok (w : World) (tb : Nat) (t : Tr) (key : Int) (ho : t.Ok) (hk : Keyed t.toL) (hM : t.toL.length ≤ 1000000000) (hR : TRd w tb t) : Is Try.prog 19 [.pointer (some ⟨tb, 0, none⟩), .int .i64 key] w (gv (atL ((rnkL key t.toL : Int) - 1) t.toL)) := by
  have hrl := rnk_le key t.toL
  refine Does.pure (Does.of (n := 14) Try.func19 rfl rfl rfl rfl ?_)
  refine .seq ((.region (.v (.assign rfl) (.v (.assign rfl) (.nil ?_)))))
  refine .seq ((.region (.v (.move rfl) (.v (.move rfl) (.v (.move rfl) (.pc rfl rfl (fun w s => Rank_ok w tb t key ho hk hM (hR.keep0 s)) (.v (.subi rfl rfl (by omega)) (.pc rfl rfl (fun w s => At_ok w tb t _ ho hM (hR.keep0 s)) (.v (.extract rfl rfl) (.v (.extract rfl rfl) (.v (.assign rfl) (.v (.assign rfl) (.nil ?_)))))))))))))
  exact .ret ⟨[_, _], ⟨rfl, rfl, trivial⟩, rfl⟩
end Go.Proofs.Ytcmoeoghfckmpaa

/- Put, in memory. -/
namespace Go.Proofs.Ytcmoeoghfckmpaa
open Go.V
open Tr
set_option linter.unusedVariables false
set_option linter.unusedSimpArgs false

set_option maxRecDepth 20000 in
set_option maxHeartbeats 1000000 in
theorem Put_ok (w : World) (tb : Nat) (t : Tr) (key v : Int) (ho : t.Ok) (hk : Keyed t.toL) (hM : t.toL.length ≤ 900000000) :
    Does Try.prog 8 [.pointer (some ⟨tb, 0, none⟩), .int .i64 key, .int .i64 v] (TH tb t) w (fun u hs => ∃ b', u = gv (getL key t.toL) ∧ hs = TH tb (putT b' key v t)) := by
  have hgv := valT_way key hk
  have hraw : raw (way key t []).1 (way key t []).2 = t := way_raw key t []
  obtain ⟨_, _, hcase⟩ := way_split key t [] hk (by simp [ahead]) (by simp [behind])
  refine Does.less (Does.of (n := 49) Try.func8 rfl rfl rfl rfl ?_)
  refine .seq ((.region (.v (.assign rfl) (.v (.assign rfl) (.nil ?_)))))
  refine .seq ((.region (.v (.move rfl) (.v (.move rfl) ?_))))
  refine .ef (.callT (TH tb t) rfl rfl fun w s => way_ok w tb t key ho (by omega)) ?_
  obtain ⟨fs, hfs⟩ : ∃ fs, fs = (way key t []).1 := ⟨_, rfl⟩
  obtain ⟨s, hs⟩ : ∃ s, s = (way key t []).2 := ⟨_, rfl⟩
  rw [← hfs, ← hs] at hraw
  rw [← hs] at hgv hcase
  have hput : ∀ b', putT b' key v t = putAt b' key v (fs, s) := fun b' => by rw [hfs, hs]; rfl
  rw [← hfs, ← hs]
  rintro _ _ ⟨_, ⟨pb, cs, rfl, hI, rfl⟩, rfl⟩
  refine .v (.assign rfl) (.nil ?_)
  refine .keep (Pk pb cs :: (ZH tb fs s.ptr ++ s.H)) ?_
  have hlen := hI.le
  rw [lks_length] at hlen
  have hlast : cs[fs.length]? = some (.pointer (some (lkA tb fs))) := hI.at_ _ _ (lks_last tb fs)
  have hnn : cs[96]? = some (.int .i64 ((fs.length : Int) + 1)) := by have := hI.n; rw [lks_length] at this; simpa using this
  refine .seq ((.drawK [Pk pb cs] (by intro y hy; simp at hy; subst hy; exact List.mem_cons_self) (by kernel_rfl) (by kernel_rfl) ?_))
  refine .v (fun _ f => .move rfl) (.v (fun _ f => .move rfl) (.v (fun _ f => .nilCheck rfl) (.v (fun _ f => .fieldAddr rfl) (.v (fun _ f => .load (v := .int .i64 ((fs.length : Int) + 1)) rfl (.one (l := cs) (T := 59) (hb := .sub f) (by simpa using hnn))) (.v (fun _ f => .subE (fs.length : Int) rfl rfl (by omega) (by omega)) (.v (fun _ f => .nilCheck rfl) (.v (fun _ f => .fieldAddr rfl) (.v (fun _ f => .indexAddrA1 rfl rfl (by omega) (by omega)) ?_))))))))
  refine .v (fun _ f => .load (v := .pointer (some (lkA tb fs))) rfl (.one (l := cs) (T := 59) (hb := .sub f) (by simpa using hlast))) (.v (fun _ f => .assign rfl) (.nil ?_))
  have hz1 : ZH tb fs s.ptr ⊆ Pk pb cs :: (ZH tb fs s.ptr ++ s.H) := fun y hy => List.mem_cons_of_mem _ (List.mem_append_left _ hy)
  refine .seq ((.region (.v (.move rfl) (.v (.nilCheck rfl) (.v (.load (v := s.ptr) rfl (zh_link tb fs s.ptr hz1)) (.pc rfl rfl (fun w s => was_ok w _ (Tr.Rdd.of s (fun y hy => by simp [hy])).top) (.v (.move rfl) (.v (.extract rfl rfl) (.v (.extract rfl rfl) (.v (.assign rfl) (.v (.assign rfl) (.nil ?_))))))))))))
  have htot : (ahead fs).length + s.toL.length + (behind fs).length = t.toL.length := by
    have : (raw fs s).toL.length = t.toL.length := by rw [hraw]
    rw [raw_toL] at this
    simp only [List.length_append] at this
    omega
  have hdep := zok_len fs s (by rw [hraw]; exact ho)
  obtain ⟨hso, hzz⟩ := zok_of fs s (by rw [hraw]; exact ho)
  refine .seq (.seq ((.region (.v (.move rfl) (.nil ?_)))))
  rcases hcase with rfl | ⟨b, l, u, h, n, r, rfl⟩
  · refine .cond rfl (fun h => absurd h (by simp [valT])) (fun _ => .skip ?_)
    have hbound : (ahead fs).length + 1 + (behind fs).length ≤ 1000000000 := by simp only [Tr.toL, List.length_nil] at htot; omega
    obtain ⟨lb, lo, hlk⟩ := lkA_ptr tb fs
    obtain ⟨c, T, rest, e1, e2, e3⟩ := zh_set tb fs (.pointer none)
    rw [hlk] at e1 e2 e3
    dsimp only at e1 e2 e3
    rw [hlk]
    refine .heap (hs' := Pk pb cs :: (lb, .cells c T) :: rest) (fun _ s => by rw [← e1]; simpa [Tr.H, Tr.ptr] using s) ?_
    refine .seq ((.region (.v (.move rfl) (.v (.move rfl) (.v (.move rfl) (.v (.build (out := nc key v 0 0 (.pointer none) (.pointer none)) rfl rfl) (.nw (.box (l := nc key v 0 0 (.pointer none) (.pointer none)) rfl rfl) fun b44 => (.v (.nilCheck rfl) (.st (.store rfl rfl rfl e2) (.nil ?_))))))))))
    refine .heap (hs' := Pk pb cs :: (ZH tb fs (Tr.node b44 .nil key v 0 0 .nil).ptr ++ (Tr.node b44 .nil key v 0 0 .nil).H)) (fun _ s => by
      show Sat _ _ (Pk pb cs :: (ZH tb fs (.pointer (some ⟨b44, 0, none⟩)) ++ [nb b44 key v 0 0 (.pointer none) (.pointer none)])) _
      rw [e3]
      exact Sat.take (pre := Pk pb cs :: (((lb, .cells (c.set lo (.pointer (some ⟨b44, 0, none⟩))) T) :: rest) ++ [nb b44 key v 0 0 (.pointer none) (.pointer none)])) s) ?_
    refine .seq ((.region (.v (.move rfl) ?_)))
    refine .ef (.callT (Pk pb cs :: (ZH tb fs (Tr.node b44 .nil key v 0 0 .nil).ptr ++ (Tr.node b44 .nil key v 0 0 .nil).H)) rfl rfl fun w s => up_ok w tb pb fs (.node b44 .nil key v 0 0 .nil) cs hI ⟨trivial, trivial, by decide, by decide⟩ 0 hzz (by show (1 : Int) ≤ 0 + 1; decide) (by show (0 : Int) ≤ 1 + 1; decide) (by exact hbound)) ?_
    rintro _ _ ⟨_, rfl, rfl⟩
    refine .nil ?_
    refine .seq ((.region (.v (.move rfl) (.v (.assign rfl) (.v (.assign rfl) (.nil ?_))))))
    refine .ret ⟨[_, _], ⟨rfl, rfl, trivial⟩, TH tb (putT b44 key v t), fun _ s => ?_, b44, by rw [← hgv]; rfl, rfl⟩
    rw [hput]
    exact Sat.take (pre := TH tb (plug fs (Tr.flat (.node b44 .nil key v 0 0 .nil)))) s
  · refine .cond rfl (fun _ => ?_) (fun h => absurd h (by simp [valT]))
    refine .heap (hs' := Pk pb cs :: (ZH tb fs (.pointer (some ⟨b, 0, none⟩)) ++ nb b key u h n l.ptr r.ptr :: (l.H ++ r.H))) (fun _ s => s) ?_
    have hz2 : ZH tb fs (.pointer (some ⟨b, 0, none⟩)) ⊆ Pk pb cs :: (ZH tb fs (.pointer (some ⟨b, 0, none⟩)) ++ nb b key u h n l.ptr r.ptr :: (l.H ++ r.H)) := fun y hy => List.mem_cons_of_mem _ (List.mem_append_left _ hy)
    refine .seq ((.region (.v (.move rfl) (.v (.nilCheck rfl) (.v (.load (v := .pointer (some ⟨b, 0, none⟩)) rfl (zh_link tb fs _ hz2)) (.v (.move rfl) (.v (.nilCheck rfl) (.v (.fieldAddr rfl) (.st (.storeL (l' := nc key v h n l.ptr r.ptr) (ho := ⟨by simp, rfl⟩) rfl rfl rfl) (.nil ?_))))))))))
    refine .seq ((.region (.v (.move rfl) (.v (.assign rfl) (.v (.assign rfl) (.nil ?_))))))
    refine .ret ⟨[_, _], ⟨rfl, rfl, trivial⟩, TH tb (putT 0 key v t), fun _ s => ?_, 0, by rw [← hgv]; rfl, rfl⟩
    rw [hput]
    exact (Sat.take (pre := ZH tb fs (.pointer (some ⟨b, 0, none⟩)) ++ nb b key v h n l.ptr r.ptr :: (l.H ++ r.H)) s).perm (zh_all tb fs (.node b l key v h n r))
end Go.Proofs.Ytcmoeoghfckmpaa

/- Drop, in memory. -/
namespace Go.Proofs.Ytcmoeoghfckmpaa
open Go.V
open Tr
set_option linter.unusedVariables false
set_option linter.unusedSimpArgs false

/-- one node on the way, its key and value told apart -/
theorem zh_split (tb : Nat) (F : Fr) (fs : List Fr) : ∀ (G : List Fr) (tv : Value), ∃ (lp rp : Value) (rest : Hp), ∀ (k v : Int), (ZH tb (G ++ { F with k := k, v := v } :: fs) tv).Perm (nb F.b k v F.h F.n lp rp :: rest)
  | [], tv => ⟨if F.s then F.o.ptr else tv, if F.s then tv else F.o.ptr, F.o.H ++ ZH tb fs (.pointer (some ⟨F.b, 0, none⟩)), fun k v => List.Perm.refl _⟩
  | g :: G, tv => by
    obtain ⟨lp, rp, rest, h⟩ := zh_split tb F fs G (.pointer (some ⟨g.b, 0, none⟩))
    refine ⟨lp, rp, nb g.b g.k g.v g.h g.n (if g.s then g.o.ptr else tv) (if g.s then tv else g.o.ptr) :: (g.o.H ++ rest), fun k v => ?_⟩
    show (nb g.b g.k g.v g.h g.n _ _ :: (g.o.H ++ ZH tb (G ++ _ :: fs) (.pointer (some ⟨g.b, 0, none⟩)))).Perm _
    refine List.Perm.trans (List.Perm.cons _ (List.Perm.append_left _ (h k v))) ?_
    refine List.Perm.trans (List.Perm.cons _ List.perm_middle) ?_
    exact List.Perm.swap _ _ _
theorem lks_kv (tb : Nat) (F : Fr) (fs : List Fr) (k v : Int) : ∀ (G : List Fr), lks tb (G ++ { F with k := k, v := v } :: fs) = lks tb (G ++ F :: fs)
  | [] => rfl
  | g :: G => by
    show lks tb (G ++ _ :: fs) ++ _ = lks tb (G ++ F :: fs) ++ _
    rw [lks_kv tb F fs k v G]
    rfl
theorem lkA_kv (tb : Nat) (F : Fr) (fs : List Fr) (k v : Int) : ∀ (G : List Fr), lkA tb (G ++ { F with k := k, v := v } :: fs) = lkA tb (G ++ F :: fs)
  | [] => rfl
  | g :: G => rfl
theorem raw_len (fs : List Fr) (s : Tr) : (ahead fs).length + s.toL.length + (behind fs).length = (raw fs s).toL.length := by
  rw [raw_toL]; simp only [List.length_append]
set_option maxRecDepth 20000 in
set_option maxHeartbeats 2000000 in
theorem Drop_ok (w : World) (tb : Nat) (t : Tr) (key : Int) (ho : t.Ok) (hk : Keyed t.toL) (hM : t.toL.length ≤ 900000000) :
    Does Try.prog 11 [.pointer (some ⟨tb, 0, none⟩), .int .i64 key] (TH tb t) w (fun u hs => u = gv (getL key t.toL) ∧ hs = TH tb (dropT key t)) := by
  have hgv := valT_way key hk
  have hraw : raw (way key t []).1 (way key t []).2 = t := way_raw key t []
  obtain ⟨_, _, hcase⟩ := way_split key t [] hk (by simp [ahead]) (by simp [behind])
  refine Does.less (Does.of (n := 142) Try.func11 rfl rfl rfl rfl ?_)
  refine .seq ((.region (.v (.assign rfl) (.v (.assign rfl) (.nil ?_)))))
  refine .seq ((.region (.v (.move rfl) (.v (.move rfl) ?_))))
  refine .ef (.callT (TH tb t) rfl rfl fun w s => way_ok w tb t key ho (by omega)) ?_
  obtain ⟨fs, hfs⟩ : ∃ fs, fs = (way key t []).1 := ⟨_, rfl⟩
  obtain ⟨s, hs⟩ : ∃ s, s = (way key t []).2 := ⟨_, rfl⟩
  rw [← hfs, ← hs] at hraw
  rw [← hs] at hgv hcase
  have hdrop : dropT key t = dropAt (fs, s) := by rw [hfs, hs]; rfl
  rw [← hfs, ← hs]
  rintro _ _ ⟨_, ⟨pb, cs, rfl, hI, rfl⟩, rfl⟩
  refine .v (.assign rfl) (.nil ?_)
  refine .keep (Pk pb cs :: (ZH tb fs s.ptr ++ s.H)) ?_
  have hlen := hI.le
  rw [lks_length] at hlen
  have hlast : cs[fs.length]? = some (.pointer (some (lkA tb fs))) := hI.at_ _ _ (lks_last tb fs)
  have hnn : cs[96]? = some (.int .i64 ((fs.length : Int) + 1)) := by have := hI.n; rw [lks_length] at this; simpa using this
  refine .seq ((.drawK [Pk pb cs] (by intro y hy; simp at hy; subst hy; exact List.mem_cons_self) (by kernel_rfl) (by kernel_rfl) ?_))
  refine .v (fun _ f => .move rfl) (.v (fun _ f => .move rfl) (.v (fun _ f => .nilCheck rfl) (.v (fun _ f => .fieldAddr rfl) (.v (fun _ f => .load (v := .int .i64 ((fs.length : Int) + 1)) rfl (.one (l := cs) (T := 59) (hb := .sub f) (by simpa using hnn))) (.v (fun _ f => .subE (fs.length : Int) rfl rfl (by omega) (by omega)) (.v (fun _ f => .nilCheck rfl) (.v (fun _ f => .fieldAddr rfl) (.v (fun _ f => .indexAddrA1 rfl rfl (by omega) (by omega)) ?_))))))))
  refine .v (fun _ f => .load (v := .pointer (some (lkA tb fs))) rfl (.one (l := cs) (T := 59) (hb := .sub f) (by simpa using hlast))) (.v (fun _ f => .assign rfl) (.nil ?_))
  have hz1 : ZH tb fs s.ptr ⊆ Pk pb cs :: (ZH tb fs s.ptr ++ s.H) := fun y hy => List.mem_cons_of_mem _ (List.mem_append_left _ hy)
  refine .seq ((.region (.v (.move rfl) (.v (.nilCheck rfl) (.v (.load (v := s.ptr) rfl (zh_link tb fs s.ptr hz1)) (.v (.assign rfl) (.nil ?_)))))))
  refine .seq ((.region (.v (.move rfl) (.pc rfl rfl (fun w s => was_ok w _ (Tr.Rdd.of s (fun y hy => by simp [hy])).top) (.v (.move rfl) (.v (.extract rfl rfl) (.v (.extract rfl rfl) (.v (.assign rfl) (.v (.assign rfl) (.nil ?_))))))))))
  have htot := raw_len fs s
  rw [hraw] at htot
  have hdep := zok_len fs s (by rw [hraw]; exact ho)
  rw [hraw] at hdep
  have hht := ho.ht_le (by omega)
  obtain ⟨hso, hzz⟩ := zok_of fs s (by rw [hraw]; exact ho)
  refine .seq (.seq ((.region (.v (.move rfl) (.v (.not rfl) (.nil ?_))))))
  rcases hcase with rfl | ⟨b, l, u, h, n, r, rfl⟩
  · refine .cond rfl (fun _ => ?_) (fun h => absurd h (by simp [valT]))
    refine .seq ((.region (.v (.move rfl) (.v (.assign rfl) (.v (.assign rfl) (.nil ?_))))))
    refine .ret ⟨[_, _], ⟨rfl, rfl, trivial⟩, TH tb (dropT key t), fun _ s => ?_, by rw [← hgv]; rfl, rfl⟩
    rw [hdrop]
    exact (Sat.take (pre := ZH tb fs Tr.nil.ptr ++ Tr.nil.H) s).perm (zh_all tb fs .nil)
  refine .cond rfl (fun h => absurd h (by simp [valT])) (fun _ => .skip ?_)
  obtain ⟨lb, lo, hlk⟩ := lkA_ptr tb fs
  obtain ⟨c, T, rest, e1, e2, e3⟩ := zh_set tb fs (.pointer (some ⟨b, 0, none⟩))
  rw [hlk] at e1 e2 e3
  dsimp only at e1 e2 e3
  obtain ⟨ol, or_, oh, on, ob1, ob2⟩ := hso
  have pl := ol.ht_pos
  have pr := or_.ht_pos
  have hzz' : Zok fs h := hzz
  have hlr : l.toL.length + r.toL.length + 1 = (Tr.node b l key u h n r).toL.length := by simp only [Tr.toL, List.length_append, List.length_cons]; omega
  have hb1 : (ahead fs).length + l.toL.length + (behind fs).length ≤ 1000000000 := by omega
  have hb2 : (ahead fs).length + r.toL.length + (behind fs).length ≤ 1000000000 := by omega
  refine .heap (hs' := Pk pb cs :: (((lb, .cells c T) :: rest) ++ nb b key u h n l.ptr r.ptr :: (l.H ++ r.H))) (fun _ s => by rw [← e1]; exact s) ?_
  refine .seq (.seq ((.region (.v (.move rfl) (.v (.nilCheck (a := ⟨b, 0, none⟩) rfl) (.v (.fieldAddr rfl) (.v (.indexAddrA1 rfl rfl (by omega) (by omega)) (.v (.load (v := l.ptr) rfl (.one rfl)) ?_))))))))
  have two : l = .nil ∨ r = .nil ∨ (∃ lb ll lk lv lh ln lr, l = .node lb ll lk lv lh ln lr) ∧ ∃ rb rl rk rv rh rn rr, r = .node rb rl rk rv rh rn rr := by
    cases l with
    | nil => exact .inl rfl
    | node lb ll lk lv lh ln lr => cases r with
      | nil => exact .inr (.inl rfl)
      | node rb rl rk rv rh rn rr => exact .inr (.inr ⟨⟨_, _, _, _, _, _, _, rfl⟩, ⟨_, _, _, _, _, _, _, rfl⟩⟩)
  by_cases hone : l = .nil ∨ r = .nil
  · have h1 : ∃ b1 b2 : Bool, b1 = (match l with | .nil => true | _ => false) ∧ b2 = (match r with | .nil => true | _ => false) ∧ (b1 || b2) = true := by
      refine ⟨_, _, rfl, rfl, ?_⟩
      rcases hone with rfl | rfl
      · rfl
      · cases l <;> rfl
    obtain ⟨b1, b2, hb1', hb2', hbb⟩ := h1
    refine .v (v := .bool b1) (by rw [hb1']; cases l with
      | nil => exact .eql_ptr_nil (a := none) rfl rfl
      | node lb ll lk lv lh ln lr => exact .eql_ptr_nil (a := some ⟨lb, 0, none⟩) rfl rfl) (.v (.move rfl) (.or (b2 := b2) 44 50 6 6 rfl rfl (fun g1 => .v (.move rfl) (.v (.nilCheck (a := ⟨b, 0, none⟩) rfl) (.v (.fieldAddr rfl) (.v (.indexAddrA1 rfl rfl (by omega) (by omega)) (.v (.load (v := r.ptr) rfl (.one rfl)) (.v (v := .bool b2) (by rw [hb2']; cases r with
        | nil => exact .eql_ptr_nil (a := none) rfl rfl
        | node lb ll lk lv lh ln lr => exact .eql_ptr_nil (a := some ⟨lb, 0, none⟩) rfl rfl) (.nil ⟨rfl, rfl, rfl, rfl⟩))))))) (.nil ?_)))
    rw [hbb]
    refine .cond rfl (fun _ => ?_) (fun h => absurd h (by simp))
    rw [hlk]
    refine .seq ((.region (.v (.move rfl) (.v (.move rfl) (.v (.nilCheck (a := ⟨b, 0, none⟩) rfl) (.v (.fieldAddr rfl) (.v (.indexAddrA1 rfl rfl (by omega) (by omega)) (.v (.load (v := l.ptr) rfl (.one rfl)) (.v (.nilCheck rfl) (.st (.store rfl rfl (by cases l <;> rfl) e2) (.nil ?_)))))))))))
    refine .mid (X := Tr) (fun _ => [(6, .pointer (some ⟨pb, 0, none⟩)), (9, .int .i64 u)]) (fun x => Pk pb cs :: (ZH tb fs x.ptr ++ x.H)) (fun x => x.Ok ∧ x.ht ≤ h + 1 ∧ h ≤ x.ht + 1 ∧ (ahead fs).length + x.toL.length + (behind fs).length ≤ 1000000000 ∧ dropT key t = plug fs x)
      (.seq ((.region (.v (.move rfl) (.v (.nilCheck (a := ⟨b, 0, none⟩) rfl) (.v (.fieldAddr rfl) (.v (.indexAddrA1 rfl rfl (by omega) (by omega)) (.v (.load (v := l.ptr) rfl (.one rfl)) ?_)))))))) ?_
    · cases l with
      | nil =>
        have e0 : Tr.nil.ht = 0 := rfl
        refine .v (.eql_ptr_nil (a := none) rfl rfl) (.nil ?_)
        refine .cond rfl (fun _ => ?_) (fun h => absurd h (by simp))
        refine .region (.v (.move rfl) (.v (.move rfl) (.v (.nilCheck (a := ⟨b, 0, none⟩) rfl) (.v (.fieldAddr rfl) (.v (.indexAddrA1 rfl rfl (by omega) (by omega)) (.v (.load (v := r.ptr) rfl (.one rfl)) (.v (.nilCheck rfl) (.st (.store rfl rfl (by cases r <;> rfl) (by simpa using e2)) (.nil ?_)))))))))
        refine ⟨r, ⟨or_, by omega, by omega, hb2, by rw [hdrop]; cases r <;> rfl⟩, .cons rfl (.cons rfl (.nil _)), fun _ s => ?_⟩
        rw [e3]
        rw [List.set_set] at s
        exact Sat.take (pre := Pk pb cs :: (((lb, .cells (c.set lo r.ptr) T) :: rest) ++ r.H)) s
      | node lb' ll lk lv lh ln lr =>
        obtain rfl : r = .nil := by rcases hone with h | h; cases h; exact h
        have e0 : Tr.nil.ht = 0 := rfl
        refine .v (.eql_ptr_nil (a := some ⟨lb', 0, none⟩) rfl rfl) (.nil ?_)
        refine .cond rfl (fun h => absurd h (by simp)) (fun _ => .skip ?_)
        refine ⟨.node lb' ll lk lv lh ln lr, ⟨ol, by omega, by omega, hb1, by rw [hdrop]; rfl⟩, .cons rfl (.cons rfl (.nil _)), fun _ s => ?_⟩
        rw [e3]
        exact Sat.take (pre := Pk pb cs :: (((lb, .cells (c.set lo (Tr.node lb' ll lk lv lh ln lr).ptr) T) :: rest) ++ (Tr.node lb' ll lk lv lh ln lr).H)) s
    · rintro x ⟨xo, x1, x2, xb, xd⟩
      have hxf : x.flat = x := Tr.flat_id xo
      refine .seq ((.region (.v (.move rfl) ?_)))
      refine .ef (.callT (Pk pb cs :: (ZH tb fs x.ptr ++ x.H)) rfl rfl fun w s => up_ok w tb pb fs x cs hI xo.nr h hzz' (by rw [hxf]; exact x1) (by rw [hxf]; exact x2) xb) ?_
      rintro _ _ ⟨_, rfl, rfl⟩
      refine .nil ?_
      refine .seq ((.region (.v (.move rfl) (.v (.assign rfl) (.v (.assign rfl) (.nil ?_))))))
      refine .ret ⟨[_, _], ⟨rfl, rfl, trivial⟩, TH tb (dropT key t), fun _ s => ?_, by rw [← hgv]; rfl, rfl⟩
      rw [xd]
      rw [hxf] at s
      exact Sat.take (pre := TH tb (plug fs x)) s
  · obtain ⟨⟨lb2, ll, lk, lv, lh, ln, lr, hL⟩, ⟨rb, rl, rk, rv, rh, rn, rr, hR⟩⟩ : (∃ lb ll lk lv lh ln lr, l = .node lb ll lk lv lh ln lr) ∧ ∃ rb rl rk rv rh rn rr, r = .node rb rl rk rv rh rn rr := by
      rcases two with h | h | h
      · exact absurd (.inl h) hone
      · exact absurd (.inr h) hone
      · exact h
    have hrne : r ≠ .nil := fun h => hone (.inr h)
    have hlp : l.ptr = .pointer (some ⟨lb2, 0, none⟩) := by rw [hL]; rfl
    have hrp : r.ptr = .pointer (some ⟨rb, 0, none⟩) := by rw [hR]; rfl
    refine .v (v := .bool false) (.eql_ptr_nil (a := some ⟨lb2, 0, none⟩) (by rw [← hlp]; rfl) rfl) (.v (.move rfl) (.or (b2 := false) 44 50 6 6 rfl rfl (fun g1 => .v (.move rfl) (.v (.nilCheck (a := ⟨b, 0, none⟩) rfl) (.v (.fieldAddr rfl) (.v (.indexAddrA1 rfl rfl (by omega) (by omega)) (.v (.load (v := r.ptr) rfl (.one rfl)) (.v (v := .bool false) (.eql_ptr_nil (a := some ⟨rb, 0, none⟩) (by rw [← hrp]; rfl) rfl) (.nil ⟨rfl, rfl, rfl, rfl⟩))))))) (.nil ?_)))
    refine .cond_false rfl (.skip ?_)
    have hls : (lks tb fs).length < 96 := by rw [lks_length]; have hh1 : (1 : Int) ≤ h := by omega
                                             have : (fs.length : Int) + h ≤ t.ht := hdep
                                             omega
    refine .seq ((.region (.v (.move rfl) (.v (.move rfl) (.v (.nilCheck (a := ⟨b, 0, none⟩) rfl) (.v (.fieldAddr rfl) (.v (.indexAddrA1 rfl rfl (by omega) (by omega)) ?_)))))))
    refine .ef (.callT [Pk pb cs] rfl rfl fun w s => down_ok w pb (lks tb fs) cs hI hls ⟨b, 4 + 1, none⟩) ?_
    rintro _ _ ⟨_, ⟨cs1, rfl, hI1⟩, rfl⟩
    refine .nil ?_
    obtain ⟨F, hF⟩ : ∃ F : Fr, F = ⟨b, true, key, u, h, n, l⟩ := ⟨_, rfl⟩
    have hI1' : PathI (lks tb (F :: fs)) cs1 := by rw [hF]; exact hI1
    have hraw1 : raw (F :: fs) r = t := by rw [hF]; exact hraw
    refine .heap (hs' := Pk pb cs1 :: (ZH tb (F :: fs) r.ptr ++ r.H)) (fun w s => by
      rw [hF]
      refine (Sat.perm (hs := Pk pb cs1 :: (ZH tb fs (Fr.fill ⟨b, true, key, u, h, n, l⟩ r).ptr ++ (Fr.fill ⟨b, true, key, u, h, n, l⟩ r).H)) ?_ (List.Perm.cons _ (zh_step tb ⟨b, true, key, u, h, n, l⟩ fs r).symm))
      show Sat _ _ (Pk pb cs1 :: (ZH tb fs (.pointer (some ⟨b, 0, none⟩)) ++ nb b key u h n l.ptr r.ptr :: (l.H ++ r.H))) w
      rw [e1]
      exact s) ?_
    refine .seq (.block (.loop (X := List Value × List Fr × Tr) (fun x => [(6, .pointer (some ⟨pb, 0, none⟩)), (8, .pointer (some ⟨b, 0, none⟩)), (9, .int .i64 u)]) (fun x => Pk pb x.1 :: (ZH tb (x.2.1 ++ F :: fs) x.2.2.ptr ++ x.2.2.H)) (fun x => PathI (lks tb (x.2.1 ++ F :: fs)) x.1 ∧ raw (x.2.1 ++ F :: fs) x.2.2 = t ∧ minway x.2.2 x.2.1 = minway r [] ∧ x.2.2 ≠ .nil) (fun x => x.2.2.mass)
      ⟨cs1, [], r⟩ ⟨hI1', hraw1, rfl, hrne⟩ (.cons rfl (.cons rfl (.cons rfl (.nil _)))) (fun _ s => s) ?_))
    rintro ⟨cs2, G, x⟩ ⟨hI2, hraw2, hmin, hne⟩
    dsimp only at hI2 hraw2 hmin hne ⊢
    cases x with
    | nil => exact absurd rfl hne
    | node bx xl k2 v2 h2 n2 xr =>
      have hlen2 := hI2.le
      rw [lks_length] at hlen2
      have hlast2 : cs2[(G ++ F :: fs).length]? = some (.pointer (some (lkA tb (G ++ F :: fs)))) := hI2.at_ _ _ (lks_last tb (G ++ F :: fs))
      have hnn2 : cs2[96]? = some (.int .i64 (((G ++ F :: fs).length : Int) + 1)) := by have := hI2.n; rw [lks_length] at this; simpa using this
      have hdep2 := zok_len (G ++ F :: fs) (.node bx xl k2 v2 h2 n2 xr) (by rw [hraw2]; exact ho)
      rw [hraw2] at hdep2
      obtain ⟨hso2, hzz2⟩ := zok_of (G ++ F :: fs) (.node bx xl k2 v2 h2 n2 xr) (by rw [hraw2]; exact ho)
      have hp2 := hso2.node_pos
      have hdep2' : ((G ++ F :: fs).length : Int) + h2 ≤ t.ht := hdep2
      generalize hm9 : (G ++ F :: fs).length = m9 at hlast2 hnn2 hlen2 hdep2'
      refine .heap (hs' := Pk pb cs2 :: (ZH tb (G ++ F :: fs) (.pointer (some ⟨bx, 0, none⟩)) ++ nb bx k2 v2 h2 n2 xl.ptr xr.ptr :: (xl.H ++ xr.H))) (fun _ s => s) ?_
      have hz2 : ∀ {hs'}, Pk pb cs2 :: ZH tb (G ++ F :: fs) (.pointer (some ⟨bx, 0, none⟩)) ⊆ hs' → ZH tb (G ++ F :: fs) (.pointer (some ⟨bx, 0, none⟩)) ⊆ hs' := fun f y hy => f (List.mem_cons_of_mem _ hy)
      refine .block (.seq ((.drawK (Pk pb cs2 :: ZH tb (G ++ F :: fs) (.pointer (some ⟨bx, 0, none⟩))) (by intro y hy; rcases List.mem_cons.1 hy with rfl | hy; exact List.mem_cons_self; exact List.mem_cons_of_mem _ (List.mem_append_left _ hy)) (by kernel_rfl) (by kernel_rfl) ?_)))
      refine .v (fun _ f => .move rfl) (.v (fun _ f => .move rfl) (.v (fun _ f => .nilCheck rfl) (.v (fun _ f => .fieldAddr rfl) (.v (fun _ f => .load (v := .int .i64 ((m9 : Int) + 1)) rfl (.one (l := cs2) (T := 59) (hb := .sub f) (by simpa using hnn2))) (.v (fun _ f => .subE (m9 : Int) rfl rfl (by omega) (by omega)) (.v (fun _ f => .nilCheck rfl) (.v (fun _ f => .fieldAddr rfl) (.v (fun _ f => .indexAddrA1 rfl rfl (by omega) (by omega)) ?_))))))))
      refine .v (fun _ f => .load (v := .pointer (some (lkA tb (G ++ F :: fs)))) rfl (.one (l := cs2) (T := 59) (hb := .sub f) (by simpa using hlast2))) (.v (fun _ f => .nilCheck rfl) (.v (fun _ f => .load (v := .pointer (some ⟨bx, 0, none⟩)) rfl (zh_link tb (G ++ F :: fs) _ (hz2 f))) (.v (fun _ f => .assign rfl) (.nil ?_))))
      refine .seq (.seq ((.region (.v (.move rfl) (.v (.nilCheck (a := ⟨bx, 0, none⟩) rfl) (.v (.fieldAddr rfl) (.v (.indexAddrA1 rfl rfl (by omega) (by omega)) (.v (.load (v := xl.ptr) rfl (.one rfl)) ?_))))))))
      cases xl with
      | node bl_ a1 a2 a3 a4 a5 a6 =>
        refine .v (.eql_ptr_nil (a := some ⟨bl_, 0, none⟩) rfl rfl) (.nil ?_)
        refine .cond_false rfl (.skip ?_)
        refine .region (.v (.move rfl) (.v (.move rfl) (.v (.nilCheck (a := ⟨bx, 0, none⟩) rfl) (.v (.fieldAddr rfl) (.v (.indexAddrA1 rfl rfl (by omega) (by omega)) ?_)))))
        refine .ef (.callT [Pk pb cs2] rfl rfl fun w s => down_ok w pb (lks tb (G ++ F :: fs)) cs2 hI2 (by rw [lks_length, hm9]; omega) ⟨bx, 4 + 0, none⟩) ?_
        rintro _ _ ⟨_, ⟨cs3, rfl, hI3⟩, rfl⟩
        refine .nil ?_
        refine ⟨⟨cs3, ⟨bx, false, k2, v2, h2, n2, xr⟩ :: G, .node bl_ a1 a2 a3 a4 a5 a6⟩, ⟨hI3, hraw2, ?_, by simp⟩, ?_, .cons rfl (.cons rfl (.cons rfl (.nil _))), fun _ s => ?_⟩
        · rw [← hmin]; rfl
        · show a1.mass + a6.mass + 1 < (a1.mass + a6.mass + 1) + xr.mass + 1; omega
        · refine s.perm (List.Perm.cons _ ?_)
          exact (zh_step tb ⟨bx, false, k2, v2, h2, n2, xr⟩ (G ++ F :: fs) (.node bl_ a1 a2 a3 a4 a5 a6)).symm
      | nil =>
        refine .v (.eql_ptr_nil (a := none) rfl rfl) (.nil ?_)
        refine .cond rfl (fun _ => .exit ?_) (fun h => absurd h (by simp))
        have hminr : minway r [] = (G, .node bx .nil k2 v2 h2 n2 xr) := by rw [← hmin]; rfl
        obtain ⟨F', hF'⟩ : ∃ F' : Fr, F' = { F with k := k2, v := v2 } := ⟨_, rfl⟩
        have hF'' : F' = ⟨b, true, k2, v2, h, n, l⟩ := by rw [hF', hF]
        have hplug : dropT key t = plug (G ++ F' :: fs) xr := by
          rw [hdrop, hF'']
          have : dropAt (fs, Tr.node b l key u h n r) = match (minway r []).2 with
            | .node _ _ k2 v2 _ _ y => plug ((minway r []).1 ++ ⟨b, true, k2, v2, h, n, l⟩ :: fs) y
            | .nil => .nil := by rw [hL, hR]; rfl
          rw [this, hminr]
        have hraw3 : raw (G ++ F' :: fs) (.node bx .nil k2 v2 h2 n2 xr) = raw fs (.node b l k2 v2 h n r) := by
          have h9 := minway_raw r (F' :: fs)
          rw [minway_app, hminr] at h9
          dsimp only at h9
          rw [h9, hF'']; rfl
        have ho3 : (raw (G ++ F' :: fs) (.node bx .nil k2 v2 h2 n2 xr)).Ok := by
          rw [hraw3]
          exact raw_swap fs (.node b l key u h n r) _ (by rw [hraw]; exact ho) ⟨ol, or_, oh, on, ob1, ob2⟩ rfl rfl
        obtain ⟨hso3, hzz3⟩ := zok_of _ _ ho3
        obtain ⟨_, y3, y4, y5, y6, y7⟩ := hso3
        have e0 : Tr.nil.ht = 0 := rfl
        have py := y3.ht_pos
        have hlen3 := raw_len (G ++ F' :: fs) (.node bx .nil k2 v2 h2 n2 xr)
        rw [hraw3, ← raw_len] at hlen3
        have hl5 : (Tr.node b l k2 v2 h n r).toL.length = (Tr.node b l key u h n r).toL.length := by simp [Tr.toL]
        have hl6 : (Tr.node bx .nil k2 v2 h2 n2 xr).toL.length = xr.toL.length + 1 := by simp [Tr.toL]
        obtain ⟨lp, rp, rest2, hsp⟩ := zh_split tb F fs G (.pointer (some ⟨bx, 0, none⟩))
        have hFe : ({ F with k := key, v := u } : Fr) = F := by rw [hF]
        have hsp1 := hsp key u
        rw [hFe] at hsp1
        have hsp2 := hsp k2 v2
        rw [← hF'] at hsp2
        have hFb : F.b = b ∧ F.h = h ∧ F.n = n := by rw [hF]; exact ⟨rfl, rfl, rfl⟩
        rw [hFb.1, hFb.2.1, hFb.2.2] at hsp1 hsp2
        have hlA : lkA tb (G ++ F' :: fs) = lkA tb (G ++ F :: fs) := by rw [hF']; exact lkA_kv tb F fs k2 v2 G
        have hlk9 : lks tb (G ++ F' :: fs) = lks tb (G ++ F :: fs) := by rw [hF']; exact lks_kv tb F fs k2 v2 G
        refine .seq ((.drawK [Pk pb cs2] (by intro y hy; simp at hy; subst hy; exact List.mem_cons_self) (by kernel_rfl) (by kernel_rfl) ?_))
        refine .v (fun _ f => .move rfl) (.v (fun _ f => .move rfl) (.v (fun _ f => .nilCheck rfl) (.v (fun _ f => .fieldAddr rfl) (.v (fun _ f => .load (v := .int .i64 ((m9 : Int) + 1)) rfl (.one (l := cs2) (T := 59) (hb := .sub f) (by simpa using hnn2))) (.v (fun _ f => .subE (m9 : Int) rfl rfl (by omega) (by omega)) (.v (fun _ f => .nilCheck rfl) (.v (fun _ f => .fieldAddr rfl) (.v (fun _ f => .indexAddrA1 rfl rfl (by omega) (by omega)) ?_))))))))
        refine .v (fun _ f => .load (v := .pointer (some (lkA tb (G ++ F :: fs)))) rfl (.one (l := cs2) (T := 59) (hb := .sub f) (by simpa using hlast2))) (.v (fun _ f => .assign rfl) (.nil ?_))
        have hz4 : ZH tb (G ++ F :: fs) (.pointer (some ⟨bx, 0, none⟩)) ⊆ Pk pb cs2 :: (ZH tb (G ++ F :: fs) (.pointer (some ⟨bx, 0, none⟩)) ++ nb bx k2 v2 h2 n2 Tr.nil.ptr xr.ptr :: (Tr.nil.H ++ xr.H)) := fun y hy => List.mem_cons_of_mem _ (List.mem_append_left _ hy)
        refine .seq ((.region (.v (.move rfl) (.v (.nilCheck rfl) (.v (.load (v := .pointer (some ⟨bx, 0, none⟩)) rfl (zh_link tb (G ++ F :: fs) _ hz4)) (.v (.assign rfl) (.nil ?_)))))))
        refine .heap (hs' := Pk pb cs2 :: (nb b key u h n lp rp :: rest2 ++ nb bx k2 v2 h2 n2 Tr.nil.ptr xr.ptr :: (Tr.nil.H ++ xr.H))) (fun _ s => s.perm (List.Perm.cons _ (List.Perm.append_right _ hsp1))) ?_
        refine .seq ((.drawY 12 [0, 1, 2, 3, 4, 5, 6, 7, 8, 9, 10, 11, 12, 13, 14, 15] [nb bx k2 v2 h2 n2 Tr.nil.ptr xr.ptr] (by intro y hy; simp at hy; subst hy; simp) (by kernel_rfl) (by kernel_rfl) ?_))
        refine .x (fun _ _ _ => .move rfl) (.x (fun _ _ _ => .move rfl) (.x (fun _ _ _ => .move rfl) (.v (fun _ f => .nilCheck (a := ⟨bx, 0, none⟩) rfl) (.x (fun _ _ _ => .fieldAddr rfl) (.v (fun _ f => .load (v := .int .i64 k2) rfl (.one (l := nc k2 v2 h2 n2 Tr.nil.ptr xr.ptr) (T := 63) (hb := .sub f) rfl)) (.x (fun _ _ _ => .move rfl) (.v (fun _ f => .nilCheck (a := ⟨bx, 0, none⟩) rfl) (.x (fun _ _ _ => .fieldAddr rfl) (.v (fun _ f => .load (v := .int .i64 v2) rfl (.one (l := nc k2 v2 h2 n2 Tr.nil.ptr xr.ptr) (T := 63) (hb := .sub f) rfl)) ?_)))))))))
        refine .v (fun _ f => .nilCheck rfl) (.x (fun _ _ _ => .fieldAddr rfl) (.st (.storeL rfl rfl rfl) (.w (.nilCheck rfl) (.x (fun _ _ _ => .fieldAddr rfl) (.st2 (.storeL rfl rfl rfl) (.nil ?_))))))
        obtain ⟨lb4, lo4, hlk4⟩ := lkA_ptr tb (G ++ F' :: fs)
        obtain ⟨c4, T4, rest4, e4, e5, e6⟩ := zh_set tb (G ++ F' :: fs) (.pointer (some ⟨bx, 0, none⟩))
        rw [← hlA, hlk4]
        rw [hlk4] at e4 e5 e6
        dsimp only at e4 e5 e6
        refine .heap (hs' := Pk pb cs2 :: (((lb4, .cells c4 T4) :: rest4) ++ nb bx k2 v2 h2 n2 Tr.nil.ptr xr.ptr :: (Tr.nil.H ++ xr.H))) (fun _ s => by
          rw [← e4]
          exact s.perm (List.Perm.cons _ (List.Perm.append_right _ hsp2.symm))) ?_
        refine .seq ((.region (.v (.move rfl) (.v (.move rfl) (.v (.nilCheck (a := ⟨bx, 0, none⟩) rfl) (.v (.fieldAddr rfl) (.v (.indexAddrA1 rfl rfl (by omega) (by omega)) (.v (.load (v := xr.ptr) rfl (.one rfl)) (.v (.nilCheck rfl) (.st (.store rfl rfl (by cases xr <;> rfl) e5) (.nil ?_)))))))))))
        refine .heap (hs' := Pk pb cs2 :: (ZH tb (G ++ F' :: fs) xr.ptr ++ xr.H)) (fun _ s => by
          rw [e6]
          exact Sat.take (pre := Pk pb cs2 :: (((lb4, .cells (c4.set lo4 xr.ptr) T4) :: rest4) ++ xr.H)) s) ?_
        have hxf : xr.flat = xr := Tr.flat_id y3
        refine .seq ((.region (.v (.move rfl) ?_)))
        refine .ef (.callT (Pk pb cs2 :: (ZH tb (G ++ F' :: fs) xr.ptr ++ xr.H)) rfl rfl fun w s => up_ok w tb pb (G ++ F' :: fs) xr cs2 (by rw [hlk9]; exact hI2) y3.nr h2 hzz3 (by rw [hxf]; omega) (by rw [hxf]; omega) (by omega)) ?_
        rintro _ _ ⟨_, rfl, rfl⟩
        refine .nil ?_
        refine .seq ((.region (.v (.move rfl) (.v (.assign rfl) (.v (.assign rfl) (.nil ?_))))))
        refine .ret ⟨[_, _], ⟨rfl, rfl, trivial⟩, TH tb (dropT key t), fun _ s => ?_, by rw [← hgv]; rfl, rfl⟩
        rw [hplug]
        rw [hxf] at s
        exact Sat.take (pre := TH tb (plug (G ++ F' :: fs) xr)) s
end Go.Proofs.Ytcmoeoghfckmpaa

/- Another tree with the same keys and values, in memory. -/
namespace Go.Proofs.Ytcmoeoghfckmpaa
open Go.V
open Tr
set_option linter.unusedVariables false
set_option linter.unusedSimpArgs false

/-- the same but for where it lies -/
def Sim : Tr → Tr → Prop
  | .nil, .nil => True
  | .node _ l k v h n r, .node _ l' k' v' h' n' r' => Sim l l' ∧ Sim r r' ∧ k' = k ∧ v' = v ∧ h' = h ∧ n' = n
  | _, _ => False
theorem Sim.same : ∀ {t t' : Tr}, Sim t t' → t'.toL = t.toL ∧ t'.ht = t.ht ∧ t'.sz = t.sz ∧ (t.Ok → t'.Ok)
  | .nil, .nil, _ => ⟨rfl, rfl, rfl, id⟩
  | .node _ l k v h n r, .node _ l' k' v' h' n' r', s => by
    obtain ⟨s1, s2, rfl, rfl, rfl, rfl⟩ := s
    obtain ⟨a1, a2, a3, a4⟩ := s1.same
    obtain ⟨b1, b2, b3, b4⟩ := s2.same
    refine ⟨by simp [Tr.toL, a1, b1], rfl, rfl, ?_⟩
    rintro ⟨o1, o2, o3, o4, o5, o6⟩
    exact ⟨a4 o1, b4 o2, by rw [a2, b2]; exact o3, by rw [a3, b3]; exact o4, by rw [a2, b2]; exact o5, by rw [a2, b2]; exact o6⟩
  | .nil, .node _ _ _ _ _ _ _, s => s.elim
  | .node _ _ _ _ _ _ _, .nil, s => s.elim
set_option maxRecDepth 10000 in
theorem twin_ok : ∀ (t : Tr) (w : World), t.Rdd w → Does Try.prog 27 [t.ptr] [] w (fun u hs => ∃ t', Sim t t' ∧ u = t'.ptr ∧ hs = t'.H)
  | .nil, w, _ => by
    refine Does.less (Does.of (n := 23) Try.func27 rfl rfl rfl rfl ?_)
    refine .seq ((.region (.v (.assign rfl) (.nil ?_))))
    refine .seq (.seq ((.region (.v (.move rfl) (.v (.eql_ptr_nil (a := none) rfl rfl) (.nil ?_))))))
    refine .cond rfl (fun _ => ?_) (fun h => absurd h (by simp))
    refine .seq ((.region (.v (.assign rfl) (.nil ?_))))
    exact .ret ⟨[_], ⟨rfl, trivial⟩, [], fun _ s => s, .nil, trivial, rfl, rfl⟩
  | .node b l k v h n r, w, hR => by
    refine Does.less (Does.of (n := 23) Try.func27 rfl rfl rfl rfl ?_)
    refine .seq ((.region (.v (.assign rfl) (.nil ?_))))
    refine .seq (.seq ((.region (.v (.move rfl) (.v (.eql_ptr_nil (a := some ⟨b, 0, none⟩) rfl rfl) (.nil ?_))))))
    refine .cond rfl (fun h => absurd h (by simp)) (fun _ => .skip ?_)
    refine .seq ((.region (.v (.move rfl) (.v (.nilCheck (a := ⟨b, 0, none⟩) rfl) (.v (.loadA (vs := nc k v h n l.ptr r.ptr) rfl (Rd.whole hR.1) rfl) (.nw .alloc fun b3 => (.st (.sw rfl rfl rfl (by
      cases l <;> cases r <;> rfl)) (.nil ?_))))))))
    refine .seq ((.drawQ 14 [0, 1, 2, 3, 4, 6, 7, 8, 9, 10, 5, 11, 12, 13, 14] [] (List.nil_subset _) (by kernel_rfl) (by kernel_rfl) ?_))
    refine .v (fun _ f => .move rfl) (.v (fun _ f => .nilCheck (a := ⟨b, 0, none⟩) rfl) (.v (fun _ f => .fieldAddr rfl) (.v (fun _ f => .indexAddrA1 rfl rfl (by omega) (by omega)) (.v (fun hs' f => .load (v := l.ptr) rfl (Rd.cell (hs := hs') hR.1 (i := 4 + 0) rfl)) (.v (fun _ f => .move rfl) (.v (fun _ f => .nilCheck (a := ⟨b, 0, none⟩) rfl) (.v (fun _ f => .fieldAddr rfl) (.v (fun _ f => .indexAddrA1 rfl rfl (by omega) (by omega)) (.v (fun hs' f => .load (v := r.ptr) rfl (Rd.cell (hs := hs') hR.1 (i := 4 + 1) rfl)) ?_)))))))))
    refine .ef (.call0 rfl rfl fun w s => twin_ok l w (hR.2.1.keep s rfl)) (fun _ _ _ _ => List.nil_subset _) ?_
    rintro _ _ ⟨_, ⟨l', sl, rfl, rfl⟩, rfl⟩
    refine .ef (.call0 rfl rfl fun w s => twin_ok r w (hR.2.2.keep s rfl)) (fun _ _ _ _ => List.nil_subset _) ?_
    rintro _ _ ⟨_, ⟨r', sr, rfl, rfl⟩, rfl⟩
    refine .v (fun _ f => .buildArr (out := [l'.ptr, r'.ptr]) rfl (by cases l' <;> cases r' <;> rfl)) (.v (fun _ f => .fieldAddr rfl) (.st (.storeA (l := nc k v h n l.ptr r.ptr) rfl rfl rfl (by cases l' <;> cases r' <;> rfl) (by simp)) (.nil ?_)))
    refine .seq ((.region (.v (.assign rfl) (.nil ?_))))
    refine .ret ⟨[_], ⟨rfl, trivial⟩, (Tr.node b3 l' k v h n r').H, fun _ s => ?_, .node b3 l' k v h n r', ⟨sl, sr, rfl, rfl, rfl, rfl⟩, rfl, rfl⟩
    exact Sat.take (pre := nb b3 k v h n l'.ptr r'.ptr :: (l'.H ++ r'.H)) (hs := r'.H ++ (l'.H ++ [nb b3 k v h n l'.ptr r'.ptr])) s
theorem Clone_ok (w : World) (tb : Nat) (t : Tr) (hR : TRd w tb t) : Does Try.prog 9 [.pointer (some ⟨tb, 0, none⟩)] [] w (fun u hs => ∃ b' t', Sim t t' ∧ u = .pointer (some ⟨b', 0, none⟩) ∧ hs = TH b' t') := by
  refine Does.less (Does.of (n := 10) Try.func9 rfl rfl rfl rfl ?_)
  refine .seq ((.region (.v (.assign rfl) (.nil ?_))))
  refine .seq ((.region (.v (.move rfl) (.v (.nilCheck rfl) (.v (.fieldAddr rfl) (.v (.load (v := t.ptr) rfl (Rd.cell hR.1 rfl)) ?_))))))
  refine .ef (.call0 rfl rfl fun w s => twin_ok t w (hR.keep0 s).2) ?_
  rintro _ _ ⟨_, ⟨t', st, rfl, rfl⟩, rfl⟩
  refine .v (.build (out := [t'.ptr]) rfl (by cases t' <;> rfl)) (.nw (.box rfl rfl) fun b9 => (.v (.assign rfl) (.nil ?_)))
  exact .ret ⟨[_], ⟨rfl, trivial⟩, TH b9 t', fun _ s => Sat.take (pre := (b9, .cells [t'.ptr] 26) :: t'.H) s, b9, t', st, rfl, rfl⟩
end Go.Proofs.Ytcmoeoghfckmpaa

/- VF: from the data that come in to the words of V. -/
namespace Go
namespace V
open Go.RowKit Go.ChangeShapes Go.WideShapes Go.ChangeAt
set_option linter.unusedVariables false

theorem Does.calls {P : Program} {g : Nat} {vals : List Value} {w : World} {R : Value → Hp → Prop} (h : Does P g vals [] w R) : Calls P g ⟨vals⟩ w fun e w' => (∃ v hs, e = .returned v ∧ R v hs) ∧ Below w.heap.size w w' :=
  (h (fun _ _ h => (List.not_mem_nil h).elim) (by simp [bl])).mono fun e w' ⟨v, hs, h1, h2, h3⟩ => ⟨⟨v, hs, h1, h2⟩, (Sat.sub (hs' := []) h3 (List.nil_sublist _)).below⟩

/-- numbers of a slice as they are read -/
def ints (k : IntKind) (zs : List Int) : List Value := zs.map (.int k)
theorem open_slice_ints {H : Type} {enc : TypeId × Value → H} {P : Program} {W : World} {base : Nat} {spare : Nat → Bool} {held : Bool} {t e : Nat} {k : IntKind} {a0 : Option Addr} {len cap : Nat} {d : DataW H} {p : List MemPlace}
    (ht : P.underlying t = some (.slice e)) (he : P.underlying e = some (.int k)) (hc : P.cellsOf e = 1)
    (h : DataW.Trod enc P W base spare held t (.slice a0 len cap) d p) :
    ∃ zs : List Int, Rd W [] a0 (ints k zs) ∧ len = zs.length ∧ (∀ n ∈ zs, (Lit.int k n).wf = true) ∧ (len = 0 ∨ ∃ elems sp, d = .slice elems sp ∧ elems.length = len) := by
  obtain ⟨fuel, hf⟩ := h
  rcases open_ints ht he hc hf with ⟨hcs, hx⟩ | ⟨x, l, c, zs, hcs, _, hl, hm, hz, hx, hcell, hwz⟩
  · simp [Value.cells] at hcs
    obtain ⟨rfl, rfl, rfl⟩ := hcs
    exact ⟨[], Rd.nil _ _ _, rfl, by simp, .inl rfl⟩
  · simp [Value.cells] at hcs
    obtain ⟨rfl, rfl, rfl⟩ := hcs
    have hzl : len ≤ zs.length := by split at hz <;> omega
    refine ⟨zs.take len, ?_, by simp; omega, fun n hn => hwz n (List.mem_of_mem_take hn), .inr ?_⟩
    · intro j v hv
      have hj : j < len := by
        have := (List.getElem?_eq_some_iff.1 hv).1
        simp [ints] at this; omega
      have hjz : j < zs.length := by omega
      have hcj := hcell j hjz
      obtain ⟨b, o, sp⟩ := x
      have hspot : sp = none := by simpa [Addr.add] using World.cell?_spot (hcell 0 (by omega))
      subst hspot
      refine ⟨b, o, rfl, by simp, ?_⟩
      rw [add_none] at hcj
      rw [hcj]
      simp [ints, hj, hjz] at hv
      simp [List.getElem?_eq_getElem hjz, hv]
    · simp only [Prod.mk.injEq] at hx
      exact ⟨_, _, hx.1, by simp [lits]; omega⟩
theorem wf_u8 {n : Int} (h : (Lit.int .u8 n).wf = true) : 0 ≤ n ∧ n ≤ 255 := by
  simpa [Lit.wf, IntKind.min, IntKind.max, IntKind.signed, IntKind.bits] using h
theorem ints_bytes {zs : List Int} (h : ∀ n ∈ zs, (Lit.int .u8 n).wf = true) : ∃ xs : List (BitVec 8), ints .u8 zs = byts xs ∧ xs.length = zs.length := by
  refine ⟨zs.map fun n => BitVec.ofNat 8 n.toNat, ?_, by simp⟩
  simp only [ints, byts, List.map_map]
  apply List.map_congr_left
  intro n hn
  have := wf_u8 (h n hn)
  simp
  omega
theorem open_bytes {H : Type} {enc : TypeId × Value → H} {P : Program} {W : World} {base : Nat} {spare : Nat → Bool} {held : Bool} {t e : Nat} {a0 : Option Addr} {len cap : Nat} {d : DataW H} {p : List MemPlace}
    (ht : P.underlying t = some (.slice e)) (he : P.underlying e = some (.int .u8)) (hc : P.cellsOf e = 1)
    (h : DataW.Trod enc P W base spare held t (.slice a0 len cap) d p) :
    ∃ xs : List (BitVec 8), Rd W [] a0 (byts xs) ∧ len = xs.length ∧ (len = 0 ∨ ∃ elems sp, d = .slice elems sp ∧ elems.length = len) := by
  obtain ⟨zs, h1, h2, h3, h4⟩ := open_slice_ints ht he hc h
  obtain ⟨xs, e1, e2⟩ := ints_bytes h3
  exact ⟨xs, e1 ▸ h1, by omega, h4⟩
end V
end Go

/- What the laws of trees need: a tree in memory by its keys and values. -/
namespace Go.Proofs.Ytcmoeoghfckmpaa
open Go.V
open Tr
set_option linter.unusedVariables false
set_option linter.unusedSimpArgs false

theorem getL_ins (k k' v : Int) : ∀ L : List (Int × Int), getL k (insL k' v L) = if k = k' then some v else getL k L
  | [] => by
    by_cases h : k = k'
    · simp [insL, getL, h]
    · simp [insL, getL, h, Ne.symm h]
  | x :: L => by
    have ih := getL_ins k k' v L
    unfold insL
    split
    · rename_i h1
      by_cases h : k = k'
      · simp [getL, h]
      · rw [if_neg h]; simp [getL, Ne.symm h, List.find?_cons]
    · split
      · rename_i h1 h2
        by_cases h : k = k'
        · simp [getL, h]
        · rw [if_neg h]
          have : ¬ x.1 = k := by omega
          simp [getL, Ne.symm h, List.find?_cons, this]
      · rename_i h1 h2
        by_cases h : k = k'
        · rw [if_pos h] at ih ⊢
          have : ¬ x.1 = k := by omega
          simpa [getL, List.find?_cons, this] using ih
        · rw [if_neg h] at ih ⊢
          unfold getL at ih ⊢
          rw [List.find?_cons, List.find?_cons]
          split
          · rfl
          · exact ih
theorem getL_del (k k' : Int) : ∀ L : List (Int × Int), getL k (delL k' L) = if k = k' then none else getL k L
  | [] => by by_cases h : k = k' <;> simp [delL, getL, h]
  | x :: L => by
    have ih := getL_del k k' L
    unfold delL at ih ⊢
    by_cases hx : x.1 = k'
    · rw [List.filter_cons_of_neg (by simp [hx]), ih]
      by_cases h : k = k'
      · rw [if_pos h, if_pos h]
      · rw [if_neg h, if_neg h]
        have : ¬ x.1 = k := by omega
        simp [getL, List.find?_cons, this]
    · rw [List.filter_cons_of_pos (by simp [hx])]
      by_cases h : k = k'
      · rw [if_pos h] at ih ⊢
        have : ¬ x.1 = k := by omega
        simpa [getL, List.find?_cons, this] using ih
      · rw [if_neg h] at ih ⊢
        unfold getL at ih ⊢
        rw [List.find?_cons, List.find?_cons]
        split
        · rfl
        · exact ih
theorem insL_len (k v : Int) : ∀ L : List (Int × Int), L.length ≤ (insL k v L).length ∧ (insL k v L).length ≤ L.length + 1
  | [] => by simp [insL]
  | x :: L => by
    have ih := insL_len k v L
    unfold insL
    split
    · simp
    · split
      · simp
      · simp only [List.length_cons]; omega
theorem delL_len (k : Int) (L : List (Int × Int)) : (delL k L).length ≤ L.length := List.length_filter_le _ _
theorem getL_mem {k v : Int} {L : List (Int × Int)} (h : getL k L = some v) : (k, v) ∈ L := by
  unfold getL at h
  cases hf : L.find? (fun x => decide (x.1 = k)) with
  | none => rw [hf] at h; cases h
  | some x =>
    rw [hf] at h
    have h1 := List.find?_some hf
    have h2 := List.mem_of_find?_eq_some hf
    obtain ⟨a, c⟩ := x
    have h3 : c = v := by simpa using h
    have h1 : a = k := by simpa using h1
    subst h1; subst h3; exact h2
/-- a flat tree of these keys and values -/
structure TOk (t : Tr) (L : List (Int × Int)) : Prop where
  ok : t.Ok
  k : Keyed L
  l : t.toL = L
theorem TOk.nil : TOk .nil [] := ⟨trivial, List.Pairwise.nil, rfl⟩
theorem TOk.sim {t t' : Tr} {L : List (Int × Int)} (h : TOk t L) (s : Sim t t') : TOk t' L := ⟨s.same.2.2.2 h.ok, h.k, s.same.1.trans h.l⟩
theorem TPut (w : World) (tb : Nat) {t : Tr} {L : List (Int × Int)} (h : TOk t L) (key v : Int) (hM : L.length ≤ 900000000) :
    Does Try.prog 8 [.pointer (some ⟨tb, 0, none⟩), .int .i64 key, .int .i64 v] (TH tb t) w (fun u hs => ∃ t', TOk t' (insL key v L) ∧ u = gv (getL key L) ∧ hs = TH tb t') := by
  have hk : Keyed t.toL := by rw [h.l]; exact h.k
  refine (Put_ok w tb t key v h.ok hk (by rw [h.l]; exact hM)).mono ?_
  rintro u hs ⟨b', rfl, rfl⟩
  obtain ⟨p1, p2⟩ := put_is b' key v h.ok hk
  exact ⟨_, ⟨p1, (insL_keyed key v L h.k).1, by rw [p2, h.l]⟩, by rw [h.l], rfl⟩
theorem TDrop (w : World) (tb : Nat) {t : Tr} {L : List (Int × Int)} (h : TOk t L) (key : Int) (hM : L.length ≤ 900000000) :
    Does Try.prog 11 [.pointer (some ⟨tb, 0, none⟩), .int .i64 key] (TH tb t) w (fun u hs => ∃ t', TOk t' (delL key L) ∧ u = gv (getL key L) ∧ hs = TH tb t') := by
  have hk : Keyed t.toL := by rw [h.l]; exact h.k
  refine (Drop_ok w tb t key h.ok hk (by rw [h.l]; exact hM)).mono ?_
  rintro u hs ⟨rfl, rfl⟩
  obtain ⟨p1, p2⟩ := drop_is key h.ok hk
  exact ⟨_, ⟨p1, delL_keyed key h.k, by rw [p2, h.l]⟩, by rw [h.l], rfl⟩
section
variable {w0 w : World} {own : List Nat} {hs fr : Hp} {tb : Nat} {t : Tr} {L : List (Int × Int)}
theorem TGet (s : Sat w0 own hs w) (h : TOk t L) (key : Int) [tk : TakeI (TH tb t) hs fr] : Is Try.prog 12 [.pointer (some ⟨tb, 0, none⟩), .int .i64 key] w (gv (getL key L)) := by
  have := Get_ok w tb t key (by rw [h.l]; exact h.k) (TRd.of (s.take (pre := TH tb t)) (fun _ h => h))
  rwa [h.l] at this
theorem TLen (s : Sat w0 own hs w) (h : TOk t L) [tk : TakeI (TH tb t) hs fr] : Is Try.prog 10 [.pointer (some ⟨tb, 0, none⟩)] w (.int .i64 L.length) := by
  have := Len_ok w tb t h.ok (TRd.of (s.take (pre := TH tb t)) (fun _ h => h))
  rwa [h.l] at this
theorem TRank (s : Sat w0 own hs w) (h : TOk t L) (key : Int) (hM : L.length ≤ 1000000000) [tk : TakeI (TH tb t) hs fr] : Is Try.prog 16 [.pointer (some ⟨tb, 0, none⟩), .int .i64 key] w (.int .i64 (rnkL key L)) := by
  have := Rank_ok w tb t key h.ok (by rw [h.l]; exact h.k) (by rw [h.l]; exact hM) (TRd.of (s.take (pre := TH tb t)) (fun _ h => h))
  rwa [h.l] at this
theorem TAt (s : Sat w0 own hs w) (h : TOk t L) (i : Int) (hM : L.length ≤ 1000000000) [tk : TakeI (TH tb t) hs fr] : Is Try.prog 15 [.pointer (some ⟨tb, 0, none⟩), .int .i64 i] w (gv (atL i L)) := by
  have := At_ok w tb t i h.ok (by rw [h.l]; exact hM) (TRd.of (s.take (pre := TH tb t)) (fun _ h => h))
  rwa [h.l] at this
theorem TMin (s : Sat w0 own hs w) (h : TOk t L) [tk : TakeI (TH tb t) hs fr] : Is Try.prog 17 [.pointer (some ⟨tb, 0, none⟩)] w (gv (atL 0 L)) := by
  have := Min_ok w tb t (TRd.of (s.take (pre := TH tb t)) (fun _ h => h))
  rwa [h.l] at this
theorem TMax (s : Sat w0 own hs w) (h : TOk t L) [tk : TakeI (TH tb t) hs fr] : Is Try.prog 20 [.pointer (some ⟨tb, 0, none⟩)] w (gv (atL ((L.length : Int) - 1) L)) := by
  have := Max_ok w tb t (TRd.of (s.take (pre := TH tb t)) (fun _ h => h))
  rwa [h.l] at this
theorem TAbove (s : Sat w0 own hs w) (h : TOk t L) (key : Int) (hM : L.length ≤ 1000000000) [tk : TakeI (TH tb t) hs fr] : Is Try.prog 18 [.pointer (some ⟨tb, 0, none⟩), .int .i64 key] w (gv (abvL key L)) := by
  have := Above_ok w tb t key h.ok (by rw [h.l]; exact h.k) (by rw [h.l]; exact hM) (TRd.of (s.take (pre := TH tb t)) (fun _ h => h))
  rwa [h.l] at this
theorem TBelow (s : Sat w0 own hs w) (h : TOk t L) (key : Int) (hM : L.length ≤ 1000000000) [tk : TakeI (TH tb t) hs fr] : Is Try.prog 19 [.pointer (some ⟨tb, 0, none⟩), .int .i64 key] w (gv (atL ((rnkL key L : Int) - 1) L)) := by
  have := Below_ok w tb t key h.ok (by rw [h.l]; exact h.k) (by rw [h.l]; exact hM) (TRd.of (s.take (pre := TH tb t)) (fun _ h => h))
  rwa [h.l] at this
theorem THeight (s : Sat w0 own hs w) [tk : TakeI (TH tb t) hs fr] : Is Try.prog 14 [.pointer (some ⟨tb, 0, none⟩)] w (.int .i64 t.ht) :=
  Height_ok w tb t (TRd.of (s.take (pre := TH tb t)) (fun _ h => h))
end
/-- numbers of a slice, loaded -/
theorem ints_at {w : World} {own : List Nat} {hs : Hp} {b o : Nat} {l : List Int} (h : Rd w own (some ⟨b, o, none⟩) (ints .i64 l)) {i : Nat} (hi : i < l.length) {z : Int} (hz : z.toNat = i) : At w own hs ⟨b, o + z.toNat, none⟩ [.int .i64 l[i]] := by
  subst hz
  exact h.cell (by simp [ints, hi])
theorem ints_base {w : World} {own : List Nat} {A : Option Addr} {l : List Int} (h : Rd w own A (ints .i64 l)) (hn : 0 < l.length) : ∃ b o, A = some ⟨b, o, none⟩ := by
  obtain ⟨b, o, e, _⟩ := h.base (by simpa [ints] using hn)
  exact ⟨b, o, e⟩
end Go.Proofs.Ytcmoeoghfckmpaa

/- VMA: maps whose keys are numbers, told as functions. -/
namespace Go
namespace V
open Go.RowKit
set_option linter.unusedVariables false
set_option linter.unusedSimpArgs false

theorem mfind_none (k : Int) : ∀ (es : List ME) (i : Nat), mfind k es i = none ↔ ∀ y ∈ es, y.1 ≠ k
  | [], i => by simp [mfind]
  | x :: es, i => by
    unfold mfind
    cases hk : k == x.1 with
    | true =>
      have := beq_iff_eq.1 hk
      simp only [if_true, reduceCtorEq, List.mem_cons, false_iff]
      exact fun h => h x (.inl rfl) this.symm
    | false =>
      have hne : x.1 ≠ k := fun e => by rw [e] at hk; simp at hk
      simp only [Bool.false_eq_true, if_false, List.mem_cons]
      rw [mfind_none k es (i + 1)]
      exact ⟨fun h y hy => by rcases hy with rfl | hy; exact hne; exact h y hy, fun h y hy => h y (.inr hy)⟩
theorem mfind_app (k : Int) : ∀ (a b : List ME) (i : Nat), mfind k (a ++ b) i = match mfind k a i with | some x => some x | none => mfind k b (i + a.length)
  | [], b, i => by simp [mfind]
  | x :: a, b, i => by
    simp only [List.cons_append, mfind]
    cases hk : k == x.1 with
    | true => simp
    | false => simp only [Bool.false_eq_true, if_false]; rw [mfind_app k a b (i + 1), List.length_cons, show i + 1 + a.length = i + (a.length + 1) from by omega]
/-- each key once, each birth once, all of them past -/
structure MOk (es : List ME) (c : Nat) : Prop where
  k : (es.map (·.1)).Nodup
  b : (es.map (·.2.2)).Nodup
  c : ∀ y ∈ es, y.2.2 < c
theorem MOk.nil : MOk [] 0 := ⟨by simp, by simp, by simp⟩
theorem mget_eq (k : Int) : ∀ (es : List ME), mget k es = (es.find? fun y => k == y.1).map (·.2.1) := by
  intro es
  unfold mget
  suffices h : ∀ (es : List ME) (i : Nat), (mfind k es i).map (·.2) = (es.find? fun y => k == y.1).map (·.2.1) from h es 0
  intro es
  induction es with
  | nil => intro i; simp [mfind]
  | cons x es ih =>
    intro i
    unfold mfind
    rw [List.find?_cons]
    cases hk : k == x.1 with
    | true => simp
    | false => simpa using ih (i + 1)
theorem mget_none {k : Int} {es : List ME} : mget k es = none ↔ ∀ y ∈ es, y.1 ≠ k := by
  unfold mget
  rw [Option.map_eq_none_iff]
  exact mfind_none k es 0
theorem mget_some {k : Int} {es : List ME} {v : Value} (h : mget k es = some v) : ∃ y ∈ es, y.1 = k ∧ y.2.1 = v := by
  rw [mget_eq] at h
  cases hf : es.find? (fun y => k == y.1) with
  | none => rw [hf] at h; cases h
  | some y =>
    rw [hf] at h
    have h1 := List.find?_some hf
    exact ⟨y, List.mem_of_find?_eq_some hf, (beq_iff_eq.1 h1).symm, by simpa using h⟩
theorem nodup_inj {α β : Type} {f : α → β} : ∀ {l : List α}, (l.map f).Nodup → ∀ {x y : α}, x ∈ l → y ∈ l → f x = f y → x = y
  | [], _, x, y, hx, _, _ => by cases hx
  | a :: l, h, x, y, hx, hy, e => by
    simp only [List.map_cons, List.nodup_cons] at h
    rcases List.mem_cons.1 hx with hx1 | hx1 <;> rcases List.mem_cons.1 hy with hy1 | hy1
    · rw [hx1, hy1]
    · exact absurd (List.mem_map.2 ⟨y, hy1, by rw [← e, hx1]⟩) h.1
    · exact absurd (List.mem_map.2 ⟨x, hx1, by rw [e, hy1]⟩) h.1
    · exact nodup_inj h.2 hx1 hy1 e
theorem MOk.get {es : List ME} {c : Nat} (h : MOk es c) {y : ME} (hy : y ∈ es) : mget y.1 es = some y.2.1 := by
  cases hg : mget y.1 es with
  | none => exact absurd rfl (mget_none.1 hg y hy)
  | some v =>
    obtain ⟨z, hz, e1, e2⟩ := mget_some hg
    have := nodup_inj h.k hz hy e1
    subst this
    rw [← e2]
theorem mset_old {k : Int} {v u : Value} {es : List ME} {c i : Nat} (h : mfind k es 0 = some (i, u)) : mset k v es c = (es.modify i fun x => (k, v, x.2.2), c) := by
  unfold mset; rw [h]
theorem mset_new {k : Int} {v : Value} {es : List ME} {c : Nat} (h : mfind k es 0 = none) : mset k v es c = (es ++ [(k, v, c)], c + 1) := by
  unfold mset; rw [h]
theorem mfind_split {k : Int} {es : List ME} {i : Nat} {u : Value} (h : mfind k es 0 = some (i, u)) : ∃ x, es = es.take i ++ x :: es.drop (i + 1) ∧ x.1 = k ∧ i < es.length ∧ ∀ f : ME → ME, es.modify i f = es.take i ++ f x :: es.drop (i + 1) := by
  obtain ⟨_, x, h1, h2, h3⟩ := mfind_key k es 0 i u h
  rw [Nat.sub_zero] at h1
  obtain ⟨hi, rfl⟩ := List.getElem?_eq_some_iff.1 h1
  exact ⟨es[i], by rw [← List.drop_eq_getElem_cons hi, List.take_append_drop], h2, hi, fun f => List.modify_eq_take_cons_drop hi⟩
theorem MOk.set {es : List ME} {c : Nat} (h : MOk es c) (k : Int) (v : Value) : MOk (mset k v es c).1 (mset k v es c).2 := by
  cases hf : mfind k es 0 with
  | none =>
    rw [mset_new hf]
    have hn := (mfind_none k es 0).1 hf
    refine ⟨?_, ?_, ?_⟩
    · simp only [List.map_append, List.map_cons, List.map_nil]
      rw [List.nodup_append]
      refine ⟨h.k, by simp, fun a ha b hb => ?_⟩
      simp at hb; subst hb
      obtain ⟨y, hy, rfl⟩ := List.mem_map.1 ha
      exact hn y hy
    · simp only [List.map_append, List.map_cons, List.map_nil]
      rw [List.nodup_append]
      refine ⟨h.b, by simp, fun a ha b hb => ?_⟩
      simp at hb; subst hb
      obtain ⟨y, hy, rfl⟩ := List.mem_map.1 ha
      have := h.c y hy; omega
    · intro y hy
      rcases List.mem_append.1 hy with hy | hy
      · exact Nat.lt_succ_of_lt (h.c y hy)
      · simp at hy; subst hy; exact Nat.lt_succ_self _
  | some x =>
    obtain ⟨i, u⟩ := x
    rw [mset_old hf]
    obtain ⟨x, e1, e2, _, e3⟩ := mfind_split hf
    dsimp only
    rw [e3]
    have hk := h.k
    have hb := h.b
    rw [e1] at hk hb
    refine ⟨?_, ?_, fun y hy => ?_⟩
    · simp only [List.map_append, List.map_cons] at hk ⊢
      rw [← e2]; exact hk
    · simp only [List.map_append, List.map_cons] at hb ⊢
      exact hb
    · rcases List.mem_append.1 hy with hy | hy
      · exact h.c y (List.mem_of_mem_take hy)
      · rcases List.mem_cons.1 hy with rfl | hy
        · exact h.c x (by rw [e1]; simp)
        · exact h.c y (List.mem_of_mem_drop hy)
theorem mget_set (j k : Int) (v : Value) (es : List ME) (c : Nat) : mget j (mset k v es c).1 = if j = k then some v else mget j es := by
  cases hf : mfind k es 0 with
  | none =>
    rw [mset_new hf]
    have hn := (mfind_none k es 0).1 hf
    rw [mget_eq, mget_eq, List.find?_append]
    by_cases e : j = k
    · subst e
      rw [if_pos rfl, List.find?_eq_none.2 (fun y hy => by have := hn y hy; simp [Ne.symm this])]
      simp
    · rw [if_neg e]
      have : (j == k) = false := by simpa using e
      simp [List.find?_cons, this]
  | some x =>
    obtain ⟨i, u⟩ := x
    rw [mset_old hf]
    obtain ⟨x, e1, e2, _, e3⟩ := mfind_split hf
    dsimp only
    rw [e3, mget_eq, mget_eq]
    have hnb : ∀ y ∈ es.take i, y.1 ≠ k := by
      intro y hy e
      have hfirst : mfind k (es.take i ++ x :: es.drop (i + 1)) 0 = some (i, u) := by rw [← e1]; exact hf
      rw [mfind_app] at hfirst
      cases h0 : mfind k (es.take i) 0 with
      | none => exact (mfind_none k _ 0).1 h0 y hy e
      | some z =>
        rw [h0] at hfirst
        have hz : z = (i, u) := Option.some.inj hfirst
        subst hz
        obtain ⟨_, y', h1, _⟩ := mfind_key k _ 0 i u h0
        have := (List.getElem?_eq_some_iff.1 h1).1
        simp at this
        omega
    by_cases e : j = k
    · subst e
      rw [if_pos rfl, List.find?_append, List.find?_eq_none.2 (fun y hy => by have := hnb y hy; simp [Ne.symm this])]
      simp
    · rw [if_neg e]
      have h1 : (j == k) = false := by simpa using e
      have h2 : (j == x.1) = false := by rw [e2]; exact h1
      conv => rhs; rw [e1]
      rw [List.find?_append, List.find?_append, List.find?_cons, List.find?_cons, h1, h2]
theorem mset_len (k : Int) (v : Value) (es : List ME) (c : Nat) : (mset k v es c).1.length = es.length + if (mget k es).isSome then 0 else 1 := by
  unfold mget
  cases hf : mfind k es 0 with
  | none => rw [mset_new hf]; simp
  | some x => obtain ⟨i, u⟩ := x; rw [mset_old hf]; simp
theorem MOk.del {es : List ME} {c : Nat} (h : MOk es c) (k : Int) : MOk (mdel k es) c := by
  unfold mdel
  cases mfind k es 0 with
  | none => exact h
  | some x => exact ⟨h.k.sublist ((List.eraseIdx_sublist _ _).map _), h.b.sublist ((List.eraseIdx_sublist _ _).map _), fun y hy => h.c y ((List.eraseIdx_sublist _ _).subset hy)⟩
theorem mget_del {es : List ME} {c : Nat} (h : MOk es c) (j k : Int) : mget j (mdel k es) = if j = k then none else mget j es := by
  unfold mdel
  cases hf : mfind k es 0 with
  | none =>
    by_cases e : j = k
    · subst e; rw [if_pos rfl, mget_none]; exact (mfind_none j es 0).1 hf
    · rw [if_neg e]
  | some x =>
    obtain ⟨i, u⟩ := x
    obtain ⟨x, e1, e2, hi, _⟩ := mfind_split hf
    dsimp only
    rw [List.eraseIdx_eq_take_drop_succ]
    by_cases e : j = k
    · subst e
      rw [if_pos rfl, mget_none]
      intro y hy hy'
      have hyes : y ∈ es := by
        rcases List.mem_append.1 hy with hy | hy
        · exact List.mem_of_mem_take hy
        · exact List.mem_of_mem_drop hy
      have hk := h.k
      rw [e1, List.map_append, List.map_cons, List.nodup_append] at hk
      obtain ⟨_, k2, k3⟩ := hk
      rcases List.mem_append.1 hy with hy | hy
      · exact k3 y.1 (List.mem_map.2 ⟨y, hy, rfl⟩) x.1 (by simp) (by rw [hy', e2])
      · have := (List.nodup_cons.1 k2).1
        exact this (List.mem_map.2 ⟨y, hy, by rw [hy', e2]⟩)
    · rw [if_neg e, mget_eq, mget_eq]
      have h2 : (j == x.1) = false := by rw [e2]; simpa using e
      conv => rhs; rw [e1]
      rw [List.find?_append, List.find?_append, List.find?_cons, h2]
theorem mdel_len {es : List ME} (k : Int) : (mdel k es).length = es.length - if (mget k es).isSome then 1 else 0 := by
  unfold mdel mget
  cases hf : mfind k es 0 with
  | none => simp
  | some x =>
    obtain ⟨i, u⟩ := x
    obtain ⟨x, e1, e2, hi, _⟩ := mfind_split hf
    simp [List.length_eraseIdx, hi]
end V
end Go

/- AvlMap: the law. -/
namespace Go.Proofs.Ytcmoeoghfckmpaa
open Go.V
open Tr
set_option linter.unusedVariables false
set_option linter.unusedSimpArgs false

theorem filter_lt' {α : Type} {p q : α → Bool} : ∀ {l : List α}, (∀ z ∈ l, p z = true → q z = true) → ∀ {y : α}, y ∈ l → q y = true → p y = false → (l.filter p).length < (l.filter q).length
  | [], _, y, hy, _, _ => by cases hy
  | z :: l, h, y, hy, h1, h2 => by
    have hle : (l.filter p).length ≤ (l.filter q).length := by
      have h' : ∀ z ∈ l, p z = true → q z = true := fun z hz => h z (List.mem_cons_of_mem _ hz)
      clear h hy h1 h2
      induction l with
      | nil => simp
      | cons z l ih =>
        have := ih (fun y hy => h' y (List.mem_cons_of_mem _ hy))
        have hz := h' z List.mem_cons_self
        cases hp : p z with
        | true => simp [hp, hz hp]; exact this
        | false => cases hq : q z <;> simp [hp, hq] <;> omega
    rcases List.mem_cons.1 hy with rfl | hy
    · simp [h1, h2]; omega
    · have ih := filter_lt' (fun z hz => h z (List.mem_cons_of_mem _ hz)) hy h1 h2
      cases hp : p z with
      | true => simp [hp, h z List.mem_cons_self hp]; exact ih
      | false => cases hq : q z <;> simp [hp, hq] <;> omega
def unseen (es : List ME) (seen : List Nat) : Nat := (es.filter fun z => decide (z.born ∉ seen)).length
theorem unseen_lt {es : List ME} {seen : List Nat} {y : ME} (hy : y ∈ es) (h : y.born ∉ seen) : unseen es (seen ++ [y.born]) < unseen es seen := by
  refine filter_lt' (fun z hz => ?_) hy (by simpa using h) (by simp)
  simp; exact fun a _ => a
theorem getL_none_iff {k : Int} {L : List (Int × Int)} : getL k L = none ↔ ∀ x ∈ L, x.1 ≠ k := by
  unfold getL
  rw [Option.map_eq_none_iff, List.find?_eq_none]
  simp
theorem insL_lenX (k v : Int) : ∀ {L : List (Int × Int)}, Keyed L → (insL k v L).length = L.length + if (getL k L).isSome then 0 else 1
  | [], _ => by simp [insL, getL]
  | x :: L, h => by
    obtain ⟨h1, h2⟩ := List.pairwise_cons.1 h
    have ih := insL_lenX k v h2
    unfold insL
    split
    · rename_i c
      have : getL k (x :: L) = none := getL_none_iff.2 fun y hy => by
        rcases List.mem_cons.1 hy with rfl | hy
        · omega
        · have := h1 y hy; omega
      rw [this]; simp
    · split
      · rename_i c c2
        simp [getL, c2]
      · rename_i c c2
        have : getL k (x :: L) = getL k L := by
          have : ¬ x.1 = k := by omega
          simp [getL, List.find?_cons, this]
        rw [this]
        simp only [List.length_cons, ih]; omega
theorem keyed_ext : ∀ {A B : List (Int × Int)}, Keyed A → Keyed B → (∀ k, getL k A = getL k B) → A = B
  | [], [], _, _, _ => rfl
  | [], y :: B, _, _, h => by have := h y.1; simp [getL] at this
  | x :: A, [], _, _, h => by have := h x.1; simp [getL] at this
  | x :: A, y :: B, ha, hb, h => by
    obtain ⟨a1, a2⟩ := List.pairwise_cons.1 ha
    obtain ⟨b1, b2⟩ := List.pairwise_cons.1 hb
    have gx : getL x.1 (x :: A) = some x.2 := by simp [getL]
    have gy : getL y.1 (y :: B) = some y.2 := by simp [getL]
    have e : x.1 = y.1 := by
      have m1 := getL_mem (by rw [← h]; exact gx : getL x.1 (y :: B) = some x.2)
      have m2 := getL_mem (by rw [h]; exact gy : getL y.1 (x :: A) = some y.2)
      rcases List.mem_cons.1 m1 with e | m1
      · exact congrArg Prod.fst e
      · rcases List.mem_cons.1 m2 with e | m2
        · exact (congrArg Prod.fst e).symm
        · have := b1 _ m1; have := a1 _ m2; dsimp only at *; omega
    have e2 : x.2 = y.2 := by
      have := h x.1
      rw [gx, e, gy] at this
      exact Option.some.inj this
    have ht : A = B := by
      refine keyed_ext a2 b2 fun k => ?_
      have hk := h k
      by_cases c : k = x.1
      · rw [getL_none_iff.2 (fun z hz => by have := a1 z hz; omega), getL_none_iff.2 (fun z hz => by have := b1 z hz; omega)]
      · have c1 : ¬ x.1 = k := by omega
        have c2 : ¬ y.1 = k := by omega
        simpa [getL, List.find?_cons, c1, c2] using hk
    rw [ht, Prod.ext e e2]

/-- the first i keys, put with their values -/
def LA (ks vs : List Int) : Nat → List (Int × Int)
  | 0 => []
  | i + 1 => insL (ks.getD i 0) (vs.getD i 0) (LA ks vs i)
theorem LA_keyed (ks vs : List Int) : ∀ i, Keyed (LA ks vs i) ∧ (LA ks vs i).length ≤ i
  | 0 => ⟨List.Pairwise.nil, Nat.le_refl _⟩
  | i + 1 => by
    obtain ⟨a, c⟩ := LA_keyed ks vs i
    have := insL_len (ks.getD i 0) (vs.getD i 0) (LA ks vs i)
    exact ⟨(insL_keyed _ _ _ a).1, by show (insL _ _ _).length ≤ _; omega⟩
theorem LA_get (ks vs : List Int) (k : Int) : ∀ i, i ≤ ks.length → ((getL k (LA ks vs i)).isSome = true ↔ ∃ j, ∃ hj : j < ks.length, j < i ∧ ks[j] = k)
  | 0, _ => by simp [LA, getL]
  | i + 1, hi => by
    have ih := LA_get ks vs k i (by omega)
    have e : ks.getD i 0 = ks[i] := by simp [List.getD, List.getElem?_eq_getElem (show i < ks.length by omega)]
    show (getL k (insL _ _ _)).isSome = true ↔ _
    rw [getL_ins, e]
    by_cases c : k = ks[i]
    · rw [if_pos c]
      exact ⟨fun _ => ⟨i, by omega, by omega, c.symm⟩, fun _ => rfl⟩
    · rw [if_neg c, ih]
      constructor
      · rintro ⟨j, hj, h1, h2⟩; exact ⟨j, hj, by omega, h2⟩
      · rintro ⟨j, hj, h1, h2⟩
        have : j ≠ i := by rintro rfl; exact c h2.symm
        exact ⟨j, hj, by omega, h2⟩
/-- the map holds what the list does -/
structure MI (es : List ME) (c : Nat) (L : List (Int × Int)) : Prop where
  ok : MOk es c
  g : ∀ k, mget k es = (getL k L).map (fun v => Value.int .i64 v)
  len : es.length = L.length
theorem MI.step {es : List ME} {c : Nat} {L : List (Int × Int)} (h : MI es c L) (hL : Keyed L) (k v : Int) : MI (mset k (.int .i64 v) es c).1 (mset k (.int .i64 v) es c).2 (insL k v L) := by
  refine ⟨h.ok.set _ _, fun j => ?_, ?_⟩
  · rw [mget_set, getL_ins, h.g]
    by_cases e : j = k
    · rw [if_pos e, if_pos e]; rfl
    · rw [if_neg e, if_neg e]
  · rw [mset_len, insL_lenX k v hL, h.g, h.len]
    cases getL k L <;> rfl
/-- the other tree on its way -/
structure PB (ks os : List Int) (L : List (Int × Int)) : Prop where
  m : ∀ k, getL k L ≠ none → k ∈ os ∨ k ∈ ks
theorem PB.ins {ks os : List Int} {L : List (Int × Int)} (h : PB ks os L) {k : Int} (v : Int) (hk : k ∈ os ∨ k ∈ ks) : PB ks os (insL k v L) := ⟨fun j hj => by
  rw [getL_ins] at hj
  by_cases e : j = k
  · rw [e]; exact hk
  · rw [if_neg e] at hj; exact h.m j hj⟩
theorem PB.del {ks os : List Int} {L : List (Int × Int)} (h : PB ks os L) (k : Int) : PB ks os (delL k L) := ⟨fun j hj => by
  rw [getL_del] at hj
  by_cases e : j = k
  · rw [if_pos e] at hj; exact absurd rfl hj
  · rw [if_neg e] at hj; exact h.m j hj⟩
def Agr (g L : List (Int × Int)) : Prop := ∀ k, getL k g ≠ none → getL k L = getL k g
theorem Agr.del {g L : List (Int × Int)} (h : Agr g L) {k : Int} (hk : getL k g = none) : Agr g (delL k L) := fun j hj => by
  rw [getL_del]
  by_cases e : j = k
  · rw [e] at hj; exact absurd hk hj
  · rw [if_neg e]; exact h j hj
theorem gone_del {g L : List (Int × Int)} {xs : List Int} {i : Nat} (h : ∀ j, (hj : j < xs.length) → j < i → getL xs[j] g = none → getL xs[j] L = none) (k : Int) : ∀ j, (hj : j < xs.length) → j < i → getL xs[j] g = none → getL xs[j] (delL k L) = none := fun j hj hji hn => by
  rw [getL_del]
  split
  · rfl
  · exact h j hj hji hn
theorem agree_all {ks vs os : List Int} {L : List (Int × Int)} (hb : PB ks os L) (ha : Agr (LA ks vs (min ks.length vs.length)) L)
    (h5 : ∀ j, (hj : j < os.length) → getL os[j] (LA ks vs (min ks.length vs.length)) = none → getL os[j] L = none)
    (h6 : ∀ j, (hj : j < ks.length) → vs.length ≤ j → getL ks[j] (LA ks vs (min ks.length vs.length)) = none → getL ks[j] L = none) (hL : Keyed L) : L = LA ks vs (min ks.length vs.length) := by
  refine keyed_ext hL (LA_keyed ks vs _).1 fun k => ?_
  cases hg : getL k (LA ks vs (min ks.length vs.length)) with
  | some v => rw [ha k (by rw [hg]; simp), hg]
  | none =>
    cases hl : getL k L with
    | none => rfl
    | some v =>
      exfalso
      rcases hb.m k (by rw [hl]; simp) with h | h
      · obtain ⟨j, hj, rfl⟩ := List.mem_iff_getElem.1 h
        have := h5 j hj hg
        rw [hl] at this; cases this
      · obtain ⟨j, hj, rfl⟩ := List.mem_iff_getElem.1 h
        by_cases c : j < vs.length
        · have := (LA_get ks vs ks[j] (min ks.length vs.length) (Nat.min_le_left _ _)).2 ⟨j, hj, by omega, rfl⟩
          rw [hg] at this; cases this
        · have := h6 j hj (by omega) hg
          rw [hl] at this; cases this
end Go.Proofs.Ytcmoeoghfckmpaa

/- AvlMap: the law's walk. -/
namespace Go.Proofs.Ytcmoeoghfckmpaa
open Go.V
open Tr
set_option linter.unusedVariables false
set_option linter.unusedSimpArgs false

structure MS where
  i : Nat
  t : Tr
  L : List (Int × Int)
abbrev Mb (m : Nat) (es : List ME) (c : Nat) : Nat × Ch := (m, .obj (mapOf .i64 es c))
theorem ints_get {w : World} {own : List Nat} {A : Option Addr} {l : List Int} (h : Rd w own A (ints .i64 l)) {i : Nat} (hi : i < l.length) : ∃ b o, A = some ⟨b, o, none⟩ ∧ ∀ (hs : Hp) (z : Int), z.toNat = i → At w own hs ⟨b, o + z.toNat, none⟩ [.int .i64 l[i]] := by
  obtain ⟨b, o, rfl⟩ := ints_base h (by omega)
  exact ⟨b, o, rfl, fun hs z hz => ints_at h hi hz⟩
theorem getD_at (l : List Int) {i : Nat} (hi : i < l.length) : l.getD i 0 = l[i] := by simp [List.getD, List.getElem?_eq_getElem hi]
set_option maxRecDepth 20000 in
set_option maxHeartbeats 4000000 in
theorem AvlMap_ok (w : World) (A B C : Option Addr) (c1 c2 c3 : Nat) (ks vs os : List Int) (hA : Rd w [] A (ints .i64 ks)) (hB : Rd w [] B (ints .i64 vs)) (hC : Rd w [] C (ints .i64 os)) (hb : ks.length + vs.length + os.length ≤ 4000000) :
    Is Try.prog 5 [.slice A ks.length c1, .slice B vs.length c2, .slice C os.length c3] w (.bool true) := by
  refine Does.pure (Does.of (n := 236) Try.func5 rfl rfl rfl rfl ?_)
  refine .seq ((.region (.v (.assign rfl) (.nil ?_))))
  refine .seq ((.region (.v (.build (out := [.pointer none]) rfl rfl) (.nw (.box rfl rfl) fun ba => (.v (.build (out := [.pointer none]) rfl rfl) (.nw (.box rfl rfl) fun bb => (.v (.assign rfl) (.v (.assign rfl) (.nil ?_)))))))))
  refine .heap (hs' := TH bb .nil ++ TH ba .nil) (fun _ s => s) ?_
  refine .seq (.seq ((.region (.v (.assign rfl) (.nil ?_)))))
  -- a
  refine .block (.loop (X := MS) (fun x => [(0, .slice A ks.length c1), (1, .slice B vs.length c2), (2, .slice C os.length c3), (7, .pointer (some ⟨ba, 0, none⟩)), (8, .pointer (some ⟨bb, 0, none⟩)), (9, .int .i64 x.i)]) (fun x => TH bb .nil ++ TH ba x.t) (fun x => x.i ≤ min ks.length vs.length ∧ TOk x.t (LA ks vs x.i)) (fun x => ks.length - x.i) ⟨0, .nil, []⟩ ⟨Nat.zero_le _, .nil⟩ (.cons rfl (.cons rfl (.cons rfl (.cons rfl (.cons rfl (.cons rfl (.nil _))))))) (fun _ s => s) ?_)
  rintro ⟨i, t, _⟩ ⟨hi, hok⟩
  dsimp only at hi hok ⊢
  have hlen := (LA_keyed ks vs i).2
  refine .seq (.seq ((.region (.v (.move rfl) (.v (.move rfl) (.v (.len rfl) (.v (.lss rfl rfl) (.v (.move rfl) (.and (b2 := decide ((i : Int) < vs.length)) 35 39 4 4 rfl rfl (fun g1 => .v (.move rfl) (.v (.move rfl) (.v (.len rfl) (.v (.lss rfl rfl) (.nil ⟨rfl, rfl, rfl, rfl⟩))))) (.nil ?_))))))))))
  refine .cond rfl (fun h1 => .skip ?_) (fun h1 => .exit ?_)
  · simp only [Bool.and_eq_true, Bool.or_eq_true, Bool.not_eq_true', Bool.and_eq_false_iff, Bool.or_eq_false_iff, Bool.not_eq_false', decide_eq_true_eq, decide_eq_false_iff_not, Bool.false_eq_true, false_iff] at h1
    have hik : i < ks.length := by omega
    have hiv : i < vs.length := by omega
    obtain ⟨p1, o1, rfl, hat1⟩ := ints_get hA hik
    obtain ⟨p2, o2, rfl, hat2⟩ := ints_get hB hiv
    have hstep : LA ks vs (i + 1) = insL ks[i] vs[i] (LA ks vs i) := by show insL _ _ _ = _; rw [getD_at ks hik, getD_at vs hiv]
    generalize ks[i] = k at hat1 hstep
    generalize vs[i] = v at hat2 hstep
    refine .seq (.block ((.drawK [] (List.nil_subset _) (by kernel_rfl) (by kernel_rfl) ?_)))
    refine .v (fun _ f => .move rfl) (.v (fun _ f => .move rfl) (.v (fun _ f => .move rfl) (.v (fun _ f => .indexAddr1 rfl rfl (by omega) (by omega)) (.v (fun hs' f => .load (v := .int .i64 k) rfl (hat1 hs' _ (by omega))) (.v (fun _ f => .move rfl) (.v (fun _ f => .move rfl) (.v (fun _ f => .indexAddr1 rfl rfl (by omega) (by omega)) (.v (fun hs' f => .load (v := .int .i64 v) rfl (hat2 hs' _ (by omega))) ?_))))))))
    refine .ef (.callT (TH ba t) rfl rfl fun w s => TPut w ba hok k v (by omega)) (fun _ _ _ _ => List.nil_subset _) ?_
    rintro _ _ ⟨_, ⟨t', hok', rfl, rfl⟩, rfl⟩
    refine .nil ?_
    refine .region (.v (.move rfl) (.v (.addi rfl rfl (by omega)) (.v (.assign rfl) (.nil ?_))))
    exact ⟨⟨i + 1, t', []⟩, ⟨by show i + 1 ≤ min ks.length vs.length; omega, by rw [hstep]; exact hok'⟩, by show ks.length - (i + 1) < ks.length - i; omega, .cons rfl (.cons rfl (.cons rfl (.cons rfl (.cons rfl (.cons rfl (.nil _)))))), fun _ s => s.take⟩
  have hiN : i = min ks.length vs.length := by
    simp only [Bool.and_eq_true, Bool.or_eq_true, Bool.not_eq_true', Bool.and_eq_false_iff, Bool.or_eq_false_iff, Bool.not_eq_false', decide_eq_true_eq, decide_eq_false_iff_not, Bool.false_eq_true, false_iff] at h1
    omega
  rw [hiN] at hok hlen
  clear h1 hi hiN
  -- the map
  refine .seq ((.region (.ef (.makeMap .i64) ?_)))
  rintro _ _ ⟨m, rfl, rfl⟩
  refine .v (.assign rfl) (.nil ?_)
  refine .seq (.seq ((.region (.v (.assign rfl) (.nil ?_)))))
  refine .block (.loop (X := Nat × List ME × Nat) (fun x => [(0, .slice A ks.length c1), (1, .slice B vs.length c2), (2, .slice C os.length c3), (7, .pointer (some ⟨ba, 0, none⟩)), (8, .pointer (some ⟨bb, 0, none⟩)), (10, .map (some m)), (11, .int .i64 x.1)]) (fun x => Mb m x.2.1 x.2.2 :: (TH bb .nil ++ TH ba t)) (fun x => x.1 ≤ min ks.length vs.length ∧ MI x.2.1 x.2.2 (LA ks vs x.1)) (fun x => ks.length - x.1) ⟨0, [], 0⟩
    ⟨Nat.zero_le _, MOk.nil, fun k => by simp [LA, getL, mget, mfind], rfl⟩ (.cons rfl (.cons rfl (.cons rfl (.cons rfl (.cons rfl (.cons rfl (.cons rfl (.nil _)))))))) (fun _ s => s) ?_)
  rintro ⟨i2, es, cl⟩ ⟨hi, hM⟩
  dsimp only at hi hM ⊢
  refine .seq (.seq ((.region (.v (.move rfl) (.v (.move rfl) (.v (.len rfl) (.v (.lss rfl rfl) (.v (.move rfl) (.and (b2 := decide ((i2 : Int) < vs.length)) 58 62 4 4 rfl rfl (fun g1 => .v (.move rfl) (.v (.move rfl) (.v (.len rfl) (.v (.lss rfl rfl) (.nil ⟨rfl, rfl, rfl, rfl⟩))))) (.nil ?_))))))))))
  refine .cond rfl (fun h1 => .skip ?_) (fun h1 => .exit ?_)
  · simp only [Bool.and_eq_true, Bool.or_eq_true, Bool.not_eq_true', Bool.and_eq_false_iff, Bool.or_eq_false_iff, Bool.not_eq_false', decide_eq_true_eq, decide_eq_false_iff_not, Bool.false_eq_true, false_iff] at h1
    have hik : i2 < ks.length := by omega
    have hiv : i2 < vs.length := by omega
    obtain ⟨p1, o1, rfl, hat1⟩ := ints_get hA hik
    obtain ⟨p2, o2, rfl, hat2⟩ := ints_get hB hiv
    have hstep : LA ks vs (i2 + 1) = insL ks[i2] vs[i2] (LA ks vs i2) := by show insL _ _ _ = _; rw [getD_at ks hik, getD_at vs hiv]
    generalize ks[i2] = k at hat1 hstep
    generalize vs[i2] = v at hat2 hstep
    refine .seq (.block ((.drawQ 9 [0, 1, 2, 3, 4, 5, 6, 7, 8, 9] [] (List.nil_subset _) (by kernel_rfl) (by kernel_rfl) ?_)))
    refine .v (fun _ f => .move rfl) (.v (fun _ f => .move rfl) (.v (fun _ f => .move rfl) (.v (fun _ f => .indexAddr1 rfl rfl (by omega) (by omega)) (.v (fun hs' f => .load (v := .int .i64 k) rfl (hat1 hs' _ (by omega))) (.v (fun _ f => .move rfl) (.v (fun _ f => .move rfl) (.v (fun _ f => .indexAddr1 rfl rfl (by omega) (by omega)) (.v (fun hs' f => .load (v := .int .i64 v) rfl (hat2 hs' _ (by omega))) (.st (.mapUpdate (es := es) (c := cl) (q := .i64) rfl rfl rfl) (.nil ?_))))))))))
    refine .region (.v (.move rfl) (.v (.addi rfl rfl (by omega)) (.v (.assign rfl) (.nil ?_))))
    exact ⟨⟨i2 + 1, _, _⟩, ⟨by show i2 + 1 ≤ min ks.length vs.length; omega, by rw [hstep]; exact hM.step (LA_keyed ks vs i2).1 k v⟩, by show ks.length - (i2 + 1) < ks.length - i2; omega, .cons rfl (.cons rfl (.cons rfl (.cons rfl (.cons rfl (.cons rfl (.cons rfl (.nil _))))))), fun _ s => s⟩
  have hiN : i2 = min ks.length vs.length := by
    simp only [Bool.and_eq_true, Bool.or_eq_true, Bool.not_eq_true', Bool.and_eq_false_iff, Bool.or_eq_false_iff, Bool.not_eq_false', decide_eq_true_eq, decide_eq_false_iff_not, Bool.false_eq_true, false_iff] at h1
    omega
  rw [hiN] at hM
  clear h1 hi hiN
  have hgk := (LA_keyed ks vs (min ks.length vs.length)).1
  have hgg := fun k => LA_get ks vs k (min ks.length vs.length) (Nat.min_le_left _ _)
  -- b: other keys, then those
  refine .seq (.seq ((.region (.v (.assign rfl) (.nil ?_)))))
  refine .block (.loop (X := MS) (fun x => [(0, .slice A ks.length c1), (1, .slice B vs.length c2), (2, .slice C os.length c3), (7, .pointer (some ⟨ba, 0, none⟩)), (8, .pointer (some ⟨bb, 0, none⟩)), (10, .map (some m)), (12, .int .i64 x.i)]) (fun x => TH bb x.t ++ Mb m es cl :: TH ba t) (fun x => x.i ≤ os.length ∧ TOk x.t x.L ∧ x.L.length ≤ 2 * x.i ∧ PB ks os x.L) (fun x => os.length - x.i) ⟨0, .nil, []⟩
    ⟨Nat.zero_le _, .nil, by simp, ⟨fun k hk => absurd rfl hk⟩⟩ (.cons rfl (.cons rfl (.cons rfl (.cons rfl (.cons rfl (.cons rfl (.cons rfl (.nil _)))))))) (fun _ s => s.take) ?_)
  rintro ⟨j, u, L⟩ ⟨hj, hokb, hlb, hpb⟩
  dsimp only at hj hokb hlb hpb ⊢
  refine .seq (.seq ((.region (.v (.move rfl) (.v (.move rfl) (.v (.len rfl) (.v (.lss rfl rfl) (.nil ?_))))))))
  refine .cond_dec rfl (fun h3 => .skip ?_) (fun h3 => .exit ?_)
  · have hjo : j < os.length := by omega
    obtain ⟨p3, o3, rfl, hat3⟩ := ints_get hC hjo
    have hmo : os[j] ∈ os := List.getElem_mem hjo
    generalize os[j] = k at hat3 hmo
    refine .mid (X := Tr × List (Int × Int)) (fun _ => [(0, .slice A ks.length c1), (1, .slice B vs.length c2), (2, .slice (some ⟨p3, o3, none⟩) os.length c3), (7, .pointer (some ⟨ba, 0, none⟩)), (8, .pointer (some ⟨bb, 0, none⟩)), (10, .map (some m)), (12, .int .i64 j)]) (fun x => TH bb x.1 ++ Mb m es cl :: TH ba t) (fun x => TOk x.1 x.2 ∧ x.2.length ≤ 2 * (j + 1) ∧ PB ks os x.2) (.block (.seq ((.region (.v (.move rfl) (.v (.move rfl) (.v (.move rfl) (.v (.indexAddr1 rfl rfl (by omega) (by omega)) (.v (.load (v := .int .i64 k) rfl (hat3 _ _ (by omega))) ?_))))))))) ?_
    · refine .ef (.callT (TH bb u) rfl rfl fun w s => TPut w bb hokb k 1 (by omega)) ?_
      rintro _ _ ⟨_, ⟨u', hok', rfl, rfl⟩, rfl⟩
      have hl := insL_len k 1 L
      have hpb' := hpb.ins 1 (.inl hmo)
      generalize insL k 1 L = L' at hok' hl hpb'
      refine .nil ?_
      refine .seq ((.region (.v (.move rfl) (.v (.len rfl) (.v (.gtr rfl rfl) (.nil ?_))))))
      refine .cond_dec rfl (fun h4 => ?_) (fun h4 => .skip ?_)
      · have hkl : 0 < ks.length := by omega
        refine .seq ((.region (.v (.move rfl) (.v (.move rfl) (.v (.indexAddr1 rfl rfl (by omega) (by omega)) (.v (.load (v := .int .i64 k) rfl (hat3 _ _ (by omega))) (.v (.move rfl) (.v (.len rfl) (.v (.rem rfl rfl (by omega)) (.v (.assign rfl) (.nil ?_)))))))))))
        have hm1 : -(ks.length : Int) < k.tmod ks.length ∧ k.tmod ks.length < ks.length := by
          have h1 := Int.natAbs_tmod k ks.length
          have h2 : k.natAbs % (ks.length : Int).natAbs < ks.length := by rw [Int.natAbs_natCast]; exact Nat.mod_lt _ hkl
          omega
        generalize k.tmod (ks.length : Int) = z at hm1 ⊢
        refine .mid (X := Nat) (fun x => [(0, .slice A ks.length c1), (1, .slice B vs.length c2), (2, .slice (some ⟨p3, o3, none⟩) os.length c3), (7, .pointer (some ⟨ba, 0, none⟩)), (8, .pointer (some ⟨bb, 0, none⟩)), (10, .map (some m)), (12, .int .i64 j), (13, .int .i64 x)]) (fun _ => TH bb u' ++ Mb m es cl :: TH ba t) (fun x => x < ks.length) (.seq ((.region (.v (.move rfl) (.v (.lss rfl rfl) (.nil ?_)))))) ?_
        · refine .cond_dec rfl (fun h5 => ?_) (fun h5 => .skip ?_)
          · refine .region (.v (.move rfl) (.v (.move rfl) (.v (.len rfl) (.v (.addi rfl rfl (by omega)) (.v (.assign rfl) (.nil ?_))))))
            exact ⟨(z + ks.length).toNat, by show (z + ks.length).toNat < ks.length; omega, .cons rfl (.cons rfl (.cons rfl (.cons rfl (.cons rfl (.cons rfl (.cons rfl (.cons (show some (Value.int .i64 (z + ks.length)) = some (.int .i64 (((z + ks.length).toNat : Nat) : Int)) from by rw [Int.toNat_of_nonneg (by omega)]) (.nil _)))))))), fun _ s => s⟩
          · exact ⟨z.toNat, by show z.toNat < ks.length; omega, .cons rfl (.cons rfl (.cons rfl (.cons rfl (.cons rfl (.cons rfl (.cons rfl (.cons (show some (Value.int .i64 z) = some (.int .i64 ((z.toNat : Nat) : Int)) from by rw [Int.toNat_of_nonneg (by omega)]) (.nil _)))))))), fun _ s => s⟩
        · intro x hx
          obtain ⟨p1, o1, rfl, hat1⟩ := ints_get hA hx
          have hmk : ks[x] ∈ ks := List.getElem_mem hx
          generalize ks[x] = kx at hat1 hmk
          refine .region (.v (.move rfl) (.v (.move rfl) (.v (.move rfl) (.v (.indexAddr1 rfl rfl (by omega) (by omega)) (.v (.load (v := .int .i64 kx) rfl (hat1 _ _ (by omega))) ?_)))))
          refine .ef (.callT (TH bb u') rfl rfl fun w s => TPut w bb hok' kx 2 (by omega)) ?_
          rintro _ _ ⟨_, ⟨u'', hok'', rfl, rfl⟩, rfl⟩
          have hl2 := insL_len kx 2 L'
          refine .nil ?_
          exact ⟨(u'', insL kx 2 L'), ⟨hok'', by dsimp only; omega, hpb'.ins 2 (.inr hmk)⟩, .cons rfl (.cons rfl (.cons rfl (.cons rfl (.cons rfl (.cons rfl (.cons rfl (.nil _))))))), fun _ s => s⟩
      · exact ⟨(u', L'), ⟨hok', by dsimp only; omega, hpb'⟩, .cons rfl (.cons rfl (.cons rfl (.cons rfl (.cons rfl (.cons rfl (.cons rfl (.nil _))))))), fun _ s => s⟩
    · rintro ⟨u', L'⟩ ⟨q1, q2, q3⟩
      dsimp only at q1 q2 q3 ⊢
      refine .region (.v (.move rfl) (.v (.addi rfl rfl (by omega)) (.v (.assign rfl) (.nil ?_))))
      exact ⟨⟨j + 1, u', L'⟩, ⟨hjo, q1, q2, q3⟩, by show os.length - (j + 1) < os.length - j; omega, .cons rfl (.cons rfl (.cons rfl (.cons rfl (.cons rfl (.cons rfl (.cons rfl (.nil _))))))), fun _ s => s⟩
  have hlb2 : L.length ≤ 8000000 := by omega
  clear h3 hj hlb
  refine .seq (.seq ((.region (.v (.move rfl) (.v (.len rfl) (.v (.subi rfl rfl (by omega)) (.v (.assign rfl) (.nil ?_))))))))
  refine .block (.loop (X := MS) (fun x => [(0, .slice A ks.length c1), (1, .slice B vs.length c2), (2, .slice C os.length c3), (7, .pointer (some ⟨ba, 0, none⟩)), (8, .pointer (some ⟨bb, 0, none⟩)), (10, .map (some m)), (14, .int .i64 ((x.i : Int) - 1))]) (fun x => TH bb x.t ++ Mb m es cl :: TH ba t)
    (fun x => x.i ≤ ks.length ∧ TOk x.t x.L ∧ x.L.length + x.i ≤ 8000000 + ks.length ∧ PB ks os x.L ∧ ∀ j, (hj : j < ks.length) → x.i ≤ j → j < vs.length → getL ks[j] x.L = getL ks[j] (LA ks vs (min ks.length vs.length))) (fun x => x.i) ⟨ks.length, u, L⟩
    ⟨Nat.le_refl _, hokb, by show L.length + ks.length ≤ _; omega, hpb, fun j hj h => absurd hj (by have h : ks.length ≤ j := h; omega)⟩ (.cons rfl (.cons rfl (.cons rfl (.cons rfl (.cons rfl (.cons rfl (.cons rfl (.nil _)))))))) (fun _ s => s) ?_)
  clear hokb hpb hlb2 u L j
  rintro ⟨i, u, L⟩ ⟨hi, hokb, hlb, hpb, h4⟩
  dsimp only at hi hokb hlb hpb h4 ⊢
  refine .seq (.seq ((.region (.v (.move rfl) (.v (.geq rfl rfl) (.nil ?_))))))
  refine .cond_dec rfl (fun h6 => .skip ?_) (fun h6 => .exit ?_)
  · obtain ⟨j, rfl⟩ : ∃ j, i = j + 1 := ⟨i - 1, by omega⟩
    have hjk : j < ks.length := by omega
    obtain ⟨p1, o1, rfl, hat1⟩ := ints_get hA hjk
    refine .mid (X := Tr × List (Int × Int)) (fun _ => [(0, .slice (some ⟨p1, o1, none⟩) ks.length c1), (1, .slice B vs.length c2), (2, .slice C os.length c3), (7, .pointer (some ⟨ba, 0, none⟩)), (8, .pointer (some ⟨bb, 0, none⟩)), (10, .map (some m)), (14, .int .i64 (((j + 1 : Nat) : Int) - 1))]) (fun x => TH bb x.1 ++ Mb m es cl :: TH ba t)
      (fun x => TOk x.1 x.2 ∧ x.2.length + j ≤ 8000000 + ks.length ∧ PB ks os x.2 ∧ ∀ i, (hi : i < ks.length) → j ≤ i → i < vs.length → getL ks[i] x.2 = getL ks[i] (LA ks vs (min ks.length vs.length))) (.block (.seq ((.region (.v (.move rfl) (.v (.move rfl) (.v (.len rfl) (.v (.lss rfl rfl) (.nil ?_))))))))) ?_
    · refine .cond_dec rfl (fun h7 => ?_) (fun h7 => .skip ?_)
      · have hjv : j < vs.length := by omega
        obtain ⟨v, hv⟩ := Option.isSome_iff_exists.1 ((hgg ks[j]).2 ⟨j, hjk, by omega, rfl⟩)
        have hmk : ks[j] ∈ ks := List.getElem_mem hjk
        have h4' : ∀ i, (hi : i < ks.length) → j ≤ i → i < vs.length → getL ks[i] (insL ks[j] v L) = getL ks[i] (LA ks vs (min ks.length vs.length)) := fun i hi hji hiv => by
          rw [getL_ins]
          by_cases e : ks[i] = ks[j]
          · rw [if_pos e, e, hv]
          · rw [if_neg e]
            have : i ≠ j := by rintro rfl; exact e rfl
            exact h4 i hi (by omega) hiv
        have hmg : (mget ks[j] es).getD (.int .i64 0) = .int .i64 v := by rw [hM.g, hv]; rfl
        generalize ks[j] = k at hat1 hmk h4' hmg
        refine .drawK [Mb m es cl] (by intro y hy; simp at hy; subst hy; simp) (by kernel_rfl) (by kernel_rfl) ?_
        refine .v (fun _ f => .move rfl) (.v (fun _ f => .move rfl) (.v (fun _ f => .move rfl) (.v (fun _ f => .indexAddr1 rfl rfl (by omega) (by omega)) (.v (fun hs' f => .load (v := .int .i64 k) rfl (hat1 hs' _ (by omega))) (.v (fun _ f => .move rfl) (.v (fun _ f => .move rfl) (.v (fun _ f => .move rfl) (.v (fun _ f => .indexAddr1 rfl rfl (by omega) (by omega)) (.v (fun hs' f => .load (v := .int .i64 k) rfl (hat1 hs' _ (by omega))) ?_)))))))))
        refine .v (fun _ f => .lookupE (es := es) (c := cl) (q := .i64) (v := .int .i64 v) rfl rfl (hb := .sub f) hmg) ?_
        refine .ef (.callT (TH bb u) rfl rfl fun w s => TPut w bb hokb k v (by omega)) (fun _ _ ⟨_, _, e⟩ _ => by subst e; intro y hy; simp at hy; subst hy; simp) ?_
        rintro _ _ ⟨_, ⟨u', hok', rfl, rfl⟩, rfl⟩
        have hl := insL_len k v L
        refine .nil ?_
        exact ⟨(u', insL k v L), ⟨hok', by dsimp only; omega, hpb.ins v (.inr hmk), h4'⟩, .cons rfl (.cons rfl (.cons rfl (.cons rfl (.cons rfl (.cons rfl (.cons rfl (.nil _))))))), fun _ s => s⟩
      · exact ⟨(u, L), ⟨hokb, by dsimp only; omega, hpb, fun i hi hji hiv => h4 i hi (by omega) hiv⟩, .cons rfl (.cons rfl (.cons rfl (.cons rfl (.cons rfl (.cons rfl (.cons rfl (.nil _))))))), fun _ s => s⟩
    · rintro ⟨u', L'⟩ ⟨q1, q2, q3, q4⟩
      dsimp only at q1 q2 q3 q4 ⊢
      refine .region (.v (.move rfl) (.v (.subi rfl rfl (by omega)) (.v (.assign rfl) (.nil ?_))))
      exact ⟨⟨j, u', L'⟩, ⟨by show j ≤ ks.length; omega, q1, q2, q3, q4⟩, by show j < j + 1; omega, .cons rfl (.cons rfl (.cons rfl (.cons rfl (.cons rfl (.cons rfl (.cons (show some (Value.int .i64 (((j + 1 : Nat) : Int) - 1 - 1)) = some (.int .i64 ((j : Int) - 1)) from by congr 2; omega) (.nil _))))))), fun _ s => s⟩
  have hi0 : i = 0 := by omega
  subst hi0
  have hag : Agr (LA ks vs (min ks.length vs.length)) L := fun k hk => by
    obtain ⟨j, hj, h1, rfl⟩ := (hgg k).1 (by cases h : getL k (LA ks vs (min ks.length vs.length)) with
      | none => exact absurd h hk
      | some v => rfl)
    exact h4 j hj (Nat.zero_le _) (by omega)
  have hlb2 : L.length ≤ 12000000 := by omega
  clear h4 h6 hi hlb
  -- what is not there goes
  refine .seq (.seq ((.region (.v (.assign rfl) (.nil ?_)))))
  refine .block (.loop (X := MS) (fun x => [(0, .slice A ks.length c1), (1, .slice B vs.length c2), (2, .slice C os.length c3), (7, .pointer (some ⟨ba, 0, none⟩)), (8, .pointer (some ⟨bb, 0, none⟩)), (10, .map (some m)), (15, .int .i64 x.i)]) (fun x => TH bb x.t ++ Mb m es cl :: TH ba t)
    (fun x => x.i ≤ os.length ∧ TOk x.t x.L ∧ x.L.length ≤ 12000000 ∧ PB ks os x.L ∧ Agr (LA ks vs (min ks.length vs.length)) x.L ∧ ∀ j, (hj : j < os.length) → j < x.i → getL os[j] (LA ks vs (min ks.length vs.length)) = none → getL os[j] x.L = none) (fun x => os.length - x.i) ⟨0, u, L⟩
    ⟨Nat.zero_le _, hokb, hlb2, hpb, hag, fun j hj h => absurd h (Nat.not_lt_zero _)⟩ (.cons rfl (.cons rfl (.cons rfl (.cons rfl (.cons rfl (.cons rfl (.cons rfl (.nil _)))))))) (fun _ s => s) ?_)
  clear hokb hpb hlb2 hag u L
  rintro ⟨i, u, L⟩ ⟨hi, hokb, hlb, hpb, hag, h5⟩
  dsimp only at hi hokb hlb hpb hag h5 ⊢
  refine .seq (.seq ((.region (.v (.move rfl) (.v (.move rfl) (.v (.len rfl) (.v (.lss rfl rfl) (.nil ?_))))))))
  refine .cond_dec rfl (fun h3 => .skip ?_) (fun h3 => .exit ?_)
  · have hjo : i < os.length := by omega
    obtain ⟨p3, o3, rfl, hat3⟩ := ints_get hC hjo
    refine .mid (X := Tr × List (Int × Int)) (fun _ => [(0, .slice A ks.length c1), (1, .slice B vs.length c2), (2, .slice (some ⟨p3, o3, none⟩) os.length c3), (7, .pointer (some ⟨ba, 0, none⟩)), (8, .pointer (some ⟨bb, 0, none⟩)), (10, .map (some m)), (15, .int .i64 i)]) (fun x => TH bb x.1 ++ Mb m es cl :: TH ba t)
      (fun x => TOk x.1 x.2 ∧ x.2.length ≤ 12000000 ∧ PB ks os x.2 ∧ Agr (LA ks vs (min ks.length vs.length)) x.2 ∧ ∀ j, (hj : j < os.length) → j < i + 1 → getL os[j] (LA ks vs (min ks.length vs.length)) = none → getL os[j] x.2 = none) (.block (.seq ((.region (.v (.move rfl) (.v (.move rfl) (.v (.move rfl) (.v (.indexAddr1 rfl rfl (by omega) (by omega)) (.v (.load (v := .int .i64 os[i]) rfl (hat3 _ _ (by omega))) ?_))))))))) ?_
    · refine .v (.lookup2 (es := es) (c := cl) (q := .i64) rfl rfl) ?_
      have hfin : ∀ L', (∀ j, (hj : j < os.length) → j < i → getL os[j] (LA ks vs (min ks.length vs.length)) = none → getL os[j] L' = none) → (getL os[i] (LA ks vs (min ks.length vs.length)) = none → getL os[i] L' = none) → ∀ j, (hj : j < os.length) → j < i + 1 → getL os[j] (LA ks vs (min ks.length vs.length)) = none → getL os[j] L' = none := fun L' a c j hj hji hn => by
        by_cases e : j = i
        · subst e; exact c hn
        · exact a j hj (by omega) hn
      have hmi : (mget os[i] es).isSome = (getL os[i] (LA ks vs (min ks.length vs.length))).isSome := by rw [hM.g]; cases getL os[i] (LA ks vs (min ks.length vs.length)) <;> rfl
      rw [hmi]
      cases hgo : getL os[i] (LA ks vs (min ks.length vs.length)) with
      | none =>
        have hf5 := hfin (delL os[i] L) (gone_del (fun j hj hji hn => h5 j hj hji hn) os[i]) (fun _ => by rw [getL_del, if_pos rfl])
        have hag' := hag.del hgo
        have hpb' := hpb.del os[i]
        have hl := delL_len os[i] L
        clear hmi hfin
        generalize os[i] = k at hat3 hgo hf5 hag' hpb' hl
        refine .v (.move rfl) (.v (.extract rfl rfl) (.v (.extract (v := .bool false) rfl rfl) (.v (.assign rfl) (.v (.assign rfl) (.nil ?_)))))
        refine .seq ((.region (.v (.move rfl) (.v (.not rfl) (.nil ?_)))))
        refine .cond rfl (fun _ => ?_) (fun h => absurd h (by simp))
        refine .region (.v (.move rfl) (.v (.move rfl) (.v (.move rfl) (.v (.indexAddr1 rfl rfl (by omega) (by omega)) (.v (.load (v := .int .i64 k) rfl (hat3 _ _ (by omega))) ?_)))))
        refine .ef (.callT (TH bb u) rfl rfl fun w s => TDrop w bb hokb k (by omega)) ?_
        rintro _ _ ⟨_, ⟨u', hok', rfl, rfl⟩, rfl⟩
        refine .nil ?_
        exact ⟨(u', delL k L), ⟨hok', by dsimp only; omega, hpb', hag', hf5⟩, .cons rfl (.cons rfl (.cons rfl (.cons rfl (.cons rfl (.cons rfl (.cons rfl (.nil _))))))), fun _ s => s⟩
      | some v =>
        refine .v (.move rfl) (.v (.extract rfl rfl) (.v (.extract (v := .bool true) rfl rfl) (.v (.assign rfl) (.v (.assign rfl) (.nil ?_)))))
        refine .seq ((.region (.v (.move rfl) (.v (.not rfl) (.nil ?_)))))
        refine .cond rfl (fun h => absurd h (by simp)) (fun _ => .skip ?_)
        exact ⟨(u, L), ⟨hokb, hlb, hpb, hag, hfin L h5 (fun h => by rw [hgo] at h; cases h)⟩, .cons rfl (.cons rfl (.cons rfl (.cons rfl (.cons rfl (.cons rfl (.cons rfl (.nil _))))))), fun _ s => s⟩
    · rintro ⟨u', L'⟩ ⟨q1, q2, q3, q4, q5⟩
      dsimp only at q1 q2 q3 q4 q5 ⊢
      refine .region (.v (.move rfl) (.v (.addi rfl rfl (by omega)) (.v (.assign rfl) (.nil ?_))))
      exact ⟨⟨i + 1, u', L'⟩, ⟨hjo, q1, q2, q3, q4, q5⟩, by show os.length - (i + 1) < os.length - i; omega, .cons rfl (.cons rfl (.cons rfl (.cons rfl (.cons rfl (.cons rfl (.cons rfl (.nil _))))))), fun _ s => s⟩
  have h5' : ∀ j, (hj : j < os.length) → getL os[j] (LA ks vs (min ks.length vs.length)) = none → getL os[j] L = none := fun j hj => h5 j hj (by omega)
  clear h5 h3 hi
  refine .seq (.seq ((.region (.v (.move rfl) (.v (.len rfl) (.v (.assign rfl) (.nil ?_)))))))
  refine .block (.loop (X := MS) (fun x => [(0, .slice A ks.length c1), (7, .pointer (some ⟨ba, 0, none⟩)), (8, .pointer (some ⟨bb, 0, none⟩)), (10, .map (some m)), (18, .int .i64 x.i)]) (fun x => TH bb x.t ++ Mb m es cl :: TH ba t)
    (fun x => x.i ≤ max ks.length vs.length ∧ TOk x.t x.L ∧ x.L.length ≤ 12000000 ∧ PB ks os x.L ∧ Agr (LA ks vs (min ks.length vs.length)) x.L ∧ (∀ j, (hj : j < os.length) → getL os[j] (LA ks vs (min ks.length vs.length)) = none → getL os[j] x.L = none) ∧ ∀ j, (hj : j < ks.length) → vs.length ≤ j → j < x.i → getL ks[j] (LA ks vs (min ks.length vs.length)) = none → getL ks[j] x.L = none) (fun x => ks.length - x.i) ⟨vs.length, u, L⟩
    ⟨Nat.le_max_right _ _, hokb, hlb, hpb, hag, h5', fun j hj h h' => absurd h' (by show ¬ j < vs.length; omega)⟩ (.cons rfl (.cons rfl (.cons rfl (.cons rfl (.cons rfl (.nil _)))))) (fun _ s => s) ?_)
  clear hokb hpb hlb hag h5' u L
  rintro ⟨i, u, L⟩ ⟨hi, hokb, hlb, hpb, hag, h5, h6⟩
  dsimp only at hi hokb hlb hpb hag h5 h6 ⊢
  refine .seq (.seq ((.region (.v (.move rfl) (.v (.move rfl) (.v (.len rfl) (.v (.lss rfl rfl) (.nil ?_))))))))
  refine .cond_dec rfl (fun h3 => .skip ?_) (fun h3 => .exit ?_)
  · have hjo : i < ks.length := by omega
    obtain ⟨p1, o1, rfl, hat1⟩ := ints_get hA hjo
    refine .mid (X := Tr × List (Int × Int)) (fun _ => [(0, .slice (some ⟨p1, o1, none⟩) ks.length c1), (7, .pointer (some ⟨ba, 0, none⟩)), (8, .pointer (some ⟨bb, 0, none⟩)), (10, .map (some m)), (18, .int .i64 i)]) (fun x => TH bb x.1 ++ Mb m es cl :: TH ba t)
      (fun x => TOk x.1 x.2 ∧ x.2.length ≤ 12000000 ∧ PB ks os x.2 ∧ Agr (LA ks vs (min ks.length vs.length)) x.2 ∧ (∀ j, (hj : j < os.length) → getL os[j] (LA ks vs (min ks.length vs.length)) = none → getL os[j] x.2 = none) ∧ ∀ j, (hj : j < ks.length) → vs.length ≤ j → j < i + 1 → getL ks[j] (LA ks vs (min ks.length vs.length)) = none → getL ks[j] x.2 = none) (.block (.seq ((.region (.v (.move rfl) (.v (.move rfl) (.v (.move rfl) (.v (.indexAddr1 rfl rfl (by omega) (by omega)) (.v (.load (v := .int .i64 ks[i]) rfl (hat1 _ _ (by omega))) ?_))))))))) ?_
    · refine .v (.lookup2 (es := es) (c := cl) (q := .i64) rfl rfl) ?_
      have hfin : ∀ L', (∀ j, (hj : j < ks.length) → vs.length ≤ j → j < i → getL ks[j] (LA ks vs (min ks.length vs.length)) = none → getL ks[j] L' = none) → (getL ks[i] (LA ks vs (min ks.length vs.length)) = none → getL ks[i] L' = none) → ∀ j, (hj : j < ks.length) → vs.length ≤ j → j < i + 1 → getL ks[j] (LA ks vs (min ks.length vs.length)) = none → getL ks[j] L' = none := fun L' a c j hj hv hji hn => by
        by_cases e : j = i
        · subst e; exact c hn
        · exact a j hj hv (by omega) hn
      have hmi : (mget ks[i] es).isSome = (getL ks[i] (LA ks vs (min ks.length vs.length))).isSome := by rw [hM.g]; cases getL ks[i] (LA ks vs (min ks.length vs.length)) <;> rfl
      rw [hmi]
      cases hgo : getL ks[i] (LA ks vs (min ks.length vs.length)) with
      | none =>
        have hf6 := hfin (delL ks[i] L) (fun j hj hv hji hn => by
          rw [getL_del]
          split
          · rfl
          · exact h6 j hj hv hji hn) (fun _ => by rw [getL_del, if_pos rfl])
        have hf5 : ∀ j, (hj : j < os.length) → getL os[j] (LA ks vs (min ks.length vs.length)) = none → getL os[j] (delL ks[i] L) = none := fun j hj hn => by
          rw [getL_del]
          split
          · rfl
          · exact h5 j hj hn
        have hag' := hag.del hgo
        have hpb' := hpb.del ks[i]
        have hl := delL_len ks[i] L
        clear hmi hfin
        generalize ks[i] = k at hat1 hgo hf5 hf6 hag' hpb' hl
        refine .v (.move rfl) (.v (.extract rfl rfl) (.v (.extract (v := .bool false) rfl rfl) (.v (.assign rfl) (.v (.assign rfl) (.nil ?_)))))
        refine .seq ((.region (.v (.move rfl) (.v (.not rfl) (.nil ?_)))))
        refine .cond rfl (fun _ => ?_) (fun h => absurd h (by simp))
        refine .region (.v (.move rfl) (.v (.move rfl) (.v (.move rfl) (.v (.indexAddr1 rfl rfl (by omega) (by omega)) (.v (.load (v := .int .i64 k) rfl (hat1 _ _ (by omega))) ?_)))))
        refine .ef (.callT (TH bb u) rfl rfl fun w s => TDrop w bb hokb k (by omega)) ?_
        rintro _ _ ⟨_, ⟨u', hok', rfl, rfl⟩, rfl⟩
        refine .nil ?_
        exact ⟨(u', delL k L), ⟨hok', by dsimp only; omega, hpb', hag', hf5, hf6⟩, .cons rfl (.cons rfl (.cons rfl (.cons rfl (.cons rfl (.nil _))))), fun _ s => s⟩
      | some v =>
        refine .v (.move rfl) (.v (.extract rfl rfl) (.v (.extract (v := .bool true) rfl rfl) (.v (.assign rfl) (.v (.assign rfl) (.nil ?_)))))
        refine .seq ((.region (.v (.move rfl) (.v (.not rfl) (.nil ?_)))))
        refine .cond rfl (fun h => absurd h (by simp)) (fun _ => .skip ?_)
        exact ⟨(u, L), ⟨hokb, hlb, hpb, hag, h5, hfin L h6 (fun h => by rw [hgo] at h; cases h)⟩, .cons rfl (.cons rfl (.cons rfl (.cons rfl (.cons rfl (.nil _))))), fun _ s => s⟩
    · rintro ⟨u', L'⟩ ⟨q1, q2, q3, q4, q5, q6⟩
      dsimp only at q1 q2 q3 q4 q5 q6 ⊢
      refine .region (.v (.move rfl) (.v (.addi rfl rfl (by omega)) (.v (.assign rfl) (.nil ?_))))
      exact ⟨⟨i + 1, u', L'⟩, ⟨by show i + 1 ≤ max ks.length vs.length; omega, q1, q2, q3, q4, q5, q6⟩, by show ks.length - (i + 1) < ks.length - i; omega, .cons rfl (.cons rfl (.cons rfl (.cons rfl (.cons rfl (.nil _))))), fun _ s => s⟩
  have hsame := agree_all hpb hag h5 (fun j hj hv => h6 j hj hv (by omega)) hokb.k
  subst hsame
  clear h3 h5 h6 hag hpb hi
  have hle := (LA_keyed ks vs (min ks.length vs.length)).2
  have hMlen := hM.len
  have hMg := hM.g
  have hMok := hM.ok
  clear hM hgg
  generalize LA ks vs (min ks.length vs.length) = L at hok hlen hokb hlb hgk hle hMlen hMg
  refine .seq (.seq ((.region (.v (.move rfl) (.pc (v := .int .i64 es.length) rfl rfl (fun w s => by rw [hMlen]; exact TLen s hok) (.v (.move rfl) (.v (.lenM (es := es) (c := cl) (q := .i64) rfl) (.v (.nei rfl rfl) (.v (.move rfl) (.or (b2 := false) 185 190 5 5 rfl rfl (fun g3 => .v (.move rfl) (.pc (v := .int .i64 es.length) rfl rfl (fun w s => by rw [hMlen]; exact TLen s hokb) (.v (.move rfl) (.v (.lenM (es := es) (c := cl) (q := .i64) rfl) (.v (.nei rfl rfl) (.nil ⟨rfl, by show some (Value.bool (decide ((es.length : Int) ≠ es.length))) = some (Value.bool false); simp, rfl, rfl⟩)))))) (.nil ?_)))))))))))
  refine .cond rfl (fun h => absurd h (by simp)) (fun _ => .skip ?_)
  refine .seq (.seq ((.region (.v (.move rfl) (.ef (.range (es := es) (c := cl) (q := .i64) rfl) ?_)))))
  rintro _ _ ⟨r, rfl, rfl⟩
  refine .nil ?_
  refine .block (.loop (X := List Nat) (fun _ => [(7, .pointer (some ⟨ba, 0, none⟩)), (8, .pointer (some ⟨bb, 0, none⟩)), (193, .pointer (some ⟨r, 0, none⟩))]) (fun z => (r, iter_ m cl z cl) :: (TH bb u ++ Mb m es cl :: TH ba t)) (fun _ => True) (fun z => unseen es z) [] trivial (.cons rfl (.cons rfl (.cons rfl (.nil _)))) (fun _ s => s) ?_)
  rintro seen -
  refine .seq ((.region (.ef (.next (b := m) (seen := seen) (es := es) (c := cl) (q := .i64) rfl hMok.c (Nat.le_refl _)) ?_)))
  rintro _ _ (⟨rfl, _, rfl⟩ | ⟨y, hy, hns, rfl, rfl⟩)
  · refine .v (.extract rfl rfl) (.nil ?_)
    refine .seq (.cond rfl (fun h3 => by cases h3) (fun h3 => .exit ?_))
    refine .seq ((.region (.v (.assign rfl) (.nil ?_))))
    exact .ret ⟨[_], ⟨rfl, trivial⟩, rfl⟩
  · refine .v (.extract rfl rfl) (.nil ?_)
    refine .seq (.cond rfl (fun h3 => .skip ?_) (fun h3 => by cases h3))
    have hyg := hMok.get hy
    rw [hMg] at hyg
    obtain ⟨ky, vy, by_⟩ := y
    dsimp only at hyg hns hy ⊢
    cases hgy : getL ky L with
    | none => rw [hgy] at hyg; cases hyg
    | some vi =>
      rw [hgy] at hyg
      obtain rfl : vy = .int .i64 vi := (Option.some.inj hyg).symm
      refine .block (.seq ((.region (.v (.entry (b := m) (es := es) (c := cl) (y := (ky, .int .i64 vi, by_)) rfl hy hMok.b) (.v (.extract rfl rfl) (.v (.extract rfl rfl) (.v (.assign rfl) (.v (.assign rfl) (.nil ?_)))))))))
      refine .seq ((.region (.v (.move rfl) (.v (.move rfl) (.pc (v := gv (some vi)) rfl rfl (fun w s => by rw [← hgy]; exact TGet s hok ky) (.v (.move rfl) (.v (.extract (v := .int .i64 vi) rfl rfl) (.v (.extract (v := .bool true) rfl rfl) (.v (.assign rfl) (.v (.assign rfl) (.nil ?_)))))))))))
      refine .seq ((.region (.v (.move rfl) (.v (.move rfl) (.pc (v := gv (some vi)) rfl rfl (fun w s => by rw [← hgy]; exact TGet s hokb ky) (.v (.move rfl) (.v (.extract (v := .int .i64 vi) rfl rfl) (.v (.extract (v := .bool true) rfl rfl) (.v (.assign rfl) (.v (.assign rfl) (.nil ?_)))))))))))
      refine .seq ((.region (.v (.move rfl) (.v (.not rfl) (.v (.move rfl) (.or (b2 := false) 213 215 2 2 rfl rfl (fun g4 => .v (.move rfl) (.v (.not rfl) (.nil ⟨rfl, rfl, rfl, rfl⟩))) (.v (.move rfl) (.or (b2 := false) 217 220 3 3 rfl rfl (fun g5 => .v (.move rfl) (.v (.move rfl) (.v (.nei rfl rfl) (.nil ⟨rfl, by show some (Value.bool (decide (vi ≠ vi))) = some (Value.bool false); simp, rfl, rfl⟩)))) (.v (.move rfl) ?_)))))))))
      refine .or (b2 := false) 222 225 3 3 rfl rfl (fun g6 => .v (.move rfl) (.v (.move rfl) (.v (.nei rfl rfl) (.nil ⟨rfl, by show some (Value.bool (decide (vi ≠ vi))) = some (Value.bool false); simp, rfl, rfl⟩)))) (.v (.move rfl) (.or (b2 := false) 227 234 7 7 rfl rfl (fun g7 => .v (.move rfl) (.v (.move rfl) (.pc rfl rfl (fun w s => TRank s hok ky (by omega)) (.v (.move rfl) (.v (.move rfl) (.pc rfl rfl (fun w s => TRank s hokb ky (by omega)) (.v (.nei rfl rfl) (.nil ⟨rfl, by show some (Value.bool (decide ((rnkL ky L : Int) ≠ rnkL ky L))) = some (Value.bool false); simp, rfl, rfl⟩)))))))) (.nil ?_)))
      refine .cond rfl (fun h => absurd h (by simp)) (fun _ => .skip ?_)
      exact ⟨seen ++ [by_], trivial, unseen_lt hy hns, .cons rfl (.cons rfl (.cons rfl (.nil _))), fun _ s => s⟩
end Go.Proofs.Ytcmoeoghfckmpaa

/- VG: plain values (numbers, bools, strings, structs and arrays of these) that come in. -/
namespace Go
namespace V
open Go.RowKit Go.ChangeShapes Go.WideShapes Go.ChangeAt
set_option linter.unusedVariables false

def Lf.okw : Lf → Value → Prop
  | .i k, .int k' n => k' = k ∧ (Lit.int k n).wf = true
  | .b, .bool _ => True
  | .s, .string x => x.size ≤ maxLen
  | _, _ => False
def okw : List Lf → List Value → Prop
  | [], [] => True
  | l :: ls, v :: vs => l.okw v ∧ okw ls vs
  | _, _ => False
theorem Lf.okw.ok {l : Lf} {v : Value} (h : l.okw v) : l.ok v := by
  cases l <;> cases v <;> simp only [Lf.okw] at h <;> simp only [Lf.ok]
  exact h.1
theorem okw.oks : ∀ {ls : List Lf} {vs : List Value}, okw ls vs → V.oks ls vs
  | [], [], _ => trivial
  | l :: ls, v :: vs, h => ⟨h.1.ok, okw.oks h.2⟩
  | [], _ :: _, h => h.elim
  | _ :: _, [], h => h.elim
theorem okw_append : ∀ {l1 l2 : List Lf} {v1 v2 : List Value}, okw l1 v1 → okw l2 v2 → okw (l1 ++ l2) (v1 ++ v2)
  | [], l2, [], v2, _, h => h
  | l :: l1, l2, v :: v1, v2, h, k => ⟨h.1, okw_append h.2 k⟩
  | [], _, _ :: _, _, h, _ => h.elim
  | _ :: _, _, [], _, h, _ => h.elim
theorem okw_replicate {le : List Lf} {k : Nat} : ∀ {vs : List Value}, vs.length = k * le.length → (∀ i, i < k → okw le ((vs.drop (i * le.length)).take le.length)) → okw (List.replicate k le).flatten vs := by
  induction k with
  | zero => intro vs h _; have : vs = [] := by simpa using h
            subst this; exact trivial
  | succ k ih =>
    intro vs h hi
    rw [Nat.succ_mul] at h
    have h0 := hi 0 (by omega)
    simp only [Nat.zero_mul, List.drop_zero] at h0
    have hr := ih (vs := vs.drop le.length) (by simp; omega) (fun i hik => by
      have := hi (i + 1) (by omega)
      rw [List.drop_drop, show le.length + i * le.length = (i + 1) * le.length from by rw [Nat.succ_mul]; omega]
      exact this)
    have := okw_append h0 hr
    rw [List.take_append_drop] at this
    rw [List.replicate_succ, List.flatten_cons]
    exact this

section
variable {H : Type} {enc : TypeId × Value → H} {P : Program} {w : World} {base : Nat} {spare : Nat → Bool} {held : Bool}

theorem cellsOf_info {T : Nat} {i : TypeInfo} (h : P.info? T = some i) : P.cellsOf T = i.size := by simp [Program.cellsOf, h]

theorem trod_plain : ∀ (n T : Nat) (ls : List Lf) (fuel : Nat) (cs : List Value) (x : DataW H × List MemPlace), leaves P n T = some ls → P.cellsOf T = ls.length → DataW.trod enc P w base spare held fuel T cs = some x → okw ls cs := by
  intro n
  induction n with
  | zero => intro T ls fuel cs x h; simp [leaves] at h
  | succ n ih =>
    intro T ls fuel cs x h hsz ht
    unfold leaves at h
    split at h
    · rename_i hu; simp at h; subst h
      obtain ⟨b, rfl, _⟩ := DataW.trod_bool hu ht
      exact ⟨trivial, trivial⟩
    · rename_i hu; simp at h; subst h
      obtain ⟨s, rfl, _, hs⟩ := DataW.trod_string hu ht
      exact ⟨hs, trivial⟩
    · rename_i k hu; simp at h; subst h
      obtain ⟨m, rfl, _, hw⟩ := DataW.trod_int hu ht
      exact ⟨⟨rfl, hw⟩, trivial⟩
    · rename_i fs hu
      split at h
      · cases h
      · obtain ⟨xs, m, _, _, hlen, hxl, hf⟩ := DataW.trod_struct hu ht
        have hall : ∀ f ∈ fs.toList, ∃ y, DataW.trod enc P w base spare held m f.type ((cs.drop f.offset).take (P.cellsOf f.type)) = some y := by
          intro f hfm
          obtain ⟨i, hi, rfl⟩ := List.mem_iff_getElem.1 hfm
          have hi' : i < fs.size := by simpa using hi
          have := hf i fs[i] (by simp [hi'])
          refine ⟨xs[i]'(by omega), ?_⟩
          rw [Array.getElem_toList, this]
          simp [List.getElem?_eq_getElem (show i < xs.length by omega)]
        have key : ∀ (l : List Field) (acc : List Lf), l.foldl (fun acc f => match acc, leaves P n f.type, P.info? f.type with
            | some ls, some lf, some i => if f.name == "_" || f.offset != ls.length || i.size != lf.length then none else some (ls ++ lf)
            | _, _, _ => none) (some acc) = some ls →
            (∀ f ∈ l, ∃ y, DataW.trod enc P w base spare held m f.type ((cs.drop f.offset).take (P.cellsOf f.type)) = some y) → ∃ tl, ls = acc ++ tl ∧ okw tl (cs.drop acc.length) := by
          intro l
          induction l with
          | nil =>
            intro acc hacc _
            simp at hacc
            subst hacc
            refine ⟨[], by simp, ?_⟩
            rw [List.drop_of_length_le (by omega)]; exact trivial
          | cons f l ihl =>
            intro acc hacc hl
            simp only [List.foldl_cons] at hacc
            cases hlf : leaves P n f.type with
            | none => rw [hlf] at hacc; simp only at hacc; rw [foldl_none _ _ (fun x => rfl)] at hacc; cases hacc
            | some lf =>
              cases hif : P.info? f.type with
              | none => rw [hlf, hif] at hacc; simp only at hacc; rw [foldl_none _ _ (fun x => rfl)] at hacc; cases hacc
              | some i =>
                rw [hlf, hif] at hacc
                simp only at hacc
                split at hacc
                · rw [foldl_none _ _ (fun x => rfl)] at hacc; cases hacc
                · rename_i hcond
                  simp at hcond
                  obtain ⟨⟨c1, c2⟩, c3⟩ := hcond
                  have hcell : P.cellsOf f.type = lf.length := by rw [cellsOf_info hif, c3]
                  obtain ⟨y, hy⟩ := hl f (by simp)
                  have h1 := ih f.type lf m _ y hlf hcell hy
                  obtain ⟨tl, htl, hok⟩ := ihl (acc ++ lf) hacc (fun g hg => hl g (by simp [hg]))
                  refine ⟨lf ++ tl, by rw [htl, List.append_assoc], ?_⟩
                  rw [c2, hcell] at h1
                  rw [List.length_append] at hok
                  have := okw_append h1 hok
                  rw [← List.drop_drop, List.take_append_drop] at this
                  exact this
        obtain ⟨tl, htl, hok⟩ := key fs.toList [] h hall
        simp only [List.nil_append] at htl
        subst htl
        simpa using hok
    · rename_i k E hu
      split at h
      · rename_i le i hle hie
        split at h
        · cases h
        · rename_i hsz2
          simp at hsz2
          simp at h
          obtain ⟨xs, m, _, _, hlen, hxl, hf⟩ := DataW.trod_array hu ht
          have hcell : P.cellsOf E = le.length := by rw [cellsOf_info hie, hsz2]
          rw [hsz, ← h] at hlen
          rw [← h]
          refine okw_replicate (by simpa using hlen) fun j hj => ?_
          have := hf j hj
          rw [hcell] at this
          exact ih E le m _ (xs[j]'(by omega)) hle hcell (by rw [this]; simp [List.getElem?_eq_getElem (show j < xs.length by omega)])
      · cases h
    · cases h
theorem okWide_agg {T m base : Nat} {v : Value} (hT : Ag P T m) (h : Value.okWide P w .any base T v) : ∃ cs, v = .agg ⟨cs⟩ := by
  obtain ⟨d, i, hd, h1, _⟩ := hT.out
  unfold Value.okWide at h
  rw [hd] at h
  rcases h1 with ⟨f, rfl⟩ | ⟨k, e, rfl⟩ <;> (obtain ⟨cs, rfl, _⟩ := h; exact ⟨cs.toList, rfl⟩)
/-- a struct or an array of plain cells that came in by value -/
theorem open_plain {T m base2 : Nat} {ls : List Lf} {v : Value} {d : DataW H} {p : List MemPlace} [hT : Ag P T m] [hE : EqT P T ls] (hv : Value.okWide P w .any base2 T v) (h : DataW.Trod enc P w base spare held T v d p) :
    ∃ cs, v = .agg ⟨cs⟩ ∧ okw ls cs := by
  obtain ⟨cs, rfl⟩ := okWide_agg hT hv
  obtain ⟨fuel, hf⟩ := h
  refine ⟨cs, rfl, ?_⟩
  obtain ⟨h1, h2, _⟩ := hE.out
  obtain ⟨_, i, _, _, hi, hs⟩ := (Ag.of h2).out
  exact trod_plain 8 T ls fuel cs _ h1 (by rw [cellsOf_info hi, hs]) (by simpa [Value.cells] using hf)
end
end V
end Go

/- VN: slices of anything that come in: the cells of each element, and what each is read as. -/
namespace Go
namespace V
open Go.RowKit Go.ChangeShapes Go.WideShapes Go.ChangeAt
set_option linter.unusedVariables false

/-- these cells are read as 'd' -/
def TC {H : Type} (enc : TypeId × Value → H) (P : Program) (w : World) (base : Nat) (spare : Nat → Bool) (held : Bool) (t : TypeId) (cs : List Value) (d : DataW H) : Prop :=
  ∃ fuel p, DataW.trod enc P w base spare held fuel t cs = some (d, p)
section
variable {H : Type} {enc : TypeId × Value → H} {P : Program} {w : World} {base : Nat} {spare : Nat → Bool} {held : Bool}
theorem TC.of {t : TypeId} {v : Value} {cs : List Value} {d : DataW H} {p : List MemPlace} (h : DataW.Trod enc P w base spare held t v d p) (hc : v.cells = ⟨cs⟩) : TC enc P w base spare held t cs d := by
  obtain ⟨fuel, hf⟩ := h
  rw [hc] at hf
  exact ⟨fuel, p, hf⟩
theorem TC.int {t : TypeId} {k : IntKind} {cs : List Value} {d : DataW H} (ht : P.underlying t = some (.int k)) (h : TC enc P w base spare held t cs d) : ∃ n, cs = [.int k n] ∧ (Lit.int k n).wf = true := by
  obtain ⟨fuel, p, hf⟩ := h
  obtain ⟨n, h1, _, h2⟩ := DataW.trod_int ht hf
  exact ⟨n, h1, h2⟩
theorem TC.bool {t : TypeId} {cs : List Value} {d : DataW H} (ht : P.underlying t = some .bool) (h : TC enc P w base spare held t cs d) : ∃ b, cs = [.bool b] := by
  obtain ⟨fuel, p, hf⟩ := h
  obtain ⟨b, h1, _⟩ := DataW.trod_bool ht hf
  exact ⟨b, h1⟩
theorem TC.plain {t : TypeId} {cs : List Value} {d : DataW H} {ls : List Lf} (hl : leaves P 8 t = some ls) (hs : P.cellsOf t = ls.length) (h : TC enc P w base spare held t cs d) : okw ls cs := by
  obtain ⟨fuel, p, hf⟩ := h
  exact trod_plain 8 t ls fuel cs _ hl hs hf
/-- a struct's fields -/
theorem TC.struct {t : TypeId} {fs : Array Field} {cs : List Value} {d : DataW H} (ht : P.underlying t = some (.struct fs)) (h : TC enc P w base spare held t cs d) :
    ∃ ds, d = .agg ds ∧ ds.length = fs.size ∧ cs.length = P.cellsOf t ∧ ∀ (i : Nat) (f : Field) (di : DataW H), fs[i]? = some f → ds[i]? = some di → TC enc P w base spare held f.type ((cs.drop f.offset).take (P.cellsOf f.type)) di := by
  obtain ⟨fuel, p, hf⟩ := h
  obtain ⟨xs, n, _, hx, hl, hn, hf⟩ := DataW.trod_struct ht hf
  simp only [Prod.mk.injEq] at hx
  refine ⟨xs.map (·.1), hx.1, by simpa using hn, hl, fun i f di h1 h2 => ?_⟩
  have := hf i f h1
  rw [List.getElem?_map] at h2
  cases h3 : xs[i]? with
  | none => rw [h3] at h2; cases h2
  | some x =>
    rw [h3] at h2 this
    simp at h2
    exact ⟨n, x.2, by rw [this, ← h2]⟩
/-- a slice's elements -/
theorem TC.slice {t e m : Nat} {cs : List Value} {d : DataW H} (ht : P.underlying t = some (.slice e)) (hm : P.cellsOf e = m) (h0 : 0 < m) (h : TC enc P w base spare held t cs d) :
    ∃ A len cap, ∃ (css : List (List Value)) (ds : List (DataW H)), cs = [.slice A len cap] ∧ css.length = len ∧ ds.length = len ∧ (∀ c ∈ css, c.length = m) ∧ (∀ (i : Nat) (c : List Value), css[i]? = some c → ∀ (j : Nat) (v : Value), c[j]? = some v → ∃ b o, A = some ⟨b, o, none⟩ ∧ w.cell? ⟨b, o + (i * m + j), none⟩ = some v) ∧
      (d = .nil ∧ len = 0 ∨ ∃ sp, d = .slice ds sp) ∧ ∀ (i : Nat) (c : List Value) (di : DataW H), css[i]? = some c → ds[i]? = some di → TC enc P w base spare held e c di := by
  obtain ⟨fuel, p, hf⟩ := h
  rcases DataW.trod_slice ht hf with ⟨rfl, hx⟩ | ⟨a, len, cap, elems, rest, n, _, rfl, hx, hb, hl, hc, hn, he, _⟩
  · simp only [Prod.mk.injEq] at hx
    exact ⟨none, 0, 0, [], [], rfl, rfl, rfl, by simp, by simp, .inl ⟨hx.1, rfl⟩, by simp⟩
  · simp only [Prod.mk.injEq] at hx
    rw [hm] at he
    have each : ∀ i, i < len → ∃ c x, w.cells? base (a.add (i * m)) m = some c ∧ DataW.trod enc P w base spare held n e c = some x ∧ elems[i]? = some x := by
      intro i hi
      have := he i hi
      rw [List.getElem?_eq_getElem (by omega)] at this
      obtain ⟨c, h1, h2⟩ := Option.bind_eq_some_iff.1 this
      exact ⟨c, _, h1, h2, List.getElem?_eq_getElem (by omega)⟩
    have hcs : ∃ css : List (List Value), css.length = len ∧ ∀ i c, css[i]? = some c → ∃ x, w.cells? base (a.add (i * m)) m = some c ∧ DataW.trod enc P w base spare held n e c = some x ∧ elems[i]? = some x := by
      have key : ∀ k, k ≤ len → ∃ css : List (List Value), css.length = k ∧ ∀ i c, css[i]? = some c → ∃ x, w.cells? base (a.add (i * m)) m = some c ∧ DataW.trod enc P w base spare held n e c = some x ∧ elems[i]? = some x := by
        intro k
        induction k with
        | zero => intro _; exact ⟨[], rfl, by simp⟩
        | succ k ih =>
          intro hk
          obtain ⟨css, h1, h2⟩ := ih (by omega)
          obtain ⟨c, x, h3⟩ := each k (by omega)
          refine ⟨css ++ [c], by simp [h1], fun i c' hc' => ?_⟩
          by_cases hi : i < k
          · rw [List.getElem?_append_left (by omega)] at hc'
            exact h2 i c' hc'
          · rw [List.getElem?_append_right (by omega)] at hc'
            have hik : i = k := by
              have := (List.getElem?_eq_some_iff.1 hc').1
              simp at this; omega
            subst hik
            simp [h1] at hc'
            subst hc'
            exact ⟨x, h3⟩
      exact key len (Nat.le_refl _)
    obtain ⟨css, h1, h2⟩ := hcs
    refine ⟨some a, len, cap, css, elems.map (·.1), rfl, h1, by simpa using hn, fun c hc => ?_, fun i c hc j v hv => ?_, .inr ⟨_, hx.1⟩, fun i c di hc hdi => ?_⟩
    · obtain ⟨i, hi⟩ := List.mem_iff_getElem?.1 hc
      obtain ⟨x, h3, _⟩ := h2 i c hi
      exact (World.cells?_some h3).2.1
    · obtain ⟨x, h3, _⟩ := h2 i c hc
      obtain ⟨g1, g2, g3⟩ := World.cells?_some h3
      have hj := (List.getElem?_eq_some_iff.1 hv).1
      have hcell := g3 j (by omega)
      rw [hv] at hcell
      obtain ⟨b, o, sp⟩ := a
      have hsp : sp = none := by
        have hlt : 0 < css.length := by
          have := (List.getElem?_eq_some_iff.1 hc).1
          omega
        obtain ⟨x0, k3, _⟩ := h2 0 css[0] (List.getElem?_eq_getElem hlt)
        obtain ⟨_, k2, k4⟩ := World.cells?_some k3
        have := k4 0 h0
        rw [List.getElem?_eq_getElem (by omega)] at this
        simpa [Addr.add] using World.cell?_spot this
      subst hsp
      refine ⟨b, o, rfl, ?_⟩
      rw [add_none, add_none, Nat.add_assoc] at hcell
      exact hcell
    · obtain ⟨x, h3, h4, h5⟩ := h2 i c hc
      rw [List.getElem?_map, h5] at hdi
      simp at hdi
      exact ⟨n, x.2, by rw [h4, ← hdi]⟩
end
/-- one for each number below n -/
theorem list_of {α : Type} {Q : Nat → α → Prop} (n : Nat) (h : ∀ i, i < n → ∃ x, Q i x) : ∃ l : List α, l.length = n ∧ ∀ (i : Nat) (x : α), l[i]? = some x → Q i x := by
  induction n with
  | zero => exact ⟨[], rfl, by simp⟩
  | succ n ih =>
    obtain ⟨l, h1, h2⟩ := ih fun i hi => h i (by omega)
    obtain ⟨x, hx⟩ := h n (by omega)
    refine ⟨l ++ [x], by simp [h1], fun i y hy => ?_⟩
    by_cases hi : i < n
    · rw [List.getElem?_append_left (by omega)] at hy
      exact h2 i y hy
    · rw [List.getElem?_append_right (by omega)] at hy
      have hlt := (List.getElem?_eq_some_iff.1 hy).1
      simp at hlt
      have : i = n := by omega
      subst this
      simp [h1] at hy
      subst hy
      exact hx
section
variable {H : Type} {enc : TypeId × Value → H} {P : Program} {w : World} {base : Nat} {spare : Nat → Bool} {held : Bool}
/-- bytes -/
theorem TC.bytes {t e : Nat} {cs : List Value} {d : DataW H} (ht : P.underlying t = some (.slice e)) (he : P.underlying e = some (.int .u8)) (hm : P.cellsOf e = 1) (h : TC enc P w base spare held t cs d) :
    ∃ A c ys, cs = [.slice A (List.length ys) c] ∧ Rd w [] A (byts ys) ∧ (d = .nil ∧ ys = [] ∨ ∃ ds sp, d = .slice ds sp ∧ ds.length = ys.length) := by
  obtain ⟨A, len, cap, css, ds, h1, h2, h3, h4, h5, h6, h7⟩ := h.slice ht hm (by omega)
  obtain ⟨ys, hy1, hy2⟩ := list_of (Q := fun i (y : BitVec 8) => css[i]? = some [.int .u8 y.toNat]) len (fun i hi => by
    have hc := List.getElem?_eq_getElem (show i < css.length by omega)
    have hd := List.getElem?_eq_getElem (show i < ds.length by omega)
    obtain ⟨n, hn, hw⟩ := (h7 i _ _ hc hd).int he
    have := wf_u8 hw
    refine ⟨BitVec.ofNat 8 n.toNat, ?_⟩
    rw [hc, hn]
    simp
    omega)
  refine ⟨A, cap, ys, by rw [h1, hy1], fun j v hv => ?_, ?_⟩
  · have hj : j < ys.length := by have := (List.getElem?_eq_some_iff.1 hv).1; simpa [byts_length] using this
    rw [byts_get hj] at hv
    have h8 := hy2 j _ (List.getElem?_eq_getElem hj)
    obtain ⟨b, o, e1, e2⟩ := h5 j _ h8 0 v (by simpa using hv)
    exact ⟨b, o, e1, by simp, by simpa using e2⟩
  · rcases h6 with ⟨e1, e2⟩ | ⟨sp, e1⟩
    · exact .inl ⟨e1, List.eq_nil_of_length_eq_zero (by omega)⟩
    · exact .inr ⟨ds, sp, e1, by omega⟩
end
end V
end Go

/- VT: lists of plain records that come in; what their lengths are held to. -/
namespace Go
namespace V
open Go.RowKit Go.ChangeShapes Go.WideShapes Go.ChangeAt
set_option linter.unusedVariables false

theorem flatten_get {m : Nat} : ∀ (rs : List (List Value)), (∀ r ∈ rs, r.length = m) → ∀ (k : Nat) (v : Value), rs.flatten[k]? = some v → ∃ i j r, rs[i]? = some r ∧ r[j]? = some v ∧ k = i * m + j
  | [], _, k, v, h => by simp at h
  | r :: rs, hm, k, v, h => by
    rw [List.flatten_cons] at h
    by_cases hk : k < r.length
    · rw [List.getElem?_append_left hk] at h
      exact ⟨0, k, r, rfl, h, by simp⟩
    · rw [List.getElem?_append_right (by omega)] at h
      obtain ⟨i, j, r', h1, h2, h3⟩ := flatten_get rs (fun r hr => hm r (List.mem_cons_of_mem _ hr)) _ v h
      have := hm r List.mem_cons_self
      exact ⟨i + 1, j, r', by simpa using h1, h2, by rw [Nat.succ_mul]; omega⟩
theorem map_of {α β : Type} {f : α → β} {Q : α → Prop} : ∀ (rs : List β), (∀ r ∈ rs, ∃ x, r = f x ∧ Q x) → ∃ l : List α, rs = l.map f ∧ ∀ x ∈ l, Q x
  | [], _ => ⟨[], rfl, by simp⟩
  | r :: rs, h => by
    obtain ⟨x, h1, h2⟩ := h r List.mem_cons_self
    obtain ⟨l, h3, h4⟩ := map_of rs fun r hr => h r (List.mem_cons_of_mem _ hr)
    exact ⟨x :: l, by simp [h1, h3], fun y hy => by rcases List.mem_cons.1 hy with rfl | hy; exact h2; exact h4 y hy⟩
theorem okw_length : ∀ {ls : List Lf} {cs : List Value}, okw ls cs → cs.length = ls.length
  | [], [], _ => rfl
  | l :: ls, c :: cs, h => by have := okw_length h.2; simp [this]
  | [], _ :: _, h => h.elim
  | _ :: _, [], h => h.elim
section
variable {H : Type} {enc : TypeId × Value → H} {P : Program} {w : World} {base : Nat} {spare : Nat → Bool} {held : Bool}
/-- a slice of plain records -/
theorem TC.recs {t e : Nat} {ls : List Lf} {cs : List Value} {d : DataW H} (ht : P.underlying t = some (.slice e)) (hl : leaves P 8 e = some ls) (hs : P.cellsOf e = ls.length) (h0 : 0 < ls.length) (h : TC enc P w base spare held t cs d) :
    ∃ A cap, ∃ rs : List (List Value), cs = [.slice A rs.length cap] ∧ (∀ r ∈ rs, okw ls r) ∧ Rd w [] A rs.flatten ∧ (d = .nil ∧ rs = [] ∨ ∃ ds sp, d = .slice ds sp ∧ ds.length = rs.length) := by
  obtain ⟨A, len, cap, css, ds, h1, h2, h3, h4, h5, h6, h7⟩ := h.slice ht hs h0
  refine ⟨A, cap, css, by rw [h1, h2], fun r hr => ?_, fun k v hv => ?_, ?_⟩
  · obtain ⟨i, hi, rfl⟩ := List.mem_iff_getElem.1 hr
    exact (h7 i _ _ (List.getElem?_eq_getElem hi) (List.getElem?_eq_getElem (by omega))).plain hl hs
  · obtain ⟨i, j, r, e1, e2, rfl⟩ := flatten_get css h4 k v hv
    obtain ⟨b, o, e3, e4⟩ := h5 i r e1 j v e2
    exact ⟨b, o, e3, by simp, e4⟩
  · rcases h6 with ⟨e1, e2⟩ | ⟨sp, e1⟩
    · exact .inl ⟨e1, List.eq_nil_of_length_eq_zero (by omega)⟩
    · exact .inr ⟨ds, sp, e1, by omega⟩
/-- the weights of a struct's parts -/
theorem sized_agg {ts : List TypeId} {ds : List (DataW H)} (h : (DataW.weightsEach P ts ds).all (· ≤ reachBytes) = true) {j : Nat} {t : TypeId} {fs : Array Field} {parts : List (DataW H)} (ht : ts[j]? = some t) (hd : ds[j]? = some (.agg parts)) (hu : P.underlying t = some (.struct fs)) :
    (DataW.weightsEach P (fs.toList.map (·.type)) parts).all (· ≤ reachBytes) = true := by
  rw [List.all_eq_true]
  intro x hx
  exact List.all_eq_true.1 h _ (DataW.weights_mem_each ht hd x (by simp only [DataW.weights, hu]; exact hx))
theorem sized_len {ts : List TypeId} {ds : List (DataW H)} (h : (DataW.weightsEach P ts ds).all (· ≤ reachBytes) = true) {j n : Nat} {t e : TypeId} {d : DataW H} (ht : ts[j]? = some t) (hd : ds[j]? = some d) (hu : P.underlying t = some (.slice e))
    (hk : d = .nil ∧ n = 0 ∨ ∃ es sp, d = .slice es sp ∧ es.length = n) : n * P.bytesOf e ≤ reachBytes := by
  rcases hk with ⟨_, rfl⟩ | ⟨es, sp, rfl, rfl⟩
  · simp
  · have := sized_slice h ht hd hu
    have h2 : es.length * P.bytesOf e ≤ (es.length + sp.length) * P.bytesOf e := Nat.mul_le_mul_right _ (by omega)
    omega
end
end V
end Go

/- VB: slices that come in: they have room for what they hold. -/
namespace Go
namespace V
open Go.RowKit Go.ChangeShapes Go.WideShapes
set_option linter.unusedVariables false
set_option linter.unusedSimpArgs false
section
variable {P : Program} {H : Type} {enc : TypeId × Value → H} {w : World} {base : Nat} {spare : Nat → Bool} {held : Bool}
theorem TC.cap {t e len cap : Nat} {A : Option Addr} {d : DataW H} (ht : P.underlying t = some (.slice e)) (h : TC enc P w base spare held t [.slice A len cap] d) : len ≤ cap := by
  obtain ⟨fuel, p, hf⟩ := h
  rcases DataW.trod_slice ht hf with ⟨e1, hx⟩ | ⟨a, len', cap', elems, rest, n, _, e1, hx, hb, hl, hc, hn, he, _⟩
  · simp at e1; omega
  · simp at e1
    obtain ⟨rfl, rfl, rfl⟩ := e1
    omega
/-- a slice of plain records, with its room -/
theorem TC.recsK {t e : Nat} {ls : List Lf} {cs : List Value} {d : DataW H} (ht : P.underlying t = some (.slice e)) (hl : leaves P 8 e = some ls) (hs : P.cellsOf e = ls.length) (h0 : 0 < ls.length) (h : TC enc P w base spare held t cs d) :
    ∃ A cap, ∃ rs : List (List Value), cs = [.slice A rs.length cap] ∧ (∀ r ∈ rs, okw ls r) ∧ Rd w [] A rs.flatten ∧ rs.length ≤ cap ∧ (d = .nil ∧ rs = [] ∨ ∃ ds sp, d = .slice ds sp ∧ ds.length = rs.length) := by
  obtain ⟨A, cap, rs, rfl, h2, h3, h4⟩ := h.recs ht hl hs h0
  exact ⟨A, cap, rs, rfl, h2, h3, TC.cap ht h, h4⟩
end
theorem okw_i {k : IntKind} {ls : List Lf} {cs : List Value} (h : okw (.i k :: ls) cs) : ∃ a cs', cs = .int k a :: cs' ∧ (Lit.int k a).wf = true ∧ okw ls cs' := by
  match cs, h with
  | .int _ a :: cs', ⟨⟨h1, w1⟩, h2⟩ => subst h1; exact ⟨a, cs', rfl, w1, h2⟩
theorem okw_b {ls : List Lf} {cs : List Value} (h : okw (.b :: ls) cs) : ∃ a cs', cs = .bool a :: cs' ∧ okw ls cs' := by
  match cs, h with
  | .bool a :: cs', ⟨h1, h2⟩ => exact ⟨a, cs', rfl, h2⟩
theorem okw_nil {cs : List Value} (h : okw [] cs) : cs = [] := by
  match cs, h with
  | [], _ => rfl
end V
end Go

/- How many values arguments hold; slices of records as they come in. -/
namespace Go.Proofs.Ytcmoeoghfckmpaa
open Go.V Go.ChangeShapes Go.WideShapes Go.ChangeAt
set_option linter.unusedVariables false
set_option linter.unusedSimpArgs false

theorem bulk_pos {H : Type} (d : DataW H) : 1 ≤ Rows.uptoBulk d := by
  cases d with
  | lit l => cases l <;> simp [Rows.uptoBulk]
  | _ => simp [Rows.uptoBulk]
theorem bulk_len {H : Type} : ∀ (ds : List (DataW H)), ds.length ≤ Rows.uptoBulkAll ds
  | [] => by simp
  | d :: ds => by
    have h1 := bulk_pos d
    have h2 := bulk_len ds
    simp only [Rows.uptoBulkAll, List.length_cons]
    omega
theorem bulk_get {H : Type} : ∀ {ds : List (DataW H)} {i : Nat} {d : DataW H}, ds[i]? = some d → Rows.uptoBulk d ≤ Rows.uptoBulkAll ds
  | d' :: ds, 0, d, h => by simp at h; subst h; simp [Rows.uptoBulkAll]
  | d' :: ds, i + 1, d, h => by
    have := bulk_get (ds := ds) (i := i) (by simpa using h)
    simp only [Rows.uptoBulkAll]
    omega
  | [], i, d, h => by simp at h
theorem bulk_sum {H α : Type} (f : α → Nat) : ∀ {ds : List (DataW H)} {l : List α}, l.length = ds.length → (∀ (i : Nat) (x : α) (d : DataW H), l[i]? = some x → ds[i]? = some d → f x ≤ Rows.uptoBulk d) → (l.map f).sum ≤ Rows.uptoBulkAll ds
  | [], [], _, _ => by simp
  | d :: ds, x :: l, h, k => by
    have h1 := k 0 x d rfl rfl
    have h2 := bulk_sum f (ds := ds) (l := l) (by simpa using h) (fun i x d hx hd => k (i + 1) x d (by simpa using hx) (by simpa using hd))
    simp only [List.map_cons, List.sum_cons, Rows.uptoBulkAll]
    omega
  | [], _ :: _, h, _ => by simp at h
  | _ :: _, [], h, _ => by simp at h
section
variable {P : Program} {H : Type} {enc : TypeId × Value → H} {w : World} {base : Nat} {spare : Nat → Bool} {held : Bool}
/-- plain records -/
theorem TC.list {α : Type} (f : α → List Value) (Q : α → Prop) {t e : Nat} {ls : List Lf} {cs : List Value} {d : DataW H} (ht : P.underlying t = some (.slice e)) (hl : leaves P 8 e = some ls) (hs : P.cellsOf e = ls.length) (h0 : 0 < ls.length)
    (hf : ∀ r, okw ls r → ∃ x, r = f x ∧ Q x) (h : TC enc P w base spare held t cs d) :
    ∃ A cap, ∃ l : List α, cs = [.slice A l.length cap] ∧ (∀ x ∈ l, Q x) ∧ Rd w [] A (l.flatMap f) ∧ l.length ≤ cap ∧ l.length ≤ Rows.uptoBulk d := by
  obtain ⟨A, cap, rs, rfl, h2, h3, h5, h4⟩ := TC.recsK ht hl hs h0 h
  obtain ⟨l, rfl, hl⟩ := map_of (f := f) (Q := Q) rs fun r hr => hf r (h2 r hr)
  refine ⟨A, cap, l, by rw [List.length_map], hl, by rw [List.flatMap_def]; exact h3, by simpa using h5, ?_⟩
  rcases h4 with ⟨e1, e2⟩ | ⟨ds, sp, rfl, e2⟩
  · have : l = [] := by simpa using e2
    subst this; simp
  · have := bulk_len ds
    simp only [Rows.uptoBulk]
    rw [List.length_map] at e2
    omega
/-- records of whatever -/
theorem TC.listN {α : Type} (f : α → List Value) (Q : α → DataW H → Prop) {t e m : Nat} {cs : List Value} {d : DataW H} (ht : P.underlying t = some (.slice e)) (hm : P.cellsOf e = m) (h0 : 0 < m)
    (hf : ∀ c di, TC enc P w base spare held e c di → ∃ x, c = f x ∧ Q x di) (h : TC enc P w base spare held t cs d) :
    ∃ A cap, ∃ l : List α, cs = [.slice A l.length cap] ∧ Rd w [] A (l.flatMap f) ∧ l.length ≤ cap ∧ l.length ≤ Rows.uptoBulk d ∧ (∀ x ∈ l, ∃ di, Q x di ∧ Rows.uptoBulk di ≤ Rows.uptoBulk d) ∧
      ∀ g : α → Nat, (∀ x di, Q x di → g x ≤ Rows.uptoBulk di) → (l.map g).sum ≤ Rows.uptoBulk d := by
  obtain ⟨A, len, cap, css, ds, rfl, h2, h3, h4, h5, h6, h7⟩ := TC.slice ht hm h0 h
  have hcap := TC.cap ht h
  obtain ⟨l, hl1, hl2⟩ := list_of (Q := fun i (x : α) => css[i]? = some (f x) ∧ ∃ di, ds[i]? = some di ∧ Q x di) len (fun i hi => by
    have hc := List.getElem?_eq_getElem (show i < css.length by omega)
    have hd := List.getElem?_eq_getElem (show i < ds.length by omega)
    obtain ⟨x, e1, e2⟩ := hf _ _ (h7 i _ _ hc hd)
    exact ⟨x, by rw [hc, e1], _, hd, e2⟩)
  have hcss : css = l.map f := by
    apply List.ext_getElem?
    intro i
    by_cases hi : i < len
    · have hx := List.getElem?_eq_getElem (show i < l.length by omega)
      rw [(hl2 i _ hx).1, List.getElem?_map, hx]; rfl
    · rw [List.getElem?_eq_none (by omega), List.getElem?_eq_none (by simp; omega)]
  have hb : ∀ di ∈ ds, Rows.uptoBulk di ≤ Rows.uptoBulk d := by
    intro di hdi
    rcases h6 with ⟨_, e2⟩ | ⟨sp, rfl⟩
    · have : ds = [] := List.eq_nil_of_length_eq_zero (by omega)
      subst this; cases hdi
    · obtain ⟨i, hi, rfl⟩ := List.mem_iff_getElem.1 hdi
      have := bulk_get (List.getElem?_eq_getElem hi)
      simp only [Rows.uptoBulk]
      omega
  refine ⟨A, cap, l, by rw [hl1], fun k v hv => ?_, by omega, ?_, fun x hx => ?_, fun g hg => ?_⟩
  · rw [List.flatMap_def, ← hcss] at hv
    obtain ⟨i, j, r, e1, e2, rfl⟩ := flatten_get css h4 k v hv
    obtain ⟨b, o, e3, e4⟩ := h5 i r e1 j v e2
    exact ⟨b, o, e3, by simp, e4⟩
  · rcases h6 with ⟨_, e2⟩ | ⟨sp, rfl⟩
    · have := bulk_pos d; omega
    · have := bulk_len ds
      simp only [Rows.uptoBulk]
      omega
  · obtain ⟨i, hi, rfl⟩ := List.mem_iff_getElem.1 hx
    obtain ⟨-, di, hdi, hq⟩ := hl2 i _ (List.getElem?_eq_getElem hi)
    exact ⟨di, hq, hb _ (List.mem_of_getElem? hdi)⟩
  · rcases h6 with ⟨_, e2⟩ | ⟨sp, rfl⟩
    · have : l = [] := List.eq_nil_of_length_eq_zero (by omega)
      subst this; simp
    · have := bulk_sum g (ds := ds) (l := l) (by omega) (fun i x di hx hdi => by
        obtain ⟨-, di', hdi', hq⟩ := hl2 i x hx
        rw [hdi] at hdi'; cases hdi'
        exact hg x di hq)
      simp only [Rows.uptoBulk]
      omega
end
end Go.Proofs.Ytcmoeoghfckmpaa

/- Slices of whole numbers as they come in. -/
namespace Go.Proofs.Ytcmoeoghfckmpaa
open Go.V Go.ChangeShapes Go.WideShapes Go.ChangeAt
set_option linter.unusedVariables false
set_option linter.unusedSimpArgs false

theorem wfi64 {n : Int} (h : (Lit.int .i64 n).wf = true) : -9223372036854775808 ≤ n ∧ n ≤ 9223372036854775807 := by
  simpa [Lit.wf, IntKind.min, IntKind.max, IntKind.signed, IntKind.bits] using h
theorem read_ints {H : Type} {enc : TypeId × Value → H} {W : World} {base : Nat} {spare : Nat → Bool} {held : Bool} {a0 : Option Addr} {len cap : Nat} {d : DataW H} {p : List MemPlace}
    (h : DataW.Trod enc Try.prog W base spare held 22 (.slice a0 len cap) d p) : ∃ zs : List Int, Rd W [] a0 (ints .i64 zs) ∧ len = zs.length ∧ len ≤ Rows.uptoBulk d ∧ ∀ n ∈ zs, (Lit.int .i64 n).wf = true := by
  obtain ⟨zs, h1, h2, h3, h4⟩ := open_slice_ints Try.underlying22 Try.underlying3 (by kernel_rfl) h
  refine ⟨zs, h1, h2, ?_, h3⟩
  rcases h4 with rfl | ⟨es, sp, rfl, rfl⟩
  · omega
  · have := bulk_len es
    simp only [Rows.uptoBulk]
    omega
end Go.Proofs.Ytcmoeoghfckmpaa
