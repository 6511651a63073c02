/- The accounts of what a book told. -/
import Derived.Test.YtmfobfamdaajmaaZQLives
import Derived.Test.YtmfobfamdaajmaaMB
namespace Go.Proofs.Ytmfobfamdaajmaa
open Go.V
set_option linter.unusedVariables false
set_option linter.unusedSimpArgs false

set_option maxRecDepth 10000 in
set_option maxHeartbeats 1000000 in
theorem counted_ok (w : World) (v0 : Value) (l0 : List Lv) (h0 : Hp) (hk : LOwn v0 l0 h0) (Ae : Option Addr) (ce : Nat) (evs : List Ev) (hE : Rd w (bl h0) Ae (erows evs)) (lz : List Lv) (hcs : Cs l0 evs lz) (hb : l0.length + evs.length ≤ 2000000000000) :
    Does Try.prog 24 [v0, .slice Ae evs.length ce] h0 w (fun u hs => ∃ v', u = .tuple ⟨[v', .bool true]⟩ ∧ LOwn v' lz hs) := by
  refine Does.of (n := 188) Try.func24 rfl rfl rfl rfl ?_
  refine .seq ((.region (.v (.assign rfl) (.v (.assign rfl) (.nil ?_)))))
  refine .seq (.seq ((.region (.v (.assign rfl) (.nil ?_)))))
  refine .block (.loop (X := Nat × List Lv × Value × Hp) (fun x => [(0, x.2.2.1), (1, .slice Ae evs.length ce), (6, .int .i64 x.1)]) (fun x => x.2.2.2) (fun x => x.1 ≤ evs.length ∧ x.2.1.length ≤ l0.length + x.1 ∧ Cs x.2.1 (evs.drop x.1) lz ∧ LOwn x.2.2.1 x.2.1 x.2.2.2) (fun x => evs.length - x.1)
    (0, l0, v0, h0) ⟨by simp, by simp, by simpa using hcs, hk⟩ (.cons rfl (.cons rfl (.cons rfl (.nil _)))) (fun _ s => s) ?_)
  rintro ⟨j, l, v, h⟩ ⟨hj, hlen, hcl, k⟩
  dsimp only at hj hlen hcl k ⊢
  obtain ⟨A, c, rfl⟩ := OwnS.sl k
  refine .seq (.seq ((.region (.v (.move rfl) (.v (.move rfl) (.v (.len rfl) (.v (.lss rfl rfl) (.nil ?_))))))))
  refine .cond_dec rfl (fun h1 => .skip ?_) (fun h1 => .exit ?_)
  · have hjl : j < evs.length := by omega
    obtain ⟨be, oe, e1, hbe, hce⟩ := hE.base (by rw [erows_length]; omega)
    subst e1
    rw [drop_at hjl] at hcl
    have hev : ∀ (k : Nat) (v : Value) (hs : Hp), k < 13 → (evs[j].cells)[k]? = some v → At w (bl h0) hs ⟨be, oe + j * 13 + k, none⟩ [v] := fun k v hs hk hv => .old1 (by rw [Nat.add_assoc]; exact hce (j * 13 + k) v (by rw [erows_get evs j k hjl hk]; exact hv)) hbe
    generalize evs[j] = e at hcl hev
    cases hcl with
    | @cons _ l' _ _ _ c1 ctl =>
    have hl' : l'.length ≤ l0.length + (j + 1) := by cases c1 <;> (try simp) <;> omega
    have fin : ∀ (v' : Value) (h' : Hp), LOwn v' l' h' → ∃ x : Nat × List Lv × Value × Hp, (x.1 = j ∧ x.2.1 = l' ∧ LOwn x.2.2.1 x.2.1 x.2.2.2) ∧ x.2.2.1 = v' ∧ x.2.2.2 = h' := fun v' h' k' => ⟨(j, l', v', h'), ⟨rfl, rfl, k'⟩, rfl, rfl⟩
    refine .mid (X := Value × Hp) (fun x => [(0, x.1), (1, .slice (some ⟨be, oe, none⟩) evs.length ce), (6, .int .i64 j)]) (fun x => x.2) (fun x => LOwn x.1 l' x.2) (.block (.seq ((.region (.v (.move rfl) (.v (.move rfl) (.v (.indexAddr rfl rfl (by omega) (by omega)) (.v (.fieldAddr rfl) (.v (.load (v := .int .i64 e.kind) rfl (hev 1 _ _ (by omega) rfl)) (.nil ?_)))))))))) ?_
    · refine .block (.seq ((.region (.v (.eqi rfl rfl) (.v (.assign rfl) (.nil ?_))))))
      cases c1 with
      | ack hk1 hn =>
        refine .cond_dec rfl (fun h2 => ?_) (fun h2 => absurd hk1 h2)
        refine .seq (.seq ((.region (.v (.move rfl) (.v (.move rfl) (.v (.move rfl) (.v (.indexAddr rfl rfl (by omega) (by omega)) (.v (.fieldAddr rfl) (.v (.load (v := .int .u64 e.id) rfl (hev 2 _ _ (by omega) rfl)) ?_)))))))))
        refine .pc (v := .int .i64 (-1)) rfl rfl (fun w s => by rw [← lx_no hn]; exact find_ok w A c e.id l h _ _ _ s k (fun _ h => h) (by omega)) ?_
        refine .v (.geq rfl rfl) (.nil ?_)
        refine .cond rfl (fun h => absurd h (by simp)) (fun _ => .skip ?_)
        refine (.drawK [] (fun _ h => (List.not_mem_nil h).elim) (by kernel_rfl) (by kernel_rfl) ?_)
        refine .v (fun _ f => .move rfl) (.v (fun _ f => .move rfl) (.v (fun _ f => .move rfl) (.v (fun _ f => .indexAddr rfl rfl (by omega) (by omega)) (.v (fun _ f => .fieldAddr rfl) (.v (fun _ f => .load (v := .int .u64 e.id) rfl (hev 2 _ _ (by omega) rfl)) (.v (fun _ f => .move rfl) (.v (fun _ f => .move rfl) (.v (fun _ f => .indexAddr rfl rfl (by omega) (by omega)) (.v (fun _ f => .fieldAddr rfl) (.v (fun _ f => .load (v := .int .u64 e.q) rfl (hev 9 _ _ (by omega) rfl)) (.v (fun _ f => .move rfl) (.v (fun _ f => .move rfl) (.v (fun _ f => .indexAddr rfl rfl (by omega) (by omega)) (.v (fun _ f => .fieldAddr rfl) (.v (fun _ f => .load (v := .int .i64 e.ty) rfl (hev 7 _ _ (by omega) rfl)) (.v (fun _ f => .build (out := [.int .u64 e.id, .int .u64 e.q, .int .u64 0, .int .u64 0, .int .i64 e.ty]) rfl rfl) ?_))))))))))))))))
        refine .ef (.buildSlice (out := [.int .u64 e.id, .int .u64 e.q, .int .u64 0, .int .u64 0, .int .i64 e.ty]) rfl (by decide) rfl rfl) (fun _ _ _ _ => fun _ h => (List.not_mem_nil h).elim) ?_
        rintro _ _ ⟨nb, rfl, rfl⟩
        refine .ef (.append (c := l.length) (k := 1) (vs := lrows l) (news := [.int .u64 e.id, .int .u64 e.q, .int .u64 0, .int .u64 0, .int .i64 e.ty]) (h := h) (fr := [(nb, .cells [.int .u64 e.id, .int .u64 e.q, .int .u64 0, .int .u64 0, .int .i64 e.ty] 61)]) rfl rfl k (by exact List.perm_append_comm (l₁ := [_]))
          (fun w s => Src.cells rfl (fun j v hv => by rw [add_none, s.cell (b := nb) (T := 61) (l := [.int .u64 e.id, .int .u64 e.q, .int .u64 0, .int .u64 0, .int .i64 e.ty]) (by simp)]; simpa using hv)) rfl rfl (by omega) (by omega)) (fun _ _ _ _ => fun _ h => (List.not_mem_nil h).elim) ?_
        rintro v' _ ⟨h', o', rfl⟩
        refine .v (fun _ f => .assign rfl) (.nil ?_)
        have o2 : LOwn v' (l ++ [⟨e.id, e.q, 0, 0, e.ty⟩]) h' := by
          unfold LOwn
          rw [lrows_app, List.length_append]; exact o'
        exact ⟨(v', h'), o2, .cons rfl (.cons rfl (.cons rfl (.nil _))), fun _ s => Sat.take (pre := h') s⟩
      | other hk3 =>
        refine .cond_dec rfl (fun h2 => absurd h2 hk3.1) (fun h2 => ?_)
        refine .seq (.seq ((.region (.v (.eqi rfl rfl) (.v (.assign rfl) (.nil ?_))))))
        refine .cond_dec rfl (fun h4 => absurd h4 hk3.2.1) (fun h4 => ?_)
        refine .region (.v (.eqi rfl rfl) (.v (.assign rfl) (.nil ?_)))
        refine .cond_dec rfl (fun h5 => absurd h5 hk3.2.2) (fun h5 => .skip ?_)
        exact ⟨(.slice A l.length c, h), k, .cons rfl (.cons rfl (.cons rfl (.nil _))), fun _ s => s⟩
      | can hk4 a ha hq hr =>
        obtain ⟨b, o, ll, rfl, -, rfl, hcc, hcap, -⟩ := k.some_ (by have := ha.lt; omega)
        have hal := ha.lt
        have hlx := ha.lx
        have hld : ∀ (k' : Nat) (v : Value) (w0 : World) (own : List Nat) (hs : Hp), [(b, Ch.cells ll 61)] ⊆ hs → k' < 5 → (l[a].cells)[k']? = some v → At w0 own hs ⟨b, o + a * 5 + k', none⟩ [v] := fun k' v w0 own hs hh hk' hv => k.ld hh hal hk' hv
        obtain ⟨hr1, hr2, hr3, hr4⟩ := hr
        have hbnd : o + a * 5 + 5 ≤ ll.length := by
          have : (a + 1) * 5 ≤ c * 5 := Nat.mul_le_mul_right _ (by omega)
          omega
        refine .cond_dec rfl (fun h2 => absurd h2 (by omega)) (fun h2 => ?_)
        refine .seq (.seq ((.region (.v (.eqi rfl rfl) (.v (.assign rfl) (.nil ?_))))))
        refine .cond_dec rfl (fun h4 => absurd h4 (by omega)) (fun h4 => ?_)
        refine .region (.v (.eqi rfl rfl) (.v (.assign rfl) (.nil ?_)))
        refine .cond_dec rfl (fun h5 => ?_) (fun h5 => absurd hk4 h5)
        refine .seq ((.region (.v (.move rfl) (.v (.move rfl) (.v (.move rfl) (.v (.indexAddr rfl rfl (by omega) (by omega)) (.v (.fieldAddr rfl) (.v (.load (v := .int .u64 e.id) rfl (hev 2 _ _ (by omega) rfl)) ?_))))))))
        refine .pc (v := .int .i64 (a : Int)) rfl rfl (fun w s => by rw [← hlx]; exact find_ok w _ c e.id l _ _ _ _ s k (fun _ h => h) (by omega)) ?_
        refine .v (.assign rfl) (.nil ?_)
        refine .seq (.seq ((.drawK _ (fun _ h => h) (by kernel_rfl) (by kernel_rfl) ?_)))
        refine .v (fun _ f => .move rfl) (.v (fun _ f => .lss rfl rfl) (.v (fun _ f => .move rfl) (.or 62 68 6 6 rfl rfl (fun g1 => .v (fun _ f => .move rfl) (.v (fun _ f => .move rfl) (.v (fun _ f => .indexAddr rfl rfl (by omega) (by omega)) (.v (fun _ f => .fieldAddr rfl) (.v (fun _ f => .load (v := .int .u64 e.q) rfl (hev 9 _ _ (by omega) rfl)) (.v (fun _ f => .eqi rfl rfl) (.nil ⟨rfl, rfl, rfl, rfl⟩))))))) (.v (fun _ f => .move rfl) ?_))))
        refine .or 70 93 23 23 rfl rfl (fun g2 => .v (fun _ f => .move rfl) (.v (fun _ f => .move rfl) (.v (fun _ f => .indexAddr rfl rfl (by omega) (by omega)) (.v (fun _ f => .fieldAddr rfl) (.v (fun _ f => .load (v := .int .u64 l[a].tr) rfl (hld 2 _ _ _ _ f (by omega) rfl)) (.v (fun _ f => .move rfl) (.v (fun _ f => .move rfl) (.v (fun _ f => .indexAddr rfl rfl (by omega) (by omega)) (.v (fun _ f => .fieldAddr rfl) (.v (fun _ f => .load (v := .int .u64 l[a].ca) rfl (hld 3 _ _ _ _ f (by omega) rfl)) (.v (fun _ f => .addU (l[a].tr + l[a].ca) rfl rfl rfl (by omega)) (.v (fun _ f => .move rfl) (.v (fun _ f => .move rfl) (.v (fun _ f => .indexAddr rfl rfl (by omega) (by omega)) (.v (fun _ f => .fieldAddr rfl) (.v (fun _ f => .load (v := .int .u64 e.q) rfl (hev 9 _ _ (by omega) rfl)) (.v (fun _ f => .addU (l[a].tr + l[a].ca + e.q) rfl rfl rfl (by omega)) (.v (fun _ f => .move rfl) (.v (fun _ f => .move rfl) (.v (fun _ f => .indexAddr rfl rfl (by omega) (by omega)) (.v (fun _ f => .fieldAddr rfl) (.v (fun _ f => .load (v := .int .u64 l[a].qty) rfl (hld 1 _ _ _ _ f (by omega) rfl)) (.v (fun _ f => .gtr rfl rfl) (.nil ⟨rfl, rfl, rfl, rfl⟩)))))))))))))))))))))))) (.nil ?_)
        refine .cond rfl (fun h => ?_) (fun _ => .skip ?_)
        · exfalso
          simp only [Bool.and_eq_true, Bool.or_eq_true, Bool.not_eq_true', Bool.and_eq_false_iff, Bool.or_eq_false_iff, Bool.not_eq_false', decide_eq_true_eq, decide_eq_false_iff_not, Bool.false_eq_true, false_iff] at h; omega
        refine .seq (.seq ((.region (.v (.move rfl) (.v (.move rfl) (.v (.indexAddr rfl rfl (by omega) (by omega)) (.v (.fieldAddr rfl) (.v (.load (v := .int .i64 e.kind) rfl (hev 1 _ _ (by omega) rfl)) (.v (.eqi rfl rfl) (.nil ?_))))))))))
        refine .cond_dec rfl (fun h7 => ?_) (fun h7 => absurd hk4 h7)
        refine .seq ((.drawQ 15 [0, 1, 2, 3, 4, 5, 6, 7, 8, 9, 10, 11, 12, 13, 14, 15] _ (fun _ h => h) (by kernel_rfl) (by kernel_rfl) ?_))
        refine .v (fun _ f => .move rfl) (.v (fun _ f => .move rfl) (.v (fun _ f => .move rfl) (.v (fun _ f => .move rfl) (.v (fun _ f => .indexAddr rfl rfl (by omega) (by omega)) (.v (fun _ f => .fieldAddr rfl) (.v (fun _ f => .load (v := .int .u64 l[a].ca) rfl (hld 3 _ _ _ _ f (by omega) rfl)) (.v (fun _ f => .move rfl) (.v (fun _ f => .move rfl) (.v (fun _ f => .indexAddr rfl rfl (by omega) (by omega)) (.v (fun _ f => .fieldAddr rfl) (.v (fun _ f => .load (v := .int .u64 e.q) rfl (hev 9 _ _ (by omega) rfl)) (.v (fun _ f => .addU (l[a].ca + e.q) rfl rfl rfl (by omega)) (.v (fun _ f => .indexAddr rfl rfl (by omega) (by omega)) (.v (fun _ f => .fieldAddr rfl) (.st (.store rfl rfl rfl (by rw [Int.toNat_natCast]; omega)) (.nil ?_))))))))))))))))
        refine .exit ?_
        have k2 := OwnS.setAt (v := .int .u64 (l[a].ca + e.q)) k (i := a * 5 + 3) (by omega)
        rw [lrows_set (y := l[a].more 0 e.q) hal (by omega) (by simp [Lv.cells, Lv.more]), ← Nat.add_assoc] at k2
        exact ⟨(.slice (some ⟨b, o, none⟩) l.length c, [(b, .cells (ll.set (o + a * 5 + 3) (.int .u64 (l[a].ca + e.q))) 61)]), by unfold LOwn; rw [List.length_set]; exact k2, .cons rfl (.cons rfl (.cons rfl (.nil _))), fun _ s => s⟩
      | tra hk3 a a' ha hb' hab hq hr hr' =>
        obtain ⟨b, o, ll, rfl, -, rfl, hcc, hcap, -⟩ := k.some_ (by have := ha.lt; omega)
        have hal := ha.lt
        have hbl := hb'.lt
        have hlx := ha.lx
        have hlx' := hb'.lx
        have hld : ∀ (k' : Nat) (v : Value) (w0 : World) (own : List Nat) (hs : Hp), [(b, Ch.cells ll 61)] ⊆ hs → k' < 5 → (l[a].cells)[k']? = some v → At w0 own hs ⟨b, o + a * 5 + k', none⟩ [v] := fun k' v w0 own hs hh hk' hv => k.ld hh hal hk' hv
        have hldb : ∀ (k' : Nat) (v : Value) (w0 : World) (own : List Nat) (hs : Hp), [(b, Ch.cells ll 61)] ⊆ hs → k' < 5 → (l[a'].cells)[k']? = some v → At w0 own hs ⟨b, o + a' * 5 + k', none⟩ [v] := fun k' v w0 own hs hh hk' hv => k.ld hh hbl hk' hv
        obtain ⟨hr1, hr2, hr3, hr4⟩ := hr
        obtain ⟨hs1, hs2, hs3, hs4⟩ := hr'
        have hbnd : o + a * 5 + 5 ≤ ll.length := by
          have : (a + 1) * 5 ≤ c * 5 := Nat.mul_le_mul_right _ (by omega)
          omega
        have hbnd' : o + a' * 5 + 5 ≤ ll.length := by
          have : (a' + 1) * 5 ≤ c * 5 := Nat.mul_le_mul_right _ (by omega)
          omega
        refine .cond_dec rfl (fun h2 => absurd h2 (by omega)) (fun h2 => ?_)
        refine .seq (.seq ((.region (.v (.eqi rfl rfl) (.v (.assign rfl) (.nil ?_))))))
        refine .cond_dec rfl (fun h4 => .skip ?_) (fun h4 => absurd hk3 h4)
        refine .cond_dec rfl (fun h5 => ?_) (fun h5 => absurd hk3 h5)
        refine .seq ((.region (.v (.move rfl) (.v (.move rfl) (.v (.move rfl) (.v (.indexAddr rfl rfl (by omega) (by omega)) (.v (.fieldAddr rfl) (.v (.load (v := .int .u64 e.id) rfl (hev 2 _ _ (by omega) rfl)) ?_))))))))
        refine .pc (v := .int .i64 (a : Int)) rfl rfl (fun w s => by rw [← hlx]; exact find_ok w _ c e.id l _ _ _ _ s k (fun _ h => h) (by omega)) ?_
        refine .v (.assign rfl) (.nil ?_)
        refine .seq (.seq ((.drawK _ (fun _ h => h) (by kernel_rfl) (by kernel_rfl) ?_)))
        refine .v (fun _ f => .move rfl) (.v (fun _ f => .lss rfl rfl) (.v (fun _ f => .move rfl) (.or 62 68 6 6 rfl rfl (fun g1 => .v (fun _ f => .move rfl) (.v (fun _ f => .move rfl) (.v (fun _ f => .indexAddr rfl rfl (by omega) (by omega)) (.v (fun _ f => .fieldAddr rfl) (.v (fun _ f => .load (v := .int .u64 e.q) rfl (hev 9 _ _ (by omega) rfl)) (.v (fun _ f => .eqi rfl rfl) (.nil ⟨rfl, rfl, rfl, rfl⟩))))))) (.v (fun _ f => .move rfl) ?_))))
        refine .or 70 93 23 23 rfl rfl (fun g2 => .v (fun _ f => .move rfl) (.v (fun _ f => .move rfl) (.v (fun _ f => .indexAddr rfl rfl (by omega) (by omega)) (.v (fun _ f => .fieldAddr rfl) (.v (fun _ f => .load (v := .int .u64 l[a].tr) rfl (hld 2 _ _ _ _ f (by omega) rfl)) (.v (fun _ f => .move rfl) (.v (fun _ f => .move rfl) (.v (fun _ f => .indexAddr rfl rfl (by omega) (by omega)) (.v (fun _ f => .fieldAddr rfl) (.v (fun _ f => .load (v := .int .u64 l[a].ca) rfl (hld 3 _ _ _ _ f (by omega) rfl)) (.v (fun _ f => .addU (l[a].tr + l[a].ca) rfl rfl rfl (by omega)) (.v (fun _ f => .move rfl) (.v (fun _ f => .move rfl) (.v (fun _ f => .indexAddr rfl rfl (by omega) (by omega)) (.v (fun _ f => .fieldAddr rfl) (.v (fun _ f => .load (v := .int .u64 e.q) rfl (hev 9 _ _ (by omega) rfl)) (.v (fun _ f => .addU (l[a].tr + l[a].ca + e.q) rfl rfl rfl (by omega)) (.v (fun _ f => .move rfl) (.v (fun _ f => .move rfl) (.v (fun _ f => .indexAddr rfl rfl (by omega) (by omega)) (.v (fun _ f => .fieldAddr rfl) (.v (fun _ f => .load (v := .int .u64 l[a].qty) rfl (hld 1 _ _ _ _ f (by omega) rfl)) (.v (fun _ f => .gtr rfl rfl) (.nil ⟨rfl, rfl, rfl, rfl⟩)))))))))))))))))))))))) (.nil ?_)
        refine .cond rfl (fun h => ?_) (fun _ => .skip ?_)
        · exfalso
          simp only [Bool.and_eq_true, Bool.or_eq_true, Bool.not_eq_true', Bool.and_eq_false_iff, Bool.or_eq_false_iff, Bool.not_eq_false', decide_eq_true_eq, decide_eq_false_iff_not, Bool.false_eq_true, false_iff] at h; omega
        refine .seq (.seq ((.region (.v (.move rfl) (.v (.move rfl) (.v (.indexAddr rfl rfl (by omega) (by omega)) (.v (.fieldAddr rfl) (.v (.load (v := .int .i64 e.kind) rfl (hev 1 _ _ (by omega) rfl)) (.v (.eqi rfl rfl) (.nil ?_))))))))))
        refine .cond_dec rfl (fun h7 => absurd h7 (by omega)) (fun h7 => .skip ?_)
        refine .seq ((.region (.v (.move rfl) (.v (.move rfl) (.v (.move rfl) (.v (.indexAddr rfl rfl (by omega) (by omega)) (.v (.fieldAddr rfl) (.v (.load (v := .int .u64 e.other) rfl (hev 3 _ _ (by omega) rfl)) ?_))))))))
        refine .pc (v := .int .i64 (a' : Int)) rfl rfl (fun w s => by rw [← hlx']; exact find_ok w _ c e.other l _ _ _ _ s k (fun _ h => h) (by omega)) ?_
        refine .v (.assign rfl) (.nil ?_)
        refine .seq (.seq ((.drawK _ (fun _ h => h) (by kernel_rfl) (by kernel_rfl) ?_)))
        refine .v (fun _ f => .move rfl) (.v (fun _ f => .lss rfl rfl) (.v (fun _ f => .move rfl) (.or 126 129 3 3 rfl rfl (fun g3 => .v (fun _ f => .move rfl) (.v (fun _ f => .move rfl) (.v (fun _ f => .eqi rfl rfl) (.nil ⟨rfl, rfl, rfl, rfl⟩)))) (.v (fun _ f => .move rfl) ?_))))
        refine .or 131 154 23 23 rfl rfl (fun g4 => .v (fun _ f => .move rfl) (.v (fun _ f => .move rfl) (.v (fun _ f => .indexAddr rfl rfl (by omega) (by omega)) (.v (fun _ f => .fieldAddr rfl) (.v (fun _ f => .load (v := .int .u64 l[a'].tr) rfl (hldb 2 _ _ _ _ f (by omega) rfl)) (.v (fun _ f => .move rfl) (.v (fun _ f => .move rfl) (.v (fun _ f => .indexAddr rfl rfl (by omega) (by omega)) (.v (fun _ f => .fieldAddr rfl) (.v (fun _ f => .load (v := .int .u64 l[a'].ca) rfl (hldb 3 _ _ _ _ f (by omega) rfl)) (.v (fun _ f => .addU (l[a'].tr + l[a'].ca) rfl rfl rfl (by omega)) (.v (fun _ f => .move rfl) (.v (fun _ f => .move rfl) (.v (fun _ f => .indexAddr rfl rfl (by omega) (by omega)) (.v (fun _ f => .fieldAddr rfl) (.v (fun _ f => .load (v := .int .u64 e.q) rfl (hev 9 _ _ (by omega) rfl)) (.v (fun _ f => .addU (l[a'].tr + l[a'].ca + e.q) rfl rfl rfl (by omega)) (.v (fun _ f => .move rfl) (.v (fun _ f => .move rfl) (.v (fun _ f => .indexAddr rfl rfl (by omega) (by omega)) (.v (fun _ f => .fieldAddr rfl) (.v (fun _ f => .load (v := .int .u64 l[a'].qty) rfl (hldb 1 _ _ _ _ f (by omega) rfl)) (.v (fun _ f => .gtr rfl rfl) (.nil ⟨rfl, rfl, rfl, rfl⟩)))))))))))))))))))))))) (.nil ?_)
        refine .cond rfl (fun h => ?_) (fun _ => .skip ?_)
        · exfalso
          simp only [Bool.and_eq_true, Bool.or_eq_true, Bool.not_eq_true', Bool.and_eq_false_iff, Bool.or_eq_false_iff, Bool.not_eq_false', decide_eq_true_eq, decide_eq_false_iff_not, Bool.false_eq_true, false_iff] at h; omega
        refine (.drawY 28 [0, 1, 2, 3, 4, 5, 6, 7, 8, 9, 10, 11, 12, 13, 14, 15, 16, 17, 18, 19, 20, 21, 22, 23, 24, 25, 26, 27, 28, 29, 30, 31] _ (fun _ h => h) (by kernel_rfl) (by kernel_rfl) ?_)
        refine .x (fun _ _ _ => .move rfl) (.x (fun _ _ _ => .move rfl) (.x (fun _ _ _ => .move rfl) (.x (fun _ _ _ => .move rfl) (.x (fun _ _ _ => .move rfl) (.x (fun _ _ _ => .move rfl) (.x (fun _ _ _ => .indexAddr rfl rfl (by omega) (by omega)) (.x (fun _ _ _ => .fieldAddr rfl) (.v (fun _ f => .load (v := .int .u64 l[a].tr) rfl (hld 2 _ _ _ _ f (by omega) rfl)) (.x (fun _ _ _ => .move rfl) (.x (fun _ _ _ => .move rfl) (.x (fun _ _ _ => .indexAddr rfl rfl (by omega) (by omega)) (.x (fun _ _ _ => .fieldAddr rfl) (.v (fun _ f => .load (v := .int .u64 e.q) rfl (hev 9 _ _ (by omega) rfl)) ?_)))))))))))))
        refine .x (fun _ _ _ => .addU (l[a].tr + e.q) rfl rfl rfl (by omega)) (.x (fun _ _ _ => .move rfl) (.x (fun _ _ _ => .move rfl) (.x (fun _ _ _ => .indexAddr rfl rfl (by omega) (by omega)) (.x (fun _ _ _ => .fieldAddr rfl) (.v (fun _ f => .load (v := .int .u64 l[a'].tr) rfl (hldb 2 _ _ _ _ f (by omega) rfl)) (.x (fun _ _ _ => .move rfl) (.x (fun _ _ _ => .move rfl) (.x (fun _ _ _ => .indexAddr rfl rfl (by omega) (by omega)) (.x (fun _ _ _ => .fieldAddr rfl) (.v (fun _ f => .load (v := .int .u64 e.q) rfl (hev 9 _ _ (by omega) rfl)) (.x (fun _ _ _ => .addU (l[a'].tr + e.q) rfl rfl rfl (by omega)) (.x (fun _ _ _ => .indexAddr rfl rfl (by omega) (by omega)) (.x (fun _ _ _ => .fieldAddr rfl) (.st (.store rfl rfl rfl (by rw [Int.toNat_natCast]; omega)) (.x (fun _ _ _ => .indexAddr rfl rfl (by omega) (by omega)) (.x (fun _ _ _ => .fieldAddr rfl) (.st2 (.store rfl rfl rfl (by rw [Int.toNat_natCast, List.length_set]; omega)) (.nil ?_))))))))))))))))))
        have k2 := OwnS.setAt (v := .int .u64 (l[a].tr + e.q)) k (i := a * 5 + 2) (by omega)
        rw [lrows_set (y := l[a].more e.q 0) hal (by omega) (by simp [Lv.cells, Lv.more]), ← Nat.add_assoc] at k2
        have hbl2 : a' < (l.set a (l[a].more e.q 0)).length := by rw [List.length_set]; exact hbl
        have k3 := OwnS.setAt (v := .int .u64 (l[a'].tr + e.q)) k2 (i := a' * 5 + 2) (by omega)
        rw [lrows_set (y := l[a'].more e.q 0) hbl2 (by omega) (by rw [List.getElem_set, if_neg hab]; simp [Lv.cells, Lv.more]), ← Nat.add_assoc] at k3
        exact ⟨(.slice (some ⟨b, o, none⟩) l.length c, [(b, .cells ((ll.set (o + a * 5 + 2) (.int .u64 (l[a].tr + e.q))).set (o + a' * 5 + 2) (.int .u64 (l[a'].tr + e.q))) 61)]), by unfold LOwn; rw [List.length_set, List.length_set]; exact k3, .cons rfl (.cons rfl (.cons rfl (.nil _))), fun _ s => s⟩
    · rintro ⟨v', h'⟩ k'
      dsimp only at k' ⊢
      refine .region (.v (.move rfl) (.v (.addi rfl rfl (by omega)) (.v (.assign rfl) (.nil ?_))))
      exact ⟨(j + 1, l', v', h'), ⟨by dsimp only; omega, hl', ctl, k'⟩, by dsimp only; omega, .cons rfl (.cons rfl (.cons rfl (.nil _))), fun _ s => s⟩
  · have hd : evs.drop j = [] := List.drop_of_length_le (by omega)
    rw [hd] at hcl
    cases hcl
    refine .seq ((.region (.v (.move rfl) (.v (.assign rfl) (.v (.assign rfl) (.nil ?_))))))
    exact .ret ⟨[_, _], ⟨rfl, rfl, trivial⟩, _, rfl, k⟩
end Go.Proofs.Ytmfobfamdaajmaa
