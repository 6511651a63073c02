/- WireLeft: the walk. -/
import Derived.Test.YtcgnbdgagkhehaaWReader
namespace Go.Proofs.Ytcgnbdgagkhehaa
open Go.V
set_option linter.unusedVariables false
set_option linter.unusedSimpArgs false

structure PcD where
  B : Option Addr
  c : Nat
  ys : List (BitVec 8)
def ptot (l : List PcD) : Nat := (l.map fun d => d.ys.length).sum
theorem ptot_take {l : List PcD} {i : Nat} {d : PcD} (h : l[i]? = some d) : ptot (l.take (i + 1)) = ptot (l.take i) + d.ys.length := by
  simp [ptot, List.take_add_one, h]
theorem ptot_le (l : List PcD) (i : Nat) : ptot (l.take i) ≤ ptot l := by
  have h : ptot l = ptot (l.take i) + ptot (l.drop i) := by
    rw [ptot, ptot, ptot, ← List.sum_append, ← List.map_append, List.take_append_drop]
  omega
structure LSt where
  i : Nat
  xs : List (BitVec 8)
  v : Value
  h : Hp
structure FSt where
  f : Nat
  xs : List (BitVec 8)
  v : Value
theorem tmod64 (n : Nat) : Int.tmod (n : Int) 64 = ((n % 64 : Nat) : Int) := by
  rw [Int.tmod_eq_emod_of_nonneg (by omega)]; omega

theorem WireLeft_ok (w : World) (A : Option Addr) (len cap : Nat) (l : List PcD) (hlen : len = l.length)
    (hcell : ∀ (i : Nat) (d : PcD), l[i]? = some d → ∃ b o, A = some ⟨b, o, none⟩ ∧ w.cell? ⟨b, o + i, none⟩ = some (.slice d.B d.ys.length d.c))
    (hys : ∀ (i : Nat) (d : PcD), l[i]? = some d → Rd w [] d.B (byts d.ys)) (hb : ptot l ≤ 1048576) (h63 : len ≤ 1048576) :
    Is Try.prog 11 [.slice A len cap] w (.bool true) := by
  refine Does.pure (Does.of (n := 68) Try.func11 rfl rfl rfl rfl ?_)
  refine .seq ((.region (.v (.assign rfl) (.nil ?_))))
  refine .seq (.seq ((.region (.pc rfl rfl (fun w s => lives_ok w) (.v (.not rfl) (.nil ?_))))))
  refine .cond_false rfl (.skip ?_)
  refine .seq ((.region (.ef (.call0 rfl rfl fun w s => NewReader_ok w) ?_)))
  rintro _ _ ⟨_, ⟨br, rfl, rfl⟩, rfl⟩
  refine .v (.assign rfl) (.nil ?_)
  refine .seq (.seq ((.region (.v (.move rfl) (.v (.eql_ptr_nil rfl rfl) (.nil ?_))))))
  refine .cond_false rfl (.skip ?_)
  refine .seq ((.region (.v (.assign rfl) (.nil ?_))))
  refine .seq (.seq ((.region (.v (.assign rfl) (.nil ?_)))))
  refine .block (.loop (X := LSt) (fun x => [(0, .slice A len cap), (3, .pointer (some ⟨br, 0, none⟩)), (4, .int .i64 (ptot (l.take x.i))), (5, .int .i64 x.i)])
    (fun x => (br, .cells [x.v] 77) :: x.h) (fun x => x.i ≤ len ∧ Bs x.v x.xs x.h ∧ x.xs.length = ptot (l.take x.i) % 64) (fun x => len - x.i)
    ⟨0, [], .slice none 0 0, []⟩ ⟨by simp, Bs.nil, by simp [ptot]⟩
    (.cons rfl (.cons rfl (.cons rfl (.cons rfl (.nil _))))) (fun _ s => s) ?_)
  rintro ⟨i, xs, v, h⟩ ⟨hi, k, hx⟩
  dsimp only at hi k hx ⊢
  refine .seq (.seq ((.region (.v (.move rfl) (.v (.move rfl) (.v (.len rfl) (.v (.lss rfl rfl) (.nil ?_))))))))
  refine .cond_dec rfl (fun g1 => .skip ?_) (fun g1 => .exit ?_)
  · have hil : i < l.length := by omega
    have hd := List.getElem?_eq_getElem hil
    have htot := ptot_take hd
    have hle := ptot_le l (i + 1)
    generalize hD : l[i] = d at hd htot
    have hc := hcell i d hd
    have hy := hys i d hd
    obtain ⟨b, o, rfl, hc⟩ := hc
    refine .seq (.block (.seq ((.region (.v (.move rfl) (.ef (.buildSlice (out := []) rfl (by decide) rfl rfl) ?_))))))
    rintro _ _ ⟨b6, rfl, rfl⟩
    refine .v (.move rfl) (.v (.move rfl) (.v (.indexAddr1 rfl rfl (by omega) (by omega)) (.v (.load (v := .slice d.B d.ys.length d.c) rfl (.old1 (by rw [Int.toNat_natCast]; exact hc) (by simp [bl]))) ?_)))
    refine .ef (.append (c := 0) (k := d.ys.length) (vs := []) (news := byts d.ys) (h := [(b6, .cells [] 5)]) (fr := (br, .cells [v] 77) :: h) rfl rfl ⟨rfl, .inr ⟨b6, 0, 0, [], rfl, rfl, by omega, by simp, by simp⟩⟩ (by exact List.Perm.refl _)
      (fun w' s => (hy.keep0 s).src (by rw [byts_length]; omega) (by omega)) (by rw [byts_length]; omega) (byts_ones _) (by omega) (by omega)) ?_
    rintro v6 _ ⟨h6, k6, rfl⟩
    obtain ⟨A6, c6, rfl⟩ := k6.slice
    rw [Nat.zero_add] at *
    refine .ef (.call (R := fun _ hs => ∃ v' h', hs = h' ++ [(br, .cells [v'] 77)] ∧ Bs v' (xs ++ d.ys) h') (pre := (br, .cells [v] 77) :: h) (fr := h6) rfl rfl (by exact List.perm_append_comm) fun w' s => ?_) ?_
    · exact Feed_ok w' br v xs d.ys h k A6 c6 (k6.rd s (fun p hp => by simp [hp]) s.disj) (by omega)
    rintro _ _ ⟨_, ⟨v1, h1, rfl, k1⟩, rfl⟩
    refine .nil ?_
    refine .seq ((.region (.v (.move rfl) (.v (.move rfl) (.v (.move rfl) (.v (.indexAddr1 rfl rfl (by omega) (by omega)) (.v (.load (v := .slice d.B d.ys.length d.c) rfl (.old1 (by rw [Int.toNat_natCast]; exact hc) (by simp [bl]))) (.v (.len rfl) (.v (.addi rfl rfl (by omega)) (.v (.assign rfl) (.nil ?_)))))))))))
    refine .seq ((.region (.v (.assign rfl) (.nil ?_))))
    refine .seq (.block (.loop (X := FSt) (fun x => [(0, .slice (some ⟨b, o, none⟩) len cap), (3, .pointer (some ⟨br, 0, none⟩)), (4, .int .i64 (ptot (l.take (i + 1)))), (5, .int .i64 i), (6, .int .i64 x.f)])
      (fun x => (br, .cells [x.v] 77) :: h1) (fun x => Bs x.v x.xs h1 ∧ x.xs.length + 64 * x.f = xs.length + d.ys.length) (fun x => x.xs.length) ⟨0, xs ++ d.ys, v1⟩ ⟨k1, by simp⟩
      (.cons rfl (.cons rfl (.cons (by rw [htot, Int.natCast_add]; rfl) (.cons rfl (.cons rfl (.nil _)))))) (fun _ s => (s.sub (List.sublist_append_left _ _)).perm (List.perm_append_singleton _ _)) ?_))
    rintro ⟨f, zs, v2⟩ ⟨k2, hz⟩
    dsimp only at k2 hz ⊢
    refine .block (.seq ((.region (.v (.move rfl) (.ef (.call (pre := (br, .cells [v2] 77) :: h1) (fr := []) rfl rfl (by simp) fun w' s => Next_ok w' br v2 zs h1 k2) ?_)))))
    rintro _ _ ⟨_, ⟨rfl, v3, rfl, k3⟩, rfl⟩
    by_cases hz64 : zs.length < 64
    · have e1 : nextV zs = .tuple ⟨[.agg ⟨fcells 0#8 zw⟩, .int .i64 0, .bool false]⟩ := by rw [nextV, if_pos hz64]
      have e2 : rest64 zs = zs := by rw [rest64, if_pos hz64]
      rw [e1]
      rw [e2] at k3
      refine .v (.move rfl) (.v (.extract rfl rfl) (.v (.extract rfl rfl) (.v (.extract rfl rfl) (.nw .alloc fun b7 => (.st (.storeW rfl rfl (fcells_length rfl) (fcells_ones _ _) rfl) (.v (.assign rfl) (.v (.assign rfl) (.nil ?_))))))))
      refine .seq (.seq ((.region (.v (.move rfl) (.v (.not rfl) (.nil ?_))))))
      refine .cond_true rfl (.exit ?_)
      refine .seq ((.region (.v (.move rfl) ?_)))
      have hperm : ((b7, Ch.cells (fcells 0#8 zw) 31) :: (((br, Ch.cells [v3] 77) :: h1) ++ [])).Perm ([(br, Ch.cells [v3] 77)] ++ ((b7, Ch.cells (fcells 0#8 zw) 31) :: h1)) := by
        rw [List.append_nil]; exact List.Perm.swap _ _ _
      refine .pl (pre := [(br, Ch.cells [v3] 77)]) (v := .int .i64 zs.length) ((b7, Ch.cells (fcells 0#8 zw) 31) :: h1) rfl rfl hperm (fun w' s => ?_) ?_
      · exact Left_ok w' br v3 zs.length _ h1 k3
      refine .v (.move rfl) (.v (.rem rfl rfl (by decide)) (.v (.nei rfl rfl) (.nil ?_)))
      refine .cond_dec rfl (fun g5 => absurd g5 (by rw [tmod64]; omega)) (fun g5 => .skip ?_)
      refine .region (.v (.move rfl) (.v (.addi rfl rfl (by omega)) (.v (.assign rfl) (.nil ?_))))
      exact ⟨⟨i + 1, zs, v3, h1⟩, ⟨by simp only; omega, k3, by simp only; omega⟩, by simp only; omega, .cons rfl (.cons rfl (.cons rfl (.cons rfl (.nil _)))), fun _ s => s.sub (by exact .cons _ (by simp))⟩
    · have hU := unpk_ws (zs.take 64)
      have e1 : nextV zs = .tuple ⟨[.agg ⟨fcells (unpk (zs.take 64)).1 (unpk (zs.take 64)).2.1⟩, .int .i64 (unpk (zs.take 64)).2.2, .bool true]⟩ := by rw [nextV, if_neg hz64]
      have e2 : rest64 zs = zs.drop 64 := by rw [rest64, if_neg hz64]
      rw [e1]
      rw [e2] at k3
      refine .v (.move rfl) (.v (.extract (v := .agg ⟨fcells (unpk (zs.take 64)).1 (unpk (zs.take 64)).2.1⟩) rfl rfl) (.v (.extract (v := .int .i64 (unpk (zs.take 64)).2.2) rfl rfl) (.v (.extract (v := .bool true) rfl rfl) (.nw .alloc fun b7 => (.st (.storeW rfl rfl (fcells_length hU) (fcells_ones _ _) rfl) (.v (.assign rfl) (.v (.assign rfl) (.nil ?_))))))))
      refine .seq (.seq ((.region (.v (.move rfl) (.v (.not rfl) (.nil ?_))))))
      refine .cond_false rfl (.skip ?_)
      refine .seq ((.region (.v (.move rfl) (.v (.addi rfl rfl (by omega)) (.v (.assign rfl) (.nil ?_))))))
      refine .seq ((.region (.v (.move rfl) (.v (.move rfl) (.v (.gtr rfl rfl) (.nil ?_))))))
      refine .cond_dec rfl (fun g6 => absurd g6 (by omega)) (fun g6 => .skip ?_)
      exact ⟨⟨f + 1, zs.drop 64, v3⟩, ⟨k3, by simp; omega⟩, by simp; omega, .cons rfl (.cons rfl (.cons rfl (.cons rfl (.cons rfl (.nil _))))), fun _ s => s.sub (by exact .cons _ (by simp))⟩
  · have hil : i = l.length := by omega
    subst hil
    rw [List.take_length] at hx ⊢
    refine .seq ((.region (.v (.move rfl) (.ef (.call (pre := [(br, .cells [v] 77)]) (fr := h) rfl rfl (by simp) fun w' s => Close_ok w' br v xs h k) ?_))))
    rintro _ _ ⟨_, ⟨rfl, rfl⟩, rfl⟩
    refine .v (.assign rfl) (.nil ?_)
    refine .seq ((.region (.v (.move rfl) (.v (.eqi rfl rfl) (.v (.move rfl) (.v (.rem rfl rfl (by decide)) (.v (.eqi rfl rfl) (.v (.eqb rfl rfl) (.v (.move rfl) (.and 63 66 3 3 rfl rfl (fun _ => .v (.move rfl) (.pl h rfl rfl (by exact List.Perm.refl _) (fun w' s => Left_ok w' br _ 0 _ [] Bs.nil) (.v (.eqi rfl rfl) (.nil ⟨rfl, rfl, rfl, rfl⟩)))) (.v (.assign rfl) (.nil ?_))))))))))))
    refine .ret ⟨[_], ⟨rfl, trivial⟩, ?_⟩
    simp only [tup]
    congr 1
    rw [tmod64]
    by_cases h0 : 0 < xs.length
    · have : ¬ ptot l % 64 = 0 := by omega
      simp [h0]; omega
    · have : ptot l % 64 = 0 := by omega
      simp [h0, this]
end Go.Proofs.Ytcgnbdgagkhehaa
