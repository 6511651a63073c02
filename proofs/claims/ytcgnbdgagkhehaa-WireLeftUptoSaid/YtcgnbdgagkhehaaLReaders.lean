/- WireReaders: the walk. -/
import Derived.Test.YtcgnbdgagkhehaaWStep
import Derived.Test.YtcgnbdgagkhehaaLPacks
namespace Go.Proofs.Ytcgnbdgagkhehaa
open Go.V
set_option linter.unusedVariables false
set_option linter.unusedSimpArgs false

structure OpD where
  k : Int
  o : Bool
  B : Option Addr
  c : Nat
  ys : List (BitVec 8)
def OpD.cells (d : OpD) : List Value := [.int .i64 d.k, .bool d.o, .slice d.B d.ys.length d.c]
def tot (l : List OpD) : Nat := (l.map fun d => d.ys.length).sum
theorem tot_take {l : List OpD} {i : Nat} {d : OpD} (h : l[i]? = some d) : tot (l.take (i + 1)) = tot (l.take i) + d.ys.length := by
  simp [tot, List.take_add_one, h]
theorem tot_le (l : List OpD) (i : Nat) : tot (l.take i) ≤ tot l := by
  have h : tot l = tot (l.take i) + tot (l.drop i) := by
    rw [tot, tot, tot, ← List.sum_append, ← List.map_append, List.take_append_drop]
  omega
/-- two tracks -/
structure St where
  i : Nat
  xa : List (BitVec 8)
  a1 : Value
  a2 : Value
  p1 : Hp
  p2 : Hp
  xb : List (BitVec 8)
  b1 : Value
  b2 : Value
  q1 : Hp
  q2 : Hp
theorem WireReaders_ok (w : World) (A : Option Addr) (len cap : Nat) (l : List OpD) (hlen : len = l.length)
    (hcell : ∀ (i : Nat) (d : OpD), l[i]? = some d → ∀ (j : Nat) (v : Value), d.cells[j]? = some v → ∃ b o, A = some ⟨b, o, none⟩ ∧ w.cell? ⟨b, o + (i * 3 + j), none⟩ = some v)
    (hys : ∀ (i : Nat) (d : OpD), l[i]? = some d → Rd w [] d.B (byts d.ys)) (hb : tot l ≤ 1048576) (h63 : len ≤ 1048576) :
    Is Try.prog 10 [.slice A len cap] w (.bool true) := by
  refine Does.pure (Does.of (n := 80) Try.func10 rfl rfl rfl rfl ?_)
  refine .seq ((.region (.v (.assign rfl) (.nil ?_))))
  refine .seq ((.region (.ef (.call0 rfl rfl fun w s => NewReader_ok w) ?_)))
  rintro _ _ ⟨_, ⟨ra, rfl, rfl⟩, rfl⟩
  refine .v (.build (out := [.pointer (some ⟨ra, 0, none⟩), .slice none 0 0]) rfl rfl) (.nw (.box rfl rfl) fun ta => (.v (.assign rfl) (.nil ?_)))
  refine .seq ((.region (.ef (.call0 rfl rfl fun w s => NewReader_ok w) ?_)))
  rintro _ _ ⟨_, ⟨rb, rfl, rfl⟩, rfl⟩
  refine .v (.build (out := [.pointer (some ⟨rb, 0, none⟩), .slice none 0 0]) rfl rfl) (.nw (.box rfl rfl) fun tb => (.v (.assign rfl) (.nil ?_)))
  have hpz := packed_length (k := 0#8) (ws := zw) rfl
  have hz : cellsEq (byts (packed 0#8 zw)) (byts (packed 0#8 zw)) = true := by rw [byts_eq hpz hpz]; simp
  have hc0 : ((crc []).toNat : Int) = 0 := by decide +kernel
  refine .seq (.seq ((.region (.v (.move rfl) (.v (.nilCheck rfl) (.v (.fieldAddr rfl) (.v (.load (v := .pointer (some ⟨ra, 0, none⟩)) rfl (.one rfl)) (.v (.eql_ptr_nil rfl rfl) (.v (.move rfl) (.or 18 23 5 5 rfl rfl (fun _ => .v (.move rfl) (.v (.nilCheck rfl) (.v (.fieldAddr rfl) (.v (.load (v := .pointer (some ⟨rb, 0, none⟩)) rfl (.one rfl)) (.v (.eql_ptr_nil rfl rfl) (.nil ⟨rfl, rfl, rfl, rfl⟩)))))) (.v (.move rfl) (.or 25 27 2 2 rfl rfl (fun _ => .pc rfl rfl (fun w s => Sum_ok w _ _ 0 [] (Rd.nil _ _ _) rfl (by decide)) (.v (.nei rfl rfl) (.nil ⟨rfl, rfl, rfl, rfl⟩))) (.v (.move rfl) (.or 29 34 5 5 rfl rfl (fun _ => .v (.build (out := fcells 0#8 zw) rfl rfl) (.pc rfl rfl (fun w s => Pack_ok w 0#8 zw rfl) (.v (.build (out := fcells 0#8 zw) rfl rfl) (.pc rfl rfl (fun w s => refPack_ok w 0#8 zw rfl) (.v (.neA rfl rfl (byts_oks' hpz) (byts_oks' hpz)) (.nil ⟨rfl, rfl, rfl, rfl⟩)))))) (.nil ?_)))))))))))))))
  refine .cond rfl (fun h => absurd h (by rw [hc0, hz]; simp)) (fun _ => .skip ?_)
  refine .seq (.seq ((.region (.v (.assign rfl) (.nil ?_)))))
  refine .block (.loop (X := St) (fun x => [(0, .slice A len cap), (3, .pointer (some ⟨ta, 0, none⟩)), (4, .pointer (some ⟨tb, 0, none⟩)), (5, .int .i64 x.i)])
    (fun x => TrH ta ra x.a1 x.a2 x.p1 x.p2 ++ TrH tb rb x.b1 x.b2 x.q1 x.q2)
    (fun x => x.i ≤ len ∧ Bs x.a1 x.xa x.p1 ∧ Bs x.a2 x.xa x.p2 ∧ Bs x.b1 x.xb x.q1 ∧ Bs x.b2 x.xb x.q2 ∧ x.xa.length + x.xb.length ≤ tot (l.take x.i)) (fun x => len - x.i)
    ⟨0, [], .slice none 0 0, .slice none 0 0, [], [], [], .slice none 0 0, .slice none 0 0, [], []⟩ ⟨by simp, Bs.nil, Bs.nil, Bs.nil, Bs.nil, by simp⟩
    (.cons rfl (.cons rfl (.cons rfl (.cons rfl (.nil _))))) (fun _ s => s.perm (List.perm_append_comm (l₁ := [_, _]) (l₂ := [_, _]))) ?_)
  rintro ⟨i, xa, a1, a2, p1, p2, xb, b1, b2, q1, q2⟩ ⟨hi, ka1, ka2, kb1, kb2, hx⟩
  dsimp only at hi ka1 ka2 kb1 kb2 hx ⊢
  refine .seq (.seq ((.region (.v (.move rfl) (.v (.move rfl) (.v (.len rfl) (.v (.lss rfl rfl) (.nil ?_))))))))
  refine .cond_dec rfl (fun g1 => .skip ?_) (fun g1 => .exit ?_)
  · have hil : i < l.length := by omega
    have hd := List.getElem?_eq_getElem hil
    have htot := tot_take hd
    have hle := tot_le l (i + 1)
    generalize hD : l[i] = d at hd htot
    have hc := hcell i d hd
    have hy := hys i d hd
    obtain ⟨b, o, rfl, -⟩ := hc 0 _ rfl
    have hcs : ∀ (j : Nat) (v : Value), d.cells[j]? = some v → w.cell? ⟨b, o + i * 3 + j, none⟩ = some v := by
      intro j v hv
      obtain ⟨b', o', e, h⟩ := hc j v hv
      cases e
      rw [Nat.add_assoc]; exact h
    refine .seq (.block (.seq ((.region (.v (.move rfl) (.v (.assign rfl) (.nil ?_)))))))
    refine .seq (.seq ((.region (.v (.move rfl) (.v (.move rfl) (.v (.indexAddr rfl rfl (by omega) (by omega)) (.v (.fieldAddr rfl) (.v (.load (v := .bool d.o) rfl (.old1 ?_ (by simp [bl]))) (.nil ?_)))))))))
    · rw [Int.toNat_natCast]; exact hcs 1 _ rfl
    refine .cond rfl (fun ho => ?_) (fun ho => .skip ?_)
    · refine .region (.v (.move rfl) (.v (.assign rfl) (.nil ?_)))
      refine .seq ((.region (.v (.move rfl) (.v (.move rfl) (.v (.move rfl) (.v (.indexAddr rfl rfl (by omega) (by omega)) (.v (.loadA (vs := d.cells) rfl (.old (fun j v hv => ?_) (by simp [bl])) rfl) (.ef (.call (R := StepR tb rb (xb.length + d.ys.length)) (pre := TrH tb rb b1 b2 q1 q2) (fr := TrH ta ra a1 a2 p1 p2) rfl rfl (by exact List.perm_append_comm) fun w' s => ?_) ?_))))))))
      · rw [add_none, Int.toNat_natCast]; exact hcs j v hv
      · have := step_ok w' tb rb b1 b2 q1 q2 xb kb1 kb2 d.k d.o d.B d.c d.ys (hy.keep s fun b' hb' => s.mine b' (by simp only [bl, List.map_append, List.mem_append] at hb' ⊢; exact .inr hb')) (by omega)
        exact this
      rintro _ _ ⟨_, ⟨rfl, xs', v1, v2, h1, h2, rfl, k1, k2, hl⟩, rfl⟩
      refine .v (.not rfl) (.nil ?_)
      refine .cond_false rfl (.skip ?_)
      refine .region (.v (.move rfl) (.v (.addi rfl rfl (by omega)) (.v (.assign rfl) (.nil ?_))))
      exact ⟨⟨i + 1, xa, a1, a2, p1, p2, xs', v1, v2, h1, h2⟩, ⟨by simp only; omega, ka1, ka2, k1, k2, by simp only; omega⟩, by simp only; omega, .cons rfl (.cons rfl (.cons rfl (.cons rfl (.nil _)))), fun _ s => s.perm List.perm_append_comm⟩
    · refine .seq ((.region (.v (.move rfl) (.v (.move rfl) (.v (.move rfl) (.v (.indexAddr rfl rfl (by omega) (by omega)) (.v (.loadA (vs := d.cells) rfl (.old (fun j v hv => ?_) (by simp [bl])) rfl) (.ef (.call (R := StepR ta ra (xa.length + d.ys.length)) (pre := TrH ta ra a1 a2 p1 p2) (fr := TrH tb rb b1 b2 q1 q2) rfl rfl (by exact List.Perm.refl _) fun w' s => ?_) ?_))))))))
      · rw [add_none, Int.toNat_natCast]; exact hcs j v hv
      · have := step_ok w' ta ra a1 a2 p1 p2 xa ka1 ka2 d.k d.o d.B d.c d.ys (hy.keep s fun b' hb' => s.mine b' (by simp only [bl, List.map_append, List.mem_append] at hb' ⊢; exact .inl hb')) (by omega)
        exact this
      rintro _ _ ⟨_, ⟨rfl, xs', v1, v2, h1, h2, rfl, k1, k2, hl⟩, rfl⟩
      refine .v (.not rfl) (.nil ?_)
      refine .cond_false rfl (.skip ?_)
      refine .region (.v (.move rfl) (.v (.addi rfl rfl (by omega)) (.v (.assign rfl) (.nil ?_))))
      exact ⟨⟨i + 1, xs', v1, v2, h1, h2, xb, b1, b2, q1, q2⟩, ⟨by simp only; omega, k1, k2, kb1, kb2, by simp only; omega⟩, by simp only; omega, .cons rfl (.cons rfl (.cons rfl (.cons rfl (.nil _)))), fun _ s => s⟩
  · obtain ⟨A1, c1, rfl, _⟩ := ka2.sl
    obtain ⟨A2, c2, rfl, _⟩ := kb2.sl
    refine .perm (hs' := [(ta, .cells [.pointer (some ⟨ra, 0, none⟩), .slice A1 xa.length c1] 59), (ra, .cells [a1] 77), (tb, .cells [.pointer (some ⟨rb, 0, none⟩), .slice A2 xb.length c2] 59), (rb, .cells [b1] 77)] ++ ((p1 ++ p2) ++ (q1 ++ q2))) (by exact (List.perm_append_comm_assoc (p1 ++ p2) [(tb, .cells [.pointer (some ⟨rb, 0, none⟩), .slice A2 xb.length c2] 59), (rb, .cells [b1] 77)] (q1 ++ q2)).cons _ |>.cons _) ?_
    refine .seq ((.draw [(ta, .cells [.pointer (some ⟨ra, 0, none⟩), .slice A1 xa.length c1] 59), (tb, .cells [.pointer (some ⟨rb, 0, none⟩), .slice A2 xb.length c2] 59)] (by intro p hp; simp at hp ⊢; rcases hp with rfl | rfl <;> simp) (by kernel_rfl) ?_))
    refine .v 0 rfl (by kernel_rfl) (fun hs' f => .move rfl) ?_
    refine .v 1 rfl (by kernel_rfl) (fun hs' f => .nilCheck rfl) ?_
    refine .v 2 rfl (by kernel_rfl) (fun hs' f => .fieldAddr rfl) ?_
    refine .v 3 rfl (by kernel_rfl) (fun hs' f => .load (v := .pointer (some ⟨ra, 0, none⟩)) rfl (.one (hb := .sub f) rfl)) ?_
    refine .v 5 rfl (by kernel_rfl) (fun hs' f => .move rfl) ?_
    refine .v 6 rfl (by kernel_rfl) (fun hs' f => .nilCheck rfl) ?_
    refine .v 7 rfl (by kernel_rfl) (fun hs' f => .fieldAddr rfl) ?_
    refine .v 8 rfl (by kernel_rfl) (fun hs' f => .load (v := .slice A1 xa.length c1) rfl (.one (hb := .sub f) rfl)) ?_
    refine .v 9 rfl (by kernel_rfl) (fun hs' f => .len rfl) ?_
    refine .ef 4 rfl (by kernel_rfl) (.call (pre := [(ra, .cells [a1] 77)]) (fr := [(ta, .cells [.pointer (some ⟨ra, 0, none⟩), .slice A1 xa.length c1] 59)] ++ ([(tb, .cells [.pointer (some ⟨rb, 0, none⟩), .slice A2 xb.length c2] 59), (rb, .cells [b1] 77)] ++ ((p1 ++ p2) ++ (q1 ++ q2)))) rfl rfl (by exact List.Perm.swap _ _ _) fun w' s => Left_ok w' ra _ xa.length _ p1 ka1) ?_ (fun v hs' ⟨h', ⟨_, e1⟩, e⟩ _ => by subst e1; subst e; intro p hp; simp at hp ⊢; rcases hp with rfl | rfl <;> simp)
    rintro _ _ ⟨_, ⟨rfl, rfl⟩, rfl⟩
    refine .v 10 rfl (by kernel_rfl) (fun hs' f => .eqi rfl rfl) ?_
    refine .v 11 rfl (by kernel_rfl) (fun hs' f => .move rfl) (.split (t := 67) rfl (fun _ => ?_) (fun h => absurd rfl h))
    refine .v 12 rfl (by kernel_rfl) (fun hs' f => .move rfl) ?_
    refine .v 13 rfl (by kernel_rfl) (fun hs' f => .nilCheck rfl) ?_
    refine .v 14 rfl (by kernel_rfl) (fun hs' f => .fieldAddr rfl) ?_
    refine .v 15 rfl (by kernel_rfl) (fun hs' f => .load (v := .pointer (some ⟨rb, 0, none⟩)) rfl (.one (hb := .sub f) rfl)) ?_
    refine .v 17 rfl (by kernel_rfl) (fun hs' f => .move rfl) ?_
    refine .v 18 rfl (by kernel_rfl) (fun hs' f => .nilCheck rfl) ?_
    refine .v 19 rfl (by kernel_rfl) (fun hs' f => .fieldAddr rfl) ?_
    refine .v 20 rfl (by kernel_rfl) (fun hs' f => .load (v := .slice A2 xb.length c2) rfl (.one (hb := .sub f) rfl)) ?_
    refine .v 21 rfl (by kernel_rfl) (fun hs' f => .len rfl) ?_
    refine .ef 16 rfl (by kernel_rfl) (.call (pre := [(rb, .cells [b1] 77)]) (fr := [(ra, .cells [a1] 77), (ta, .cells [.pointer (some ⟨ra, 0, none⟩), .slice A1 xa.length c1] 59), (tb, .cells [.pointer (some ⟨rb, 0, none⟩), .slice A2 xb.length c2] 59)] ++ ((p1 ++ p2) ++ (q1 ++ q2))) rfl rfl (by exact List.perm_append_comm_assoc [(ra, .cells [a1] 77), (ta, .cells [.pointer (some ⟨ra, 0, none⟩), .slice A1 xa.length c1] 59), (tb, .cells [.pointer (some ⟨rb, 0, none⟩), .slice A2 xb.length c2] 59)] [(rb, .cells [b1] 77)] ((p1 ++ p2) ++ (q1 ++ q2))) fun w' s => Left_ok w' rb _ xb.length _ q1 kb1) ?_ (fun v hs' ⟨h', ⟨_, e1⟩, e⟩ _ => by subst e1; subst e; intro p hp; simp at hp ⊢; rcases hp with rfl | rfl <;> simp)
    rintro _ _ ⟨_, ⟨rfl, rfl⟩, rfl⟩
    refine .v 22 rfl (by kernel_rfl) (fun hs' f => .eqi rfl rfl) ?_
    refine .v 23 rfl (by kernel_rfl) (fun hs' f => .pick rfl rfl rfl) ?_
    refine .v 24 rfl (by kernel_rfl) (fun hs' f => .assign rfl) ?_
    refine .done (by kernel_rfl) ?_
    exact .ret ⟨[_], ⟨rfl, trivial⟩, by simp [tup]⟩
end Go.Proofs.Ytcgnbdgagkhehaa
