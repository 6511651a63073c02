/- bourseref09.Copy; (*rules.Book).Len. -/
import Derived.Test.YtmfobfamdaajmaaQClone
namespace Go.Proofs.Ytmfobfamdaajmaa
open Go.V
set_option linter.unusedVariables false
set_option linter.unusedSimpArgs false

set_option maxRecDepth 10000 in
theorem Len_ok (w : World) (b : Nat) (cap meet high seq : Int) (A1 A2 : Option Addr) (n1 n2 c1 c2 : Nat) (hn1 : n1 ≤ 2513169434843) (hn2 : n2 ≤ 2513169434843) :
    Does Try.prog 20 [.pointer (some ⟨b, 0, none⟩)] [(b, .cells (bcells cap meet (.slice A1 n1 c1) (.slice A2 n2 c2) high seq) 67)] w
      (fun u hs => u = .int .i64 (n1 + n2) ∧ hs = [(b, .cells (bcells cap meet (.slice A1 n1 c1) (.slice A2 n2 c2) high seq) 67)]) := by
  refine Does.of (n := 16) Try.func20 rfl rfl rfl rfl ?_
  refine .seq ((.region (.v (.assign rfl) (.nil ?_))))
  refine .seq ((.drawS (by kernel_rfl) (by kernel_rfl) (.v (.move rfl) (.v (.nilCheck rfl) (.v (.fieldAddr rfl) (.v (.fieldAddr rfl) (.v (.load rfl (.one rfl)) (.v (.len rfl) (.v (.move rfl) (.v (.nilCheck rfl) (.v (.fieldAddr rfl) (.v (.fieldAddr rfl) (.v (.load rfl (.one rfl)) (.v (.len rfl) (.v (.addi rfl rfl (by omega)) (.v (.assign rfl) (.nil ?_)))))))))))))))))
  exact .ret ⟨[_], ⟨rfl, trivial⟩, rfl, rfl⟩

set_option maxRecDepth 10000 in
theorem Copy_ok (w : World) (cap meet high seq : Int) (A1 A2 : Option Addr) (c1 c2 : Nat) (bs ss : List Ord) (h1 : Rd w [] A1 (rows bs)) (h2 : Rd w [] A2 (rows ss)) (hb1 : bs.length ≤ 2513169434843) (hb2 : ss.length ≤ 2513169434843) :
    Does Try.prog 11 [.agg ⟨bcells cap meet (.slice A1 bs.length c1) (.slice A2 ss.length c2) high seq⟩] [] w
      (fun v hs => ∃ v1 v2 k1 k2, v = .agg ⟨bcells cap meet v1 v2 high seq⟩ ∧ hs = k2 ++ k1 ∧ OwnS 53 7 v1 bs.length (rows bs) k1 ∧ OwnS 53 7 v2 ss.length (rows ss) k2) := by
  refine Does.less (Does.of (n := 14) Try.func11 rfl rfl rfl rfl ?_)
  refine .seq ((.region (.nw (.box rfl rfl) fun b1 => (.nw .alloc fun b2 => (.nil ?_)))))
  refine .seq ((.region (.ef (.buildSlice (out := []) rfl (by decide) rfl rfl) ?_)))
  rintro _ _ ⟨b3, rfl, rfl⟩
  refine .v (.fieldAddr rfl) (.v (.load (v := .slice A1 bs.length c1) rfl (.one rfl)) ?_)
  refine .ef (.append (c := 0) (k := bs.length) (vs := []) (news := rows bs) (h := [(b3, .cells [] 53)]) (fr := [(b2, .cells (bcells 0 0 (.slice none 0 0) (.slice none 0 0) 0 0) 30), (b1, .cells (bcells cap meet (.slice A1 bs.length c1) (.slice A2 ss.length c2) high seq) 30)]) rfl rfl ⟨rfl, .inr ⟨b3, 0, 0, [], rfl, rfl, by omega, by simp, by simp⟩⟩ (by exact List.Perm.refl _)
    (fun w' s => (h1.keep0 s).src (rows_length bs) (by omega)) (rows_length bs) (rows_ones _) (by omega) (by omega)) ?_
  rintro v1 _ ⟨k1, o1, rfl⟩
  rw [Nat.zero_add] at o1
  refine .v (.fieldAddr rfl) (.st (.store rfl rfl (by obtain ⟨_, _, rfl⟩ := o1.slice; rfl) (by simp [bcells])) (.nil ?_))
  refine .seq ((.region (.ef (.buildSlice (out := []) rfl (by decide) rfl rfl) ?_)))
  rintro _ _ ⟨b4, rfl, rfl⟩
  refine .v (.fieldAddr rfl) (.v (.load (v := .slice A2 ss.length c2) rfl (.one rfl)) ?_)
  refine .ef (.append (c := 0) (k := ss.length) (vs := []) (news := rows ss) (h := [(b4, .cells [] 53)]) (fr := k1 ++ [(b2, .cells (bcells 0 0 (.slice none 0 0) (.slice none 0 0) 0 0) 30), (b1, .cells (bcells cap meet v1 (.slice A2 ss.length c2) high seq) 30)]) rfl rfl ⟨rfl, .inr ⟨b4, 0, 0, [], rfl, rfl, by omega, by simp, by simp⟩⟩ (by exact List.Perm.refl _)
    (fun w' s => (h2.keep0 s).src (rows_length ss) (by omega)) (rows_length ss) (rows_ones _) (by omega) (by omega)) ?_
  rintro v2 _ ⟨k2, o2, rfl⟩
  rw [Nat.zero_add] at o2
  refine .v (.fieldAddr rfl) (.st (.store rfl rfl (by obtain ⟨_, _, rfl⟩ := o2.slice; rfl) (by simp [bcells])) (.nil ?_))
  refine .seq ((.region (.v (.loadA (vs := bcells cap meet v1 v2 high seq) rfl .whole rfl) (.st (.sw rfl rfl rfl (by obtain ⟨_, _, rfl⟩ := o1.slice; obtain ⟨_, _, rfl⟩ := o2.slice; rfl)) (.nil ?_)))))
  refine .ret ⟨[_], ⟨⟨_, rfl, .inr ⟨6, _, inferInstance, rfl, rfl, .whole⟩⟩, trivial⟩, k2 ++ k1, fun _ s => s.sub (List.Sublist.append_left (List.sublist_append_left _ _) _), v1, v2, k1, k2, rfl, rfl, o1, o2⟩
end Go.Proofs.Ytmfobfamdaajmaa
