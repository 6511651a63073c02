/- wire.Reader: what its methods do. -/
import Derived.Test.YtcgnbdgagkhehaaLUnp
import Derived.Test.YtcgnbdgagkhehaaVM
namespace Go.Proofs.Ytcgnbdgagkhehaa
open Go.V
set_option linter.unusedVariables false
set_option linter.unusedSimpArgs false

/-- an own slice of these bytes -/
abbrev Bs (v : Value) (xs : List (BitVec 8)) (h : Hp) : Prop := OwnS 5 1 v xs.length (byts xs) h
theorem Bs.nil : Bs (.slice none 0 0) [] [] := OwnS.nil 5 1
theorem Bs.sl {v : Value} {xs : List (BitVec 8)} {h : Hp} (k : Bs v xs h) : ∃ A c, v = .slice A xs.length c ∧ xs.length ≤ c := by
  obtain ⟨A, c, rfl⟩ := k.slice
  exact ⟨A, c, rfl, k.cap_.2⟩

theorem NewReader_ok (w : World) : Does Try.prog 25 [] [] w (fun v hs => ∃ b, v = .pointer (some ⟨b, 0, none⟩) ∧ hs = [(b, .cells [.slice none 0 0] 77)]) := by
  refine Does.of (n := 3) Try.func25 rfl rfl rfl rfl ?_
  refine .seq ((.region (.v (.assign rfl) (.nil ?_))))
  refine .seq ((.region (.v (.build (out := [.slice none 0 0]) rfl rfl) (.nw (.box rfl rfl) fun b2 => (.v (.assign rfl) (.nil ?_))))))
  exact .ret ⟨[_], ⟨rfl, trivial⟩, b2, rfl, rfl⟩
theorem Left_ok (w : World) (br : Nat) (v : Value) (n : Nat) (vs : List Value) (h : Hp) (k : OwnS 5 1 v n vs h) : Does Try.prog 27 [.pointer (some ⟨br, 0, none⟩)] [(br, .cells [v] 77)] w (fun u hs => u = .int .i64 n ∧ hs = [(br, .cells [v] 77)]) := by
  obtain ⟨A, c, rfl⟩ := k.slice
  refine Does.of (n := 8) Try.func27 rfl rfl rfl rfl ?_
  refine .seq ((.region (.v (.assign rfl) (.nil ?_))))
  refine .seq ((.region (.v (.move rfl) (.v (.nilCheck rfl) (.v (.fieldAddr rfl) (.v (.load rfl (.one rfl)) (.v (.len rfl) (.v (.assign rfl) (.nil ?_)))))))))
  exact .ret ⟨[_], ⟨rfl, trivial⟩, rfl, rfl⟩
theorem Feed_ok (w : World) (br : Nat) (v : Value) (xs ys : List (BitVec 8)) (h : Hp) (k : Bs v xs h) (A : Option Addr) (c : Nat) (hy : Rd w (br :: bl h) A (byts ys)) (hb : xs.length + ys.length ≤ 140737488355000) :
    Does Try.prog 28 [.pointer (some ⟨br, 0, none⟩), .slice A ys.length c] ((br, .cells [v] 77) :: h) w (fun _ hs => ∃ v' h', hs = h' ++ [(br, .cells [v'] 77)] ∧ Bs v' (xs ++ ys) h') := by
  refine Does.of (n := 13) Try.func28 rfl rfl rfl rfl ?_
  refine .region (.v (.move rfl) (.v (.move rfl) (.v (.nilCheck rfl) (.v (.fieldAddr rfl) (.v (.load rfl (.one rfl)) (.v (.move rfl) (.ef (.append (c := xs.length) (k := ys.length) (vs := byts xs) (news := byts ys) (h := h) (fr := [(br, .cells [v] 77)]) rfl rfl k (List.perm_append_singleton _ _).symm (fun w' s => ?_) (by rw [byts_length]; omega) (byts_ones _) (by omega) (by omega)) ?_)))))))
  · exact (hy.keep (no := []) s (by simp)).src (by rw [byts_length]; omega) (by omega)
  rintro v' _ ⟨h', ho', rfl⟩
  refine .v (.nilCheck rfl) (.v (.fieldAddr rfl) (.st (.store rfl rfl ?_ (by simp)) (.nil ?_)))
  · obtain ⟨_, _, rfl⟩ := ho'.slice; rfl
  refine ⟨[], trivial, v', h', rfl, ?_⟩
  rw [← byts_append] at ho'
  unfold Bs
  rw [List.length_append]
  exact ho'
theorem Close_ok (w : World) (br : Nat) (v : Value) (xs : List (BitVec 8)) (h : Hp) (k : Bs v xs h) :
    Does Try.prog 30 [.pointer (some ⟨br, 0, none⟩)] [(br, .cells [v] 77)] w (fun u hs => u = .int .i64 (if 0 < xs.length then 20 else 0) ∧ hs = [(br, .cells [.slice none 0 0] 77)]) := by
  obtain ⟨A, c, rfl, _⟩ := k.sl
  refine Does.of (n := 14) Try.func30 rfl rfl rfl rfl ?_
  refine .seq ((.region (.v (.assign rfl) (.nil ?_))))
  refine .seq ((.region (.v (.move rfl) (.v (.nilCheck rfl) (.v (.fieldAddr rfl) (.v (.load rfl (.one rfl)) (.v (.len rfl) (.v (.assign rfl) (.nil ?_)))))))))
  refine .seq ((.region (.v (.move rfl) (.v (.nilCheck rfl) (.v (.fieldAddr rfl) (.st (.store rfl rfl rfl (by simp)) (.nil ?_)))))))
  refine .seq (.seq ((.region (.v (.move rfl) (.v (.gtr rfl rfl) (.nil ?_))))))
  refine .cond_dec rfl (fun h1 => ?_) (fun h1 => .skip ?_)
  · refine .seq ((.region (.v (.assign rfl) (.nil ?_))))
    exact .ret ⟨[_], ⟨rfl, trivial⟩, by rw [if_pos (by omega)]; rfl, rfl⟩
  · refine .seq ((.region (.v (.assign rfl) (.nil ?_))))
    exact .ret ⟨[_], ⟨rfl, trivial⟩, by rw [if_neg (by omega)]; rfl, rfl⟩
/-- what Next gives of these bytes -/
def nextV (xs : List (BitVec 8)) : Value :=
  if xs.length < 64 then .tuple ⟨[.agg ⟨fcells 0#8 zw⟩, .int .i64 0, .bool false]⟩ else .tuple ⟨[.agg ⟨fcells (unpk (xs.take 64)).1 (unpk (xs.take 64)).2.1⟩, .int .i64 (unpk (xs.take 64)).2.2, .bool true]⟩
def rest64 (xs : List (BitVec 8)) : List (BitVec 8) := if xs.length < 64 then xs else xs.drop 64
theorem byts_drop (xs : List (BitVec 8)) (n : Nat) : (byts xs).drop n = byts (xs.drop n) := by simp [byts, List.map_drop]
theorem byts_tk (xs : List (BitVec 8)) (n : Nat) : (byts xs).take n = byts (xs.take n) := by simp [byts, List.map_take]
theorem Bs.cut {A : Option Addr} {c : Nat} {xs : List (BitVec 8)} {h : Hp} (k : Bs (.slice A xs.length c) xs h) (hi : 64 ≤ xs.length) : Bs (.slice (cutA A c 64 1) (xs.length - 64) (c - 64)) (xs.drop 64) h := by
  have := OwnS.cut k hi (by omega)
  rw [byts_drop] at this
  unfold Bs
  rw [List.length_drop]
  exact this
theorem Next_ok (w : World) (br : Nat) (v : Value) (xs : List (BitVec 8)) (h : Hp) (k : Bs v xs h) :
    Does Try.prog 29 [.pointer (some ⟨br, 0, none⟩)] ((br, .cells [v] 77) :: h) w (fun u hs => u = nextV xs ∧ ∃ v', hs = (br, .cells [v'] 77) :: h ∧ Bs v' (rest64 xs) h) := by
  obtain ⟨A, c, rfl, hc⟩ := k.sl
  refine Does.less (Does.of (n := 33) Try.func29 rfl rfl rfl rfl ?_)
  refine .seq ((.region (.nw .alloc fun b2 => (.v (.assign rfl) (.v (.assign rfl) (.nil ?_))))))
  refine .seq (.seq ((.region (.v (.move rfl) (.v (.nilCheck rfl) (.v (.fieldAddr rfl) (.v (.load rfl (.one rfl)) (.v (.len rfl) (.v (.lss rfl rfl) (.nil ?_))))))))))
  refine .cond_dec rfl (fun h1 => ?_) (fun h1 => .skip ?_)
  · have hx : xs.length < 64 := by omega
    refine .seq ((.region (.v (.build (out := fcells 0#8 zw) rfl rfl) (.st (.storeW rfl rfl rfl rfl rfl) (.v (.assign rfl) (.v (.assign rfl) (.nil ?_)))))))
    exact .ret ⟨[_, _, _], ⟨⟨_, rfl, .inr ⟨8, _, inferInstance, rfl, rfl, .whole⟩⟩, rfl, rfl, trivial⟩, (br, .cells [.slice A xs.length c] 77) :: h, fun _ s => s.sub (List.sublist_cons_self _ _), by rw [nextV, if_pos hx]; rfl, _, rfl, by rw [rest64, if_pos hx]; exact k⟩
  · have hx : ¬ xs.length < 64 := by omega
    have hU := unpk_ws (xs.take 64)
    have hk := k.cut (by omega : 64 ≤ xs.length)
    refine .seq ((.region (.v (.move rfl) (.v (.nilCheck rfl) (.v (.fieldAddr rfl) (.v (.load rfl (.one rfl)) (.v (.slHi rfl rfl (by omega) (by omega)) (.pc rfl rfl (fun w s => Unpack_ok w _ _ c (xs.take 64) (by rw [← byts_tk]; exact (k.rd s (by simp) (by simp)).take 64) (by simp; omega)) (.v (.move rfl) (.v (.extract (vs := [.agg ⟨fcells (unpk (xs.take 64)).1 (unpk (xs.take 64)).2.1⟩, .int .i64 (unpk (xs.take 64)).2.2]) rfl rfl) (.v (.extract (vs := [.agg ⟨fcells (unpk (xs.take 64)).1 (unpk (xs.take 64)).2.1⟩, .int .i64 (unpk (xs.take 64)).2.2]) rfl rfl) (.nw .alloc fun b5 => (.st (.storeW rfl rfl (fcells_length hU) (fcells_ones _ _) rfl) (.v (.assign rfl) (.nil ?_)))))))))))))))
    refine .seq ((.region (.v (.move rfl) (.v (.move rfl) (.v (.nilCheck rfl) (.v (.fieldAddr rfl) (.v (.load rfl (.one rfl)) (.v (.slLo rfl rfl (by omega) (by omega)) (.v (.nilCheck rfl) (.v (.fieldAddr rfl) (.st (.store rfl rfl rfl (by simp)) (.nil ?_))))))))))))
    refine .seq ((.region (.v (.loadA rfl .whole (fcells_length hU)) (.v (.move rfl) (.st (.storeW rfl rfl (fcells_length hU) (fcells_ones _ _) rfl) (.v (.assign rfl) (.v (.assign rfl) (.nil ?_))))))))
    exact .ret ⟨[_, _, _], ⟨⟨_, rfl, .inr ⟨8, _, inferInstance, fcells_length hU, rfl, .whole⟩⟩, rfl, rfl, trivial⟩, (br, .cells [.slice (cutA A c 64 1) (xs.length - 64) (c - 64)] 77) :: h, fun _ s => s.sub (.cons _ (.cons _ (List.Sublist.refl _))), by rw [nextV, if_neg hx]; rfl, _, rfl, by rw [rest64, if_neg hx]; exact hk⟩
end Go.Proofs.Ytcgnbdgagkhehaa
