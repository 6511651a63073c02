/- Texts that the row RRiskLimits stands on: RKKeys64, RKOpen, RKWide, RKAhead, RKSmall, RKStillL, QRests, QMeets, QTSpec, QTrades, QTFun, QWhole, QComes, QDoS, QDoW, QBegun. -/
import Derived.Test.YtfajjkolhajldaaYRiskLimitsD
import Derived.Test.YtfajjkolhajldaaYRiskLimitsB
import Derived.Test.YtfajjkolhajldaaYRiskLimitsC
import Derived.Laws.Externs
import Derived.Shelf.Spec.BitsCarry
import Derived.Shelf.Bits.Mul64
import Derived.Lib.Mul64
/- maps.Keys as an iterator, slices.AppendSeq, Collect, Sorted over it; IndexFunc, DeleteFunc: at uint64. -/
namespace Go.Proofs.Ytfajjkolhajldaa.S64
open Go.V
open Go.Sort (ltInt)
set_option linter.unusedVariables false
set_option linter.unusedSimpArgs false
set_option maxRecDepth 20000

structure KS where
  zs : List ME
  p : Hp
abbrev MB64 (bm : Nat) (es : List ME) (c : Nat) : Nat × Ch := (bm, Ch.obj (mapOf .u64 es c))
abbrev MX64 (bc bm : Nat) : Nat × Ch := (bc, Ch.cells [.map (some bm)] 78)
abbrev KF64 (bc : Nat) : Value := .func (.func 64) #[] #[.pointer (some ⟨bc, 0, none⟩)]
theorem Keys64_ok (w : World) (bm : Nat) : Does Try.prog 30 [.map (some bm)] [] w (fun v hs => ∃ bc, v = KF64 bc ∧ hs = [MX64 bc bm]) := by
  refine Does.of (n := 4) Try.func30 rfl rfl rfl rfl ?_
  refine .seq ((.region (.nw (.box rfl rfl) fun b1 => (.v (.assign rfl) (.nil ?_)))))
  refine .seq ((.region (.v (.makeFunc (us := []) rfl rfl) (.v (.assign rfl) (.nil ?_)))))
  exact .ret ⟨[_], ⟨rfl, trivial⟩, b1, rfl, rfl⟩
set_option maxRecDepth 20000 in
theorem Keys64_its (w : World) (pre : Hp) (bc bm : Nat) (es : List ME) (c : Nat) (hm : MOk es c) (hM : MX64 bc bm ∈ pre) :
    ItsS Try.prog 64 [.pointer (some ⟨bc, 0, none⟩)] [MB64 bm es c] (okE .u64 es) (finE .u64 es) w pre := by
  intro l J Jx hJ0 hkp hyield
  haveI : Mem bc (.cells [.map (some bm)] 78) pre := ⟨hM⟩
  haveI : Mem bm (.obj (mapOf .u64 es c)) pre := ⟨hkp _ _ hJ0 (by simp)⟩
  refine Does.ofF (n := 14) Try.func64 rfl rfl rfl rfl ?_
  refine .seq (.region (.v (.load (v := .map (some bm)) rfl (.one rfl)) (.nw (.range rfl) fun r => (.nil ?_))))
  refine .block (.loop (X := KS) (fun x => [(0, .func (.yield l) #[] #[]), (5, .pointer (some ⟨r, 0, none⟩))]) (fun x => (r, iter_ bm c (x.zs.map ME.born) c) :: x.p) (fun x => (∀ z ∈ x.zs, z ∈ es) ∧ (x.zs.map ME.born).Nodup ∧ J (x.zs.map (kvQ .u64)) x.p) (fun x => es.length - x.zs.length) ⟨[], pre⟩ ⟨by simp, by simp, hJ0⟩ (.cons rfl (.cons rfl (.nil _))) (fun _ s => s) ?_)
  rintro ⟨zs, p⟩ ⟨h1, h2, hJ⟩
  dsimp only at h1 h2 hJ ⊢
  haveI : Mem bm (.obj (mapOf .u64 es c)) p := ⟨hkp _ _ hJ (by simp)⟩
  refine .seq (.region (.ef (.next (r := r) (b := bm) (c := c) (q := .u64) (es := es) (seen := zs.map ME.born) rfl (fun y hy => hm.c y hy) (Nat.le_refl _)) ?_))
  rintro _ _ (⟨rfl, hall, rfl⟩ | ⟨y, hy, hns, rfl, rfl⟩)
  · refine .v (.extract rfl rfl) (.nil ?_)
    refine .seq (.cond (b := false) rfl (fun h => absurd h (by simp)) (fun _ => .exit ?_))
    have hp : zs.Perm es := (List.perm_ext_iff_of_nodup (nodup_of_map h2) (nodup_of_map hm.b)).2 fun z => ⟨h1 z, fun hz => by
      obtain ⟨z', hz', e⟩ := List.mem_map.1 (hall z hz)
      rwa [← nodup_inj hm.b (h1 z' hz') hz e]⟩
    exact ⟨.inl rfl, [], p, [], rfl, fun _ s => s.sub (List.sublist_cons_self _ _), trivial, .inl ⟨_, ⟨zs, hp, rfl⟩, hJ⟩⟩
  · refine .v (.extract rfl rfl) (.nil ?_)
    refine .seq (.cond (b := true) rfl (fun _ => .skip ?_) (fun h => absurd h (by simp)))
    refine .block (.seq (.region (.v (.entry rfl hy hm.b) (.v (.extract rfl rfl) (.v (.assign rfl) (.nil ?_))))))
    have n1 : ∀ z ∈ zs ++ [y], z ∈ es := fun z hz => by rcases List.mem_append.1 hz with h | h; exact h1 z h; rw [List.mem_singleton.1 h]; exact hy
    have n2 : ((zs ++ [y]).map ME.born).Nodup := by rw [List.map_append]; exact List.nodup_append.2 ⟨h2, by simp, fun a ha b hb e => by simp at hb; subst hb; exact hns (e ▸ ha)⟩
    have n3 := sub_len (b := es.map ME.born) n2 (fun x hx => by obtain ⟨z, hz, rfl⟩ := List.mem_map.1 hx; exact List.mem_map.2 ⟨z, n1 z hz, rfl⟩)
    simp only [List.length_map, List.length_append, List.length_singleton] at n3
    refine .seq (.regionY (.v (.move rfl) (.v (.move rfl) ?_)))
    refine .yield (vals := kvQ .u64 y) (pre := p) (fr := [_]) rfl rfl (List.perm_append_comm (l₁ := [_])) (fun W s => hyield (zs.map (kvQ .u64)) (kvQ .u64 y) ⟨zs ++ [y], n1, n2, by simp⟩ W p hJ (s.sub (List.sublist_cons_self _ _))) ?_
    rintro _ h' (⟨rfl, hJ'⟩ | ⟨rfl, hJx⟩)
    · refine .v (.not rfl) (.nil ?_)
      refine .cond (b := false) rfl (fun h => absurd h (by simp)) (fun _ => .skip ?_)
      refine ⟨rfl, ⟨zs ++ [y], h'⟩, ⟨n1, n2, by rw [List.map_append]; exact hJ'⟩, by show es.length - (zs ++ [y]).length < es.length - zs.length; rw [List.length_append, List.length_singleton]; omega, .cons rfl (.cons rfl (.nil _)), fun _ s => ?_⟩
      rw [List.map_append]
      exact s.perm List.perm_append_comm
    · refine .v (.not rfl) (.nil ?_)
      refine .cond (b := true) rfl (fun _ => ?_) (fun h => absurd h (by simp))
      exact .ret ⟨.inr rfl, [], h', [], rfl, fun _ s => s.sub (List.sublist_append_left _ _), trivial, .inr hJx⟩
set_option maxRecDepth 20000 in
theorem appSeq64_ok (w : World) (bc bm : Nat) (es : List ME) (c : Nat) (hm : MOk es c) (hlen : es.length ≤ 1000000000000) :
    Does Try.prog 85 [.slice none 0 0, KF64 bc] [MX64 bc bm, MB64 bm es c] w (fun v hs => ∃ zs h, zs.Perm (es.map (·.1)) ∧ OwnS 30 1 v zs.length (ints .u64 zs) h ∧ hs = h ++ [MX64 bc bm, MB64 bm es c]) := by
  refine Does.ofF (n := 13) Try.func85 rfl rfl rfl rfl ?_
  refine .seq ((.region (.nw (.box rfl rfl) fun b2 => (.v (.assign rfl) (.nil ?_)))))
  refine .seq (.seq ((.region (.v (.move rfl) (.nil ?_)))))
  refine .block (.rangeFuncS [MB64 bm es c] (okE .u64 es) (finE .u64 es) (fun ys h => ∃ v h' zs, ys = zs.map (fun z : Int => [Value.int .u64 z]) ∧ h = h' ++ [(b2, Ch.cells [v] 45), MX64 bc bm, MB64 bm es c] ∧ OwnS 30 1 v zs.length (ints .u64 zs) h') (fun _ _ => False) rfl
    ⟨_, [], [], rfl, rfl, OwnS.nil _ _⟩ (fun ys h hI x hx => ?_) rfl (fun ys y hok => by obtain ⟨k, rfl⟩ := hok.last; rfl) (fun p q W s => ?_) (fun l D ys y hok h W rc rc' hI sW => ?_) (fun D ys h hf hI => ?_) (fun _ _ _ h => h.elim))
  · obtain ⟨v, h', zs, _, rfl, _⟩ := hI
    simp at hx; subst hx; simp
  · exact Keys64_its W _ bc bm es c hm (by simp)
  · have hln := okE.len hm hok
    obtain ⟨k, rfl⟩ := hok.last
    obtain ⟨v, h', zs, rfl, rfl, ho⟩ := hI
    simp only [List.length_append, List.length_map, List.length_singleton] at hln
    refine .region (.v (.assign rfl) (.nil ?_))
    refine ⟨rfl, rfl, h' ++ [_, _, _], fun _ s => s, ?_⟩
    refine .block (.region (.v (.load (v := v) rfl (.one rfl)) (.v (.move rfl) (.push (h := h') (oc := [.int .u64 k]) (c := zs.length) (vs := ints .u64 zs) rfl rfl ho rfl rfl rfl (by omega) (by omega) fun b v' h2 o2 => ?_))))
    obtain ⟨A1, d1, rfl⟩ := OwnS.slice o2
    refine .st (.storeL (l' := [.slice A1 (zs.length + 1) d1]) rfl rfl rfl) (.nil ?_)
    have ep : List.Perm (h2 ++ [(l, rc'), (D, dfr), (b2, Ch.cells [Value.slice A1 (zs.length + 1) d1] 45), MX64 bc bm, MB64 bm es c]) ((l, rc') :: (D, dfr) :: (h2 ++ [(b2, Ch.cells [.slice A1 (zs.length + 1) d1] 45), MX64 bc bm, MB64 bm es c])) := by
      refine (List.perm_append_comm).trans ?_
      exact (((List.perm_append_comm (l₁ := [(b2, _), MX64 bc bm, MB64 bm es c])).cons _).cons _)
    refine ⟨_, fun _ s => s.perm ep, _, h2, zs ++ [k], by simp, rfl, ?_⟩
    rw [List.length_append, List.length_singleton, show ints .u64 (zs ++ [k]) = ints .u64 zs ++ [.int .u64 k] by simp [ints]]
    exact o2
  · obtain ⟨v, h', zs, rfl, rfl, ho⟩ := hI
    obtain ⟨z2, hp, he⟩ := hf
    have hzz : zs = z2.map (·.1) := by
      have := congrArg (List.map (fun x : List Value => match x with | [.int _ k] => k | _ => 0)) he
      simpa [List.map_map, Function.comp_def] using this
    refine .seq ((.region (.v (.load (v := v) rfl (.one rfl)) (.v (.assign rfl) (.nil ?_)))))
    refine .ret ?_
    refine ⟨.inr rfl, [D], h' ++ [MX64 bc bm, MB64 bm es c], [_], rfl, fun _ s => ?_, ⟨rfl, trivial⟩, zs, h', ?_, ho, rfl⟩
    · refine s.sub ?_
      exact (List.Sublist.append (List.Sublist.refl h') (List.sublist_cons_self _ _)).cons_cons _
    · rw [hzz]; exact hp.map _
theorem collect64_ok (w : World) (bc bm : Nat) (es : List ME) (c : Nat) (hm : MOk es c) (hlen : es.length ≤ 1000000000000) :
    Does Try.prog 62 [KF64 bc] [MX64 bc bm, MB64 bm es c] w (fun v hs => ∃ zs h, zs.Perm (es.map (·.1)) ∧ OwnS 30 1 v zs.length (ints .u64 zs) h ∧ hs = h ++ [MX64 bc bm, MB64 bm es c]) := by
  refine Does.of (n := 5) Try.func62 rfl rfl rfl rfl ?_
  refine .seq ((.region (.v (.assign rfl) (.nil ?_))))
  refine .seq ((.region (.v (.move rfl) ?_)))
  refine .ef (.callT [MX64 bc bm, MB64 bm es c] rfl rfl fun w s => appSeq64_ok w bc bm es c hm hlen) ?_
  rintro _ _ ⟨_, ⟨zs, h, hp, ho, rfl⟩, rfl⟩
  refine .v (.assign rfl) (.nil ?_)
  exact .ret ⟨[_], ⟨rfl, trivial⟩, zs, h, hp, ho, by simp⟩
/-! ### the empty row -/
theorem ins64_nil (w : World) : Does Try.prog 96 [.slice none 0 0, .int .i64 0, .int .i64 0] [] w (fun _ hs => hs = []) := by
  refine Does.of (n := 49) Try.func96 rfl rfl rfl rfl ?_
  refine .seq ((.region (.v (.move rfl) (.v (.addE 1 rfl rfl (by omega) (by omega)) (.v (.assign rfl) (.nil ?_))))))
  refine .block (.loop (X := Unit) (fun x => [(2, .int .i64 0), (6, .int .i64 1)]) (fun x => []) (fun x => True) (fun x => 0) () trivial (.cons rfl (.cons rfl (.nil _))) (fun _ s => s) ?_)
  rintro _ _
  refine .seq (.seq ((.region (.v (.move rfl) (.v (.move rfl) (.v (.lss rfl rfl) (.nil ?_)))))))
  refine .cond_false rfl (.exit ?_)
  exact ⟨[], trivial, rfl⟩
theorem pdq64_nil (w : World) (t : Nat) : Does Try.prog 86 [.slice none 0 0, .int .i64 0, .int .i64 0, .int .i64 t] [] w (fun _ hs => hs = []) := by
  refine Does.of (n := 134) Try.func86 rfl rfl rfl rfl ?_
  refine .seq ((.region (.v (.assign rfl) (.nil ?_))))
  refine .seq ((.region (.v (.assign rfl) (.nil ?_))))
  refine .block (.loop (X := Unit) (fun x => [(0, .slice none 0 0), (1, .int .i64 0), (2, .int .i64 0)]) (fun x => []) (fun x => True) (fun x => 0) () trivial (.cons rfl (.cons rfl (.cons rfl (.nil _)))) (fun _ s => s) ?_)
  rintro _ _
  refine .block (.seq ((.region (.v (.move rfl) (.v (.move rfl) (.v (.subE 0 rfl rfl (by omega) (by omega)) (.v (.assign rfl) (.nil ?_))))))))
  refine .seq (.seq ((.region (.v (.move rfl) (.v (.leq rfl rfl) (.nil ?_))))))
  refine .cond_dec rfl (fun h1 => ?_) (fun h1 => absurd (by decide) h1)
  refine .seq ((.region (.v (.move rfl) (.v (.move rfl) (.v (.move rfl) ?_)))))
  refine .ef (.call0 rfl rfl fun w s => ins64_nil w) ?_
  rintro _ _ ⟨_, rfl, rfl⟩
  refine .nil ?_
  exact .ret ⟨[], trivial, rfl⟩
theorem sort64_nil (w : World) : Does Try.prog 63 [.slice none 0 0] [] w (fun _ hs => hs = []) := by
  refine Does.of (n := 11) Try.func63 rfl rfl rfl rfl ?_
  refine .seq ((.region (.v (.move rfl) (.v (.len rfl) (.v (.assign rfl) (.nil ?_))))))
  refine .region (.v (.move rfl) (.v (.move rfl) (.v (.move rfl) (.v (.convE 0 rfl (wrap_u64_in (by omega))) ?_))))
  refine .ef (.call0 rfl rfl fun w s => len_ok w 0 (by omega)) ?_
  rintro _ _ ⟨_, ⟨t, h1, h2, rfl, rfl⟩, rfl⟩
  refine .ef (.call0 rfl rfl fun w s => pdq64_nil w t) ?_
  rintro _ _ ⟨_, rfl, rfl⟩
  refine .nil ?_
  exact ⟨[], trivial, rfl⟩
theorem srt_sorted (z : List Int) : (srt z).Pairwise (fun x y => x ≤ y) := by
  have := List.pairwise_mergeSort (le := fun x y => !ltInt y x) (fun a b c h1 h2 => by simp [ltInt] at *; omega) (fun a b => by simp [ltInt]; omega) z
  exact this.imp (fun h => by simpa [ltInt] using h)
theorem srt_perm (z : List Int) : (srt z).Perm z := List.mergeSort_perm ..
theorem srt_of {y z : List Int} (hp : y.Perm z) (hs : y.Pairwise (fun x y => x ≤ y)) : srt z = y :=
  List.Perm.eq_of_pairwise (le := fun x y => x ≤ y) (fun a b _ _ h1 h2 => by omega) (srt_sorted z) hs ((srt_perm z).trans hp.symm)
theorem srt_congr {y z : List Int} (hp : y.Perm z) : srt y = srt z := srt_of ((srt_perm z).trans hp.symm) (srt_sorted z)
theorem sorted64_ok (w : World) (bc bm : Nat) (es : List ME) (c : Nat) (hm : MOk es c) (hlen : es.length ≤ 1000000000000) :
    Does Try.prog 29 [KF64 bc] [MX64 bc bm, MB64 bm es c] w (fun v hs => ∃ h, OwnS 30 1 v (srt (es.map (·.1))).length (ints .u64 (srt (es.map (·.1)))) h ∧ hs = h ++ [MX64 bc bm, MB64 bm es c]) := by
  refine Does.of (n := 9) Try.func29 rfl rfl rfl rfl ?_
  refine .seq ((.region (.v (.assign rfl) (.nil ?_))))
  refine .seq ((.region (.v (.move rfl) ?_)))
  refine .ef (.callT [MX64 bc bm, MB64 bm es c] rfl rfl fun w s => collect64_ok w bc bm es c hm hlen) ?_
  rintro _ _ ⟨_, ⟨zs, h, hp, ho, rfl⟩, rfl⟩
  refine .v (.assign rfl) (.nil ?_)
  have hl := hp.length_eq
  rw [List.length_map] at hl
  rw [← srt_congr hp, srt_len]
  rcases ho.2 with ⟨rfl, h0, rfl⟩ | ⟨b, o, cap, l, rfl, rfl, h3, h4, h5⟩
  · have hz : zs = [] := List.length_eq_zero_iff.1 h0
    subst hz
    refine .seq ((.region (.v (.move rfl) ?_)))
    refine .ef (.call0 rfl rfl fun w s => sort64_nil w) ?_
    rintro _ _ ⟨_, rfl, rfl⟩
    refine .nil ?_
    refine .seq ((.region (.v (.move rfl) (.v (.assign rfl) (.nil ?_)))))
    exact .ret ⟨[_], ⟨rfl, trivial⟩, [], by rw [show srt [] = [] from List.mergeSort_nil ..]; exact OwnS.nil _ _, by simp⟩
  · refine .seq ((.region (.v (.move rfl) ?_)))
    refine .ef (.callT [(b, .cells l 30)] rfl rfl fun w s => sort64_ok w ho (by omega)) ?_
    rintro _ _ ⟨_, ⟨l', rfl, k2⟩, rfl⟩
    refine .nil ?_
    refine .seq ((.region (.v (.move rfl) (.v (.assign rfl) (.nil ?_)))))
    exact .ret ⟨[_], ⟨rfl, trivial⟩, [(b, .cells l' 30)], k2, by simp⟩
/-! ### IndexFunc, DeleteFunc -/
/-- a closure that says p of a number, lent some blocks -/
abbrev Del64 (g : Nat) (cap : List Value) (fr : Hp) (p : Int → Bool) : Prop := ∀ (w : World) (x : Int), Does Try.prog g (.int .u64 x :: cap) fr w (fun v h => v = .bool (p x) ∧ h = fr)
def ixF (p : Int → Bool) (z : List Int) : Int := match z.findIdx? p with | some i => i | none => -1
structure FI where
  i : Nat
set_option maxRecDepth 20000 in
theorem index64_ok (w : World) {b o c n : Nat} {d : Array Int} {l : List Value} (k : So64 b o c n d l) (hn : n < 2305843009213693952) (g : Nat) [hg : FnT Try.prog g] (cap : List Value) (fr : Hp) (p : Int → Bool) (hd : Del64 g cap fr p) :
    Does Try.prog 61 [.slice (some ⟨b, o, none⟩) n c, .func (.func g) #[] ⟨cap⟩] ((b, .cells l 30) :: fr) w (fun v hs => v = .int .i64 (ixF p d.toList) ∧ hs = (b, .cells l 30) :: fr) := by
  refine Does.of (n := 19) Try.func61 rfl rfl rfl rfl ?_
  refine .seq ((.region (.v (.assign rfl) (.nil ?_))))
  refine .seq (.seq ((.region (.v (.move rfl) (.v (.len rfl) (.v (.move rfl) (.nil ?_)))))))
  refine .block (.loop (X := Nat) (fun x => [(0, .slice (some ⟨b, o, none⟩) n c), (1, .func (.func g) #[] ⟨cap⟩), (7, .int .i64 n), (8, .int .i64 (x : Nat))]) (fun _ => (b, .cells l 30) :: fr) (fun x => x ≤ n ∧ ∀ i, i < x → p d[i]! = false) (fun x => n - x) 0 ⟨Nat.zero_le _, fun i h => absurd h (by omega)⟩ (.cons rfl (.cons rfl (.cons rfl (.cons rfl (.nil _))))) (fun _ s => s) ?_)
  rintro i ⟨hi, hf⟩
  try dsimp only at hi hf ⊢
  refine .seq ((.region (.v (.lss rfl rfl) (.nil ?_))))
  refine .seq (.cond_dec rfl (fun h1 => .skip ?_) (fun h1 => .exit ?_))
  · have hin : i < n := by omega
    refine .seq (.block (.seq ((.region (.v (.move rfl) (.v (.assign rfl) (.nil ?_)))))))
    refine .seq ((.region (.v (.move rfl) (.v (.move rfl) (.v (.move rfl) (.v (.indexN i rfl rfl hin) (.v (.load (v := .int .u64 d[i]!) rfl (k.at_ hin (by simp))) ?_)))))))
    refine .pl (v := .bool (p d[i]!)) (pre := fr) [(b, .cells l 30)] rfl rfl (List.perm_append_comm (l₁ := [_])) (fun w s => hd w _) ?_
    refine .nil ?_
    refine .cond rfl (fun h2 => ?_) (fun h2 => .skip ?_)
    · refine .seq ((.region (.v (.move rfl) (.v (.assign rfl) (.nil ?_)))))
      refine .ret ⟨[_], ⟨rfl, trivial⟩, ?_, rfl⟩
      have : d.toList.findIdx? p = some i := by
        rw [List.findIdx?_eq_some_iff_getElem]
        refine ⟨by simpa [k.sz] using hin, ?_, fun j hj => ?_⟩
        · have hs : i < d.size := by rw [k.sz]; exact hin
          have : d[i]! = d[i] := getElem!_pos d i hs
          simpa [this] using h2
        · have h3 := hf j hj
          have hs : j < d.size := by rw [k.sz]; omega
          have : d[j]! = d[j] := getElem!_pos d j hs
          simpa [this] using h3
      rw [ixF, this]; rfl
    · refine .region (.v (.addE ((i + 1 : Nat) : Int) rfl rfl (by omega) (by omega)) (.v (.move rfl) (.nil ?_)))
      exact ⟨i + 1, ⟨by omega, fun j hj => by rcases Nat.lt_succ_iff_lt_or_eq.1 hj with h | rfl; exact hf j h; exact h2⟩, by omega, .cons rfl (.cons rfl (.cons rfl (.cons rfl (.nil _)))), fun _ s => s⟩
  · refine .seq ((.region (.v (.assign rfl) (.nil ?_))))
    refine .ret ⟨[_], ⟨rfl, trivial⟩, ?_, rfl⟩
    have : d.toList.findIdx? p = none := by
      rw [List.findIdx?_eq_none_iff]
      intro x hx
      obtain ⟨j, hj, rfl⟩ := List.getElem_of_mem hx
      have hj' : j < n := by rw [← k.sz]; simpa using hj
      have h3 := hf j (by omega)
      have hs : j < d.size := by rw [k.sz]; exact hj'
      have : d[j]! = d[j] := getElem!_pos d j hs
      rw [this] at h3
      simpa using h3
    rw [ixF, this]; rfl
theorem index64_nil (w : World) (g : Nat) (cap : List Value) : Does Try.prog 61 [.slice none 0 0, .func (.func g) #[] ⟨cap⟩] [] w (fun v hs => v = .int .i64 (-1) ∧ hs = []) := by
  refine Does.of (n := 19) Try.func61 rfl rfl rfl rfl ?_
  refine .seq ((.region (.v (.assign rfl) (.nil ?_))))
  refine .seq (.seq ((.region (.v (.move rfl) (.v (.len rfl) (.v (.move rfl) (.nil ?_)))))))
  refine .block (.loop (X := Unit) (fun x => [(7, .int .i64 0), (8, .int .i64 0)]) (fun _ => []) (fun x => True) (fun x => 0) () trivial (.cons rfl (.cons rfl (.nil _))) (fun _ s => s) ?_)
  rintro _ _
  refine .seq ((.region (.v (.lss rfl rfl) (.nil ?_))))
  refine .seq (.cond_false rfl (.exit ?_))
  refine .seq ((.region (.v (.assign rfl) (.nil ?_))))
  exact .ret ⟨[_], ⟨rfl, trivial⟩, rfl, rfl⟩
theorem delete64_nil (w : World) (g : Nat) (cap : List Value) : Does Try.prog 28 [.slice none 0 0, .func (.func g) #[] ⟨cap⟩] [] w (fun v hs => v = .slice none 0 0 ∧ hs = []) := by
  refine Does.of (n := 42) Try.func28 rfl rfl rfl rfl ?_
  refine .seq ((.region (.v (.assign rfl) (.nil ?_))))
  refine .seq ((.region (.v (.move rfl) (.v (.move rfl) ?_))))
  refine .ef (.call0 rfl rfl fun w s => index64_nil w g cap) ?_
  rintro _ _ ⟨_, ⟨rfl, rfl⟩, rfl⟩
  refine .v (.assign rfl) (.nil ?_)
  refine .seq (.seq ((.region (.v (.move rfl) (.v (.eqi rfl rfl) (.nil ?_))))))
  refine .cond_dec rfl (fun h1 => ?_) (fun h1 => absurd rfl h1)
  refine .seq ((.region (.v (.move rfl) (.v (.assign rfl) (.nil ?_)))))
  exact .ret ⟨[_], ⟨rfl, trivial⟩, rfl, rfl⟩
/-- behind j of z the first i of d are what is kept -/
structure DelI (p : Int → Bool) (z : List Int) (d : Array Int) (i j : Nat) : Prop where
  ij : i < j
  jn : j ≤ z.length
  tk : d.toList.take i = (z.take j).filter (fun x => !p x)
  dr : d.toList.drop j = z.drop j
  sz : d.size = z.length
theorem DelI.start {p : Int → Bool} {z : List Int} {i : Nat} (h : z.findIdx? p = some i) : DelI p z z.toArray i (i + 1) := by
  rw [List.findIdx?_eq_some_iff_getElem] at h
  obtain ⟨h1, h2, h3⟩ := h
  refine ⟨by omega, by omega, ?_, rfl, by simp⟩
  rw [List.take_succ_eq_append_getElem h1, List.filter_append]
  simp only [List.filter_cons, h2, Bool.not_true, Bool.false_eq_true, if_false, List.filter_nil, List.append_nil]
  rw [List.filter_eq_self.2]
  intro x hx
  obtain ⟨j, hj, rfl⟩ := List.getElem_of_mem hx
  rw [List.length_take] at hj
  have := h3 j (by omega)
  simpa using this
theorem DelI.get {p : Int → Bool} {z : List Int} {d : Array Int} {i j : Nat} (h : DelI p z d i j) (hj : j < z.length) : d[j]! = z[j] := by
  rw [getElem!_pos d j (by rw [h.sz]; exact hj)]
  have := h.dr
  rw [List.drop_eq_getElem_cons (by simpa [h.sz] using hj), List.drop_eq_getElem_cons hj] at this
  have := (List.cons.inj this).1
  simpa using this
theorem DelI.skip {p : Int → Bool} {z : List Int} {d : Array Int} {i j : Nat} (h : DelI p z d i j) (hj : j < z.length) (hp : p d[j]! = true) : DelI p z d i (j + 1) := by
  rw [h.get hj] at hp
  refine ⟨by have := h.ij; omega, hj, ?_, ?_, h.sz⟩
  · rw [List.take_succ_eq_append_getElem hj, List.filter_append, h.tk]; simp [hp]
  · have := congrArg List.tail h.dr
    simpa using this
theorem DelI.put {p : Int → Bool} {z : List Int} {d : Array Int} {i j : Nat} (h : DelI p z d i j) (hj : j < z.length) (hp : p d[j]! = false) : DelI p z (d.setIfInBounds i d[j]!) (i + 1) (j + 1) := by
  have hg := h.get hj
  have hij := h.ij
  rw [hg] at hp ⊢
  have hsz := h.sz
  refine ⟨by omega, hj, ?_, ?_, by simp [hsz]⟩
  · rw [List.take_succ_eq_append_getElem hj, List.filter_append, ← h.tk]
    rw [Array.toList_setIfInBounds, List.take_succ_eq_append_getElem (by simp [hsz]; omega)]
    simp [hp]
    exact List.take_set_of_le (Nat.le_refl _)
  · rw [Array.toList_setIfInBounds, List.drop_set_of_lt (by omega)]
    have := congrArg List.tail h.dr
    simpa using this
structure DLS where
  i : Nat
  j : Nat
  d : Array Int
  l : List Value
set_option maxRecDepth 20000 in
theorem delete64_ok (w : World) {b o c : Nat} {z : List Int} {l : List Value} (k : OwnS 30 1 (.slice (some ⟨b, o, none⟩) z.length c) z.length (ints .u64 z) [(b, .cells l 30)]) (hn : z.length < 2305843009213693952) (g : Nat) [hg : FnT Try.prog g] (cap : List Value) (fr : Hp) (p : Int → Bool) (hd : Del64 g cap fr p) :
    Does Try.prog 28 [.slice (some ⟨b, o, none⟩) z.length c, .func (.func g) #[] ⟨cap⟩] ((b, .cells l 30) :: fr) w (fun v hs => ∃ l', OwnS 30 1 v (z.filter fun x => !p x).length (ints .u64 (z.filter fun x => !p x)) [(b, .cells l' 30)] ∧ hs = (b, .cells l' 30) :: fr) := by
  have k0 : So64 b o c z.length z.toArray l := ⟨by simp, by simpa using k⟩
  refine Does.of (n := 42) Try.func28 rfl rfl rfl rfl ?_
  refine .seq ((.region (.v (.assign rfl) (.nil ?_))))
  refine .seq ((.region (.v (.move rfl) (.v (.move rfl) ?_))))
  refine .pl (v := .int .i64 (ixF p z)) (pre := (b, .cells l 30) :: fr) [] rfl rfl (by simp) (fun w s => by have := index64_ok w k0 hn g cap fr p hd; simpa using this) ?_
  refine .v (.assign rfl) (.nil ?_)
  refine .seq (.seq ((.region (.v (.move rfl) (.v (.eqi rfl rfl) (.nil ?_))))))
  cases hx : z.findIdx? p with
  | none =>
    have h1 : ixF p z = -1 := by rw [ixF, hx]
    rw [h1]
    refine .cond_dec rfl (fun h1 => ?_) (fun h1 => absurd rfl h1)
    refine .seq ((.region (.v (.move rfl) (.v (.assign rfl) (.nil ?_)))))
    have hfl : z.filter (fun x => !p x) = z := List.filter_eq_self.2 fun x hx' => by
      rw [List.findIdx?_eq_none_iff] at hx
      simpa using hx x hx'
    exact .ret ⟨[_], ⟨rfl, trivial⟩, l, by rw [hfl]; exact k, rfl⟩
  | some i =>
    have h1 : ixF p z = (i : Int) := by rw [ixF, hx]
    have d0 := DelI.start hx
    have hiz := d0.jn
    rw [h1]
    refine .cond_dec rfl (fun h1 => absurd h1 (by omega)) (fun h1 => .skip ?_)
    refine .seq (.seq ((.region (.v (.move rfl) (.v (.addE ((i + 1 : Nat) : Int) rfl rfl (by omega) (by omega)) (.v (.assign rfl) (.nil ?_)))))))
    refine .block (.loop (X := DLS) (fun x => [(0, .slice (some ⟨b, o, none⟩) z.length c), (1, .func (.func g) #[] ⟨cap⟩), (5, .int .i64 x.i), (6, .int .i64 x.j)]) (fun x => (b, .cells x.l 30) :: fr) (fun x => DelI p z x.d x.i x.j ∧ So64 b o c z.length x.d x.l) (fun x => z.length - x.j) ⟨i, i + 1, z.toArray, l⟩ ⟨d0, k0⟩ (.cons rfl (.cons rfl (.cons rfl (.cons rfl (.nil _))))) (fun _ s => s) ?_)
    clear h1 hx d0 hiz k0 k
    rintro ⟨i, j, d, l1⟩ ⟨hI, k1⟩
    dsimp only at hI k1 ⊢
    have hij := hI.ij
    have hjn := hI.jn
    refine .seq (.seq ((.region (.v (.move rfl) (.v (.move rfl) (.v (.len rfl) (.v (.lss rfl rfl) (.nil ?_))))))))
    refine .cond_dec rfl (fun h2 => .skip ?_) (fun h2 => .exit ?_)
    · have hj : j < z.length := by omega
      have hlen := k1.len
      refine .mid (X := DLS) (fun x => [(0, .slice (some ⟨b, o, none⟩) z.length c), (1, .func (.func g) #[] ⟨cap⟩), (5, .int .i64 x.i), (6, .int .i64 j)]) (fun x => (b, .cells x.l 30) :: fr) (fun x => DelI p z x.d x.i (j + 1) ∧ So64 b o c z.length x.d x.l) (.block (.seq ((.region (.v (.move rfl) (.v (.move rfl) (.v (.indexN j rfl rfl hj) (.v (.load (v := .int .u64 d[j]!) rfl (k1.at_ hj (by simp))) (.v (.assign rfl) (.nil ?_)))))))))) ?_
      · refine .seq ((.region (.v (.move rfl) (.v (.move rfl) ?_))))
        refine .pl (v := .bool (p d[j]!)) (pre := fr) [(b, .cells l1 30)] rfl rfl (List.perm_append_comm (l₁ := [_])) (fun w s => hd w _) ?_
        refine .v (.not rfl) (.nil ?_)
        refine .cond rfl (fun h3 => ?_) (fun h3 => .skip ?_)
        · refine .seq ((.region (.v (.move rfl) (.v (.move rfl) (.v (.move rfl) (.v (.indexN i rfl rfl (by omega)) (.st (.store rfl rfl rfl (by omega)) (.nil ?_))))))))
          refine .region (.v (.move rfl) (.v (.addE ((i + 1 : Nat) : Int) rfl rfl (by omega) (by omega)) (.v (.assign rfl) (.nil ?_))))
          exact ⟨⟨i + 1, 0, _, _⟩, ⟨hI.put hj (by simpa using h3), k1.set (i := i) (by omega) d[j]!⟩, .cons rfl (.cons rfl (.cons rfl (.cons rfl (.nil _)))), fun _ s => s⟩
        · exact ⟨⟨i, 0, d, l1⟩, ⟨hI.skip hj (by simpa using h3), k1⟩, .cons rfl (.cons rfl (.cons rfl (.cons rfl (.nil _)))), fun _ s => s⟩
      · rintro ⟨i2, _, d2, l2⟩ ⟨hI2, k2⟩
        dsimp only at hI2 k2 ⊢
        refine .region (.v (.move rfl) (.v (.addE ((j + 1 : Nat) : Int) rfl rfl (by omega) (by omega)) (.v (.assign rfl) (.nil ?_))))
        exact ⟨⟨i2, j + 1, d2, l2⟩, ⟨hI2, k2⟩, by show z.length - (j + 1) < z.length - j; omega, .cons rfl (.cons rfl (.cons rfl (.cons rfl (.nil _)))), fun _ s => s⟩
    · have hjz : j = z.length := by omega
      subst hjz
      have hlen := k1.len
      have hcap := k1.own.cap_.2
      have htk := hI.tk
      rw [List.take_length] at htk
      have hfl : (z.filter fun x => !p x).length = i := by rw [← htk, List.length_take]; simp [hI.sz]; omega
      refine .seq ((.region (.v (.move rfl) (.v (.move rfl) (.v (.slLo rfl rfl (by omega) (by omega)) ?_)))))
      simp only [Int.toNat_natCast]
      rw [cutA_some (by omega)]
      refine .ef0 (.clearIn (z := [.int .u64 0]) rfl rfl (by omega)) ?_
      rintro _ _ ⟨rfl, rfl⟩
      refine .nil ?_
      refine .seq ((.region (.v (.move rfl) (.v (.move rfl) (.v (.slHi rfl rfl (by omega) (by omega)) (.v (.assign rfl) (.nil ?_)))))))
      refine .ret ⟨[_], ⟨rfl, trivial⟩, _, ?_, rfl⟩
      have k3 := OwnS.upto (OwnS.spliceAt (us := zeros [.int .u64 0] (z.length - i)) (i := i) k1.own (by rw [zeros_length]; simp; omega)) (i := i) (by omega)
      rw [hfl, Int.toNat_natCast]
      have e1 : (V.splice (ints .u64 d.toList) i (zeros [.int .u64 0] (z.length - i))).take (i * 1) = ints .u64 (z.filter fun x => !p x) := by
        rw [← htk, Nat.mul_one]
        unfold V.splice
        rw [List.append_assoc, List.take_append_of_le_length (by simp [ints, hI.sz]; omega), List.take_take, Nat.min_self]
        simp [ints]
      rw [e1] at k3
      rw [Nat.mul_one]
      exact k3
end Go.Proofs.Ytfajjkolhajldaa.S64

/- Risk: Standing, Open, Members, Kill, Revive. -/
namespace Go.Proofs.Ytfajjkolhajldaa
open Go.V
set_option linter.unusedVariables false
set_option linter.unusedSimpArgs false
set_option maxRecDepth 20000

theorem srt_filter (q : Int → Bool) (z : List Int) : (srt z).filter q = srt (z.filter q) := (srt_of ((srt_perm z).filter q) ((srt_sorted z).filter q)).symm
theorem srt64 : S64.srt = srt := rfl
def Dk.openL (D : Dk) (n : Int) : List Int := srt ((D.O.filter fun o => decide (o.mb = n)).map RO.id)
def Dk.membL (D : Dk) : List Int := srt ((D.M.filter fun m => m.st).map RM.n)
theorem RI.openL {D : Dk} {z : RZ} (h : RI D z) (n : Int) : (srt (z.eo.map (·.1))).filter (fun x => !decide (((D.ord x).getD ro0).mb ≠ n)) = D.openL n := by
  have h1 : (z.eo.map (·.1)).Perm (D.O.map RO.id) := by
    have := (mperm RO.id h.oo h.ok.o h.o).map Prod.fst
    rw [List.map_map, List.map_map] at this
    exact this
  rw [srt_congr h1, srt_filter]
  unfold Dk.openL
  congr 1
  rw [List.filter_map]
  congr 1
  refine List.filter_congr fun o ho => ?_
  show (!decide (((kfind RO.id o.id D.O).getD ro0).mb ≠ n)) = _
  rw [kfind_of_mem RO.id h.ok.o ho]
  simp
theorem RI.membL {D : Dk} {z : RZ} (h : RI D z) : (srt (z.em.map (·.1))).filter (fun x => !!((D.mem x).st)) = D.membL := by
  have h1 : (z.em.map (·.1)).Perm (D.M.map RM.n) := by
    have := (mperm RM.n h.mo h.ok.m h.m).map Prod.fst
    rw [List.map_map, List.map_map] at this
    exact this
  rw [srt_congr h1, srt_filter]
  unfold Dk.membL
  congr 1
  rw [List.filter_map]
  congr 1
  refine List.filter_congr fun m hm => ?_
  show (!!((kfind RM.n m.n D.M).getD (rm0 m.n)).st) = _
  rw [kfind_of_mem RM.n h.ok.m hm]
  simp
theorem RI.lenM {D : Dk} {z : RZ} (h : RI D z) : z.em.length = D.M.length := by
  have := (mperm RM.n h.mo h.ok.m h.m).length_eq
  simpa using this
/-! ### Standing -/
abbrev Dk.standV (D : Dk) (n : Int) : Value := .tuple ⟨[.agg ⟨(if (D.mem n).st then D.stand n else sg0).cells⟩, .bool (D.mem n).st]⟩
theorem RStanding_ok (w : World) (p : RP) (D : Dk) (z : RZ) (hI : RI D z) (n : Int) (hl : D.O.length ≤ 1000000000) :
    Does Try.prog 11 [.pointer (some ⟨p.b, 0, none⟩), .int .u32 n] (z.H p) w (fun v hs => v = D.standV n ∧ hs = z.H p) := by
  have hst := fun w => RSt_ok w p D z hI n hl
  obtain ⟨b, mm, mo⟩ := p
  have hM := hI.mem n
  obtain ⟨em, cm, eo, co⟩ := z
  dsimp only at hM hst ⊢
  refine Does.less (Does.of (n := 20) Try.func11 rfl rfl rfl rfl ?_)
  unfold Dk.standV
  generalize D.mem n = m at hM ⊢
  refine .seq ((.region (.nw .alloc fun b4 => (.v (.assign rfl) (.nil ?_)))))
  refine .seq ((.region (.v (.move rfl) (.v (.nilCheck rfl) (.v (.fieldAddr rfl) (.v (.load (v := .map (some mm)) rfl (.one rfl)) (.v (.move rfl) (.v (.lookupE (es := em) (c := cm) (v := .agg ⟨m.cells⟩) rfl rfl hM) (.nw .alloc fun b6 => (.st (.sw rfl rfl) (.nil ?_)))))))))))
  refine .seq (.seq ((.region (.v (.fieldAddr rfl) (.v (.load (v := .bool m.st) rfl (.one rfl)) (.v (.not rfl) (.nil ?_)))))))
  refine .cond rfl (fun h1 => ?_) (fun h1 => .skip ?_)
  · have h1' : m.st = false := by simpa using h1
    rw [h1']
    refine .seq ((.region (.v (.build (out := sg0.cells) rfl rfl) (.st (.sw rfl rfl) (.v (.assign rfl) (.nil ?_))))))
    exact .ret ⟨[_, _], ⟨⟨_, rfl, .inr ⟨11, _, inferInstance, rfl, rfl, .whole⟩⟩, rfl, trivial⟩, RZ.H ⟨b, mm, mo⟩ ⟨em, cm, eo, co⟩, fun _ s => s.take, rfl, rfl⟩
  · have h1' : m.st = true := by simpa using h1
    rw [h1']
    refine .seq ((.region (.v (.move rfl) (.v (.move rfl) ?_))))
    refine .ef (.callT (RZ.H ⟨b, mm, mo⟩ ⟨em, cm, eo, co⟩) rfl rfl fun w s => hst w) ?_
    rintro _ _ ⟨_, ⟨rfl, rfl⟩, rfl⟩
    refine .st (.sw rfl rfl) (.v (.assign rfl) (.nil ?_))
    exact .ret ⟨[_, _], ⟨⟨_, rfl, .inr ⟨11, _, inferInstance, rfl, rfl, .whole⟩⟩, rfl, trivial⟩, RZ.H ⟨b, mm, mo⟩ ⟨em, cm, eo, co⟩, fun _ s => s.take, rfl, rfl⟩
/-! ### Open -/
theorem ROpenC_ok (w : World) (b mm mo b2 b3 : Nat) (D : Dk) (em : List ME) (cm : Nat) (eo : List ME) (co : Nat) (hI : RI D ⟨em, cm, eo, co⟩) (n x : Int) :
    Does Try.prog 31 [.int .u64 x, .pointer (some ⟨b2, 0, none⟩), .pointer (some ⟨b3, 0, none⟩)] [(b2, .cells [.pointer (some ⟨b, 0, none⟩)] 25), (b3, .cells [.int .u32 n] 29), Rb ⟨b, mm, mo⟩, R64 mo eo co] w (fun v h => v = .bool (decide (((D.ord x).getD ro0).mb ≠ n)) ∧ h = [(b2, .cells [.pointer (some ⟨b, 0, none⟩)] 25), (b3, .cells [.int .u32 n] 29), Rb ⟨b, mm, mo⟩, R64 mo eo co]) := by
  obtain ⟨hO, -⟩ := hI.look x
  dsimp only at hO
  generalize (D.ord x).getD ro0 = o at hO ⊢
  refine Does.less (Does.of (n := 14) Try.func31 rfl rfl rfl rfl ?_)
  refine .seq ((.region (.v (.assign rfl) (.nil ?_))))
  refine .seq ((.drawK [(b2, .cells [.pointer (some ⟨b, 0, none⟩)] 25), (b3, .cells [.int .u32 n] 29), Rb ⟨b, mm, mo⟩, R64 mo eo co] (fun _ h => h) (by kernel_rfl) (by kernel_rfl) ?_))
  refine .v (fun _ f => .load (v := .pointer (some ⟨b, 0, none⟩)) rfl (.one (hb := .sub f) rfl)) (.v (fun _ f => .nilCheck rfl) (.v (fun _ f => .fieldAddr rfl) (.v (fun _ f => .load (v := .map (some mo)) rfl (.one (hb := .sub f) rfl)) (.v (fun _ f => .move rfl) (.v (fun _ f => .lookupE (es := eo) (c := co) (v := .agg ⟨o.cells⟩) rfl rfl (hb := .sub f) hO) (.v (fun _ f => .field rfl rfl) (.v (fun _ f => .load (v := .int .u32 n) rfl (.one (hb := .sub f) rfl)) (.v (fun _ f => .nei rfl rfl) (.v (fun _ f => .assign rfl) (.nil ?_))))))))))
  exact .ret ⟨[_], ⟨rfl, trivial⟩, [(b2, .cells [.pointer (some ⟨b, 0, none⟩)] 25), (b3, .cells [.int .u32 n] 29), Rb ⟨b, mm, mo⟩, R64 mo eo co], fun _ s => s, rfl, rfl⟩
theorem ROpen_ok (w : World) (p : RP) (D : Dk) (z : RZ) (hI : RI D z) (n : Int) (hl : D.O.length ≤ 1000000000) :
    Does Try.prog 12 [.pointer (some ⟨p.b, 0, none⟩), .int .u32 n] (z.H p) w (fun v hs => ∃ h, OwnS 30 1 v (D.openL n).length (ints .u64 (D.openL n)) h ∧ hs = h ++ z.H p) := by
  obtain ⟨b, mm, mo⟩ := p
  have hle := hI.lenO
  have hoo := hI.oo
  have hop := hI.openL n
  obtain ⟨em, cm, eo, co⟩ := z
  dsimp only at hle hoo hop ⊢
  refine Does.less (Does.of (n := 13) Try.func12 rfl rfl rfl rfl ?_)
  refine .seq ((.region (.nw (.box (l := [.pointer (some ⟨b, 0, none⟩)]) rfl rfl) fun b2 => (.nw (.box (l := [.int .u32 n]) rfl rfl) fun b3 => (.v (.assign rfl) (.nil ?_))))))
  refine .seq ((.region (.v (.load (v := .pointer (some ⟨b, 0, none⟩)) rfl (.one rfl)) (.v (.nilCheck rfl) (.v (.fieldAddr rfl) (.v (.load (v := .map (some mo)) rfl (.one rfl)) ?_))))))
  refine .ef (.call0 rfl rfl fun w s => S64.Keys64_ok w mo) ?_
  rintro _ _ ⟨_, ⟨bc, rfl, rfl⟩, rfl⟩
  refine .ef (.callT [S64.MX64 bc mo, S64.MB64 mo eo co] rfl rfl fun w s => S64.sorted64_ok w bc mo eo co hoo (by omega)) ?_
  rintro _ _ ⟨_, ⟨h, o1, rfl⟩, rfl⟩
  rw [srt64] at o1
  have hl0 : (srt (eo.map (·.1))).length = eo.length := by rw [srt_len, List.length_map]
  rw [← hop]
  generalize srt (eo.map (·.1)) = z at o1 hl0 ⊢
  refine .v (.makeFunc rfl rfl) ?_
  rcases o1.2 with ⟨rfl, h0, rfl⟩ | ⟨b', o', cap, l, rfl, rfl, h3, h4, h5⟩
  · have hz : z = [] := List.length_eq_zero_iff.1 h0
    subst hz
    refine .ef (.call0 rfl rfl fun w s => S64.delete64_nil w 31 [.pointer (some ⟨b2, 0, none⟩), .pointer (some ⟨b3, 0, none⟩)]) ?_
    rintro _ _ ⟨_, ⟨rfl, rfl⟩, rfl⟩
    refine .v (.assign rfl) (.nil ?_)
    exact .ret ⟨[_], ⟨rfl, trivial⟩, RZ.H ⟨b, mm, mo⟩ ⟨em, cm, eo, co⟩, fun _ s => s.take, [], OwnS.nil _ _, rfl⟩
  · refine .ef (.callT [(b', .cells l 30), (b2, .cells [.pointer (some ⟨b, 0, none⟩)] 25), (b3, .cells [.int .u32 n] 29), Rb ⟨b, mm, mo⟩, R64 mo eo co] rfl rfl fun w s => S64.delete64_ok w o1 (by omega) 31 [.pointer (some ⟨b2, 0, none⟩), .pointer (some ⟨b3, 0, none⟩)] [(b2, .cells [.pointer (some ⟨b, 0, none⟩)] 25), (b3, .cells [.int .u32 n] 29), Rb ⟨b, mm, mo⟩, R64 mo eo co] (fun x => decide (((D.ord x).getD ro0).mb ≠ n)) (fun w x => ROpenC_ok w b mm mo b2 b3 D em cm eo co hI n x)) ?_
    rintro v _ ⟨_, ⟨l', o2, rfl⟩, rfl⟩
    refine .v (.assign rfl) (.nil ?_)
    exact .ret ⟨[_], ⟨rfl, trivial⟩, [(b', .cells l' 30)] ++ RZ.H ⟨b, mm, mo⟩ ⟨em, cm, eo, co⟩, fun _ s => s.take, [(b', .cells l' 30)], o2, rfl⟩
/-! ### Members -/
theorem RMembC_ok (w : World) (b mm mo b1 : Nat) (D : Dk) (em : List ME) (cm : Nat) (eo : List ME) (co : Nat) (hI : RI D ⟨em, cm, eo, co⟩) (x : Int) :
    Does Try.prog 36 [.int .u32 x, .pointer (some ⟨b1, 0, none⟩)] [(b1, .cells [.pointer (some ⟨b, 0, none⟩)] 25), Rb ⟨b, mm, mo⟩, R32 mm em cm] w (fun v h => v = .bool (!(D.mem x).st) ∧ h = [(b1, .cells [.pointer (some ⟨b, 0, none⟩)] 25), Rb ⟨b, mm, mo⟩, R32 mm em cm]) := by
  have hM := hI.mem x
  dsimp only at hM
  generalize D.mem x = m at hM ⊢
  refine Does.less (Does.of (n := 12) Try.func36 rfl rfl rfl rfl ?_)
  refine .seq ((.region (.v (.assign rfl) (.nil ?_))))
  refine .seq ((.region (.v (.load (v := .pointer (some ⟨b, 0, none⟩)) rfl (.one rfl)) (.v (.nilCheck rfl) (.v (.fieldAddr rfl) (.v (.load (v := .map (some mm)) rfl (.one rfl)) (.v (.move rfl) (.v (.lookupE (es := em) (c := cm) (v := .agg ⟨m.cells⟩) rfl rfl hM) (.v (.field rfl rfl) (.v (.not rfl) (.v (.assign rfl) (.nil ?_))))))))))))
  exact .ret ⟨[_], ⟨rfl, trivial⟩, [(b1, .cells [.pointer (some ⟨b, 0, none⟩)] 25), Rb ⟨b, mm, mo⟩, R32 mm em cm], fun _ s => s, rfl, rfl⟩
theorem RMembers_ok (w : World) (p : RP) (D : Dk) (z : RZ) (hI : RI D z) (hl : D.M.length ≤ 1000000000) :
    Does Try.prog 15 [.pointer (some ⟨p.b, 0, none⟩)] (z.H p) w (fun v hs => ∃ h, OwnS 29 1 v D.membL.length (ints .u32 D.membL) h ∧ hs = h ++ z.H p) := by
  obtain ⟨b, mm, mo⟩ := p
  have hle := hI.lenM
  have hmo := hI.mo
  have hop := hI.membL
  obtain ⟨em, cm, eo, co⟩ := z
  dsimp only at hle hmo hop ⊢
  refine Does.less (Does.of (n := 11) Try.func15 rfl rfl rfl rfl ?_)
  refine .seq ((.region (.nw (.box (l := [.pointer (some ⟨b, 0, none⟩)]) rfl rfl) fun b1 => (.v (.assign rfl) (.nil ?_)))))
  refine .seq ((.region (.v (.load (v := .pointer (some ⟨b, 0, none⟩)) rfl (.one rfl)) (.v (.nilCheck rfl) (.v (.fieldAddr rfl) (.v (.load (v := .map (some mm)) rfl (.one rfl)) ?_))))))
  refine .ef (.call0 rfl rfl fun w s => Keys32_ok w mm) ?_
  rintro _ _ ⟨_, ⟨bc, rfl, rfl⟩, rfl⟩
  refine .ef (.callT [MX32 bc mm, MB32 mm em cm] rfl rfl fun w s => sorted32_ok w bc mm em cm hmo (by omega)) ?_
  rintro _ _ ⟨_, ⟨h, o1, rfl⟩, rfl⟩
  have hl0 : (srt (em.map (·.1))).length = em.length := by rw [srt_len, List.length_map]
  rw [← hop]
  generalize srt (em.map (·.1)) = z at o1 hl0 ⊢
  refine .v (.makeFunc rfl rfl) ?_
  rcases o1.2 with ⟨rfl, h0, rfl⟩ | ⟨b', o', cap, l, rfl, rfl, h3, h4, h5⟩
  · have hz : z = [] := List.length_eq_zero_iff.1 h0
    subst hz
    refine .ef (.call0 rfl rfl fun w s => delete32_nil w 36 [.pointer (some ⟨b1, 0, none⟩)]) ?_
    rintro _ _ ⟨_, ⟨rfl, rfl⟩, rfl⟩
    refine .v (.assign rfl) (.nil ?_)
    exact .ret ⟨[_], ⟨rfl, trivial⟩, RZ.H ⟨b, mm, mo⟩ ⟨em, cm, eo, co⟩, fun _ s => s.take, [], OwnS.nil _ _, rfl⟩
  · refine .ef (.callT [(b', .cells l 29), (b1, .cells [.pointer (some ⟨b, 0, none⟩)] 25), Rb ⟨b, mm, mo⟩, R32 mm em cm] rfl rfl fun w s => delete32_ok w o1 (by omega) 36 [.pointer (some ⟨b1, 0, none⟩)] [(b1, .cells [.pointer (some ⟨b, 0, none⟩)] 25), Rb ⟨b, mm, mo⟩, R32 mm em cm] (fun x => !(D.mem x).st) (fun w x => RMembC_ok w b mm mo b1 D em cm eo co hI x)) ?_
    rintro v _ ⟨_, ⟨l', o2, rfl⟩, rfl⟩
    refine .v (.assign rfl) (.nil ?_)
    exact .ret ⟨[_], ⟨rfl, trivial⟩, [(b', .cells l' 29)] ++ RZ.H ⟨b, mm, mo⟩ ⟨em, cm, eo, co⟩, fun _ s => s.take, [(b', .cells l' 29)], o2, rfl⟩
/-! ### Kill, Revive -/
theorem RKill_ok (w : World) (p : RP) (D : Dk) (z : RZ) (hI : RI D z) (n : Int) (hl : D.O.length ≤ 1000000000) :
    Does Try.prog 14 [.pointer (some ⟨p.b, 0, none⟩), .int .u32 n] (z.H p) w (fun v hs => ∃ z' v1 h, (v = .tuple ⟨[v1, .int .i64 (D.stopV n)]⟩ ∧ OwnS 30 1 v1 (if (D.mem n).st then (D.openL n) else []).length (ints .u64 (if (D.mem n).st then (D.openL n) else [])) h ∧ RI (D.doStop n true) z') ∧ hs = h ++ z'.H p) := by
  obtain ⟨b, mm, mo⟩ := p
  dsimp only
  have hlen : (D.doStop n true).O.length ≤ 1000000000 := by
    unfold Dk.doStop; split
    · unfold Dk.stop; rw [Dk.put_O]; exact hl
    · exact hl
  have hopen : (D.doStop n true).openL n = D.openL n := by
    unfold Dk.openL Dk.doStop; split
    · unfold Dk.stop; rw [Dk.put_O]
    · rfl
  refine Does.less (Does.of (n := 16) Try.func14 rfl rfl rfl rfl ?_)
  refine .seq ((.region (.v (.assign rfl) (.v (.assign rfl) (.nil ?_)))))
  refine .seq (.seq ((.region (.v (.move rfl) (.v (.move rfl) ?_)))))
  refine .ef (.callT (z.H ⟨b, mm, mo⟩) rfl rfl fun w s => RStop_ok w ⟨b, mm, mo⟩ D z hI n true) ?_
  rintro _ _ ⟨_, ⟨z', ⟨rfl, hI'⟩, rfl⟩, rfl⟩
  refine .v (.assign rfl) (.nil ?_)
  refine .seq ((.region (.v (.move rfl) (.v (.nei rfl rfl) (.nil ?_)))))
  unfold Dk.stopV
  by_cases hs : (D.mem n).st = true
  · refine .cond_dec rfl (fun h => absurd h (by rw [if_pos hs]; simp)) (fun h => .skip ?_)
    refine .seq ((.region (.v (.move rfl) (.v (.move rfl) ?_))))
    refine .ef (.callT (z'.H ⟨b, mm, mo⟩) rfl rfl fun w s => ROpen_ok w ⟨b, mm, mo⟩ _ z' hI' n hlen) ?_
    rintro v1 _ ⟨_, ⟨h, o1, rfl⟩, rfl⟩
    refine .v (.assign rfl) (.v (.assign rfl) (.nil ?_))
    rw [hopen] at o1
    rw [if_pos hs, if_pos hs]
    exact .ret ⟨[_, _], ⟨rfl, rfl, trivial⟩, h ++ z'.H ⟨b, mm, mo⟩, fun _ s => s.take, z', v1, h, ⟨rfl, o1, hI'⟩, rfl⟩
  · refine .cond_dec rfl (fun h => ?_) (fun h => absurd (by rw [if_neg hs]; simp) h)
    refine .seq ((.region (.v (.move rfl) (.v (.assign rfl) (.v (.assign rfl) (.nil ?_))))))
    rw [if_neg hs, if_neg hs]
    exact .ret ⟨[_, _], ⟨rfl, rfl, trivial⟩, z'.H ⟨b, mm, mo⟩, fun _ s => s.take, z', .slice none 0 0, [], ⟨rfl, OwnS.nil _ _, hI'⟩, rfl⟩
theorem RRevive_ok (w : World) (p : RP) (D : Dk) (z : RZ) (hI : RI D z) (n : Int) :
    Does Try.prog 39 [.pointer (some ⟨p.b, 0, none⟩), .int .u32 n] (z.H p) w (fun v hs => ∃ z', (v = .int .i64 (D.stopV n) ∧ RI (D.doStop n false) z') ∧ hs = z'.H p) := by
  obtain ⟨b, mm, mo⟩ := p
  dsimp only
  refine Does.less (Does.of (n := 8) Try.func39 rfl rfl rfl rfl ?_)
  refine .seq ((.region (.v (.assign rfl) (.nil ?_))))
  refine .seq ((.region (.v (.move rfl) (.v (.move rfl) ?_))))
  refine .ef (.callT (z.H ⟨b, mm, mo⟩) rfl rfl fun w s => RStop_ok w ⟨b, mm, mo⟩ D z hI n false) ?_
  rintro _ _ ⟨_, ⟨z', ⟨rfl, hI'⟩, rfl⟩, rfl⟩
  refine .v (.assign rfl) (.nil ?_)
  exact .ret ⟨[_], ⟨rfl, trivial⟩, z'.H ⟨b, mm, mo⟩, fun _ s => s.take, z', ⟨rfl, hI'⟩, rfl⟩
end Go.Proofs.Ytfajjkolhajldaa

/- Risk: whole numbers of 128 bits; math/bits.Add64, Sub64, Mul64. -/
namespace Go
namespace V
open Go.RowKit
set_option linter.unusedVariables false
set_option linter.unusedSimpArgs false
section
variable {P : Program} {n : Nat} {w0 : World} {own : List Nat} {e : Env} {hs : Hp}
theorem Val.as {op : Op} {v v' : Value} (h : Val P n w0 own e hs op v) (q : v = v') : Val P n w0 own e hs op v' := q ▸ h
/-- a call that the model answers itself -/
theorem Val.ext3 {g : Nat} {fn : Func} {en : Array Value → Sem Value} {x y z : Operand} {a b c v : Value} {at_ : Array TypeId} (f1 : P.funcs[g]? = some fn) (f2 : (fn.name == "runtime.NumGoroutine") = false) (f3 : fn.body.isNone = true) (f4 : Extern.findNext fn = none) (f5 : Extern.find fn = some en)
    (hx : ev e x = some a) (hy : ev e y = some b) (hz : ev e z = some c) (hr : ∀ w, (en #[a, b, c]).run P w = .ok v w) :
    Val P n w0 own e hs (.call { callee := .value (.func g), args := #[x, y, z], argTypes := at_ }) v := fun a' w ty pos aft gd d hr' s => by
  have hc := run_callFunc_extern f1 f2 f3 f4 f5 #[a, b, c] w
  rw [hr w] at hc
  have hf : a'.eval (.func g) = .func (.func g) #[] #[] := rfl
  simp [execOp, resolve, hf, hr'.eval hx, hr'.eval hy, hr'.eval hz, Deferred.ofValue, invoke, hc, Result.andThen]
end
theorem maskI {a : Nat} (ha : a < 18446744073709551616) : bop .and .u64 (a : Int) 4294967295 = ((a % 4294967296 : Nat) : Int) := Go.Proofs.Mul64.maskN a ha
theorem shrI {a : Nat} : Int.fdiv (a : Int) (2 ^ min (32 : Int).toNat IntKind.u64.bits) = ((a / 4294967296 : Nat) : Int) := by
  rw [show (2 : Int) ^ min (32 : Int).toNat IntKind.u64.bits = 4294967296 from rfl, Int.fdiv_eq_ediv_of_nonneg _ (by omega)]
  omega
theorem wrN {a : Nat} (ha : a < 18446744073709551616) : IntKind.u64.wrap (a : Int) = (a : Int) := Go.Proofs.Mul64.wrapN a ha
theorem mulI {a b : Nat} (h : a * b < 18446744073709551616) : IntKind.u64.wrap ((a : Int) * (b : Int)) = ((a * b : Nat) : Int) := by rw [← Int.natCast_mul]; exact wrN h
theorem addI {a b : Nat} (h : a + b < 18446744073709551616) : IntKind.u64.wrap ((a : Int) + (b : Int)) = ((a + b : Nat) : Int) := by rw [← Int.natCast_add]; exact wrN h
end V
end Go
namespace Go.Proofs.Ytfajjkolhajldaa
open Go.V
set_option linter.unusedVariables false
set_option linter.unusedSimpArgs false
set_option maxRecDepth 20000
/-- a whole number, as two words -/
abbrev wv (z : Int) : Value := .agg ⟨[.int .u64 (z / 18446744073709551616 % 18446744073709551616), .int .u64 (z % 18446744073709551616)]⟩
theorem add64_v {n : Nat} {w0 : World} {own : List Nat} {e : Env} {hs : Hp} {x y : Operand} {a b : Int} {at_ : Array TypeId} (hx : ev e x = some (.int .u64 a)) (hy : ev e y = some (.int .u64 b)) (ha : 0 ≤ a) (hb : 0 ≤ b) :
    Val Try.prog n w0 own e hs (.call { callee := .value (.func 59), args := #[x, y, .const (.int .u64 0)], argTypes := at_ }) (.tuple ⟨[.int .u64 ((a + b) % 18446744073709551616), .int .u64 ((a + b) / 18446744073709551616)]⟩) :=
  Val.ext3 (en := add64Entry) Try.func59 (by kernel_rfl) (by kernel_rfl) (by kernel_rfl) (by kernel_rfl) hx hy rfl fun w => by
    have := run_add64 (P := Try.prog) a b 0 ha hb (by omega) (by omega) w
    rw [Int.add_zero] at this
    exact this
theorem sub64_v {n : Nat} {w0 : World} {own : List Nat} {e : Env} {hs : Hp} {x y : Operand} {a b : Int} {at_ : Array TypeId} (hx : ev e x = some (.int .u64 a)) (hy : ev e y = some (.int .u64 b)) (ha : 0 ≤ a) (hb : 0 ≤ b ∧ b < 18446744073709551616) :
    Val Try.prog n w0 own e hs (.call { callee := .value (.func 60), args := #[x, y, .const (.int .u64 0)], argTypes := at_ }) (.tuple ⟨[.int .u64 ((a - b) % 18446744073709551616), .int .u64 (if a < b then 1 else 0)]⟩) :=
  Val.ext3 (en := sub64Entry) Try.func60 (by kernel_rfl) (by kernel_rfl) (by kernel_rfl) (by kernel_rfl) hx hy rfl fun w => by
    obtain ⟨x, rfl⟩ := Int.eq_ofNat_of_zero_le ha
    obtain ⟨y, rfl⟩ := Int.eq_ofNat_of_zero_le hb.1
    have := run_sub64 (P := Try.prog) x y 0 (by omega) w
    have e1 : (((x + 18446744073709551616 - y - 0) % 18446744073709551616 : Nat) : Int) = ((x : Int) - (y : Int)) % 18446744073709551616 := by omega
    have e2 : ((if x < y + 0 then 1 else 0 : Nat) : Int) = if (x : Int) < (y : Int) then 1 else 0 := by
      by_cases h : x < y
      · rw [if_pos (by omega), if_pos (by omega)]; rfl
      · rw [if_neg (by omega), if_neg (by omega)]; rfl
    rw [e1, e2] at this
    exact this
theorem Rplus_ok (w : World) (z n : Int) (hn : 0 ≤ n) : Is Try.prog 22 [wv z, .int .u64 n] w (wv (z + n)) := by
  refine Does.pure (Does.of (n := 20) Try.func22 rfl rfl rfl rfl ?_)
  refine .seq ((.region (.nw (.box (l := [.int .u64 (z / 18446744073709551616 % 18446744073709551616), .int .u64 (z % 18446744073709551616)]) rfl rfl) fun b2 => (.nw .alloc fun b4 => (.nil ?_)))))
  refine .seq ((.region (.v (.fieldAddr rfl) (.v (.load (v := .int .u64 (z % 18446744073709551616)) rfl (.one rfl)) (.v (.move rfl) (.v (add64_v rfl rfl (by omega) hn) (.v (.move rfl) (.v (.extract rfl rfl) (.v (.extract rfl rfl) (.v (.assign rfl) (.v (.assign rfl) (.nil ?_))))))))))))
  refine .seq ((.region (.v (.fieldAddr rfl) (.v (.load (v := .int .u64 (z / 18446744073709551616 % 18446744073709551616)) rfl (.one rfl)) (.v (.move rfl) (.v (.add rfl rfl) (.v (.move rfl) (.v (.build (out := [.int .u64 ((z + n) / 18446744073709551616 % 18446744073709551616), .int .u64 ((z + n) % 18446744073709551616)]) rfl (by
    rw [rk_wrap]
    rw [show (z / 18446744073709551616 % 18446744073709551616 + (z % 18446744073709551616 + n) / 18446744073709551616) % 18446744073709551616 = (z + n) / 18446744073709551616 % 18446744073709551616 by omega, show (z % 18446744073709551616 + n) % 18446744073709551616 = (z + n) % 18446744073709551616 by omega]; rfl)) (.st (.sw rfl rfl) (.nil ?_))))))))))
  exact .ret ⟨[_], ⟨⟨_, rfl, .inr ⟨2, _, inferInstance, rfl, rfl, .whole⟩⟩, trivial⟩, rfl⟩
theorem Rless_ok (w : World) (z n : Int) (hn : 0 ≤ n ∧ n < 18446744073709551616) : Is Try.prog 23 [wv z, .int .u64 n] w (wv (z - n)) := by
  refine Does.pure (Does.of (n := 20) Try.func23 rfl rfl rfl rfl ?_)
  refine .seq ((.region (.nw (.box (l := [.int .u64 (z / 18446744073709551616 % 18446744073709551616), .int .u64 (z % 18446744073709551616)]) rfl rfl) fun b2 => (.nw .alloc fun b4 => (.nil ?_)))))
  refine .seq ((.region (.v (.fieldAddr rfl) (.v (.load (v := .int .u64 (z % 18446744073709551616)) rfl (.one rfl)) (.v (.move rfl) (.v (sub64_v rfl rfl (by omega) hn) (.v (.move rfl) (.v (.extract rfl rfl) (.v (.extract rfl rfl) (.v (.assign rfl) (.v (.assign rfl) (.nil ?_))))))))))))
  refine .seq ((.region (.v (.fieldAddr rfl) (.v (.load (v := .int .u64 (z / 18446744073709551616 % 18446744073709551616)) rfl (.one rfl)) (.v (.move rfl) (.v (.sub_ rfl rfl) (.v (.move rfl) (.v (.build (out := [.int .u64 ((z - n) / 18446744073709551616 % 18446744073709551616), .int .u64 ((z - n) % 18446744073709551616)]) rfl (by
    rw [rk_wrap]
    rw [show (z / 18446744073709551616 % 18446744073709551616 - (if z % 18446744073709551616 < n then 1 else 0)) % 18446744073709551616 = (z - n) / 18446744073709551616 % 18446744073709551616 by split <;> omega, show (z % 18446744073709551616 - n) % 18446744073709551616 = (z - n) % 18446744073709551616 by omega]; rfl)) (.st (.sw rfl rfl) (.nil ?_))))))))))
  exact .ret ⟨[_], ⟨⟨_, rfl, .inr ⟨2, _, inferInstance, rfl, rfl, .whole⟩⟩, trivial⟩, rfl⟩
theorem Rabove_ok (w : World) (z n : Int) (hn : 0 ≤ n ∧ n < 18446744073709551616) (hz : -170141183460469231731687303715884105728 ≤ z ∧ z < 170141183460469231731687303715884105728) :
    Is Try.prog 24 [wv z, .int .u64 n] w (.bool (decide (n < z))) := by
  refine Does.pure (Does.of (n := 19) Try.func24 rfl rfl rfl rfl ?_)
  refine .seq ((.region (.nw (.box (l := [.int .u64 (z / 18446744073709551616 % 18446744073709551616), .int .u64 (z % 18446744073709551616)]) rfl rfl) fun b2 => (.v (.assign rfl) (.nil ?_)))))
  refine .seq ((.region (.v (.fieldAddr rfl) (.v (.load (v := .int .u64 (z / 18446744073709551616 % 18446744073709551616)) rfl (.one rfl)) (.v (.lss rfl rfl) (.v (.move rfl) (.and (b2 := decide (z / 18446744073709551616 % 18446744073709551616 > 0) || decide (z % 18446744073709551616 > n)) 8 17 9 5 rfl rfl (fun g1 => .v (.fieldAddr rfl) (.v (.load (v := .int .u64 (z / 18446744073709551616 % 18446744073709551616)) rfl (.one rfl)) (.v (.gtr rfl rfl) (.v (.move rfl) (.or (b2 := decide (z % 18446744073709551616 > n)) 12 16 4 4 rfl rfl (fun g2 => .v (.fieldAddr rfl) (.v (.load (v := .int .u64 (z % 18446744073709551616)) rfl (.one rfl)) (.v (.move rfl) (.v (.gtr rfl rfl) (.nil ⟨rfl, rfl, rfl, rfl⟩))))) (.nil ⟨rfl, rfl, rfl, rfl⟩)))))) (.v (.assign rfl) (.nil ?_)))))))))
  refine .ret ⟨[_], ⟨rfl, trivial⟩, ?_⟩
  refine vb ?_
  simp only [Bool.and_eq_true, Bool.or_eq_true, decide_eq_true_eq]
  omega
set_option maxHeartbeats 1000000 in
theorem mul64_ok (w : World) (x y : Nat) (hx : x < 18446744073709551616) (hy : y < 18446744073709551616) :
    Is Try.prog 25 [.int .u64 x, .int .u64 y] w (.tuple ⟨[.int .u64 ((x * y / 18446744073709551616 : Nat) : Int), .int .u64 ((x * y % 18446744073709551616 : Nat) : Int)]⟩) := by
  obtain ⟨bd, bt, bw, hhi⟩ := Lib.mul64_hi x y hx hy
  have ba := Lib.half_mul_le (a := x / 4294967296) (b := y / 4294967296) (by omega) (by omega)
  have bb := Lib.half_mul_le (a := x / 4294967296) (b := y % 4294967296) (by omega) (by omega)
  have bc := Lib.half_mul_le (a := x % 4294967296) (b := y / 4294967296) (by omega) (by omega)
  have hx0 : x % 4294967296 < 18446744073709551616 := by omega
  refine Does.pure (Does.of (n := 51) Try.func25 rfl rfl rfl rfl ?_)
  refine .seq ((.region (.v (.assign rfl) (.v (.assign rfl) (.nil ?_)))))
  refine .seq ((.region (.v (.move rfl) (.v (Val.as (.and rfl rfl) (congrArg (Value.int .u64) (maskI hx))) (.v (.assign rfl) (.nil ?_))))))
  refine .seq ((.region (.v (.move rfl) (.v (Val.as (.shr rfl rfl (by omega)) (congrArg (Value.int .u64) shrI)) (.v (.assign rfl) (.nil ?_))))))
  refine .seq ((.region (.v (.move rfl) (.v (Val.as (.and rfl rfl) (congrArg (Value.int .u64) (maskI hy))) (.v (.assign rfl) (.nil ?_))))))
  refine .seq ((.region (.v (.move rfl) (.v (Val.as (.shr rfl rfl (by omega)) (congrArg (Value.int .u64) shrI)) (.v (.assign rfl) (.nil ?_))))))
  refine .seq ((.region (.v (.move rfl) (.v (.move rfl) (.v (Val.as (.mul rfl rfl) (congrArg (Value.int .u64) (mulI bd))) (.v (.assign rfl) (.nil ?_)))))))
  refine .seq ((.region (.v (.move rfl) (.v (.move rfl) (.v (Val.as (.mul rfl rfl) (congrArg (Value.int .u64) (mulI (by omega)))) (.v (.move rfl) (.v (Val.as (.shr rfl rfl (by omega)) (congrArg (Value.int .u64) shrI)) (.v (Val.as (.add rfl rfl) (congrArg (Value.int .u64) (addI bt))) (.v (.assign rfl) (.nil ?_))))))))))
  refine .seq ((.region (.v (.move rfl) (.v (Val.as (.and rfl rfl) (congrArg (Value.int .u64) (maskI bt))) (.v (.assign rfl) (.nil ?_))))))
  refine .seq ((.region (.v (.move rfl) (.v (Val.as (.shr rfl rfl (by omega)) (congrArg (Value.int .u64) shrI)) (.v (.assign rfl) (.nil ?_))))))
  refine .seq ((.region (.v (.move rfl) (.v (.move rfl) (.v (.move rfl) (.v (Val.as (.mul rfl rfl) (congrArg (Value.int .u64) (mulI (by omega)))) (.v (Val.as (.add rfl rfl) (congrArg (Value.int .u64) (addI bw))) (.v (.assign rfl) (.nil ?_)))))))))
  refine .seq ((.region (.v (.move rfl) (.v (.move rfl) (.v (Val.as (.mul rfl rfl) (congrArg (Value.int .u64) (mulI (by omega)))) (.v (.move rfl) (.v (Val.as (.add rfl rfl) (congrArg (Value.int .u64) (addI (by omega)))) (.v (.move rfl) (.v (Val.as (.shr rfl rfl (by omega)) (congrArg (Value.int .u64) shrI)) (.v (Val.as (.add rfl rfl) (congrArg (Value.int .u64) (addI (by omega)))) (.v (.assign rfl) (.nil ?_))))))))))))
  refine .seq ((.region (.v (.move rfl) (.v (.move rfl) (.v (Val.as (.mul rfl rfl) (v' := .int .u64 ((x * y % 18446744073709551616 : Nat) : Int)) (by rw [← Int.natCast_mul, Go.Proofs.Mul64.wrapM])) (.v (.assign rfl) (.nil ?_)))))))
  rw [hhi]
  exact .ret ⟨[_, _], ⟨rfl, rfl, trivial⟩, rfl⟩
end Go.Proofs.Ytfajjkolhajldaa

/- Risk: Ahead. -/
namespace Go.Proofs.Ytfajjkolhajldaa
open Go.V
set_option linter.unusedVariables false
set_option linter.unusedSimpArgs false
set_option maxRecDepth 20000

abbrev U64r (x : Int) : Prop := 0 ≤ x ∧ x < 18446744073709551616
theorem mul64I (w : World) (x y : Int) (hx : U64r x) (hy : U64r y) : Is Try.prog 25 [.int .u64 x, .int .u64 y] w (.tuple ⟨[.int .u64 (x * y / 18446744073709551616 % 18446744073709551616), .int .u64 (x * y % 18446744073709551616)]⟩) := by
  obtain ⟨h1, h2⟩ := hx
  obtain ⟨h3, h4⟩ := hy
  obtain ⟨a, rfl⟩ := Int.eq_ofNat_of_zero_le h1
  obtain ⟨b, rfl⟩ := Int.eq_ofNat_of_zero_le h3
  have h := mul64_ok w a b (by omega) (by omega)
  have hm : a * b ≤ 18446744073709551615 * 18446744073709551615 := Nat.mul_le_mul (by omega) (by omega)
  have e1 : ((a * b / 18446744073709551616 : Nat) : Int) = (a : Int) * (b : Int) / 18446744073709551616 % 18446744073709551616 := by
    rw [← Int.natCast_mul]; omega
  have e2 : ((a * b % 18446744073709551616 : Nat) : Int) = (a : Int) * (b : Int) % 18446744073709551616 := by
    rw [← Int.natCast_mul]; omega
  rw [e1, e2] at h
  exact h
abbrev Cm.was (c : Cm) (t : RO) : Int := if c.k = 3 then t.r else 0
abbrev Cm.sid (c : Cm) (t : RO) : Int := if c.k = 3 then t.sd else c.sd
def has (s : Sg) (sd : Int) : Int := if sd = 1 then s.b else s.s
def waits (s : Sg) (sd : Int) : Int := if sd = 1 then s.bu else s.se
def owes (s : Sg) (sd : Int) : Int := if sd = 1 then s.s else s.b
def aheadP (m : RM) (s : Sg) (t : RO) (kn : Bool) (c : Cm) : Int :=
  if (c.k = 2 ∨ c.k = 3) ∧ kn = true ∧ t.mb ≠ c.mb then 212
  else if c.k ≠ 1 ∧ c.k ≠ 3 then 0
  else if m.st = false then 210
  else if m.kl = true then 211
  else if m.l.ord < c.q then 213
  else if c.k = 3 ∧ kn = false then 0
  else if c.k ≠ 3 ∧ m.l.cnt ≤ s.c then 214
  else if m.l.op < s.bu + s.se + c.q - c.was t then 215
  else if m.l.pos < has s (c.sid t) + waits s (c.sid t) + c.q - c.was t - owes s (c.sid t) then 216
  else if ((c.k = 3 ∨ c.ty ≠ 2) ∧ 0 < c.pr) ∧ m.l.wor < c.pr * c.q then 217
  else 0
def Dk.ahead (D : Dk) (c : Cm) : Int := aheadP (D.mem c.mb) (D.stand c.mb) ((D.ord c.tg).getD ro0) (D.ord c.tg).isSome c
structure RM.R (m : RM) : Prop where
  op : U64r m.l.op
  pos : U64r m.l.pos
  wor : U64r m.l.wor
  b : U64r m.b
  s : U64r m.s
structure Dk.R (D : Dk) : Prop where
  m : ∀ m ∈ D.M, m.R
  o : ∀ o ∈ D.O, U64r o.r
theorem Dk.R.mem {D : Dk} (h : D.R) (n : Int) : (D.mem n).R := by
  unfold Dk.mem
  cases hk : kfind RM.n n D.M with
  | none => exact ⟨by simp [U64r], by simp [U64r], by simp [U64r], by simp [U64r], by simp [U64r]⟩
  | some m => exact h.m m (kfind_mem RM.n hk)
theorem Dk.R.ord {D : Dk} (h : D.R) (id : Int) : U64r ((D.ord id).getD ro0).r := by
  unfold Dk.ord
  cases hk : kfind RO.id id D.O with
  | none => simp [U64r]
  | some m => exact h.o m (kfind_mem RO.id hk)
abbrev Cbk (b : Nat) (c : Cm) : Nat × Ch := (b, .cells c.cells 37)
abbrev Sbk9 (b : Nat) (s : Sg) : Nat × Ch := (b, .cells s.cells 42)
set_option maxHeartbeats 4000000 in
theorem RAhead_ok (w : World) (p : RP) (D : Dk) (z : RZ) (hI : RI D z) (hR : D.R) (c : Cm) (hl : D.O.length ≤ 1000000000) (hq : U64r c.q) (hpr : c.pr ≤ 9223372036854775807) :
    Does Try.prog 9 [.pointer (some ⟨p.b, 0, none⟩), .agg ⟨c.cells⟩] (z.H p) w (fun v hs => v = .int .i64 (D.ahead c) ∧ hs = z.H p) := by
  have hst := fun w => RSt_ok w p D z hI c.mb hl
  obtain ⟨b, mm, mo⟩ := p
  have hM := hI.mem c.mb
  obtain ⟨hO, hS⟩ := hI.look c.tg
  obtain ⟨em, cm, eo, co⟩ := z
  dsimp only at hM hO hS hst ⊢
  have rm := hR.mem c.mb
  have rt := hR.ord c.tg
  have rs : U64r (D.stand c.mb).bu ∧ U64r (D.stand c.mb).se ∧ U64r (D.stand c.mb).b ∧ U64r (D.stand c.mb).s := by
    unfold Dk.stand stOf U64r
    exact ⟨by dsimp only; omega, by dsimp only; omega, rm.b, rm.s⟩
  unfold Dk.ahead
  generalize D.mem c.mb = m at hM rm ⊢
  generalize D.stand c.mb = S at hst rs ⊢
  generalize (D.ord c.tg).getD ro0 = t at hO rt ⊢
  generalize (D.ord c.tg).isSome = kn at hS ⊢
  obtain ⟨⟨r1, r2⟩, ⟨r3, r4⟩, ⟨r5, r6⟩, ⟨r7, r8⟩⟩ := rs
  obtain ⟨⟨r9, r10⟩, ⟨r11, r12⟩, ⟨r13, r14⟩, -, -⟩ := rm
  obtain ⟨r15, r16⟩ := rt
  obtain ⟨q1, q2⟩ := hq
  refine Does.less (Does.of (n := 181) Try.func9 rfl rfl rfl rfl ?_)
  refine .seq ((.region (.nw (.box (l := c.cells) rfl rfl) fun b3 => (.v (.assign rfl) (.nil ?_)))))
  refine .seq ((.region (.v (.fieldAddr rfl) (.v (.load (v := .int .i64 c.k) rfl (.one rfl)) (.v (.eqi rfl rfl) (.v (.move rfl) (.or (b2 := decide (c.k = 3)) 20 23 3 3 rfl rfl (fun g1 => .v (.fieldAddr rfl) (.v (.load (v := .int .i64 c.k) rfl (.one rfl)) (.v (.eqi rfl rfl) (.nil ⟨rfl, rfl, rfl, rfl⟩)))) (.v (.assign rfl) (.nil ?_)))))))))
  refine .seq ((.drawY 11 [0, 1, 2, 3, 4, 5, 6, 7, 8, 9, 10, 11, 12] [Cbk b3 c, Rb ⟨b, mm, mo⟩, R64 mo eo co] (by intro y hy; simp at hy ⊢; rcases hy with rfl | rfl | rfl <;> simp) (by kernel_rfl) (by kernel_rfl) ?_))
  refine .x (fun _ _ _ => .move rfl) (.v (fun _ f => .nilCheck rfl) (.x (fun _ _ _ => .fieldAddr rfl) (.v (fun _ f => .load (v := .map (some mo)) rfl (.one (hb := .sub f) rfl)) (.x (fun _ _ _ => .fieldAddr rfl) (.v (fun _ f => .load (v := .int .u64 c.tg) rfl (.one (hb := .sub f) rfl)) ?_)))))
  refine .v (fun _ f => .lookup2E (es := eo) (c := co) (v := .agg ⟨t.cells⟩) (ok := kn) rfl rfl (hb := .sub f) hO hS) ?_
  refine .x (fun _ _ _ => .move rfl) (.x (fun _ _ _ => .extract rfl rfl) (.x (fun _ _ _ => .extract rfl rfl) (.nw .alloc fun b6 => (.st (.sw rfl rfl) (.w (.assign rfl) (.nil ?_))))))
  refine .seq (.seq ((.region (.v (.move rfl) (.v (.move rfl) (.and (b2 := kn) 36 37 1 1 rfl rfl (fun g2 => .v (.move rfl) (.nil ⟨rfl, rfl, rfl, rfl⟩)) (.v (.move rfl) (.and (b2 := decide (t.mb ≠ c.mb)) 39 44 5 5 rfl rfl (fun g3 => .v (.fieldAddr rfl) (.v (.load (v := .int .u32 t.mb) rfl (.one rfl)) (.v (.fieldAddr rfl) (.v (.load (v := .int .u32 c.mb) rfl (.one rfl)) (.v (.nei rfl rfl) (.nil ⟨rfl, rfl, rfl, rfl⟩)))))) (.nil ?_)))))))))
  refine .cond rfl (fun h1 => ?_) (fun h1 => .skip ?_)
  · have e : aheadP m S t kn c = 212 := by
      unfold aheadP; rw [if_pos (by simp only [Bool.and_eq_true, Bool.or_eq_true, decide_eq_true_eq] at h1; exact ⟨h1.1.1, h1.1.2, h1.2⟩)]
    refine .seq ((.region (.v (.assign rfl) (.nil ?_))))
    exact .ret ⟨[_], ⟨rfl, trivial⟩, RZ.H ⟨b, mm, mo⟩ ⟨em, cm, eo, co⟩, fun _ s => s.take, by rw [e]; rfl, rfl⟩
  have n1 : ¬ ((c.k = 2 ∨ c.k = 3) ∧ kn = true ∧ t.mb ≠ c.mb) := fun h => by
    have : ((decide (c.k = 2) || decide (c.k = 3)) && kn && decide (t.mb ≠ c.mb)) = true := by
      simp only [Bool.and_eq_true, Bool.or_eq_true, decide_eq_true_eq]; exact ⟨⟨h.1, h.2.1⟩, h.2.2⟩
    rw [this] at h1; cases h1
  refine .seq (.seq ((.region (.v (.fieldAddr rfl) (.v (.load (v := .int .i64 c.k) rfl (.one rfl)) (.v (.nei rfl rfl) (.v (.move rfl) (.and (b2 := decide (c.k ≠ 3)) 49 52 3 3 rfl rfl (fun g4 => .v (.fieldAddr rfl) (.v (.load (v := .int .i64 c.k) rfl (.one rfl)) (.v (.nei rfl rfl) (.nil ⟨rfl, rfl, rfl, rfl⟩)))) (.nil ?_)))))))))
  refine .cond rfl (fun h2 => ?_) (fun h2 => .skip ?_)
  · have e : aheadP m S t kn c = 0 := by
      unfold aheadP; rw [if_neg n1, if_pos (by simpa using h2)]
    refine .seq ((.region (.v (.assign rfl) (.nil ?_))))
    exact .ret ⟨[_], ⟨rfl, trivial⟩, RZ.H ⟨b, mm, mo⟩ ⟨em, cm, eo, co⟩, fun _ s => s.take, by rw [e]; rfl, rfl⟩
  have n2 : ¬ (c.k ≠ 1 ∧ c.k ≠ 3) := fun h => by
    have : (decide (c.k ≠ 1) && decide (c.k ≠ 3)) = true := by simp only [Bool.and_eq_true, decide_eq_true_eq]; exact h
    rw [this] at h2; cases h2
  refine .keep (Oob b6 t :: Cbk b3 c :: RZ.H ⟨b, mm, mo⟩ ⟨em, cm, eo, co⟩) ?_
  refine .seq ((.drawQ 8 [0, 1, 2, 3, 4, 5, 6, 7, 8] [Cbk b3 c, Rb ⟨b, mm, mo⟩, R32 mm em cm] (by intro y hy; simp at hy ⊢; rcases hy with rfl | rfl | rfl <;> simp) (by kernel_rfl) (by kernel_rfl) ?_))
  refine .v (fun _ f => .move rfl) (.v (fun _ f => .nilCheck rfl) (.v (fun _ f => .fieldAddr rfl) (.v (fun _ f => .load (v := .map (some mm)) rfl (.one (hb := .sub f) rfl)) (.v (fun _ f => .fieldAddr rfl) (.v (fun _ f => .load (v := .int .u32 c.mb) rfl (.one (hb := .sub f) rfl)) (.v (fun _ f => .lookupE (es := em) (c := cm) (v := .agg ⟨m.cells⟩) rfl rfl (hb := .sub f) hM) ?_))))))
  refine .ef .alloc (fun v hs' ⟨_, _, e⟩ f => by subst e; exact fun y hy => List.mem_cons_of_mem _ (f hy)) ?_
  rintro _ _ ⟨b8, rfl, rfl⟩
  refine .st (.sw rfl rfl) (.nil ?_)
  refine .seq (.block (.seq ((.region (.v (.fieldAddr rfl) (.v (.load (v := .bool m.st) rfl (.one rfl)) (.v (.not rfl) (.v (.assign rfl) (.nil ?_)))))))))
  refine .cond rfl (fun h3 => ?_) (fun h3 => ?_)
  · have e : aheadP m S t kn c = 210 := by
      unfold aheadP; rw [if_neg n1, if_neg n2, if_pos (by simpa using h3)]
    refine .seq ((.region (.v (.assign rfl) (.nil ?_))))
    exact .ret ⟨[_], ⟨rfl, trivial⟩, RZ.H ⟨b, mm, mo⟩ ⟨em, cm, eo, co⟩, fun _ s => s.take, by rw [e]; rfl, rfl⟩
  have n3 : ¬ m.st = false := by simpa using h3
  refine .seq ((.region (.v (.fieldAddr rfl) (.v (.load (v := .bool m.kl) rfl (.one rfl)) (.v (.assign rfl) (.nil ?_))))))
  refine .cond rfl (fun h4 => ?_) (fun h4 => ?_)
  · have e : aheadP m S t kn c = 211 := by
      unfold aheadP; rw [if_neg n1, if_neg n2, if_neg n3, if_pos h4]
    refine .seq ((.region (.v (.assign rfl) (.nil ?_))))
    exact .ret ⟨[_], ⟨rfl, trivial⟩, RZ.H ⟨b, mm, mo⟩ ⟨em, cm, eo, co⟩, fun _ s => s.take, by rw [e]; rfl, rfl⟩
  have n4 : ¬ m.kl = true := by simp [h4]
  refine .seq ((.region (.v (.fieldAddr rfl) (.v (.load (v := .int .u64 c.q) rfl (.one rfl)) (.v (.fieldAddr rfl) (.v (.fieldAddr rfl) (.v (.load (v := .int .u64 m.l.ord) rfl (.one rfl)) (.v (.gtr rfl rfl) (.v (.assign rfl) (.nil ?_))))))))))
  refine .cond_dec rfl (fun h5 => ?_) (fun h5 => ?_)
  · have e : aheadP m S t kn c = 213 := by
      unfold aheadP; rw [if_neg n1, if_neg n2, if_neg n3, if_neg n4, if_pos (by omega)]
    refine .seq ((.region (.v (.assign rfl) (.nil ?_))))
    exact .ret ⟨[_], ⟨rfl, trivial⟩, RZ.H ⟨b, mm, mo⟩ ⟨em, cm, eo, co⟩, fun _ s => s.take, by rw [e]; rfl, rfl⟩
  have n5 : ¬ m.l.ord < c.q := by omega
  refine .seq ((.region (.v (.fieldAddr rfl) (.v (.load (v := .int .i64 c.k) rfl (.one rfl)) (.v (.eqi rfl rfl) (.v (.move rfl) (.and (b2 := !kn) 79 81 2 2 rfl rfl (fun g5 => .v (.move rfl) (.v (.not rfl) (.nil ⟨rfl, rfl, rfl, rfl⟩))) (.v (.assign rfl) (.nil ?_)))))))))
  refine .cond rfl (fun h6 => ?_) (fun h6 => .skip ?_)
  · have e : aheadP m S t kn c = 0 := by
      unfold aheadP; rw [if_neg n1, if_neg n2, if_neg n3, if_neg n4, if_neg n5, if_pos (by simpa using h6)]
    refine .seq ((.region (.v (.assign rfl) (.nil ?_))))
    exact .ret ⟨[_], ⟨rfl, trivial⟩, RZ.H ⟨b, mm, mo⟩ ⟨em, cm, eo, co⟩, fun _ s => s.take, by rw [e]; rfl, rfl⟩
  have n6 : ¬ (c.k = 3 ∧ kn = false) := fun h => by
    have : (decide (c.k = 3) && !kn) = true := by rw [h.2, Bool.not_false, Bool.and_true, decide_eq_true_eq]; exact h.1
    rw [this] at h6; cases h6
  refine .seq ((.region (.v (.move rfl) (.v (.fieldAddr rfl) (.v (.load (v := .int .u32 c.mb) rfl (.one rfl)) ?_)))))
  refine .ef (.callT (RZ.H ⟨b, mm, mo⟩ ⟨em, cm, eo, co⟩) rfl rfl fun w s => hst w) ?_
  rintro _ _ ⟨_, ⟨rfl, rfl⟩, rfl⟩
  refine .nw .alloc fun b9 => (.st (.sw rfl rfl) (.nil ?_))
  clear hst
  refine .seq ((.region (.v (.fieldAddr rfl) (.v (.load (v := .int .i64 c.sd) rfl (.one rfl)) (.v (.assign rfl) (.v (.assign rfl) (.nil ?_)))))))
  refine .mid (X := Unit) (fun _ => [(3, .pointer (some ⟨b3, 0, none⟩)), (8, .pointer (some ⟨b8, 0, none⟩)), (9, .pointer (some ⟨b9, 0, none⟩)), (10, .int .i64 (c.sid t)), (11, .int .u64 (c.was t))]) (fun _ => Sbk9 b9 S :: Omb b8 m :: Cbk b3 c :: RZ.H ⟨b, mm, mo⟩ ⟨em, cm, eo, co⟩) (fun _ => ¬ (c.k ≠ 3 ∧ m.l.cnt ≤ S.c)) (.seq ((.region (.v (.fieldAddr rfl) (.v (.load (v := .int .i64 c.k) rfl (.one rfl)) (.v (.eqi rfl rfl) (.nil ?_))))))) ?_
  · refine .cond_dec rfl (fun h7 => ?_) (fun h7 => ?_)
    · refine .keep (Oob b6 t :: Sbk9 b9 S :: Omb b8 m :: Cbk b3 c :: RZ.H ⟨b, mm, mo⟩ ⟨em, cm, eo, co⟩) ?_
      refine (.drawK [Oob b6 t] (by intro y hy; simp at hy ⊢; exact .inl hy) (by kernel_rfl) (by kernel_rfl) ?_)
      refine .v (fun _ f => .fieldAddr rfl) (.v (fun _ f => .load (v := .int .i64 t.sd) rfl (.one (hb := .sub f) rfl)) (.v (fun _ f => .fieldAddr rfl) (.v (fun _ f => .load (v := .int .u64 t.r) rfl (.one (hb := .sub f) rfl)) (.v (fun _ f => .assign rfl) (.v (fun _ f => .assign rfl) (.nil ?_))))))
      have e1 : c.sid t = t.sd := if_pos h7
      have e2 : c.was t = t.r := if_pos h7
      rw [e1, e2]
      exact ⟨(), fun h => h.1 h7, .cons rfl (.cons rfl (.cons rfl (.cons rfl (.cons rfl (.nil _))))), fun _ s => s.take⟩
    · refine .seq ((.region (.v (.fieldAddr rfl) (.v (.load (v := .int .i64 S.c) rfl (.one rfl)) (.v (.fieldAddr rfl) (.v (.fieldAddr rfl) (.v (.load (v := .int .i64 m.l.cnt) rfl (.one rfl)) (.v (.geq rfl rfl) (.nil ?_)))))))))
      refine .cond_dec rfl (fun h8 => ?_) (fun h8 => .skip ?_)
      · have e : aheadP m S t kn c = 214 := by
          unfold aheadP; rw [if_neg n1, if_neg n2, if_neg n3, if_neg n4, if_neg n5, if_neg n6, if_pos ⟨h7, by omega⟩]
        refine .seq ((.region (.v (.assign rfl) (.nil ?_))))
        exact .ret ⟨[_], ⟨rfl, trivial⟩, RZ.H ⟨b, mm, mo⟩ ⟨em, cm, eo, co⟩, fun _ s => s.take, by rw [e]; rfl, rfl⟩
      · have e1 : c.sid t = c.sd := if_neg h7
        have e2 : c.was t = 0 := if_neg h7
        rw [e1, e2]
        exact ⟨(), fun h => h8 (by omega), .cons rfl (.cons rfl (.cons rfl (.cons rfl (.cons rfl (.nil _))))), fun _ s => s.take⟩
  rintro ⟨⟩ n7
  try dsimp only at n7 ⊢
  have hw : U64r (c.was t) := by unfold Cm.was; split; exact ⟨r15, r16⟩; exact ⟨by omega, by omega⟩
  obtain ⟨w1, w2⟩ := hw
  have e7 : aheadP m S t kn c = if m.l.op < S.bu + S.se + c.q - c.was t then 215
      else if m.l.pos < has S (c.sid t) + waits S (c.sid t) + c.q - c.was t - owes S (c.sid t) then 216
      else if ((c.k = 3 ∨ c.ty ≠ 2) ∧ 0 < c.pr) ∧ m.l.wor < c.pr * c.q then 217 else 0 := by
    unfold aheadP; rw [if_neg n1, if_neg n2, if_neg n3, if_neg n4, if_neg n5, if_neg n6, if_neg n7]
  generalize c.was t = wa at w1 w2 e7 ⊢
  generalize c.sid t = si at e7 ⊢
  refine .seq (.seq ((.drawP [0, 1, 2, 4, 5, 7, 8, 10, 12, 13, 14, 3, 6, 9, 11, 15] [Sbk9 b9 S, Omb b8 m, Cbk b3 c] (by intro y hy; simp at hy ⊢; rcases hy with rfl | rfl | rfl <;> simp) (by kernel_rfl) (by kernel_rfl) ?_)))
  refine .v (fun _ f => Val.as (v' := wv 0) (.build (out := [.int .u64 0, .int .u64 0]) rfl rfl) rfl) (.v (fun _ f => .fieldAddr rfl) (.v (fun _ f => .load (v := .int .u64 S.bu) rfl (.one (hb := .sub f) rfl)) (.v (fun _ f => .fieldAddr rfl) (.v (fun _ f => .load (v := .int .u64 S.se) rfl (.one (hb := .sub f) rfl)) (.v (fun _ f => .fieldAddr rfl) (.v (fun _ f => .load (v := .int .u64 c.q) rfl (.one (hb := .sub f) rfl)) (.v (fun _ f => .move rfl) (.v (fun _ f => .fieldAddr rfl) (.v (fun _ f => .fieldAddr rfl) (.v (fun _ f => .load (v := .int .u64 m.l.op) rfl (.one (hb := .sub f) rfl)) ?_))))))))))
  refine .pc rfl rfl (fun w s => Rplus_ok w 0 S.bu r1) (.pc rfl rfl (fun w s => Rplus_ok w (0 + S.bu) S.se r3) (.pc rfl rfl (fun w s => Rplus_ok w (0 + S.bu + S.se) c.q q1) (.pc rfl rfl (fun w s => Rless_ok w (0 + S.bu + S.se + c.q) wa ⟨w1, w2⟩) (.pc rfl rfl (fun w s => Rabove_ok w (0 + S.bu + S.se + c.q - wa) m.l.op ⟨r9, r10⟩ (by omega)) (.nil ?_)))))
  refine .cond_dec rfl (fun h9 => ?_) (fun h9 => .skip ?_)
  · have e : aheadP m S t kn c = 215 := by rw [e7, if_pos (by omega)]
    refine .seq ((.region (.v (.assign rfl) (.nil ?_))))
    exact .ret ⟨[_], ⟨rfl, trivial⟩, RZ.H ⟨b, mm, mo⟩ ⟨em, cm, eo, co⟩, fun _ s => s.take, by rw [e]; rfl, rfl⟩
  rw [if_neg (by omega)] at e7
  refine .seq ((.drawK [Sbk9 b9 S] (by intro y hy; simp at hy ⊢; exact .inl hy) (by kernel_rfl) (by kernel_rfl) ?_))
  refine .v (fun _ f => .fieldAddr rfl) (.v (fun _ f => .load (v := .int .u64 S.s) rfl (.one (hb := .sub f) rfl)) (.v (fun _ f => .fieldAddr rfl) (.v (fun _ f => .load (v := .int .u64 S.se) rfl (.one (hb := .sub f) rfl)) (.v (fun _ f => .fieldAddr rfl) (.v (fun _ f => .load (v := .int .u64 S.b) rfl (.one (hb := .sub f) rfl)) (.v (fun _ f => .assign rfl) (.v (fun _ f => .assign rfl) (.v (fun _ f => .assign rfl) (.nil ?_)))))))))
  refine .mid (X := Unit) (fun _ => [(3, .pointer (some ⟨b3, 0, none⟩)), (8, .pointer (some ⟨b8, 0, none⟩)), (11, .int .u64 wa), (12, .int .u64 (has S si)), (13, .int .u64 (waits S si)), (14, .int .u64 (owes S si))]) (fun _ => Omb b8 m :: Cbk b3 c :: RZ.H ⟨b, mm, mo⟩ ⟨em, cm, eo, co⟩) (fun _ => True) (.seq ((.region (.v (.move rfl) (.v (.eqi rfl rfl) (.nil ?_)))))) ?_
  · unfold has waits owes
    refine .cond_dec rfl (fun h10 => ?_) (fun h10 => .skip ?_)
    · rw [if_pos h10, if_pos h10, if_pos h10]
      refine (.drawK [Sbk9 b9 S] (by intro y hy; simp at hy ⊢; exact .inl hy) (by kernel_rfl) (by kernel_rfl) ?_)
      refine .v (fun _ f => .fieldAddr rfl) (.v (fun _ f => .load (v := .int .u64 S.b) rfl (.one (hb := .sub f) rfl)) (.v (fun _ f => .fieldAddr rfl) (.v (fun _ f => .load (v := .int .u64 S.bu) rfl (.one (hb := .sub f) rfl)) (.v (fun _ f => .fieldAddr rfl) (.v (fun _ f => .load (v := .int .u64 S.s) rfl (.one (hb := .sub f) rfl)) (.v (fun _ f => .assign rfl) (.v (fun _ f => .assign rfl) (.v (fun _ f => .assign rfl) (.nil ?_)))))))))
      exact ⟨(), trivial, .cons rfl (.cons rfl (.cons rfl (.cons rfl (.cons rfl (.cons rfl (.nil _)))))), fun _ s => s.take⟩
    · rw [if_neg h10, if_neg h10, if_neg h10]
      exact ⟨(), trivial, .cons rfl (.cons rfl (.cons rfl (.cons rfl (.cons rfl (.cons rfl (.nil _)))))), fun _ s => s.take⟩
  rintro ⟨⟩ -
  try dsimp only
  have x1 : U64r (has S si) := by unfold has; split; exact ⟨r5, r6⟩; exact ⟨r7, r8⟩
  have x2 : U64r (waits S si) := by unfold waits; split; exact ⟨r1, r2⟩; exact ⟨r3, r4⟩
  have x3 : U64r (owes S si) := by unfold owes; split; exact ⟨r7, r8⟩; exact ⟨r5, r6⟩
  generalize has S si = hs at x1 e7 ⊢
  generalize waits S si = wt at x2 e7 ⊢
  generalize owes S si = ow at x3 e7 ⊢
  obtain ⟨x11, x12⟩ := x1
  obtain ⟨x21, x22⟩ := x2
  refine .seq (.seq ((.drawP [0, 1, 3, 5, 6, 8, 10, 12, 13, 14, 2, 4, 7, 9, 11, 15] [Omb b8 m, Cbk b3 c] (by intro y hy; simp at hy ⊢; rcases hy with rfl | rfl <;> simp) (by kernel_rfl) (by kernel_rfl) ?_)))
  refine .v (fun _ f => Val.as (v' := wv 0) (.build (out := [.int .u64 0, .int .u64 0]) rfl rfl) rfl) (.v (fun _ f => .move rfl) (.v (fun _ f => .move rfl) (.v (fun _ f => .fieldAddr rfl) (.v (fun _ f => .load (v := .int .u64 c.q) rfl (.one (hb := .sub f) rfl)) (.v (fun _ f => .move rfl) (.v (fun _ f => .move rfl) (.v (fun _ f => .fieldAddr rfl) (.v (fun _ f => .fieldAddr rfl) (.v (fun _ f => .load (v := .int .u64 m.l.pos) rfl (.one (hb := .sub f) rfl)) ?_)))))))))
  refine .pc rfl rfl (fun w s => Rplus_ok w 0 hs x11) (.pc rfl rfl (fun w s => Rplus_ok w (0 + hs) wt x21) (.pc rfl rfl (fun w s => Rplus_ok w (0 + hs + wt) c.q q1) (.pc rfl rfl (fun w s => Rless_ok w (0 + hs + wt + c.q) wa ⟨w1, w2⟩) (.pc rfl rfl (fun w s => Rless_ok w (0 + hs + wt + c.q - wa) ow x3) (.pc rfl rfl (fun w s => Rabove_ok w (0 + hs + wt + c.q - wa - ow) m.l.pos ⟨r11, r12⟩ (by obtain ⟨y1, y2⟩ := x3; omega)) (.nil ?_))))))
  refine .cond_dec rfl (fun h11 => ?_) (fun h11 => .skip ?_)
  · have e : aheadP m S t kn c = 216 := by rw [e7, if_pos (by omega)]
    refine .seq ((.region (.v (.assign rfl) (.nil ?_))))
    exact .ret ⟨[_], ⟨rfl, trivial⟩, RZ.H ⟨b, mm, mo⟩ ⟨em, cm, eo, co⟩, fun _ s => s.take, by rw [e]; rfl, rfl⟩
  rw [if_neg (by omega)] at e7
  refine .mid (X := Unit) (fun _ => []) (fun _ => RZ.H ⟨b, mm, mo⟩ ⟨em, cm, eo, co⟩) (fun _ => aheadP m S t kn c = 0) (.seq ((.region (.v (.fieldAddr rfl) (.v (.load (v := .int .i64 c.k) rfl (.one rfl)) (.v (.eqi rfl rfl) (.v (.move rfl) (.or (b2 := decide (c.ty ≠ 2)) 151 154 3 3 rfl rfl (fun g6 => .v (.fieldAddr rfl) (.v (.load (v := .int .i64 c.ty) rfl (.one rfl)) (.v (.nei rfl rfl) (.nil ⟨rfl, rfl, rfl, rfl⟩)))) (.v (.move rfl) (.and (b2 := decide (c.pr > 0)) 156 159 3 3 rfl rfl (fun g7 => .v (.fieldAddr rfl) (.v (.load (v := .int .i64 c.pr) rfl (.one rfl)) (.v (.gtr rfl rfl) (.nil ⟨rfl, rfl, rfl, rfl⟩)))) (.nil ?_))))))))))) ?_
  · refine .cond rfl (fun h12 => ?_) (fun h12 => .skip ?_)
    · have h12' : (c.k = 3 ∨ c.ty ≠ 2) ∧ 0 < c.pr := by
        simp only [Bool.and_eq_true, Bool.or_eq_true, decide_eq_true_eq] at h12; exact ⟨h12.1, by omega⟩
      have hz1 : c.pr * c.q ≤ 9223372036854775807 * 18446744073709551615 := Int.mul_le_mul hpr (by omega) q1 (by omega)
      have hz0 : 0 ≤ c.pr * c.q := Int.mul_nonneg (by omega) q1
      have hmul := fun w => mul64I w c.pr c.q ⟨by omega, by omega⟩ ⟨q1, q2⟩
      generalize c.pr * c.q = zz at hz0 hz1 e7 hmul
      refine .seq ((.region (.v (.fieldAddr rfl) (.v (.load (v := .int .i64 c.pr) rfl (.one rfl)) (.v (.convE c.pr rfl (by rw [rk_wrap]; omega)) (.v (.fieldAddr rfl) (.v (.load (v := .int .u64 c.q) rfl (.one rfl)) (.pc rfl rfl (fun w s => hmul w) (.v (.move rfl) (.v (.extract rfl rfl) (.v (.extract rfl rfl) (.v (.assign rfl) (.v (.assign rfl) (.nil ?_))))))))))))))
      refine .seq ((.region (.v (.move rfl) (.v (.move rfl) (.v (.build (out := [.int .u64 (zz / 18446744073709551616 % 18446744073709551616), .int .u64 (zz % 18446744073709551616)]) rfl rfl) (.v (.fieldAddr rfl) (.v (.fieldAddr rfl) (.v (.load (v := .int .u64 m.l.wor) rfl (.one rfl)) (.pc rfl rfl (fun w s => Rabove_ok w zz m.l.wor ⟨r13, r14⟩ (by omega)) (.v (.move rfl) (.or (b2 := decide (zz / 18446744073709551616 % 18446744073709551616 ≥ 9223372036854775808)) 177 179 2 2 rfl rfl (fun g8 => .v (.move rfl) (.v (.geq rfl rfl) (.nil ⟨rfl, rfl, rfl, rfl⟩))) (.nil ?_))))))))))))
      refine .cond rfl (fun h13 => ?_) (fun h13 => .skip ?_)
      · have e : aheadP m S t kn c = 217 := by
          have h13' : m.l.wor < zz := by
            rcases Bool.or_eq_true _ _ |>.mp h13 with h | h
            · exact of_decide_eq_true h
            · have := of_decide_eq_true h; omega
          rw [e7, if_pos ⟨h12', h13'⟩]
        refine .seq ((.region (.v (.assign rfl) (.nil ?_))))
        exact .ret ⟨[_], ⟨rfl, trivial⟩, RZ.H ⟨b, mm, mo⟩ ⟨em, cm, eo, co⟩, fun _ s => s.take, by rw [e]; rfl, rfl⟩
      · refine ⟨(), ?_, .nil _, fun _ s => s.take⟩
        rw [e7, if_neg]
        rintro ⟨_, h⟩
        have : decide (m.l.wor < zz) = true := by simpa using h
        rw [this] at h13
        cases h13
    · refine ⟨(), ?_, .nil _, fun _ s => s.take⟩
      rw [e7, if_neg]
      rintro ⟨⟨h, h'⟩, _⟩
      have : ((decide (c.k = 3) || decide (c.ty ≠ 2)) && decide (c.pr > 0)) = true := by
        simp only [Bool.and_eq_true, Bool.or_eq_true, decide_eq_true_eq]; exact ⟨h, h'⟩
      rw [this] at h12
      cases h12
  rintro ⟨⟩ e
  try dsimp only at e
  refine .seq ((.region (.v (.assign rfl) (.nil ?_))))
  exact .ret ⟨[_], ⟨rfl, trivial⟩, RZ.H ⟨b, mm, mo⟩ ⟨em, cm, eo, co⟩, fun _ s => s.take, by rw [e]; rfl, rfl⟩
end Go.Proofs.Ytfajjkolhajldaa

/- Risk: the law's small functions: lists of numbers that are alike. -/
namespace Go.Proofs.Ytfajjkolhajldaa
open Go.V
set_option linter.unusedVariables false
set_option linter.unusedSimpArgs false
set_option maxRecDepth 20000
theorem ints_app {q : IntKind} (a b : List Int) : ints q (a ++ b) = ints q a ++ ints q b := by simp [ints]
theorem ints_len {q : IntKind} (a : List Int) : (ints q a).length = a.length := by simp [ints]
theorem ints_ones {q : IntKind} (a : List Int) : ones (ints q a) = true := by
  simp only [ones, ints, List.all_map, List.all_eq_true]
  intro x _; rfl
theorem ints_at {q : IntKind} {a : List Int} {i : Nat} (h : i < a.length) : (ints q a)[i]? = some (.int q a[i]) := by simp [ints, h]
theorem membs_ok (w : World) (A B : Option Addr) (len ca cb : Nat) (l : List Int) (hA : Rd w [] A (ints .u32 l)) (hB : Rd w [] B (ints .u32 l)) (hl : len = l.length) (hb : len ≤ 3518437208883) :
    Is Try.prog 48 [.slice A len ca, .slice B len cb] w (.bool true) := by
  refine Does.pure (Does.of (n := 26) Try.func48 rfl rfl rfl rfl ?_)
  refine .seq ((.region (.v (.assign rfl) (.nil ?_))))
  refine .seq (.seq ((.region (.v (.move rfl) (.v (.len rfl) (.v (.move rfl) (.v (.len rfl) (.v (.nei rfl rfl) (.nil ?_)))))))))
  refine .cond_dec rfl (fun g => absurd rfl g) (fun g => .skip ?_)
  refine .seq (.seq ((.region (.v (.assign rfl) (.nil ?_)))))
  refine .block (.loop (X := Nat) (fun i => [(0, .slice A len ca), (1, .slice B len cb), (5, .int .i64 (i : Nat))]) (fun _ => []) (fun i => i ≤ len) (fun i => len - i) 0 (by omega) (.cons rfl (.cons rfl (.cons rfl (.nil _)))) (fun _ s => s) ?_)
  intro i hi
  refine .seq (.seq ((.region (.v (.move rfl) (.v (.move rfl) (.v (.len rfl) (.v (.lss rfl rfl) (.nil ?_))))))))
  refine .cond_dec rfl (fun g2 => .skip ?_) (fun g2 => .exit ?_)
  · have hil : i < l.length := by omega
    obtain ⟨b, o, rfl, -⟩ := hA.base (by rw [ints_len]; omega)
    obtain ⟨b', o', rfl, -⟩ := hB.base (by rw [ints_len]; omega)
    refine .seq (.block (.seq ((.drawK [] (fun _ h => h) (by kernel_rfl) (by kernel_rfl) ?_))))
    refine .v (fun _ f => .move rfl) (.v (fun _ f => .move rfl) (.v (fun _ f => .indexN i rfl rfl (by omega)) (.v (fun _ f => .load (v := .int .u32 l[i]) rfl (Rd.cell hA (ints_at hil))) (.v (fun _ f => .move rfl) (.v (fun _ f => .move rfl) (.v (fun _ f => .indexN i rfl rfl (by omega)) (.v (fun _ f => .load (v := .int .u32 l[i]) rfl (Rd.cell hB (ints_at hil))) (.v (fun _ f => .nei rfl rfl) (.nil ?_)))))))))
    refine .cond_dec rfl (fun g3 => absurd rfl g3) (fun _ => .skip ?_)
    refine .region (.v (.move rfl) (.v (.addi rfl rfl (by omega)) (.v (.assign rfl) (.nil ?_))))
    exact ⟨i + 1, by omega, by omega, .cons rfl (.cons rfl (.cons rfl (.nil _))), fun _ s => s⟩
  · refine .seq ((.region (.v (.assign rfl) (.nil ?_))))
    exact .ret ⟨[_], ⟨rfl, trivial⟩, rfl⟩
theorem numbers_ok (w : World) (A B : Option Addr) (len ca cb : Nat) (l : List Int) (hA : Rd w [] A (ints .u64 l)) (hB : Rd w [] B (ints .u64 l)) (hl : len = l.length) (hb : len ≤ 3518437208883) :
    Is Try.prog 13 [.slice A len ca, .slice B len cb] w (.bool true) := by
  refine Does.pure (Does.of (n := 26) Try.func13 rfl rfl rfl rfl ?_)
  refine .seq ((.region (.v (.assign rfl) (.nil ?_))))
  refine .seq (.seq ((.region (.v (.move rfl) (.v (.len rfl) (.v (.move rfl) (.v (.len rfl) (.v (.nei rfl rfl) (.nil ?_)))))))))
  refine .cond_dec rfl (fun g => absurd rfl g) (fun g => .skip ?_)
  refine .seq (.seq ((.region (.v (.assign rfl) (.nil ?_)))))
  refine .block (.loop (X := Nat) (fun i => [(0, .slice A len ca), (1, .slice B len cb), (5, .int .i64 (i : Nat))]) (fun _ => []) (fun i => i ≤ len) (fun i => len - i) 0 (by omega) (.cons rfl (.cons rfl (.cons rfl (.nil _)))) (fun _ s => s) ?_)
  intro i hi
  refine .seq (.seq ((.region (.v (.move rfl) (.v (.move rfl) (.v (.len rfl) (.v (.lss rfl rfl) (.nil ?_))))))))
  refine .cond_dec rfl (fun g2 => .skip ?_) (fun g2 => .exit ?_)
  · have hil : i < l.length := by omega
    obtain ⟨b, o, rfl, -⟩ := hA.base (by rw [ints_len]; omega)
    obtain ⟨b', o', rfl, -⟩ := hB.base (by rw [ints_len]; omega)
    refine .seq (.block (.seq ((.drawK [] (fun _ h => h) (by kernel_rfl) (by kernel_rfl) ?_))))
    refine .v (fun _ f => .move rfl) (.v (fun _ f => .move rfl) (.v (fun _ f => .indexN i rfl rfl (by omega)) (.v (fun _ f => .load (v := .int .u64 l[i]) rfl (Rd.cell hA (ints_at hil))) (.v (fun _ f => .move rfl) (.v (fun _ f => .move rfl) (.v (fun _ f => .indexN i rfl rfl (by omega)) (.v (fun _ f => .load (v := .int .u64 l[i]) rfl (Rd.cell hB (ints_at hil))) (.v (fun _ f => .nei rfl rfl) (.nil ?_)))))))))
    refine .cond_dec rfl (fun g3 => absurd rfl g3) (fun _ => .skip ?_)
    refine .region (.v (.move rfl) (.v (.addi rfl rfl (by omega)) (.v (.assign rfl) (.nil ?_))))
    exact ⟨i + 1, by omega, by omega, .cons rfl (.cons rfl (.cons rfl (.nil _))), fun _ s => s⟩
  · refine .seq ((.region (.v (.assign rfl) (.nil ?_))))
    exact .ret ⟨[_], ⟨rfl, trivial⟩, rfl⟩
end Go.Proofs.Ytfajjkolhajldaa

/- RiskStill: the walk. -/
namespace Go.Proofs.Ytfajjkolhajldaa
open Go.V
set_option linter.unusedVariables false
set_option linter.unusedSimpArgs false
set_option maxRecDepth 20000

/-! ### what stays in its range -/
theorem Dk.R.new : Dk.new.R := ⟨by simp [Dk.new], by simp [Dk.new]⟩
theorem Dk.R.put {D : Dk} (h : D.R) (n : Int) (f : RM → RM) (hf : ∀ m : RM, m.R → (f m).R) : (D.put n f).R := by
  refine ⟨?_, by rw [Dk.put_O]; exact h.o⟩
  unfold Dk.put
  split
  · intro m hm
    obtain ⟨x, hx, rfl⟩ := List.mem_map.1 (show m ∈ kupd RM.n n f D.M from hm)
    split
    · exact hf x (h.m x hx)
    · exact h.m x hx
  · intro m hm
    rcases List.mem_append.1 (show m ∈ D.M ++ [f (rm0 n)] from hm) with hm | hm
    · exact h.m m hm
    · rw [List.mem_singleton.1 hm]
      exact hf _ ⟨by simp [U64r], by simp [U64r], by simp [U64r], by simp [U64r], by simp [U64r]⟩
structure RL.R (l : RL) : Prop where
  op : U64r l.op
  pos : U64r l.pos
  wor : U64r l.wor
theorem Dk.R.doSet {D : Dk} (h : D.R) (n : Int) {l : RL} (hl : l.R) : (D.doSet n l).R := by
  unfold Dk.doSet; split
  · exact h
  · exact h.put n _ fun m hm => ⟨hl.op, hl.pos, hl.wor, hm.b, hm.s⟩
theorem Dk.R.doStop {D : Dk} (h : D.R) (n : Int) (k : Bool) : (D.doStop n k).R := by
  unfold Dk.doStop; split
  · exact h.put n _ fun m hm => ⟨hm.op, hm.pos, hm.wor, hm.b, hm.s⟩
  · exact h
theorem Dk.R.del {D : Dk} (h : D.R) (id : Int) : (D.del id).R := ⟨h.m, fun o ho => h.o o ((List.mem_filter.1 ho).1)⟩
theorem Dk.R.less {D : Dk} (h : D.R) (id q : Int) : (D.less id q).R := by
  unfold Dk.less; split
  · exact h
  · split
    · exact h.del id
    · refine ⟨h.m, fun o ho => ?_⟩
      obtain ⟨x, hx, rfl⟩ := List.mem_map.1 (show o ∈ kupd RO.id id (fun o => { o with r := (o.r - q) % 18446744073709551616 }) D.O from ho)
      split
      · show 0 ≤ (x.r - q) % 18446744073709551616 ∧ (x.r - q) % 18446744073709551616 < 18446744073709551616; omega
      · exact h.o x hx
theorem Dk.R.trades {D : Dk} (h : D.R) (id q : Int) (b : Bool) : (D.trades id q b).R := by
  unfold Dk.trades; split
  · exact h
  · refine Dk.R.less (h.put _ _ fun m hm => ?_) id q
    split
    · exact ⟨hm.op, hm.pos, hm.wor, by show 0 ≤ (m.b + q) % 18446744073709551616 ∧ (m.b + q) % 18446744073709551616 < 18446744073709551616; omega, hm.s⟩
    · exact ⟨hm.op, hm.pos, hm.wor, hm.b, by show 0 ≤ (m.s + q) % 18446744073709551616 ∧ (m.s + q) % 18446744073709551616 < 18446744073709551616; omega⟩
theorem Dk.R.ev {D : Dk} (h : D.R) {e : Ev} (he : U64r e.q) : (D.ev e).R := by
  unfold Dk.ev; split
  · split
    · refine ⟨h.m, fun o ho => ?_⟩
      rcases List.mem_append.1 (show o ∈ kdel RO.id e.id D.O ++ [_] from ho) with ho | ho
      · exact h.o o ((List.mem_filter.1 ho).1)
      · rw [List.mem_singleton.1 ho]; exact he
    · exact h.del _
  · split
    · exact (h.trades _ _ _).trades _ _ _
    · split
      · exact h.less _ _
      · exact h
theorem Dk.doStop_O (D : Dk) (n : Int) (k : Bool) : (D.doStop n k).O = D.O := by
  unfold Dk.doStop; split
  · exact Dk.put_O _ _ _
  · rfl
theorem Dk.doStop_len (D : Dk) (n : Int) (k : Bool) : (D.doStop n k).M.length ≤ D.M.length + 1 := by
  unfold Dk.doStop; split
  · exact Dk.put_len _ _ _
  · omega
theorem Dk.doSet_len (D : Dk) (n : Int) (l : RL) : (D.doSet n l).O.length = D.O.length ∧ (D.doSet n l).M.length ≤ D.M.length + 1 := by
  unfold Dk.doSet; split
  · exact ⟨rfl, by omega⟩
  · exact ⟨by unfold Dk.set; rw [Dk.put_O], Dk.put_len _ _ _⟩
theorem Dk.set_pos (D : Dk) (n : Int) (l : RL) : 0 < (D.set n l).membL.length := by
  have h := D.put_find n (fun m => { m with st := true, l := l }) (fun _ => rfl) n
  rw [if_pos rfl] at h
  have hm := kfind_mem RM.n h
  unfold Dk.membL Dk.set
  rw [srt_len, List.length_map]
  exact List.length_pos_of_mem (List.mem_filter.2 ⟨hm, rfl⟩)
/-- an open order of a member -/
theorem Dk.Ok.openL {D : Dk} (h : D.Ok) {n : Int} {i : Nat} (hi : i < (D.openL n).length) : ∃ t, D.ord (D.openL n)[i] = some t ∧ t.mb = n := by
  have hm : (D.openL n)[i] ∈ D.openL n := List.getElem_mem hi
  generalize (D.openL n)[i] = x at hm ⊢
  have h1 : x ∈ (D.O.filter fun o => decide (o.mb = n)).map RO.id := (srt_perm _).mem_iff.1 hm
  obtain ⟨t, ht, rfl⟩ := List.mem_map.1 h1
  obtain ⟨h2, h3⟩ := List.mem_filter.1 ht
  exact ⟨t, kfind_of_mem RO.id h.o h2, by simpa using h3⟩
/-! ### what comes in -/
structure LmT where
  m : Int
  l : RL
abbrev LmT.cells (x : LmT) : List Value := [.int .u32 x.m, .int .u64 x.l.ord, .int .u64 x.l.op, .int .i64 x.l.cnt, .int .u64 x.l.pos, .int .u64 x.l.wor]
structure RSl where
  i : Nat
  D : Dk
  z1 : RZ
  z2 : RZ
abbrev cnc (id m : Int) : Cm := ⟨2, 0, id, m, 0, 0, 0, 0, 0⟩
theorem ahead_own {D : Dk} {id m : Int} {t : RO} (h : D.ord id = some t) (ht : t.mb = m) : D.ahead (cnc id m) = 0 := by
  unfold Dk.ahead aheadP
  rw [h, if_neg (by rintro ⟨_, _, h3⟩; exact h3 ht), if_pos ⟨by show (2 : Int) ≠ 1; decide, by show (2 : Int) ≠ 3; decide⟩]
theorem ahead_other {D : Dk} {id m : Int} {t : RO} (h : D.ord id = some t) (ht : t.mb ≠ m) : D.ahead (cnc id m) = 212 := by
  unfold Dk.ahead aheadP
  rw [h, if_pos ⟨.inl rfl, rfl, ht⟩]
theorem Sg.oks (s : Sg) : V.oks [.i .u64, .i .u64, .i .i64, .i .u64, .i .u64, .b, .i .u64, .i .u64, .i .i64, .i .u64, .i .u64] s.cells := ⟨rfl, rfl, rfl, rfl, rfl, trivial, rfl, rfl, rfl, rfl, rfl, trivial⟩
set_option maxHeartbeats 4000000 in
theorem RiskStill_ok (w : World) (A : Option Addr) (cap : Nat) (L : List LmT) (A2 : Option Addr) (cap2 : Nat) (l : List Ev) (A3 : Option Addr) (cap3 : Nat) (ks : List Cm)
    (hA : Rd w [] A (L.flatMap LmT.cells)) (hL : ∀ x ∈ L, x.l.R ∧ 0 ≤ x.m ∧ x.m < 4294967296) (hA2 : Rd w [] A2 (erows l)) (hE : ∀ e ∈ l, U64r e.q) (hA3 : Rd w [] A3 (ks.flatMap Cm.cells)) (hC : ∀ c ∈ ks, U64r c.q ∧ c.pr ≤ 9223372036854775807)
    (b1 : L.length ≤ 1048576) (b2 : l.length ≤ 1048576) (b3 : ks.length ≤ 1048576) :
    Does Try.prog 3 [.slice A L.length cap, .slice A2 l.length cap2, .slice A3 ks.length cap3] [] w (fun v hs => v = .bool true ∧ hs = []) := by
  refine Does.less (Does.of (n := 185) Try.func3 rfl rfl rfl rfl ?_)
  refine .seq ((.region (.v (.assign rfl) (.nil ?_))))
  refine .seq ((.region (.ef (.call0 rfl rfl fun w s => RNew_ok w) ?_)))
  rintro _ _ ⟨_, ⟨p, rfl, rfl⟩, rfl⟩
  refine .ef (.call0 rfl rfl fun w s => RNew_ok w) ?_
  rintro _ _ ⟨_, ⟨p', rfl, rfl⟩, rfl⟩
  refine .v (.assign rfl) (.v (.assign rfl) (.nil ?_))
  refine .seq (.seq ((.region (.v (.move rfl) (.v (.eql_ptr_nil rfl rfl) (.v (.move rfl) (.or (b2 := false) 24 26 2 2 rfl rfl (fun g1 => .v (.move rfl) (.v (.eql_ptr_nil rfl rfl) (.nil ⟨rfl, rfl, rfl, rfl⟩))) (.nil ?_))))))))
  refine .cond_false rfl (.skip ?_)
  refine .keep (RZ.H p ⟨[], 0, [], 0⟩ ++ RZ.H p' ⟨[], 0, [], 0⟩) ?_
  refine .mid (X := RSl) (fun x => [(0, .slice A L.length cap), (1, .slice A2 l.length cap2), (2, .slice A3 ks.length cap3), (7, .pointer (some ⟨p.b, 0, none⟩)), (8, .pointer (some ⟨p'.b, 0, none⟩))]) (fun x => x.z1.H p ++ x.z2.H p') (fun x => RI x.D x.z1 ∧ RI x.D x.z2 ∧ x.D.R ∧ x.D.O.length = 0 ∧ x.D.M.length ≤ L.length) (.seq ((.region (.v (.assign rfl) (.nil ?_))))) ?_
  · refine .block (.loop (X := RSl) (fun x => [(0, .slice A L.length cap), (1, .slice A2 l.length cap2), (2, .slice A3 ks.length cap3), (7, .pointer (some ⟨p.b, 0, none⟩)), (8, .pointer (some ⟨p'.b, 0, none⟩)), (9, .int .i64 x.i)]) (fun x => x.z1.H p ++ x.z2.H p') (fun x => x.i ≤ L.length ∧ RI x.D x.z1 ∧ RI x.D x.z2 ∧ x.D.R ∧ x.D.O.length = 0 ∧ x.D.M.length ≤ x.i) (fun x => L.length - x.i) ⟨0, Dk.new, ⟨[], 0, [], 0⟩, ⟨[], 0, [], 0⟩⟩ ⟨Nat.zero_le _, RI.new, RI.new, Dk.R.new, rfl, Nat.le_refl _⟩ (.cons rfl (.cons rfl (.cons rfl (.cons rfl (.cons rfl (.cons rfl (.nil _))))))) (fun _ s => s) ?_)
    rintro ⟨i, D, z1, z2⟩ ⟨hi, hI1, hI2, hR, hO, hM⟩
    dsimp only at hi hI1 hI2 hR hO hM ⊢
    refine .seq (.seq ((.region (.v (.move rfl) (.v (.move rfl) (.v (.len rfl) (.v (.lss rfl rfl) (.nil ?_))))))))
    refine .cond_dec rfl (fun h2 => .skip ?_) (fun h2 => .exit ?_)
    case refine_2 => exact ⟨⟨i, D, z1, z2⟩, ⟨hI1, hI2, hR, hO, by show D.M.length ≤ L.length; omega⟩, .cons rfl (.cons rfl (.cons rfl (.cons rfl (.cons rfl (.nil _))))), fun _ s => s⟩
    have hil : i < L.length := by omega
    obtain ⟨ba, oa, rfl, hc⟩ := Rd.recs LmT.cells 6 (fun _ => rfl) hA (by omega) (by omega)
    have qm := fun hs' => fldAt LmT.cells 6 (fun _ => rfl) (z := (i : Int)) (hc hs') hil 0 (v := .int .u32 L[i].m) rfl
    have ql := fun hs' => at_sub (recAt LmT.cells 6 (fun _ => rfl) (z := (i : Int)) (hc hs') hil) (i := 1) (us := L[i].l.cells) (fun j u hj => by match j, hj with | 0, hj => exact hj | 1, hj => exact hj | 2, hj => exact hj | 3, hj => exact hj | 4, hj => exact hj)
    obtain ⟨hl1, hl2⟩ := hL _ (List.getElem_mem hil)
    generalize L[i] = x at qm ql hl1 hl2
    refine .seq (.block (.seq ((.drawP [0, 1, 2, 3, 4, 5, 6, 7, 8, 9, 10, 12, 13, 14, 15, 16, 17, 18, 19, 20, 21, 22, 11, 23, 24] [] (List.nil_subset _) (by kernel_rfl) (by kernel_rfl) ?_))))
    refine .v (fun _ f => .move rfl) (.v (fun _ f => .move rfl) (.v (fun _ f => .move rfl) (.v (fun _ f => .indexAddr rfl rfl (by omega) (by omega)) (.v (fun _ f => .fieldAddr rfl) (.v (fun hs' f => .load (v := .int .u32 x.m) rfl (qm hs')) (.v (fun _ f => .move rfl) (.v (fun _ f => .move rfl) (.v (fun _ f => .indexAddr rfl rfl (by omega) (by omega)) (.v (fun _ f => .fieldAddr rfl) (.v (fun hs' f => .loadA (vs := x.l.cells) rfl (ql hs') rfl) (.v (fun _ f => .move rfl) (.v (fun _ f => .move rfl) (.v (fun _ f => .move rfl) (.v (fun _ f => .indexAddr rfl rfl (by omega) (by omega)) (.v (fun _ f => .fieldAddr rfl) (.v (fun hs' f => .load (v := .int .u32 x.m) rfl (qm hs')) (.v (fun _ f => .move rfl) (.v (fun _ f => .move rfl) (.v (fun _ f => .indexAddr rfl rfl (by omega) (by omega)) (.v (fun _ f => .fieldAddr rfl) (.v (fun hs' f => .loadA (vs := x.l.cells) rfl (ql hs') rfl) ?_)))))))))))))))))))))
    refine .ef (.callT (z1.H p) rfl rfl fun w s => RSet_ok w p D z1 hI1 x.m x.l) (fun _ _ _ _ => List.nil_subset _) ?_
    rintro _ _ ⟨_, ⟨z1', ⟨rfl, hI1'⟩, rfl⟩, rfl⟩
    refine .ef (.callT (z2.H p') rfl rfl fun w s => RSet_ok w p' D z2 hI2 x.m x.l) (fun _ _ _ _ => List.nil_subset _) ?_
    rintro _ _ ⟨_, ⟨z2', ⟨rfl, hI2'⟩, rfl⟩, rfl⟩
    refine .v (fun _ f => .nei rfl rfl) (.nil ?_)
    refine .cond_dec rfl (fun h3 => absurd rfl h3) (fun _ => .skip ?_)
    refine .region (.v (.move rfl) (.v (.addi rfl rfl (by omega)) (.v (.assign rfl) (.nil ?_))))
    have hdl := Dk.doSet_len D x.m x.l
    exact ⟨⟨i + 1, D.doSet x.m x.l, z1', z2'⟩, ⟨hil, hI1', hI2', hR.doSet _ hl1, by show (D.doSet x.m x.l).O.length = 0; omega, by show (D.doSet x.m x.l).M.length ≤ i + 1; omega⟩, by show L.length - (i + 1) < L.length - i; omega, .cons rfl (.cons rfl (.cons rfl (.cons rfl (.cons rfl (.cons rfl (.nil _)))))), fun _ s => s.take⟩
  rintro ⟨i, D, z1, z2⟩ ⟨hI1, hI2, hR, hO, hM⟩
  dsimp only at hI1 hI2 hR hO hM ⊢
  clear i
  refine .mid (X := RSl) (fun x => [(0, .slice A L.length cap), (7, .pointer (some ⟨p.b, 0, none⟩)), (8, .pointer (some ⟨p'.b, 0, none⟩))]) (fun x => x.z1.H p ++ x.z2.H p') (fun x => RI x.D x.z1 ∧ RI x.D x.z2 ∧ x.D.R ∧ x.D.O.length ≤ l.length ∧ x.D.M.length ≤ L.length + 2 * l.length) (.seq ((.region (.v (.assign rfl) (.nil ?_))))) ?_
  · refine .block (.loop (X := RSl) (fun x => [(0, .slice A L.length cap), (1, .slice A2 l.length cap2), (2, .slice A3 ks.length cap3), (7, .pointer (some ⟨p.b, 0, none⟩)), (8, .pointer (some ⟨p'.b, 0, none⟩)), (10, .int .i64 x.i)]) (fun x => x.z1.H p ++ x.z2.H p') (fun x => x.i ≤ l.length ∧ RI x.D x.z1 ∧ RI x.D x.z2 ∧ x.D.R ∧ x.D.O.length ≤ x.i ∧ x.D.M.length ≤ L.length + 2 * x.i) (fun x => l.length - x.i) ⟨0, D, z1, z2⟩ ⟨Nat.zero_le _, hI1, hI2, hR, by show D.O.length ≤ 0; omega, by show D.M.length ≤ L.length + 2 * 0; omega⟩ (.cons rfl (.cons rfl (.cons rfl (.cons rfl (.cons rfl (.cons rfl (.nil _))))))) (fun _ s => s) ?_)
    clear hI1 hI2 hR hO hM
    rintro ⟨i, D, z1, z2⟩ ⟨hi, hI1, hI2, hR, hO, hM⟩
    dsimp only at hi hI1 hI2 hR hO hM ⊢
    refine .seq (.seq ((.region (.v (.move rfl) (.v (.move rfl) (.v (.len rfl) (.v (.lss rfl rfl) (.nil ?_))))))))
    refine .cond_dec rfl (fun h2 => .skip ?_) (fun h2 => .exit ?_)
    case refine_2 => exact ⟨⟨i, D, z1, z2⟩, ⟨hI1, hI2, hR, by show D.O.length ≤ l.length; omega, by show D.M.length ≤ L.length + 2 * l.length; omega⟩, .cons rfl (.cons rfl (.cons rfl (.nil _))), fun _ s => s⟩
    have hil : i < l.length := by omega
    obtain ⟨ba, oa, rfl, hc⟩ := Rd.recs Ev.cells 13 (fun _ => rfl) hA2 (by omega) (by omega)
    have qe := fun hs' => recAt Ev.cells 13 (fun _ => rfl) (z := (i : Int)) (hc hs') hil
    have he := hE _ (List.getElem_mem hil)
    generalize l[i] = e at qe he
    refine .seq (.block (.mid (X := Unit) (fun _ => [(0, .slice A L.length cap), (1, .slice (some ⟨ba, oa, none⟩) l.length cap2), (2, .slice A3 ks.length cap3), (7, .pointer (some ⟨p.b, 0, none⟩)), (8, .pointer (some ⟨p'.b, 0, none⟩)), (10, .int .i64 (i : Nat))]) (fun _ => z1.H p ++ z2.H p') (fun _ => True) (.seq ((.region (.v (.assign rfl) (.nil ?_))))) ?_))
    · refine .block (.loop (X := Nat) (fun j => [(0, .slice A L.length cap), (1, .slice (some ⟨ba, oa, none⟩) l.length cap2), (2, .slice A3 ks.length cap3), (7, .pointer (some ⟨p.b, 0, none⟩)), (8, .pointer (some ⟨p'.b, 0, none⟩)), (10, .int .i64 (i : Nat)), (11, .int .i64 (j : Nat))]) (fun _ => z1.H p ++ z2.H p') (fun j => j ≤ ks.length) (fun j => ks.length - j) 0 (Nat.zero_le _) (.cons rfl (.cons rfl (.cons rfl (.cons rfl (.cons rfl (.cons rfl (.cons rfl (.nil _)))))))) (fun _ s => s) ?_)
      intro j hj
      refine .seq (.seq ((.region (.v (.move rfl) (.v (.move rfl) (.v (.len rfl) (.v (.lss rfl rfl) (.v (.move rfl) (.and (b2 := decide ((j : Int) < 5)) 69 71 2 2 rfl rfl (fun g2 => .v (.move rfl) (.v (.lss rfl rfl) (.nil ⟨rfl, rfl, rfl, rfl⟩))) (.nil ?_))))))))))
      refine .cond rfl (fun h5 => .skip ?_) (fun h5 => .exit ?_)
      case refine_2 => exact ⟨(), trivial, .cons rfl (.cons rfl (.cons rfl (.cons rfl (.cons rfl (.cons rfl (.nil _)))))), fun _ s => s⟩
      have h5' : (j : Int) < (ks.length : Int) := by
        rw [Bool.and_eq_true] at h5; exact of_decide_eq_true h5.1
      have hk : (i + j) % ks.length < ks.length := Nat.mod_lt _ (by omega)
      have ek : Int.tmod ((i : Int) + (j : Int)) (ks.length : Int) = (((i + j) % ks.length : Nat) : Int) := by
        rw [← Int.natCast_add]; rfl
      obtain ⟨bc, oc, rfl, hcC⟩ := Rd.recs Cm.cells 9 (fun _ => rfl) hA3 (by omega) (by omega)
      refine .seq (.block ((.region (.v (.move rfl) (.v (.move rfl) (.v (.move rfl) (.v (.move rfl) (.v (.addi rfl rfl (by omega)) (.v (.move rfl) (.v (.len rfl) (.v (Val.as (.rem rfl rfl (by omega)) (congrArg (Value.int .i64) ek)) ?_)))))))))))
      generalize (i + j) % ks.length = k at hk
      have qc := fun hs' => recAt Cm.cells 9 (fun _ => rfl) (z := (k : Int)) (hcC hs') hk
      obtain ⟨c1, c2⟩ := hC _ (List.getElem_mem hk)
      generalize ks[k] = c at qc c1 c2
      refine .v (.indexAddr rfl rfl (by omega) (by omega)) (.v (.loadA (vs := c.cells) rfl (qc _) rfl) ?_)
      refine .ef (.callT (z1.H p) rfl rfl fun w s => RAhead_ok w p D z1 hI1 hR c (by omega) c1 c2) ?_
      rintro _ _ ⟨_, ⟨rfl, rfl⟩, rfl⟩
      refine .nil ?_
      refine .region (.v (.move rfl) (.v (.addi rfl rfl (by omega)) (.v (.assign rfl) (.nil ?_))))
      exact ⟨j + 1, by show j + 1 ≤ _; omega, by omega, .cons rfl (.cons rfl (.cons rfl (.cons rfl (.cons rfl (.cons rfl (.cons rfl (.nil _))))))), fun _ s => s.take⟩
    rintro ⟨⟩ -
    try dsimp only
    have hev := D.ev_len e
    have oe : ∀ be : Nat, OwnS 40 13 (.slice (some ⟨be, 0, none⟩) 1 1) 1 (erows [e]) [(be, .cells e.cells 40)] := fun be => ⟨rfl, .inr ⟨be, 0, 1, e.cells, rfl, rfl, Nat.le_refl _, Nat.le_refl _, rfl⟩⟩
    refine .seq ((.region (.v (.move rfl) (.v (.move rfl) (.v (.move rfl) (.v (.indexAddr rfl rfl (by omega) (by omega)) (.v (.loadA (vs := e.cells) rfl (qe _) rfl) (.ef (.buildSlice (out := e.cells) rfl (by decide) rfl rfl) ?_))))))))
    rintro _ _ ⟨be, rfl, rfl⟩
    refine .ef (.callT (z1.H p) rfl rfl fun w s => RBehind_ok w p D z1 hI1 [e] _ 1 (OwnS.rd (oe be) s (fun y hy => by simp at hy; subst hy; simp) (Sat.apart (a := [(be, .cells e.cells 40)]) (b := z1.H p) s)) (by simp)) ?_
    rintro _ _ ⟨_, ⟨z1', hI1', rfl⟩, rfl⟩
    refine .nil ?_
    refine .keep (z1'.H p ++ z2.H p') ?_
    refine (.region (.v (.move rfl) (.v (.move rfl) (.v (.move rfl) (.v (.indexAddr rfl rfl (by omega) (by omega)) (.v (.loadA (vs := e.cells) rfl (qe _) rfl) (.ef (.buildSlice (out := e.cells) rfl (by decide) rfl rfl) ?_)))))))
    rintro _ _ ⟨be', rfl, rfl⟩
    refine .ef (.callT (z2.H p') rfl rfl fun w s => RBehind_ok w p' D z2 hI2 [e] _ 1 (OwnS.rd (oe be') s (fun y hy => by simp at hy; subst hy; simp) (Sat.apart (a := [(be', .cells e.cells 40)]) (b := z2.H p') s)) (by simp)) ?_
    rintro _ _ ⟨_, ⟨z2', hI2', rfl⟩, rfl⟩
    refine .nil ?_
    refine .region (.v (.move rfl) (.v (.addi rfl rfl (by omega)) (.v (.assign rfl) (.nil ?_))))
    exact ⟨⟨i + 1, D.ev e, z1', z2'⟩, ⟨hil, hI1', hI2', hR.ev he, by show (D.ev e).O.length ≤ i + 1; omega, by show (D.ev e).M.length ≤ L.length + 2 * (i + 1); omega⟩, by show l.length - (i + 1) < l.length - i; omega, .cons rfl (.cons rfl (.cons rfl (.cons rfl (.cons rfl (.cons rfl (.nil _)))))), fun _ s => s.take⟩
  clear hI1 hI2 hR hO hM
  rintro ⟨i, D, z1, z2⟩ ⟨hI1, hI2, hR, hO, hM⟩
  dsimp only at hI1 hI2 hR hO hM ⊢
  clear i
  refine .mid (X := RSl) (fun x => [(7, .pointer (some ⟨p.b, 0, none⟩))]) (fun x => x.z1.H p) (fun x => RI x.D x.z1 ∧ x.D.M.length ≤ 100000000) (.seq ((.region (.v (.assign rfl) (.nil ?_))))) ?_
  · refine .block (.loop (X := RSl) (fun x => [(0, .slice A L.length cap), (7, .pointer (some ⟨p.b, 0, none⟩)), (8, .pointer (some ⟨p'.b, 0, none⟩)), (12, .int .i64 x.i)]) (fun x => x.z1.H p ++ x.z2.H p') (fun x => x.i ≤ L.length ∧ RI x.D x.z1 ∧ RI x.D x.z2 ∧ x.D.R ∧ x.D.O.length ≤ l.length ∧ x.D.M.length ≤ L.length + 2 * l.length + x.i) (fun x => L.length - x.i) ⟨0, D, z1, z2⟩ ⟨Nat.zero_le _, hI1, hI2, hR, hO, by show D.M.length ≤ L.length + 2 * l.length + 0; omega⟩ (.cons rfl (.cons rfl (.cons rfl (.cons rfl (.nil _))))) (fun _ s => s) ?_)
    clear hI1 hI2 hR hO hM
    rintro ⟨i, D, z1, z2⟩ ⟨hi, hI1, hI2, hR, hO, hM⟩
    dsimp only at hi hI1 hI2 hR hO hM ⊢
    refine .seq (.seq ((.region (.v (.move rfl) (.v (.move rfl) (.v (.len rfl) (.v (.lss rfl rfl) (.nil ?_))))))))
    refine .cond_dec rfl (fun h2 => .skip ?_) (fun h2 => .exit ?_)
    case refine_2 => exact ⟨⟨i, D, z1, z2⟩, ⟨hI1, by show D.M.length ≤ 100000000; omega⟩, .cons rfl (.nil _), fun _ s => s.take⟩
    have hil : i < L.length := by omega
    obtain ⟨ba, oa, rfl, hc⟩ := Rd.recs LmT.cells 6 (fun _ => rfl) hA (by omega) (by omega)
    have qm := fun hs' => fldAt LmT.cells 6 (fun _ => rfl) (z := (i : Int)) (hc hs') hil 0 (v := .int .u32 L[i].m) rfl
    obtain ⟨-, hm1, hm2⟩ := hL _ (List.getElem_mem hil)
    generalize L[i].m = m at qm hm1 hm2
    refine .seq (.block (.seq ((.region (.v (.move rfl) (.v (.move rfl) (.v (.indexAddr rfl rfl (by omega) (by omega)) (.v (.fieldAddr rfl) (.v (.load (v := .int .u32 m) rfl (qm _)) (.v (.assign rfl) (.nil ?_)))))))))))
    have hS1 := fun w => RStanding_ok w p D z1 hI1 m (by omega)
    have hS2 := fun w => RStanding_ok w p' D z2 hI2 m (by omega)
    unfold Dk.standV at hS1 hS2
    generalize (if (D.mem m).st then D.stand m else sg0) = S at hS1 hS2
    generalize (D.mem m).st = st at hS1 hS2
    refine .seq ((.region (.v (.move rfl) (.v (.move rfl) ?_))))
    refine .ef (.callT (z1.H p) rfl rfl fun w s => hS1 w) ?_
    rintro _ _ ⟨_, ⟨rfl, rfl⟩, rfl⟩
    refine .v (.move rfl) (.v (.extract rfl rfl) (.v (.extract rfl rfl) (.nw .alloc fun b14 => (.st (.sw rfl rfl) (.v (.assign rfl) (.nil ?_))))))
    refine .seq ((.region (.v (.move rfl) (.v (.move rfl) ?_))))
    refine .ef (.callT (z2.H p') rfl rfl fun w s => hS2 w) ?_
    rintro _ _ ⟨_, ⟨rfl, rfl⟩, rfl⟩
    refine .v (.move rfl) (.v (.extract rfl rfl) (.v (.extract rfl rfl) (.nw .alloc fun b16 => (.st (.sw rfl rfl) (.v (.assign rfl) (.nil ?_))))))
    refine .seq ((.region (.v (.move rfl) (.v (.move rfl) ?_))))
    refine .ef (.callT (z1.H p) rfl rfl fun w s => ROpen_ok w p D z1 hI1 m (by omega)) ?_
    rintro v _ ⟨_, ⟨ha, o1, rfl⟩, rfl⟩
    obtain ⟨Aa, ka, rfl⟩ := OwnS.slice o1
    refine .v (.assign rfl) (.nil ?_)
    have hlen : (D.openL m).length ≤ D.O.length := by
      unfold Dk.openL; rw [srt_len, List.length_map]; exact List.length_filter_le ..
    have hmem := fun j hj => hI1.ok.openL (n := m) (i := j) hj
    refine .keep ((b16, .cells S.cells 42) :: (b14, .cells S.cells 42) :: (ha ++ (z1.H p ++ z2.H p'))) ?_
    refine .seq (.seq ((.region (.v (.loadA (vs := S.cells) rfl .whole rfl) (.v (.loadA (vs := S.cells) rfl .whole rfl) (.v (Val.as (v' := .bool false) (.neA rfl rfl (Sg.oks S) (Sg.oks S)) (by rw [(cellsEq_iff (Sg.oks S) (Sg.oks S)).2 rfl]; rfl)) (.v (.move rfl) (.or (b2 := false) 129 132 3 3 rfl rfl (fun g3 => .v (.move rfl) (.v (.move rfl) (.v (Val.as (v' := .bool false) (.neb rfl rfl) (by simp)) (.nil ⟨rfl, rfl, rfl, rfl⟩)))) (.v (.move rfl) (.v (.move rfl) (.v (.move rfl) (.v (.move rfl) ?_))))))))))))
    refine .ef (.callT (z2.H p') rfl rfl fun w s => ROpen_ok w p' D z2 hI2 m (by omega)) ?_
    rintro v _ ⟨_, ⟨hb, o2, rfl⟩, rfl⟩
    obtain ⟨Ab, kb, rfl⟩ := OwnS.slice o2
    refine .pc (v := .bool true) rfl rfl (fun w s => numbers_ok w Aa Ab (D.openL m).length ka kb (D.openL m) (OwnS.rd o1 s (no := []) (fun y hy => by simp [hy]) (by simp)) (OwnS.rd o2 s (no := []) (fun y hy => by simp [hy]) (by simp)) rfl (by omega)) (.v (.not rfl) (.v (.pickF rfl rfl rfl) (.nil ?_)))
    refine .cond_false rfl (.skip ?_)
    clear o2
    refine .keep (ha ++ (z1.H p ++ z2.H p')) ?_
    refine .seq ((.region (.v (.move rfl) (.v (.move rfl) ?_))))
    refine .ef (.callT (z1.H p) rfl rfl fun w s => RKill_ok w p D z1 hI1 m (by omega)) ?_
    rintro _ _ ⟨_, ⟨z1', v1, h1, ⟨rfl, -, hI1'⟩, rfl⟩, rfl⟩
    refine .nil ?_
    refine .keep (ha ++ (z1'.H p ++ z2.H p')) ?_
    refine .seq ((.region (.v (.move rfl) (.v (.move rfl) ?_))))
    refine .ef (.callT (z2.H p') rfl rfl fun w s => RKill_ok w p' D z2 hI2 m (by omega)) ?_
    rintro _ _ ⟨_, ⟨z2', v2, h2', ⟨rfl, -, hI2'⟩, rfl⟩, rfl⟩
    refine .nil ?_
    refine .keep (ha ++ (z1'.H p ++ z2'.H p')) ?_
    have hR' := hR.doStop m true
    have hO' : (D.doStop m true).O = D.O := Dk.doStop_O ..
    have hM' := D.doStop_len m true
    have hord : ∀ id, (D.doStop m true).ord id = D.ord id := fun id => by unfold Dk.ord; rw [hO']
    generalize D.openL m = ids at o1 hlen hmem
    have hlo : (D.doStop m true).O.length = D.O.length := by rw [hO']
    generalize D.doStop m true = D' at hI1' hI2' hR' hlo hM' hord
    refine .seq ((.region (.v (.assign rfl) (.nil ?_))))
    refine .block (.loop (X := Nat) (fun j => [(0, .slice (some ⟨ba, oa, none⟩) L.length cap), (7, .pointer (some ⟨p.b, 0, none⟩)), (8, .pointer (some ⟨p'.b, 0, none⟩)), (12, .int .i64 (i : Nat)), (13, .int .u32 m), (18, .slice Aa ids.length ka), (19, .int .i64 (j : Nat))]) (fun _ => ha ++ (z1'.H p ++ z2'.H p')) (fun j => j ≤ ids.length) (fun j => ids.length - j) 0 (Nat.zero_le _) (.cons rfl (.cons rfl (.cons rfl (.cons rfl (.cons rfl (.cons rfl (.cons rfl (.nil _)))))))) (fun _ s => s) ?_)
    intro j hj
    refine .seq (.seq ((.region (.v (.move rfl) (.v (.move rfl) (.v (.len rfl) (.v (.lss rfl rfl) (.nil ?_))))))))
    refine .cond_dec rfl (fun h8 => .skip ?_) (fun h8 => .exit ?_)
    case refine_2 =>
      refine .region (.v (.move rfl) (.v (.addi rfl rfl (by omega)) (.v (.assign rfl) (.nil ?_))))
      exact ⟨⟨i + 1, D', z1', z2'⟩, ⟨hil, hI1', hI2', hR', by show D'.O.length ≤ l.length; omega, by show D'.M.length ≤ L.length + 2 * l.length + (i + 1); omega⟩, by show L.length - (i + 1) < L.length - i; omega, .cons rfl (.cons rfl (.cons rfl (.cons rfl (.nil _)))), fun _ s => s.take⟩
    have hjl : j < ids.length := by omega
    obtain ⟨t, ht1, ht2⟩ := hmem j hjl
    obtain ⟨bi, oi, li, rfl, -, rfl, hci, hli, -⟩ := OwnS.some_ o1 (by omega)
    have q1 := fun hs' hsub => OwnS.at1 (w0 := w) (own := []) (hs := hs') o1 hsub (ints_at hjl)
    rw [← hord] at ht1
    generalize ids[j] = x at q1 ht1
    have hw : IntKind.u32.wrap (m + 1) ≠ m := by simp [IntKind.wrap, IntKind.signed, IntKind.bits]; omega
    have hA1 := fun w => RAhead_ok w p D' z1' hI1' hR' (cnc x m) (by omega) ⟨by show (0 : Int) ≤ 0; omega, by show (0 : Int) < 18446744073709551616; omega⟩ (by show (0 : Int) ≤ 9223372036854775807; omega)
    have hA2' := fun w => RAhead_ok w p D' z1' hI1' hR' (cnc x (IntKind.u32.wrap (m + 1))) (by omega) ⟨by show (0 : Int) ≤ 0; omega, by show (0 : Int) < 18446744073709551616; omega⟩ (by show (0 : Int) ≤ 9223372036854775807; omega)
    rw [ahead_own ht1 ht2] at hA1
    rw [ahead_other ht1 (by rw [ht2]; exact fun e => hw e.symm)] at hA2'
    refine .seq (.block (.seq ((.region (.v (.move rfl) (.v (.move rfl) (.v (.move rfl) (.v (.indexN j rfl rfl (by omega)) (.v (.load (v := .int .u64 x) rfl (q1 _ (fun y hy => by simp at hy; subst hy; simp))) (.v (.move rfl) (.v (.build (out := (cnc x m).cells) rfl rfl) ?_)))))))))))
    refine .ef (.callT (z1'.H p) rfl rfl fun w s => hA1 w) ?_
    rintro _ _ ⟨_, ⟨rfl, rfl⟩, rfl⟩
    refine .v (.no (.nei rfl rfl) (by decide)) (.v (.move rfl) (.v (.move rfl) (.v (.move rfl) (.v (.move rfl) (.v (.indexN j rfl rfl (by omega)) (.v (.load (v := .int .u64 x) rfl (q1 _ (fun y hy => by simp at hy; subst hy; simp))) (.v (.move rfl) (.v (.add rfl rfl) (.v (.build (out := (cnc x (IntKind.u32.wrap (m + 1))).cells) rfl rfl) ?_)))))))))
    refine .ef (.callT (z1'.H p) rfl rfl fun w s => hA2' w) ?_
    rintro _ _ ⟨_, ⟨rfl, rfl⟩, rfl⟩
    refine .v (.no (.nei rfl rfl) (by decide)) (.v (.pickF rfl rfl rfl) (.nil ?_))
    refine .cond_false rfl (.skip ?_)
    refine .region (.v (.move rfl) (.v (.addi rfl rfl (by omega)) (.v (.assign rfl) (.nil ?_))))
    exact ⟨j + 1, by show j + 1 ≤ _; omega, by omega, .cons rfl (.cons rfl (.cons rfl (.cons rfl (.cons rfl (.cons rfl (.cons rfl (.nil _))))))), fun _ s => s.take⟩
  clear hI1 hI2 hR hO hM
  rintro ⟨i, D, z1, z2⟩ ⟨hI1, hM⟩
  dsimp only at hI1 hM ⊢
  clear i
  have hset : D.doSet 3 rl0 = D.set 3 rl0 := if_neg (by decide)
  have hpos := D.set_pos 3 rl0
  have hl3 := D.doSet_len 3 rl0
  rw [hset] at hl3
  refine .seq ((.region (.v (.move rfl) (.v (.build (out := rl0.cells) rfl rfl) ?_))))
  refine .ef (.callT (z1.H p) rfl rfl fun w s => RSet_ok w p D z1 hI1 3 rl0) ?_
  rintro _ _ ⟨_, ⟨z1', ⟨rfl, hI'⟩, rfl⟩, rfl⟩
  rw [hset] at hI'
  refine .v (.yes (.eqi rfl rfl) (by decide)) (.v (.move rfl) (.v (.move rfl) ?_))
  refine .ef (.callT (z1'.H p) rfl rfl fun w s => RMembers_ok w p _ z1' hI' (by omega)) ?_
  rintro v _ ⟨_, ⟨hm, om, rfl⟩, rfl⟩
  obtain ⟨Am, km, rfl⟩ := OwnS.slice om
  refine .v (.len rfl) (.v (.yes (.gtr rfl rfl) (by omega)) (.v (.pickT rfl rfl rfl) (.v (.assign rfl) (.nil ?_))))
  exact .ret ⟨[_], ⟨rfl, trivial⟩, [], fun _ s => s.sub (List.nil_sublist _), rfl, rfl⟩
end Go.Proofs.Ytfajjkolhajldaa

/- (*Book).rests: an order goes behind all others at its price. -/
namespace Go.Proofs.Ytfajjkolhajldaa
open Go.V
set_option linter.unusedVariables false
set_option linter.unusedSimpArgs false

/-- a side that is somebody's own -/
abbrev Side (v : Value) (l : List Ord) (h : Hp) : Prop := OwnS 125 7 v l.length (rows l) h
/-- where an order of a price comes to stand -/
def rpos (s pr : Int) : List Ord → Nat
  | [] => 0
  | x :: l => if bet s pr x.pr && l.all (fun x => bet s pr x.pr) then 0 else rpos s pr l + 1
theorem rpos_eq {s pr : Int} : ∀ (l : List Ord) (p : Nat), p ≤ l.length → (∀ m, (hm : m < l.length) → p ≤ m → bet s pr l[m].pr = true) → (∀ m, (hm : m < l.length) → m + 1 = p → bet s pr l[m].pr = false) → rpos s pr l = p
  | [], p, hp, _, _ => by simp at hp; simp [rpos, hp]
  | x :: l, p, hp, h1, h2 => by
    cases p with
    | zero =>
      have hx := h1 0 (by simp) (Nat.zero_le _)
      have hl : l.all (fun x => bet s pr x.pr) = true := by
        rw [List.all_eq_true]
        intro y hy
        obtain ⟨i, hi, rfl⟩ := List.mem_iff_getElem.1 hy
        exact h1 (i + 1) (by simpa using hi) (Nat.zero_le _)
      have hx : bet s pr x.pr = true := hx
      simp [rpos, hx, hl]
    | succ p =>
      have ih := rpos_eq l p (by simpa using hp) (fun m hm hpm => h1 (m + 1) (by simpa using hm) (by omega)) (fun m hm e => h2 (m + 1) (by simpa using hm) (by omega))
      have hf : (bet s pr x.pr && l.all (fun x => bet s pr x.pr)) = false := by
        cases p with
        | zero =>
          have : bet s pr x.pr = false := h2 0 (by simp) rfl
          simp [this]
        | succ p =>
          have hlt : p < l.length := by simp at hp; omega
          have : bet s pr l[p].pr = false := h2 (p + 1) (by simp; omega) rfl
          rw [Bool.and_eq_false_iff]
          refine .inr ?_
          rw [Bool.eq_false_iff]
          intro ha
          rw [List.all_eq_true] at ha
          have := ha l[p] (List.getElem_mem hlt)
          simp_all
      simp only [rpos]
      rw [hf, ih]; rfl
theorem rpos_le (s pr : Int) : ∀ (l : List Ord), rpos s pr l ≤ l.length
  | [] => Nat.le_refl _
  | x :: l => by
    have := rpos_le s pr l
    unfold rpos; split <;> simp <;> omega
/-- a side with an order put in -/
def rst (s : Int) (o : Ord) (l : List Ord) : List Ord := l.take (rpos s o.pr l) ++ [o] ++ l.drop (rpos s o.pr l)
theorem rst_length (s : Int) (o : Ord) (l : List Ord) : (rst s o l).length = l.length + 1 := by
  have := rpos_le s o.pr l
  simp [rst]; omega
theorem rows_take (l : List Ord) (k : Nat) : (rows l).take (k * 7) = rows (l.take k) := by
  induction l generalizing k with
  | nil => simp [rows]
  | cons x l ih =>
    cases k with
    | zero => simp [rows]
    | succ k =>
      rw [List.take_succ_cons, show rows (x :: l) = x.cells ++ rows l from rfl, show rows (x :: l.take k) = x.cells ++ rows (l.take k) from rfl, List.take_append, List.take_of_length_le (by simp [Ord.cells, rcells]; omega), show (k + 1) * 7 - x.cells.length = k * 7 from by simp [Ord.cells, rcells]; omega, ih]
theorem rows_drop (l : List Ord) (k : Nat) : (rows l).drop (k * 7) = rows (l.drop k) := by
  have h1 : rows l = rows (l.take k) ++ rows (l.drop k) := by rw [← rows_app, List.take_append_drop]
  have h2 := rows_take l k
  have h3 := List.take_append_drop (k * 7) (rows l)
  rw [h2] at h3
  exact List.append_cancel_left (h3.trans h1)
set_option maxRecDepth 10000 in
theorem rests_ok (w : World) (b i : Nat) (s : Int) (hsi : s = 1 ∧ i = 2 ∨ s = 2 ∧ i = 3) (L : List Value) (hlen : L.length = 6) (o : Ord) (l : List Ord) (v : Value) (k : Hp) (hL : L[i]? = some v) (ho : Side v l k) (hn : l.length + 1 ≤ 2513169434843) :
    Does Try.prog 83 [.pointer (some ⟨b, 0, none⟩), .int .i64 s, .agg ⟨o.cells⟩] (Tb b L :: k) w
      (fun _ hs => ∃ v' k', hs = Tb b (L.set i v') :: k' ∧ Side v' (rst s o l) k') := by
  obtain ⟨A, c, rfl⟩ := OwnS.sl ho
  have hside : (if s = 1 then some (⟨b, 2, none⟩ : Addr) else if s = 2 then some ⟨b, 3, none⟩ else none) = some ⟨b, i, none⟩ := by
    rcases hsi with ⟨rfl, rfl⟩ | ⟨rfl, rfl⟩ <;> rfl
  refine Does.less (Does.of (n := 42) Try.func83 rfl rfl rfl rfl ?_)
  refine .seq ((.region (.nw (.box (l := o.cells) rfl rfl) fun b5 => (.nil ?_))))
  refine .seq ((.region (.v (.move rfl) (.v (.move rfl) (.pc (v := .pointer (some ⟨b, i, none⟩)) rfl rfl (fun w' _ => hside ▸ side_ok w' b s) (.v (.assign rfl) (.nil ?_)))))))
  refine .seq ((.region (.v (.move rfl) (.v (.nilCheck rfl) (.v (.load (v := .slice A l.length c) rfl (.one hL)) (.v (.len rfl) (.v (.assign rfl) (.nil ?_))))))))
  refine .seq (.block (.loop (X := Nat) (fun p => [(1, .int .i64 s), (5, .pointer (some ⟨b5, 0, none⟩)), (6, .pointer (some ⟨b, i, none⟩)), (7, .int .i64 p)]) (fun _ => (b5, .cells o.cells 125) :: Tb b L :: k) (fun p => p ≤ l.length ∧ ∀ m, (hm : m < l.length) → p ≤ m → bet s o.pr l[m].pr = true) (fun p => p) l.length ⟨Nat.le_refl _, fun m hm h => by omega⟩
    (.cons rfl (.cons rfl (.cons rfl (.cons rfl (.nil _))))) (fun _ s => s) ?_))
  rintro p ⟨hp, hP⟩
  have ep : (∀ m, (hm : m < l.length) → m + 1 = p → bet s o.pr l[m].pr = false) → rpos s o.pr l = p := fun h => rpos_eq l p hp hP h
  cases p with
  | zero =>
    refine .seq (.seq ((.drawK _ (fun _ h => h) (by kernel_rfl) (by kernel_rfl) ?_)))
    refine .v (fun _ f => .move rfl) (.v (fun _ f => .gtr rfl rfl) (.v (fun _ f => .move rfl) (.and (b2 := false) 17 29 12 12 rfl rfl (fun g => absurd g (by simp)) (.nil ?_))))
    refine .cond rfl (fun h => absurd h (by simp)) (fun _ => .exit ?_)
    have er := ep (fun m hm e => by omega)
    refine (.drawQ 9 [0, 1, 2, 3, 4, 5, 6, 7, 8, 9] [(b5, .cells o.cells 125), Tb b L] (by intro p hp; simp at hp ⊢; rcases hp with rfl | rfl <;> simp) (by kernel_rfl) (by kernel_rfl) ?_)
    refine .v (fun _ f => .move rfl) (.v (fun _ f => .move rfl) (.v (fun _ f => .nilCheck rfl) (.v (fun _ f => .load (v := .slice A l.length c) rfl (.one (b := b) (l := L) (T := 117) (hb := .sub f) hL)) (.v (fun _ f => .move rfl) (.v (fun _ f => .loadA (vs := o.cells) rfl (.whole (hb := .sub f)) rfl) ?_)))))
    refine .ef (.buildSlice (out := o.cells) rfl (by decide) rfl rfl) (fun v hs' ⟨b, _, e⟩ f => by subst e; exact fun p hp => List.mem_cons_of_mem _ (f hp)) ?_
    rintro _ _ ⟨nb, rfl, rfl⟩
    refine .ef (.call (R := fun v hs => OwnS 125 7 v (l.length + 1) ((rows l).take (0 * 7) ++ o.cells ++ (rows l).drop (0 * 7)) hs) (pre := k ++ [(nb, Ch.cells o.cells 125)]) (fr := [(b5, .cells o.cells 125), Tb b L]) rfl rfl (by rw [List.append_assoc]; exact List.perm_append_comm (l₁ := [_, _, _])) (fun w' s' => insert_ok w' A l.length c 0 nb (rows l) o.cells k ho (by omega) hn (rows_ones l) rfl rfl)) (fun v hs' ⟨h, _, e⟩ _ => by subst e; exact fun p hp => List.mem_append_right _ hp) ?_
    rintro v' _ ⟨k', o', rfl⟩
    obtain ⟨A', c', rfl⟩ := OwnS.sl o'
    refine .v (fun _ f => .nilCheck rfl) (.st (.store rfl rfl rfl (by rw [hlen]; omega)) (.nil ?_))
    refine ⟨[], trivial, Tb b (L.set i (.slice A' (l.length + 1) c')) :: k', fun _ s' => ?_, _, k', rfl, ?_⟩
    · exact (s'.perm (List.perm_append_comm (l₁ := k'))).sub (.cons _ (.refl _))
    · unfold Side
      rw [rst_length, rst, er, rows_app, rows_app]
      rw [rows_take, rows_drop] at o'
      simpa [rows] using o'
  | succ q =>
    have hq : q < l.length := by omega
    have eq : (((q + 1 : Nat) : Int) - 1).toNat = q := by omega
    obtain ⟨bk, ok, lk, rfl, -, rfl, -, -, -⟩ := ho.some_ (by omega)
    have hbt : ∀ w', Is Try.prog 92 [.int .i64 s, .int .i64 o.pr, .int .i64 l[q].pr] w' (.bool (bet s o.pr l[q].pr)) := fun w' => better_ok w' s o.pr l[q].pr
    generalize hpr : l[q].pr = pq at hbt
    have hat : ∀ hs', ((b5, Ch.cells o.cells 125) :: Tb b L :: [(bk, Ch.cells lk 125)]) ⊆ hs' → At w (bl (Tb b L :: [(bk, Ch.cells lk 125)])) hs' ⟨bk, ok + q * 7 + 3, none⟩ [.int .i64 pq] := fun hs' f => by
      rw [← hpr]; rw [Nat.add_assoc]; exact ho.at1 (fun p hp => f (by simp at hp ⊢; simp [hp])) (by rw [rows_get l q 3 hq (by omega)]; rfl)
    refine .seq (.seq ((.drawK _ (fun _ h => h) (by kernel_rfl) (by kernel_rfl) ?_)))
    refine .v (fun _ f => .move rfl) (.v (fun _ f => .gtr rfl rfl) (.v (fun _ f => .move rfl) (.and 17 29 12 12 rfl rfl (fun g1 => .v (fun _ f => .move rfl) (.v (fun _ f => .fieldAddr rfl) (.v (fun _ f => .load (v := .int .i64 o.pr) rfl (.one (hb := .sub f) rfl)) (.v (fun _ f => .move rfl) (.v (fun _ f => .nilCheck rfl) (.v (fun _ f => .load (v := .slice (some ⟨bk, ok, none⟩) l.length c) rfl (.one (hb := .sub f) hL)) (.v (fun _ f => .move rfl) (.v (fun _ f => .subE (q : Int) rfl rfl (by omega) (by omega)) (.v (fun _ f => .indexAddr rfl rfl (by omega) (by omega)) (.v (fun _ f => .fieldAddr rfl) (.v (fun _ f => .load (v := .int .i64 pq) rfl (hat _ f)) (.pc (v := .bool (bet s o.pr pq)) rfl rfl (fun w _ => hbt w) (.nil ⟨rfl, rfl, rfl, rfl⟩))))))))))))) (.nil ?_))))
    refine .cond rfl (fun h1 => .skip ?_) (fun h1 => .exit ?_)
    · have h1' : bet s o.pr l[q].pr = true := by rw [hpr]; simpa using h1
      refine .block ((.region (.v (.move rfl) (.v (.subi rfl rfl (by omega)) (.v (.assign rfl) (.nil ?_))))))
      refine ⟨q, ⟨by omega, fun m hm hqm => ?_⟩, by omega, .cons rfl (.cons rfl (.cons rfl (.cons (by rw [show ((q + 1 : Nat) : Int) - 1 = q from by omega]; rfl) (.nil _)))), fun _ s => s⟩
      by_cases e : m = q
      · subst e; exact h1'
      · exact hP m hm (by omega)
    · have h1' : bet s o.pr l[q].pr = false := by rw [hpr]; simpa using h1
      have er := ep (fun m hm e => by obtain rfl : m = q := (by omega); exact h1')
      refine (.drawQ 9 [0, 1, 2, 3, 4, 5, 6, 7, 8, 9] [(b5, .cells o.cells 125), Tb b L] (by intro p hp; simp at hp ⊢; rcases hp with rfl | rfl <;> simp) (by kernel_rfl) (by kernel_rfl) ?_)
      refine .v (fun _ f => .move rfl) (.v (fun _ f => .move rfl) (.v (fun _ f => .nilCheck rfl) (.v (fun _ f => .load (v := .slice (some ⟨bk, ok, none⟩) l.length c) rfl (.one (b := b) (l := L) (T := 117) (hb := .sub f) hL)) (.v (fun _ f => .move rfl) (.v (fun _ f => .loadA (vs := o.cells) rfl (.whole (hb := .sub f)) rfl) ?_)))))
      refine .ef (.buildSlice (out := o.cells) rfl (by decide) rfl rfl) (fun v hs' ⟨b, _, e⟩ f => by subst e; exact fun p hp => List.mem_cons_of_mem _ (f hp)) ?_
      rintro _ _ ⟨nb, rfl, rfl⟩
      refine .ef (.call (R := fun v hs => OwnS 125 7 v (l.length + 1) ((rows l).take ((q + 1) * 7) ++ o.cells ++ (rows l).drop ((q + 1) * 7)) hs) (pre := [(bk, Ch.cells lk 125)] ++ [(nb, Ch.cells o.cells 125)]) (fr := [(b5, .cells o.cells 125), Tb b L]) rfl rfl (by rw [List.append_assoc]; exact List.perm_append_comm (l₁ := [_, _, _])) (fun w' s' => insert_ok w' (some ⟨bk, ok, none⟩) l.length c (q + 1) nb (rows l) o.cells [(bk, Ch.cells lk 125)] ho (by omega) hn (rows_ones l) rfl rfl)) (fun v hs' ⟨h, _, e⟩ _ => by subst e; exact fun p hp => List.mem_append_right _ hp) ?_
      rintro v' _ ⟨k', o', rfl⟩
      obtain ⟨A', c', rfl⟩ := OwnS.sl o'
      refine .v (fun _ f => .nilCheck rfl) (.st (.store rfl rfl rfl (by rw [hlen]; omega)) (.nil ?_))
      refine ⟨[], trivial, Tb b (L.set i (.slice A' (l.length + 1) c')) :: k', fun _ s' => ?_, _, k', rfl, ?_⟩
      · exact (s'.perm (List.perm_append_comm (l₁ := k'))).sub (.cons _ (.refl _))
      · unfold Side
        rw [rst_length, rst, er, rows_app, rows_app]
        rw [rows_take, rows_drop] at o'
        simpa [rows] using o'
end Go.Proofs.Ytfajjkolhajldaa

/- Trading: its states; (*teller).meets. -/
namespace Go.Proofs.Ytfajjkolhajldaa
open Go.V
set_option linter.unusedVariables false
set_option linter.unusedSimpArgs false

/-- where trading stands: the other side, what is left, the last number, what was told -/
structure TS where
  L : List Ord
  left : Int
  seq : Int
  evs : List Ev
def ev0 : Ev := ⟨0, 0, 0, 0, 0, 0, 0, 0, 0, 0, 0, 0, 0⟩
def evCancel (id q reason : Int) : Ev := ⟨0, 4, id, 0, 0, 0, 0, 0, 0, q, 0, reason, 0⟩
def evTrade (id other sd pr q : Int) : Ev := ⟨0, 3, id, other, 0, 0, sd, 0, pr, q, 0, 0, 0⟩
def evRefresh (id pr q : Int) : Ev := ⟨0, 5, id, 0, 0, 0, 0, 0, pr, q, 0, 0, 0⟩
def TS.tell (s : TS) (e : Ev) : TS := ⟨s.L, s.left, nx s.seq, s.evs ++ [e.num (nx s.seq)]⟩
def TS.meets (meet : Int) (t : Tk) (f : Ord) (rest : List Ord) (s : TS) : TS :=
  let s1 := if meet = 1 then s else (⟨rest, s.left, s.seq, s.evs⟩ : TS).tell (evCancel f.id (f.v + f.hd) 5)
  if meet = 2 then s1 else ⟨s1.L, 0, (s1.tell (evCancel t.o.id s1.left 5)).seq, (s1.tell (evCancel t.o.id s1.left 5)).evs⟩

/-- a book's cells: one side is 'mine' -/
abbrev BL (i : Nat) (x0 x1 m o x4 q : Value) : List Value := [x0, x1, if i = 2 then m else o, if i = 2 then o else m, x4, q]
theorem BL_get {i : Nat} (hi : i = 2 ∨ i = 3) (x0 x1 m o x4 q : Value) : (BL i x0 x1 m o x4 q)[i]? = some m := by
  rcases hi with rfl | rfl <;> rfl
theorem BL_set {i : Nat} (hi : i = 2 ∨ i = 3) (x0 x1 m o x4 q m' : Value) : (BL i x0 x1 m o x4 q).set i m' = BL i x0 x1 m' o x4 q := by
  rcases hi with rfl | rfl <;> rfl
abbrev To (po : Nat) (t : Tk) (left : Int) : Nat × Ch := (po, .cells [.int .u64 t.o.id, .int .u32 t.o.mb, .int .i64 t.o.ty, .int .i64 t.o.pr, .int .u64 t.o.v, .int .u64 t.o.hd, .int .u64 t.o.pk, .int .i64 t.side, .int .i64 t.kind, .int .u64 left] 132)
abbrev TH (t b po i : Nat) (x0 x1 vo x4 : Value) (tk : Tk) (left seq : Int) (vs ve : Value) (ks ke : Hp) : Hp :=
  Tt t b ve :: Tb b (BL i x0 x1 vs vo x4 (.int .u64 seq)) :: To po tk left :: (ks ++ ke)
def THs (t b po i : Nat) (x0 x1 vo x4 : Value) (tk : Tk) (s : TS) (hs : Hp) : Prop :=
  ∃ vs ve ks ke, hs = TH t b po i x0 x1 vo x4 tk s.left s.seq vs ve ks ke ∧ Side vs s.L ks ∧ Evs ve s.evs ke

theorem delete0_ok (w : World) (A : Option Addr) (n c : Nat) (x : Ord) (l : List Ord) (h : Hp) (k : Side (.slice A n c) (x :: l) h) (hn : n = l.length + 1) (hb : n ≤ 2513169434843) :
    Does Try.prog 55 [.slice A n c, .int .i64 0, .int .i64 1] h w (fun v hs => Side v l hs) := by
  subst hn
  refine (delete_ok w A (l.length + 1) c 0 (rows (x :: l)) h k (by omega) hb (rows_ones _)).mono fun v hs h => ?_
  have e : (rows (x :: l)).take (0 * 7) ++ (rows (x :: l)).drop ((0 + 1) * 7) = rows l := by
    rw [rows_drop]; simp
  rw [e] at h
  exact h
theorem wrapU {x : Int} (h : U x) : IntKind.u64.wrap x = x := by
  unfold U at h
  simp [IntKind.wrap, IntKind.bits, IntKind.signed]; omega
set_option maxRecDepth 10000 in
theorem meets_ok (w : World) (t b po i : Nat) (hi : i = 2 ∨ i = 3) (x0 x1 vo x4 : Value) (tk : Tk) (meet : Int) (f : Ord) (rest : List Ord) (left seq : Int) (evs : List Ev) (vs ve : Value) (ks ke : Hp)
    (hS : Side vs (f :: rest) ks) (hE : Evs ve evs ke) (hn : rest.length + 1 ≤ 2513169434843) (he : evs.length + 2 ≤ 1000000000000) (hq : U (f.v + f.hd)) :
    Does Try.prog 93 [.pointer (some ⟨t, 0, none⟩), .pointer (some ⟨po, 0, none⟩), .int .i64 meet, .agg ⟨f.cells⟩, .pointer (some ⟨b, i, none⟩)] (TH t b po i x0 x1 vo x4 tk left seq vs ve ks ke) w
      (fun _ hs => THs t b po i x0 x1 vo x4 tk ((⟨f :: rest, left, seq, evs⟩ : TS).meets meet tk f rest) hs) := by
  refine Does.less (Does.of (n := 45) Try.func93 rfl rfl rfl rfl ?_)
  refine .seq ((.region (.nw (.box (l := f.cells) rfl rfl) fun b8 => (.nil ?_))))
  refine .mid (X := TS × Value × Value × Hp × Hp) (fun x => [(0, .pointer (some ⟨t, 0, none⟩)), (1, .pointer (some ⟨po, 0, none⟩)), (2, .int .i64 meet)]) (fun x => TH t b po i x0 x1 vo x4 tk x.1.left x.1.seq x.2.1 x.2.2.1 x.2.2.2.1 x.2.2.2.2)
    (fun x => Side x.2.1 x.1.L x.2.2.2.1 ∧ Evs x.2.2.1 x.1.evs x.2.2.2.2 ∧ x.1.evs.length + 1 ≤ 1000000000000 ∧ x.1 = (if meet = 1 then (⟨f :: rest, left, seq, evs⟩ : TS) else (⟨rest, left, seq, evs⟩ : TS).tell (evCancel f.id (f.v + f.hd) 5)))
    (.seq ((.region (.v (.move rfl) (.v (.nei rfl rfl) (.nil ?_)))))) ?_
  · refine .cond_dec rfl (fun h1 => ?_) (fun h1 => .skip ?_)
    · obtain ⟨A, c, rfl⟩ := OwnS.sl hS
      refine .seq ((.region (.v (.move rfl) (.v (.move rfl) (.v (.nilCheck rfl) (.v (.load (v := .slice A (f :: rest).length c) rfl (.one (BL_get hi _ _ _ _ _ _))) ?_))))))
      refine .ef (.callT ks rfl rfl (fun w' s' => delete0_ok w' A _ c f rest ks hS rfl (by simp; omega))) ?_
      rintro v' _ ⟨ks', hS', rfl⟩
      obtain ⟨A', c', rfl⟩ := OwnS.sl hS'
      refine .v (.nilCheck rfl) (.st (.store rfl rfl rfl (by rcases hi with rfl | rfl <;> simp)) (.nil ?_))
      rw [BL_set hi]
      refine .region (.v (.move rfl) (.v (.fieldAddr rfl) (.v (.load (v := .int .u64 f.id) rfl (.one rfl)) (.v (.fieldAddr rfl) (.v (.load (v := .int .u64 f.v) rfl (.one rfl)) (.v (.fieldAddr rfl) (.v (.load (v := .int .u64 f.hd) rfl (.one rfl)) (.v (.add rfl rfl) ?_))))))))
      rw [wrapU hq]
      refine .v (.build (out := (evCancel f.id (f.v + f.hd) 5).cells) rfl rfl) ?_
      refine .ef (.callT (Tt t b ve :: Tb b (BL i x0 x1 (.slice A' rest.length c') vo x4 (.int .u64 seq)) :: ke) rfl rfl (fun w' s' => tell_ok w' t b x0 x1 _ _ x4 seq (evCancel f.id (f.v + f.hd) 5) evs ve ke hE (by omega))) ?_
      rintro _ _ ⟨_, ⟨ve', ke', rfl, hE'⟩, rfl⟩
      refine .nil ⟨⟨(⟨rest, left, seq, evs⟩ : TS).tell (evCancel f.id (f.v + f.hd) 5), _, ve', ks', ke'⟩, ⟨hS', hE', by simp [TS.tell]; omega, by rw [if_neg h1]⟩, .cons rfl (.cons rfl (.cons rfl (.nil _))), fun _ s => Sat.take (pre := TH t b po i x0 x1 vo x4 tk left (nx seq) (.slice A' rest.length c') ve' ks' ke') s⟩
    · have h1' : meet = 1 := by omega
      exact ⟨⟨⟨f :: rest, left, seq, evs⟩, vs, ve, ks, ke⟩, ⟨hS, hE, by simp; omega, by rw [if_pos h1']⟩, .cons rfl (.cons rfl (.cons rfl (.nil _))), fun _ s => Sat.take (pre := TH t b po i x0 x1 vo x4 tk left seq vs ve ks ke) s⟩
  · rintro ⟨s1, vs1, ve1, ks1, ke1⟩ ⟨hS1, hE1, he1, hs1⟩
    dsimp only at hS1 hE1 he1 hs1 ⊢
    have fin : (⟨f :: rest, left, seq, evs⟩ : TS).meets meet tk f rest = if meet = 2 then s1 else ⟨s1.L, 0, (s1.tell (evCancel tk.o.id s1.left 5)).seq, (s1.tell (evCancel tk.o.id s1.left 5)).evs⟩ := by rw [hs1]; rfl
    rw [fin]
    refine .seq ((.region (.v (.move rfl) (.v (.nei rfl rfl) (.nil ?_)))))
    refine .cond_dec rfl (fun h2 => ?_) (fun h2 => .skip ?_)
    · rw [if_neg h2]
      refine .seq ((.drawK [To po tk s1.left] (by intro p hp; simp at hp; subst hp; simp) (by kernel_rfl) (by kernel_rfl) ?_))
      refine .v (fun _ f => .move rfl) (.v (fun _ f => .move rfl) (.v (fun _ f => .nilCheck rfl) (.v (fun _ f => .fieldAddr rfl) (.v (fun _ f => .fieldAddr rfl) (.v (fun _ f => .load (v := .int .u64 tk.o.id) rfl (.one (hb := .sub f) rfl)) (.v (fun _ f => .move rfl) (.v (fun _ f => .nilCheck rfl) (.v (fun _ f => .fieldAddr rfl) (.v (fun _ f => .load (v := .int .u64 s1.left) rfl (.one (hb := .sub f) rfl)) (.v (fun _ f => .build (out := (evCancel tk.o.id s1.left 5).cells) rfl rfl) ?_))))))))))
      refine .ef (.callT (Tt t b ve1 :: Tb b (BL i x0 x1 vs1 vo x4 (.int .u64 s1.seq)) :: ke1) rfl rfl (fun w' s' => tell_ok w' t b x0 x1 _ _ x4 s1.seq (evCancel tk.o.id s1.left 5) s1.evs ve1 ke1 hE1 he1)) (fun _ _ ⟨_, _, e⟩ _ => by subst e; intro p hp; simp at hp; subst hp; simp) ?_
      rintro _ _ ⟨_, ⟨ve', ke', rfl, hE'⟩, rfl⟩
      refine .nil ?_
      refine .region (.v (.move rfl) (.v (.nilCheck rfl) (.v (.fieldAddr rfl) (.st (.storeL rfl rfl rfl) (.nil ?_)))))
      exact ⟨[], trivial, _, fun _ s => Sat.take (pre := TH t b po i x0 x1 vo x4 tk 0 (nx s1.seq) vs1 ve' ks1 ke') s, vs1, ve', ks1, ke', rfl, hS1, hE'⟩
    · rw [if_pos (by omega)]
      exact ⟨[], trivial, _, fun _ s => s, vs1, ve1, ks1, ke1, rfl, hS1, hE1⟩
end Go.Proofs.Ytfajjkolhajldaa

/- Trading, as a plain machine: its steps, that it ends. -/
namespace Go.Proofs.Ytfajjkolhajldaa
open Go.V
set_option linter.unusedVariables false
set_option linter.unusedSimpArgs false

/-- an order that shows something, and hides no more than it may -/
def Ord.G (o : Ord) : Prop := 1 ≤ o.v ∧ 0 ≤ o.hd ∧ o.v + o.hd ≤ 4294967295 ∧ 0 ≤ o.pk ∧ o.pk ≤ 4294967295 ∧ (o.pk = 0 ∧ o.hd = 0 ∨ 0 < o.pk ∧ o.v ≤ o.pk ∧ o.v + o.hd ≤ 256 * o.pk)
/-- the next show of an order -/
def Ord.next (f : Ord) : Ord := ⟨f.id, f.mb, f.ty, f.pr, min f.pk f.hd, f.hd - min f.pk f.hd, f.pk⟩
def Ord.less (f : Ord) (q : Int) : Ord := ⟨f.id, f.mb, f.ty, f.pr, f.v - q, f.hd, f.pk⟩
def TS.hit (t : Tk) (f : Ord) (rest : List Ord) (s : TS) : TS :=
  let q := min s.left f.v
  let s1 := s.tell (evTrade t.o.id f.id t.side f.pr q)
  if 0 < f.v - q then ⟨f.less q :: rest, s.left - q, s1.seq, s1.evs⟩
  else if 0 < f.hd then (⟨rst (3 - t.side) f.next rest, s.left - q, s1.seq, s1.evs⟩ : TS).tell (evRefresh f.id f.pr f.next.v)
  else ⟨rest, s.left - q, s1.seq, s1.evs⟩
def TS.step (meet : Int) (t : Tk) (s : TS) : Option TS :=
  match s.L with
  | [] => none
  | f :: rest => if 0 < s.left ∧ reach t.side t.kind t.o.pr f.pr = true then some (if f.mb = t.o.mb ∧ t.o.mb ≠ 0 ∧ meet ≠ 0 then s.meets meet t f rest else s.hit t f rest) else none
inductive TRun (meet : Int) (t : Tk) : TS → TS → Prop
  | stop {s : TS} : s.step meet t = none → TRun meet t s s
  | step {s s' z : TS} : s.step meet t = some s' → TRun meet t s' z → TRun meet t s z
theorem TRun.det {meet : Int} {t : Tk} {s z z' : TS} (h : TRun meet t s z) (h' : TRun meet t s z') : z = z' := by
  induction h with
  | stop hs =>
    cases h' with
    | stop _ => rfl
    | step h1 _ => rw [hs] at h1; cases h1
  | step hs _ ih =>
    cases h' with
    | stop h1 => rw [hs] at h1; cases h1
    | step h1 h2 => rw [hs] at h1; cases h1; exact ih h2

def Ord.shows (o : Ord) : Nat := 1 + ((o.hd + o.pk - 1) / o.pk).toNat
def TS.mu (s : TS) : Nat := (s.L.map Ord.shows).sum + (if 0 < s.left then 1 else 0)
theorem next_G {f : Ord} (h : f.G) (hp : 0 < f.hd) : f.next.G ∧ f.next.shows + 1 ≤ f.shows := by
  obtain ⟨id, mb, ty, pr, v, hd, pk⟩ := f
  unfold Ord.G Ord.next Ord.shows at *
  simp only at *
  have hpk : 0 < pk := by omega
  refine ⟨by omega, ?_⟩
  by_cases hle : hd ≤ pk
  · have e1 : min pk hd = hd := by omega
    have e2 : (hd - hd + pk - 1) / pk = 0 := Int.ediv_eq_zero_of_lt (by omega) (by omega)
    have e3 : 1 ≤ (hd + pk - 1) / pk := by
      have := Int.add_mul_ediv_right (hd - 1) 1 (show pk ≠ 0 by omega)
      rw [show hd - 1 + 1 * pk = hd + pk - 1 from by omega] at this
      have h2 : 0 ≤ (hd - 1) / pk := Int.ediv_nonneg (by omega) (by omega)
      omega
    rw [e1, e2]; omega
  · have e1 : min pk hd = pk := by omega
    have e3 := Int.add_mul_ediv_right (hd - 1) 1 (show pk ≠ 0 by omega)
    rw [show hd - 1 + 1 * pk = hd + pk - 1 from by omega] at e3
    have h2 : 0 ≤ (hd - 1) / pk := Int.ediv_nonneg (by omega) (by omega)
    rw [e1, e3, show hd - pk + pk - 1 = hd - 1 from by omega]
    omega
theorem shows_le {f : Ord} (h : f.G) : f.shows ≤ 257 := by
  obtain ⟨id, mb, ty, pr, v, hd, pk⟩ := f
  unfold Ord.G Ord.shows at *
  simp only at *
  rcases h.2.2.2.2.2 with ⟨h1, h2⟩ | ⟨h1, h2, h3⟩
  · subst h1; subst h2; decide
  · have : (hd + pk - 1) / pk ≤ 256 := by
      have := Int.ediv_le_ediv h1 (show hd + pk - 1 ≤ 257 * pk - 1 by omega)
      have h4 : (257 * pk - 1) / pk < 257 := Int.ediv_lt_of_lt_mul h1 (by omega)
      omega
    omega
theorem rst_sum (s : Int) (o : Ord) (l : List Ord) : ((rst s o l).map Ord.shows).sum = o.shows + (l.map Ord.shows).sum := by
  have h : (l.map Ord.shows).sum = ((l.take (rpos s o.pr l)).map Ord.shows).sum + ((l.drop (rpos s o.pr l)).map Ord.shows).sum := by rw [← List.sum_append, ← List.map_append, List.take_append_drop]
  simp only [rst, List.map_append, List.sum_append, List.map_cons, List.map_nil, List.sum_cons, List.sum_nil]
  omega
theorem rst_mem {s : Int} {o x : Ord} {l : List Ord} (h : x ∈ rst s o l) : x = o ∨ x ∈ l := by
  simp only [rst, List.mem_append, List.mem_singleton] at h
  rcases h with (h | h) | h
  · exact .inr (List.mem_of_mem_take h)
  · exact .inl h
  · exact .inr (List.mem_of_mem_drop h)
/-- what holds between two steps -/
structure TS.Ok (s : TS) : Prop where
  good : ∀ f ∈ s.L, f.G
  lo : 0 ≤ s.left
  hi : s.left ≤ 18446744073709551615
theorem TS.Ok.step {meet : Int} {t : Tk} {s s' : TS} (h : s.Ok) (hs : s.step meet t = some s') : s'.Ok ∧ s'.mu < s.mu ∧ s'.L.length ≤ s.L.length ∧ s'.evs.length ≤ s.evs.length + 2 ∧ s'.left ≤ s.left := by
  obtain ⟨L, left, seq, evs⟩ := s
  unfold TS.step at hs
  obtain ⟨hg, hlo, hhi⟩ := h
  simp only at hs hg hlo hhi
  cases L with
  | nil => cases hs
  | cons f rest =>
    simp only at hs
    split at hs
    · rename_i hc
      have hfG := hg f (by simp)
      have hrG : ∀ x ∈ rest, x.G := fun x hx => hg x (by simp [hx])
      have hsh : 1 ≤ f.shows := by unfold Ord.shows; omega
      have hind : (if 0 < left then 1 else 0) = 1 := if_pos hc.1
      simp only [Option.some.injEq] at hs
      subst hs
      split
      · simp only [TS.meets]
        by_cases m1 : meet = 1
        · rw [if_pos m1, if_neg (show ¬ meet = 2 by omega)]
          simp [TS.mu, TS.tell, hind]
          exact ⟨⟨hg, by simp, by simp⟩, hlo⟩
        · rw [if_neg m1]
          by_cases m2 : meet = 2
          · rw [if_pos m2]
            simp [TS.mu, TS.tell, hind]
            exact ⟨⟨hrG, hlo, hhi⟩, by have := hc.1; simp [this]; omega⟩
          · rw [if_neg m2]
            simp [TS.mu, TS.tell, hind]
            exact ⟨⟨hrG, by simp, by simp⟩, by omega, hlo⟩
      · have hv : 1 ≤ f.v := hfG.1
        simp only [TS.hit]
        by_cases c1 : 0 < f.v - min left f.v
        · rw [if_pos c1]
          have e : min left f.v = left := by omega
          have hlG : (f.less left).G := by unfold Ord.G Ord.less at *; simp only at *; omega
          have hls : (f.less left).shows = f.shows := rfl
          simp [TS.mu, TS.tell, hind, e, hls]
          refine ⟨⟨fun x hx => ?_, by simp, by simp⟩, hlo⟩
          rcases List.mem_cons.1 hx with rfl | hx
          · exact hlG
          · exact hrG x hx
        · rw [if_neg c1]
          have e : min left f.v = f.v := by omega
          have hle : (if 0 < left - f.v then 1 else 0) ≤ 1 := by split <;> omega
          by_cases c2 : 0 < f.hd
          · rw [if_pos c2]
            obtain ⟨nG, nS⟩ := next_G hfG c2
            simp [TS.mu, TS.tell, hind, e, rst_sum, rst_length]
            refine ⟨⟨fun x hx => ?_, by simp only; omega, by simp only; omega⟩, by (try split) <;> omega, by omega⟩
            rcases rst_mem hx with rfl | hx
            · exact nG
            · exact hrG x hx
          · rw [if_neg c2]
            simp [TS.mu, TS.tell, hind, e]
            exact ⟨⟨hrG, by simp only; omega, by simp only; omega⟩, by (try split) <;> omega, by omega⟩
    · cases hs
end Go.Proofs.Ytfajjkolhajldaa

/- (*teller).trades: its walk. -/
namespace Go.Proofs.Ytfajjkolhajldaa
open Go.V
set_option linter.unusedVariables false
set_option linter.unusedSimpArgs false

theorem Side.set0 {b o n c : Nat} {f f' : Ord} {rest : List Ord} {l : List Value} (h : Side (.slice (some ⟨b, o, none⟩) n c) (f :: rest) [(b, .cells l 125)]) : Side (.slice (some ⟨b, o, none⟩) n c) (f' :: rest) [(b, .cells (splice l o f'.cells) 125)] := by
  obtain ⟨b', o', l', e1, e2, e3, e4, e5, e6⟩ := h.some_ (by simp)
  cases e1
  simp only [List.cons.injEq, Prod.mk.injEq, Ch.cells.injEq] at e3
  obtain ⟨⟨_, e3, _⟩, _⟩ := e3
  subst e3
  subst e2
  have hlen : (f :: rest).length = rest.length + 1 := rfl
  have hl7 : o + 7 ≤ l.length := by
    have : 1 * 7 ≤ c * 7 := Nat.mul_le_mul_right _ (by omega)
    omega
  refine ⟨rows_length _, .inr ⟨b, o, c, _, rfl, rfl, e4, ?_, ?_⟩⟩
  · rw [splice_length _ _ _ (by simp [Ord.cells, rcells]; omega)]; exact e5
  · have h7 : f'.cells.length = 7 := rfl
    have e : (splice l o f'.cells).drop o = f'.cells ++ l.drop (o + 7) := by
      unfold V.splice
      rw [List.append_assoc, List.drop_append_of_le_length (by rw [List.length_take]; omega), List.drop_take, Nat.sub_self, List.take_zero, List.nil_append, h7]
    rw [e]
    have e2 : (f' :: rest).length * 7 = 7 + rest.length * 7 := by simp; omega
    rw [e2, List.take_append, h7, List.take_of_length_le (by omega), show 7 + rest.length * 7 - 7 = rest.length * 7 from by omega]
    have e3 : (l.drop (o + 7)).take (rest.length * 7) = rows rest := by
      have : ((l.drop o).take ((f :: rest).length * 7)).drop 7 = rows rest := by
        rw [e6]; rfl
      rw [← this, List.drop_take, List.drop_drop, show (f :: rest).length * 7 - 7 = rest.length * 7 from by simp; omega]
    rw [e3]; rfl
theorem min_int (a b : Int) : (if a ≤ b then a else b) = min a b := by omega

set_option maxRecDepth 10000 in
set_option maxHeartbeats 1000000 in
theorem trades_ok (w : World) (t b po i : Nat) (tk : Tk) (hsi : tk.side = 1 ∧ i = 3 ∨ tk.side = 2 ∧ i = 2) (x0 vo x4 : Value) (meet : Int) (s0 : TS) (vs0 ve0 : Value) (ks0 ke0 : Hp) (hS0 : Side vs0 s0.L ks0) (hE0 : Evs ve0 s0.evs ke0) (hOk0 : s0.Ok)
    (hn0 : s0.L.length ≤ 1000000) (he0 : s0.evs.length + 2 * s0.mu ≤ 100000000000) :
    Does Try.prog 82 [.pointer (some ⟨t, 0, none⟩), .pointer (some ⟨po, 0, none⟩)] (TH t b po i x0 (.int .i64 meet) vo x4 tk s0.left s0.seq vs0 ve0 ks0 ke0) w
      (fun _ hs => ∃ z, TRun meet tk s0 z ∧ THs t b po i x0 (.int .i64 meet) vo x4 tk z hs) := by
  have hi : i = 2 ∨ i = 3 := by omega
  have hside : (if 3 - tk.side = 1 then some (⟨b, 2, none⟩ : Addr) else if 3 - tk.side = 2 then some ⟨b, 3, none⟩ else none) = some ⟨b, i, none⟩ := by
    rcases hsi with ⟨h, rfl⟩ | ⟨h, rfl⟩ <;> rw [h] <;> rfl
  have hsb : 1 ≤ tk.side ∧ tk.side ≤ 2 := by omega
  refine Does.less (Does.of (n := 166) Try.func82 rfl rfl rfl rfl ?_)
  refine .seq ((.region (.v (.move rfl) (.v (.nilCheck rfl) (.v (.fieldAddr rfl) (.v (.load (v := .pointer (some ⟨b, 0, none⟩)) rfl (.one rfl)) (.v (.nilCheck rfl) (.v (.fieldAddr rfl) (.v (.fieldAddr rfl) (.v (.fieldAddr rfl) (.v (.load (v := .int .i64 meet) rfl (.one rfl)) (.v (.assign rfl) (.nil ?_)))))))))))))
  refine .seq ((.region (.v (.move rfl) (.v (.nilCheck rfl) (.v (.fieldAddr rfl) (.v (.load (v := .int .i64 tk.side) rfl (.one rfl)) (.v (.subi rfl rfl (by omega)) (.v (.assign rfl) (.nil ?_)))))))))
  refine .seq ((.region (.v (.move rfl) (.v (.nilCheck rfl) (.v (.fieldAddr rfl) (.v (.load (v := .pointer (some ⟨b, 0, none⟩)) rfl (.one rfl)) (.v (.move rfl) (.pc (v := .pointer (some ⟨b, i, none⟩)) rfl rfl (fun w' _ => hside ▸ side_ok w' b (3 - tk.side)) (.v (.assign rfl) (.nil ?_))))))))))
  refine .block (.loop (X := TS × Value × Value × Hp × Hp) (fun x => [(0, .pointer (some ⟨t, 0, none⟩)), (1, .pointer (some ⟨po, 0, none⟩)), (4, .int .i64 meet), (5, .int .i64 (3 - tk.side)), (6, .pointer (some ⟨b, i, none⟩))])
    (fun x => TH t b po i x0 (.int .i64 meet) vo x4 tk x.1.left x.1.seq x.2.1 x.2.2.1 x.2.2.2.1 x.2.2.2.2)
    (fun x => Side x.2.1 x.1.L x.2.2.2.1 ∧ Evs x.2.2.1 x.1.evs x.2.2.2.2 ∧ x.1.Ok ∧ x.1.L.length ≤ 1000000 ∧ x.1.evs.length + 2 * x.1.mu ≤ 100000000000 ∧ ∀ z, TRun meet tk x.1 z → TRun meet tk s0 z) (fun x => x.1.mu)
    ⟨s0, vs0, ve0, ks0, ke0⟩ ⟨hS0, hE0, hOk0, hn0, he0, fun _ h => h⟩ (.cons rfl (.cons rfl (.cons rfl (.cons rfl (.cons rfl (.nil _)))))) (fun _ s => s) ?_)
  rintro ⟨⟨L, left, seq, evs⟩, vs, ve, ks, ke⟩ ⟨hS, hE, hOk, hn, he, hrun⟩
  dsimp only at hS hE hOk hn he hrun ⊢
  obtain ⟨A, c, rfl⟩ := OwnS.sl hS
  cases L with
  | nil =>
    refine .seq (.seq ((.drawK _ (fun _ h => h) (by kernel_rfl) (by kernel_rfl) ?_)))
    refine .v (fun _ f => .move rfl) (.v (fun _ f => .nilCheck rfl) (.v (fun _ f => .fieldAddr rfl) (.v (fun _ f => .load (v := .int .u64 left) rfl (.one (hb := .sub f) rfl)) (.v (fun _ f => .gtr rfl rfl) (.v (fun _ f => .move rfl) ?_)))))
    refine .and 34 39 5 5 rfl rfl (fun g1 => .v (fun _ f => .move rfl) (.v (fun _ f => .nilCheck rfl) (.v (fun _ f => .load (v := .slice A 0 c) rfl (.one (hb := .sub f) (BL_get hi _ _ _ _ _ _))) (.v (fun _ f => .len rfl) (.v (fun _ f => .gtr rfl rfl) (.nil ⟨rfl, rfl, rfl, rfl⟩)))))) ?_
    refine .v (fun _ f => .move rfl) (.and (b2 := false) 41 51 10 10 rfl rfl (fun g2 => absurd g2 (by simp)) (.nil ?_))
    refine .cond rfl (fun h => absurd h (by simp)) (fun _ => .exit ?_)
    exact ⟨[], trivial, _, fun _ s => s, _, hrun _ (.stop rfl), .slice A 0 c, ve, ks, ke, rfl, hS, hE⟩
  | cons f rest =>
    obtain ⟨bk, ok, lk, rfl, -, rfl, hck, hlk, hvk⟩ := hS.some_ (by simp)
    have hlen : (f :: rest).length = rest.length + 1 := rfl
    have hfG := hOk.good f (by simp)
    have hlo := hOk.lo
    have hhi := hOk.hi
    dsimp only at hlo hhi
    have hat : ∀ (own : List Nat) (hs' : Hp), [(bk, Ch.cells lk 125)] ⊆ hs' → ∀ (j : Nat) (us : List Value), (∀ (m : Nat) (v : Value), us[m]? = some v → (f.cells)[j + m]? = some v) → At w own hs' ⟨bk, ok + (0 : Int).toNat * 7 + j, none⟩ us := fun own hs' hsub j us hu => by
      show At w own hs' ⟨bk, ok + 0 + j, none⟩ us
      rw [Nat.add_zero]
      refine hS.atN hsub (fun m v hv => ?_)
      have h1 := hu m v hv
      have h2 := (List.getElem?_eq_some_iff.1 h1).1
      have := rows_get (f :: rest) 0 (j + m) (by simp) (by simpa [Ord.cells, rcells] using h2)
      rw [Nat.zero_mul, Nat.zero_add] at this
      rw [this]; exact h1
    refine .seq (.seq ((.drawK _ (fun _ h => h) (by kernel_rfl) (by kernel_rfl) ?_)))
    refine .v (fun _ f => .move rfl) (.v (fun _ f => .nilCheck rfl) (.v (fun _ f => .fieldAddr rfl) (.v (fun _ f => .load (v := .int .u64 left) rfl (.one (hb := .sub f) rfl)) (.v (fun _ f => .gtr rfl rfl) (.v (fun _ f => .move rfl) ?_)))))
    refine .and 34 39 5 5 rfl rfl (fun g1 => .v (fun _ f => .move rfl) (.v (fun _ f => .nilCheck rfl) (.v (fun _ h => .load (v := .slice (some ⟨bk, ok, none⟩) (f :: rest).length c) rfl (.one (hb := .sub h) (BL_get hi _ _ _ _ _ _))) (.v (fun _ f => .len rfl) (.v (fun _ f => .gtr rfl rfl) (.nil ⟨rfl, rfl, rfl, rfl⟩)))))) ?_
    refine .v (fun _ f => .move rfl) ?_
    refine .and 41 51 10 10 rfl rfl (fun g2 => .v (fun _ f => .move rfl) (.v (fun _ f => .nilCheck rfl) (.v (fun _ f => .loadA (vs := [.int .u64 tk.o.id, .int .u32 tk.o.mb, .int .i64 tk.o.ty, .int .i64 tk.o.pr, .int .u64 tk.o.v, .int .u64 tk.o.hd, .int .u64 tk.o.pk, .int .i64 tk.side, .int .i64 tk.kind, .int .u64 left]) rfl (.whole (hb := .sub f)) rfl) (.v (fun _ f => .move rfl) (.v (fun _ f => .nilCheck rfl) (.v (fun _ h => .load (v := .slice (some ⟨bk, ok, none⟩) (f :: rest).length c) rfl (.one (hb := .sub h) (BL_get hi _ _ _ _ _ _))) (.v (fun _ f => .indexAddr rfl rfl (by simp) (by simp)) (.v (fun _ f => .fieldAddr rfl) (.v (fun _ h => .load (v := .int .i64 f.pr) rfl (hat _ _ (fun p hp => h (by simp at hp ⊢; simp [hp])) 3 _ (fun m v hv => by match m, hv with | 0, hv => exact hv))) (.pc (v := .bool (reach tk.side tk.kind tk.o.pr f.pr)) rfl rfl (fun w' _ => reaches_ok w' tk.o.id tk.o.mb tk.o.ty tk.o.pr tk.o.v tk.o.hd tk.o.pk tk.side tk.kind left f.pr) (.nil ⟨rfl, rfl, rfl, rfl⟩))))))))))) ?_
    refine .nil ?_
    refine .cond rfl (fun h1 => .skip ?_) (fun h1 => .exit ?_)
    · have h1' : 0 < left ∧ reach tk.side tk.kind tk.o.pr f.pr = true := by
        simp at h1; exact h1
      have hstep : (⟨f :: rest, left, seq, evs⟩ : TS).step meet tk = some (if f.mb = tk.o.mb ∧ tk.o.mb ≠ 0 ∧ meet ≠ 0 then (⟨f :: rest, left, seq, evs⟩ : TS).meets meet tk f rest else (⟨f :: rest, left, seq, evs⟩ : TS).hit tk f rest) := by
        simp only [TS.step]; rw [if_pos h1']
      obtain ⟨k1, k2, k3, k4, k5⟩ := hOk.step hstep
      have k3 := Nat.le_trans k3 hn
      have k6 := fun z h => hrun z (.step hstep h)
      have k7 : ∀ s' : TS, s'.evs.length ≤ evs.length + 2 → s'.mu < (⟨f :: rest, left, seq, evs⟩ : TS).mu → s'.evs.length + 2 * s'.mu ≤ 100000000000 := fun s' a b => by
        have : evs.length + 2 * (⟨f :: rest, left, seq, evs⟩ : TS).mu ≤ 100000000000 := he
        omega
      have heb : evs.length ≤ 100000000000 := by
        have : evs.length + 2 * (⟨f :: rest, left, seq, evs⟩ : TS).mu ≤ 100000000000 := he
        omega
      refine .block (.seq ((.region (.v (.move rfl) (.v (.nilCheck rfl) (.v (.load (v := (.slice (some ⟨bk, ok, none⟩) (f :: rest).length c)) rfl (.one (BL_get hi _ _ _ _ _ _))) (.v (.indexAddr rfl rfl (by simp) (by simp)) (.v (.loadA (vs := [.int .u64 f.id, .int .u32 f.mb, .int .i64 f.ty, .int .i64 f.pr, .int .u64 f.v, .int .u64 f.hd, .int .u64 f.pk]) rfl (hat _ _ (fun p hp => by simp at hp ⊢; simp [hp]) 0 _ (fun m v hv => by rw [Nat.zero_add]; exact hv)) rfl) (.nw .alloc fun b7 => (.st (.sw rfl rfl) (.nil ?_)))))))))))
      refine .seq (.seq ((.drawK _ (fun _ h => h) (by kernel_rfl) (by kernel_rfl) ?_)))
      refine .v (fun _ f => .fieldAddr rfl) (.v (fun _ h => .load (v := .int .u32 f.mb) rfl (.one (hb := .sub h) rfl)) (.v (fun _ f => .move rfl) (.v (fun _ f => .nilCheck rfl) (.v (fun _ f => .fieldAddr rfl) (.v (fun _ f => .fieldAddr rfl) (.v (fun _ f => .load (v := .int .u32 tk.o.mb) rfl (.one (hb := .sub f) rfl)) (.v (fun _ f => .eqi rfl rfl) (.v (fun _ f => .move rfl) ?_))))))))
      refine .and 66 72 6 6 rfl rfl (fun g3 => .v (fun _ f => .move rfl) (.v (fun _ f => .nilCheck rfl) (.v (fun _ f => .fieldAddr rfl) (.v (fun _ f => .fieldAddr rfl) (.v (fun _ f => .load (v := .int .u32 tk.o.mb) rfl (.one (hb := .sub f) rfl)) (.v (fun _ f => .nei rfl rfl) (.nil ⟨rfl, rfl, rfl, rfl⟩))))))) (.v (fun _ f => .move rfl) (.and 74 76 2 2 rfl rfl (fun g4 => .v (fun _ f => .move rfl) (.v (fun _ f => .nei rfl rfl) (.nil ⟨rfl, rfl, rfl, rfl⟩))) (.nil ?_)))
      refine .cond rfl (fun h2 => ?_) (fun h2 => .skip ?_) <;> simp only [Bool.and_eq_true, Bool.or_eq_true, Bool.not_eq_true', Bool.and_eq_false_iff, Bool.or_eq_false_iff, Bool.not_eq_false', decide_eq_true_eq, decide_eq_false_iff_not, Bool.false_eq_true, false_iff] at h2
      · have hm : f.mb = tk.o.mb ∧ tk.o.mb ≠ 0 ∧ meet ≠ 0 := ⟨h2.1.1, h2.1.2, h2.2⟩
        rw [if_pos hm] at k1 k2 k3 k4 k6
        refine .seq ((.region (.v (.move rfl) (.v (.move rfl) (.v (.move rfl) (.v (.loadA (vs := [.int .u64 f.id, .int .u32 f.mb, .int .i64 f.ty, .int .i64 f.pr, .int .u64 f.v, .int .u64 f.hd, .int .u64 f.pk]) rfl .whole rfl) (.v (.move rfl) ?_)))))))
        refine .ef (.callT (TH t b po i x0 (.int .i64 meet) vo x4 tk left seq (.slice (some ⟨bk, ok, none⟩) (f :: rest).length c) ve [(bk, Ch.cells lk 125)] ke) rfl rfl (fun w' s' => meets_ok w' t b po i hi x0 (.int .i64 meet) vo x4 tk meet f rest left seq evs _ ve _ ke hS hE (by omega) (by omega) (by unfold Ord.G at hfG; unfold U; omega))) ?_
        rintro _ _ ⟨hh, hT, rfl⟩
        obtain ⟨sm, hsm⟩ : ∃ sm, (⟨f :: rest, left, seq, evs⟩ : TS).meets meet tk f rest = sm := ⟨_, rfl⟩
        rw [hsm] at hT k1 k2 k3 k4 k6
        obtain ⟨vs', ve', ks', ke', rfl, hS', hE'⟩ := hT
        refine .nil (.exit ?_)
        exact ⟨⟨sm, vs', ve', ks', ke'⟩, ⟨hS', hE', k1, k3, k7 _ k4 k2, k6⟩, k2, .cons rfl (.cons rfl (.cons rfl (.cons rfl (.cons rfl (.nil _))))), fun _ s => Sat.take (pre := TH t b po i x0 (.int .i64 meet) vo x4 tk sm.left sm.seq vs' ve' ks' ke') s⟩
      · have hm : ¬ (f.mb = tk.o.mb ∧ tk.o.mb ≠ 0 ∧ meet ≠ 0) := by
          rintro ⟨a1, a2, a3⟩
          rcases h2 with (h2 | h2) | h2
          · exact h2 a1
          · exact h2 a2
          · exact h2 a3
        rw [if_neg hm] at k1 k2 k3 k4 k6
        obtain ⟨g1, g2, g3, g4, g5, g6⟩ := hfG
        refine .seq ((.drawK _ (fun _ h => h) (by kernel_rfl) (by kernel_rfl) ?_))
        refine .v (fun _ f => .move rfl) (.v (fun _ f => .nilCheck rfl) (.v (fun _ f => .fieldAddr rfl) (.v (fun _ f => .load (v := .int .u64 left) rfl (.one (hb := .sub f) rfl)) (.v (fun _ f => .fieldAddr rfl) (.v (fun _ h => .load (v := .int .u64 f.v) rfl (.one (hb := .sub h) rfl)) (.v (fun _ f => .min2 rfl rfl) (.v (fun _ f => .assign rfl) (.nil ?_))))))))
        obtain ⟨q, hq⟩ : ∃ q, min left f.v = q := ⟨_, rfl⟩
        have hit : (⟨f :: rest, left, seq, evs⟩ : TS).hit tk f rest = (if 0 < f.v - q then ⟨f.less q :: rest, left - q, nx seq, evs ++ [(evTrade tk.o.id f.id tk.side f.pr q).num (nx seq)]⟩
            else if 0 < f.hd then (⟨rst (3 - tk.side) f.next rest, left - q, nx seq, evs ++ [(evTrade tk.o.id f.id tk.side f.pr q).num (nx seq)]⟩ : TS).tell (evRefresh f.id f.pr f.next.v)
            else ⟨rest, left - q, nx seq, evs ++ [(evTrade tk.o.id f.id tk.side f.pr q).num (nx seq)]⟩) := by
          rw [← hq]; rfl
        rw [hit] at k1 k2 k3 k4 k6
        rw [hq]
        refine .seq ((.drawK [To po tk left, (b7, .cells [.int .u64 f.id, .int .u32 f.mb, .int .i64 f.ty, .int .i64 f.pr, .int .u64 f.v, .int .u64 f.hd, .int .u64 f.pk] 125)] (by intro p hp; simp at hp ⊢; rcases hp with rfl | rfl <;> simp) (by kernel_rfl) (by kernel_rfl) ?_))
        refine .v (fun _ f => .move rfl) (.v (fun _ f => .move rfl) (.v (fun _ f => .nilCheck rfl) (.v (fun _ f => .fieldAddr rfl) (.v (fun _ f => .fieldAddr rfl) (.v (fun _ f => .load (v := .int .u64 tk.o.id) rfl (.one (hb := .sub f) rfl)) (.v (fun _ f => .fieldAddr rfl) (.v (fun _ h => .load (v := .int .u64 f.id) rfl (.one (hb := .sub h) rfl)) (.v (fun _ f => .move rfl) (.v (fun _ f => .nilCheck rfl) (.v (fun _ f => .fieldAddr rfl) (.v (fun _ f => .load (v := .int .i64 tk.side) rfl (.one (hb := .sub f) rfl)) (.v (fun _ f => .fieldAddr rfl) (.v (fun _ h => .load (v := .int .i64 f.pr) rfl (.one (hb := .sub h) rfl)) (.v (fun _ f => .move rfl) (.v (fun _ _ => .build (out := (evTrade tk.o.id f.id tk.side f.pr q).cells) rfl rfl) ?_)))))))))))))))
        refine .ef (.callT (Tt t b ve :: Tb b (BL i x0 (.int .i64 meet) (.slice (some ⟨bk, ok, none⟩) (f :: rest).length c) vo x4 (.int .u64 seq)) :: ke) rfl rfl (fun w' s' => tell_ok w' t b x0 (.int .i64 meet) _ _ x4 seq (evTrade tk.o.id f.id tk.side f.pr q) evs ve ke hE (by omega))) (fun _ _ ⟨_, _, e⟩ _ => by subst e; intro p hp; simp at hp ⊢; rcases hp with rfl | rfl <;> simp) ?_
        rintro _ _ ⟨_, ⟨ve1, ke1, rfl, hE1⟩, rfl⟩
        refine .nil ?_
        have hql : 0 ≤ left - q ∧ left - q ≤ 18446744073709551615 := by omega
        have hqv : 0 ≤ f.v - q ∧ f.v - q ≤ 18446744073709551615 := by omega
        have hE1' : Evs ve1 (evs ++ [(evTrade tk.o.id f.id tk.side f.pr q).num (nx seq)]) ke1 := hE1
        have hel : (evs ++ [(evTrade tk.o.id f.id tk.side f.pr q).num (nx seq)]).length = evs.length + 1 := by simp
        refine .keep ((b7, Ch.cells [.int .u64 f.id, .int .u32 f.mb, .int .i64 f.ty, .int .i64 f.pr, .int .u64 f.v, .int .u64 f.hd, .int .u64 f.pk] 125) :: TH t b po i x0 (.int .i64 meet) vo x4 tk left (nx seq) (.slice (some ⟨bk, ok, none⟩) (f :: rest).length c) ve1 [(bk, Ch.cells lk 125)] ke1) ?_
        refine .seq ((.region (.v (.move rfl) (.v (.nilCheck rfl) (.v (.fieldAddr rfl) (.v (.load (v := .int .u64 left) rfl (.one rfl)) (.v (.move rfl) (.v (.subU (left - q) rfl rfl rfl hql) (.v (.nilCheck rfl) (.v (.fieldAddr rfl) (.st (.storeL rfl rfl rfl) (.nil ?_))))))))))))
        refine .seq ((.region (.v (.fieldAddr rfl) (.v (.load (v := .int .u64 f.v) rfl (.one rfl)) (.v (.move rfl) (.v (.subU (f.v - q) rfl rfl rfl hqv) (.v (.fieldAddr rfl) (.st (.storeL rfl rfl rfl) (.nil ?_)))))))))
        refine .seq ((.drawQ 5 [0, 1, 2, 3, 4, 5] _ (fun _ h => h) (by kernel_rfl) (by kernel_rfl) ?_))
        refine .v (fun _ f => .move rfl) (.v (fun _ f => .nilCheck rfl) (.v (fun _ h => .load (v := (.slice (some ⟨bk, ok, none⟩) (f :: rest).length c)) rfl (.one (hb := .sub h) (BL_get hi _ _ _ _ _ _))) (.v (fun _ h => .loadA (vs := [.int .u64 f.id, .int .u32 f.mb, .int .i64 f.ty, .int .i64 f.pr, .int .u64 (f.v - q), .int .u64 f.hd, .int .u64 f.pk]) rfl (.whole (hb := .sub h)) rfl) (.v (fun _ f => .indexAddr rfl rfl (by simp) (by simp)) (.st (.storeA rfl rfl rfl rfl (by show ok + 0 + 7 ≤ lk.length; have : 1 * 7 ≤ c * 7 := Nat.mul_le_mul_right _ (by omega); omega)) (.nil ?_))))))
        have hS2 : Side (.slice (some ⟨bk, ok, none⟩) (f :: rest).length c) (f.less q :: rest) [(bk, Ch.cells (V.splice lk (ok + (0 : Int).toNat * 7) [.int .u64 f.id, .int .u32 f.mb, .int .i64 f.ty, .int .i64 f.pr, .int .u64 (f.v - q), .int .u64 f.hd, .int .u64 f.pk]) 125)] := hS.set0 (f' := f.less q)
        refine .seq (.seq ((.region (.v (.fieldAddr rfl) (.v (.load (v := .int .u64 (f.v - q)) rfl (.one rfl)) (.v (.gtr rfl rfl) (.nil ?_)))))))
        refine .cond_dec rfl (fun h3 => .exit ?_) (fun h3 => .skip ?_)
        · rw [if_pos h3] at k1 k2 k3 k4 k6
          exact ⟨⟨⟨f.less q :: rest, left - q, nx seq, evs ++ [(evTrade tk.o.id f.id tk.side f.pr q).num (nx seq)]⟩, (.slice (some ⟨bk, ok, none⟩) (f :: rest).length c), ve1, [(bk, Ch.cells (V.splice lk (ok + (0 : Int).toNat * 7) [.int .u64 f.id, .int .u32 f.mb, .int .i64 f.ty, .int .i64 f.pr, .int .u64 (f.v - q), .int .u64 f.hd, .int .u64 f.pk]) 125)], ke1⟩, ⟨hS2, hE1', k1, k3, k7 _ k4 k2, k6⟩, k2, .cons rfl (.cons rfl (.cons rfl (.cons rfl (.cons rfl (.nil _))))), fun _ s => Sat.take (pre := TH t b po i x0 (.int .i64 meet) vo x4 tk (left - q) (nx seq) (.slice (some ⟨bk, ok, none⟩) (f :: rest).length c) ve1 [(bk, Ch.cells (V.splice lk (ok + (0 : Int).toNat * 7) [.int .u64 f.id, .int .u32 f.mb, .int .i64 f.ty, .int .i64 f.pr, .int .u64 (f.v - q), .int .u64 f.hd, .int .u64 f.pk]) 125)] ke1) s⟩
        rw [if_neg h3] at k1 k2 k3 k4 k6
        refine .seq ((.region (.v (.move rfl) (.v (.move rfl) (.v (.nilCheck rfl) (.v (.load (v := (.slice (some ⟨bk, ok, none⟩) (f :: rest).length c)) rfl (.one (BL_get hi _ _ _ _ _ _))) ?_))))))
        refine .ef (.callT [(bk, Ch.cells (V.splice lk (ok + (0 : Int).toNat * 7) [.int .u64 f.id, .int .u32 f.mb, .int .i64 f.ty, .int .i64 f.pr, .int .u64 (f.v - q), .int .u64 f.hd, .int .u64 f.pk]) 125)] rfl rfl (fun w' s' => delete0_ok w' _ _ c (f.less q) rest _ hS2 rfl (by omega))) ?_
        rintro v3 _ ⟨ks3, hS3, rfl⟩
        obtain ⟨A3, c3, rfl⟩ := OwnS.sl hS3
        refine .v (.nilCheck rfl) (.st (.store rfl rfl rfl (by rcases hi with rfl | rfl <;> simp)) (.nil ?_))
        rw [BL_set hi]
        refine .keep ((b7, Ch.cells [.int .u64 f.id, .int .u32 f.mb, .int .i64 f.ty, .int .i64 f.pr, .int .u64 (f.v - q), .int .u64 f.hd, .int .u64 f.pk] 125) :: TH t b po i x0 (.int .i64 meet) vo x4 tk (left - q) (nx seq) (.slice A3 rest.length c3) ve1 ks3 ke1) ?_
        refine .seq ((.region (.v (.fieldAddr rfl) (.v (.load (v := .int .u64 f.hd) rfl (.one rfl)) (.v (.gtr rfl rfl) (.nil ?_))))))
        refine .cond_dec rfl (fun h4 => ?_) (fun h4 => .skip ?_)
        · rw [if_pos h4] at k1 k2 k3 k4 k6
          have hmn : 0 ≤ f.hd - min f.pk f.hd ∧ f.hd - min f.pk f.hd ≤ 18446744073709551615 := by omega
          refine .seq ((.region (.v (.fieldAddr rfl) (.v (.load (v := .int .u64 f.pk) rfl (.one rfl)) (.v (.fieldAddr rfl) (.v (.load (v := .int .u64 f.hd) rfl (.one rfl)) (.v (.min2 rfl rfl) (.v (.fieldAddr rfl) (.st (.storeL rfl rfl rfl) (.nil ?_))))))))))
          refine .seq ((.region (.v (.fieldAddr rfl) (.v (.load (v := .int .u64 f.hd) rfl (.one rfl)) (.v (.fieldAddr rfl) (.v (.load (v := .int .u64 (min f.pk f.hd)) rfl (.one rfl)) (.v (.subU (f.hd - min f.pk f.hd) rfl rfl rfl hmn) (.v (.fieldAddr rfl) (.st (.storeL rfl rfl rfl) (.nil ?_))))))))))
          refine .seq ((.drawK [Tt t b ve1, (b7, Ch.cells [.int .u64 f.id, .int .u32 f.mb, .int .i64 f.ty, .int .i64 f.pr, .int .u64 (min f.pk f.hd), .int .u64 (f.hd - min f.pk f.hd), .int .u64 f.pk] 125)] (by intro p hp; simp at hp ⊢; rcases hp with rfl | rfl <;> simp) (by kernel_rfl) (by kernel_rfl) ?_))
          refine .v (fun _ f => .move rfl) (.v (fun _ f => .nilCheck rfl) (.v (fun _ f => .fieldAddr rfl) (.v (fun _ f => .load (v := .pointer (some ⟨b, 0, none⟩)) rfl (.one (hb := .sub f) rfl)) (.v (fun _ f => .move rfl) (.v (fun _ h => .loadA (vs := [.int .u64 f.id, .int .u32 f.mb, .int .i64 f.ty, .int .i64 f.pr, .int .u64 (min f.pk f.hd), .int .u64 (f.hd - min f.pk f.hd), .int .u64 f.pk]) rfl (.whole (hb := .sub h)) rfl) ?_)))))
          refine .ef (.callT (Tb b (BL i x0 (.int .i64 meet) (.slice A3 rest.length c3) vo x4 (.int .u64 (nx seq))) :: ks3) rfl rfl (fun w' s' => rests_ok w' b i (3 - tk.side) (by omega) _ rfl f.next rest _ ks3 (BL_get hi _ _ _ _ _ _) hS3 (by omega))) (fun _ _ ⟨_, _, e⟩ _ => by subst e; intro p hp; simp at hp ⊢; rcases hp with rfl | rfl <;> simp) ?_
          rintro _ _ ⟨_, ⟨v4, ks4, rfl, hS4⟩, rfl⟩
          refine .nil ?_
          rw [BL_set hi]
          refine .keep ((b7, Ch.cells [.int .u64 f.id, .int .u32 f.mb, .int .i64 f.ty, .int .i64 f.pr, .int .u64 (min f.pk f.hd), .int .u64 (f.hd - min f.pk f.hd), .int .u64 f.pk] 125) :: TH t b po i x0 (.int .i64 meet) vo x4 tk (left - q) (nx seq) v4 ve1 ks4 ke1) ?_
          refine .region (.v (.move rfl) (.v (.fieldAddr rfl) (.v (.load (v := .int .u64 f.id) rfl (.one rfl)) (.v (.fieldAddr rfl) (.v (.load (v := .int .i64 f.pr) rfl (.one rfl)) (.v (.fieldAddr rfl) (.v (.load (v := .int .u64 (min f.pk f.hd)) rfl (.one rfl)) (.v (.build (out := (evRefresh f.id f.pr f.next.v).cells) rfl rfl) ?_))))))))
          refine .ef (.callT (Tt t b ve1 :: Tb b (BL i x0 (.int .i64 meet) v4 vo x4 (.int .u64 (nx seq))) :: ke1) rfl rfl (fun w' s' => tell_ok w' t b x0 (.int .i64 meet) _ _ x4 (nx seq) (evRefresh f.id f.pr f.next.v) _ ve1 ke1 hE1' (by omega))) ?_
          rintro _ _ ⟨_, ⟨ve5, ke5, rfl, hE5⟩, rfl⟩
          refine .nil ?_
          exact ⟨⟨(⟨rst (3 - tk.side) f.next rest, left - q, nx seq, evs ++ [(evTrade tk.o.id f.id tk.side f.pr q).num (nx seq)]⟩ : TS).tell (evRefresh f.id f.pr f.next.v), v4, ve5, ks4, ke5⟩, ⟨hS4, hE5, k1, k3, k7 _ k4 k2, k6⟩, k2, .cons rfl (.cons rfl (.cons rfl (.cons rfl (.cons rfl (.nil _))))), fun _ s => Sat.take (pre := TH t b po i x0 (.int .i64 meet) vo x4 tk (left - q) (nx (nx seq)) v4 ve5 ks4 ke5) s⟩
        · rw [if_neg h4] at k1 k2 k3 k4 k6
          exact ⟨⟨⟨rest, left - q, nx seq, evs ++ [(evTrade tk.o.id f.id tk.side f.pr q).num (nx seq)]⟩, _, ve1, ks3, ke1⟩, ⟨hS3, hE1', k1, k3, k7 _ k4 k2, k6⟩, k2, .cons rfl (.cons rfl (.cons rfl (.cons rfl (.cons rfl (.nil _))))), fun _ s => Sat.take (pre := TH t b po i x0 (.int .i64 meet) vo x4 tk (left - q) (nx seq) (.slice A3 rest.length c3) ve1 ks3 ke1) s⟩
    · have hstop : (⟨f :: rest, left, seq, evs⟩ : TS).step meet tk = none := by
        simp only [TS.step]
        rw [if_neg]
        rintro ⟨k1, k2⟩
        simp [k1, k2] at h1
      exact ⟨[], trivial, _, fun _ s => s, _, hrun _ (.stop hstop), _, ve, _, ke, rfl, hS, hE⟩
end Go.Proofs.Ytfajjkolhajldaa

/- Trading to its end, as a function. -/
namespace Go.Proofs.Ytfajjkolhajldaa
open Go.V
set_option linter.unusedVariables false
set_option linter.unusedSimpArgs false

def trF (meet : Int) (t : Tk) : Nat → TS → TS
  | 0, s => s
  | n + 1, s => match s.step meet t with
    | none => s
    | some s' => trF meet t n s'
/-- trading, to its end -/
def tr (meet : Int) (t : Tk) (s : TS) : TS := trF meet t (s.mu + 1) s
theorem trF_run {meet : Int} {t : Tk} : ∀ (n : Nat) (s : TS), s.Ok → s.mu < n → TRun meet t s (trF meet t n s)
  | 0, s, _, h => by omega
  | n + 1, s, hk, h => by
    unfold trF
    cases hs : s.step meet t with
    | none => exact .stop hs
    | some s' =>
      obtain ⟨h1, h2, _⟩ := hk.step hs
      exact .step hs (trF_run n s' h1 (by omega))
theorem tr_run {meet : Int} {t : Tk} {s : TS} (h : s.Ok) : TRun meet t s (tr meet t s) := trF_run _ s h (by omega)
theorem TRun.eq {meet : Int} {t : Tk} {s z : TS} (h : TRun meet t s z) (hk : s.Ok) : z = tr meet t s := h.det (tr_run hk)
theorem TRun.ok {meet : Int} {t : Tk} {s z : TS} (h : TRun meet t s z) (hk : s.Ok) : z.Ok ∧ z.L.length ≤ s.L.length ∧ z.evs.length + 2 * z.mu ≤ s.evs.length + 2 * s.mu ∧ z.left ≤ s.left := by
  induction h with
  | stop _ => exact ⟨hk, Nat.le_refl _, Nat.le_refl _, Int.le_refl _⟩
  | step hs _ ih =>
    obtain ⟨h1, h2, h3, h4, h5⟩ := hk.step hs
    obtain ⟨i1, i2, i3, i4⟩ := ih h1
    exact ⟨i1, by omega, by omega, by omega⟩
/-- what was traded -/
def tsum (l : List Ev) : Int := l.foldl (fun a e => if e.kind = 3 then IntKind.u64.wrap (a + e.q) else a) 0
theorem tsum_snoc (l : List Ev) (e : Ev) : tsum (l ++ [e]) = if e.kind = 3 then IntKind.u64.wrap (tsum l + e.q) else tsum l := by simp [tsum]
theorem mu_le {s : TS} (h : s.Ok) : s.mu ≤ 257 * s.L.length + 1 := by
  obtain ⟨L, left, seq, evs⟩ := s
  have hg := h.good
  unfold TS.mu
  dsimp only at *
  have key : (L.map Ord.shows).sum ≤ 257 * L.length := by
    clear h
    induction L with
    | nil => simp
    | cons f L ih =>
      have h1 := shows_le (hg f (by simp))
      have h2 := ih fun x hx => hg x (by simp [hx])
      simp only [List.map_cons, List.sum_cons, List.length_cons]
      omega
  split <;> omega
/-- a book -/
structure Bk where
  cap : Int
  meet : Int
  bs : List Ord
  ss : List Ord
  high : Int
  seq : Int
def Bk.side (B : Bk) (s : Int) : List Ord := if s = 1 then B.bs else B.ss
def Bk.put (B : Bk) (s : Int) (l : List Ord) : Bk := if s = 1 then ⟨B.cap, B.meet, l, B.ss, B.high, B.seq⟩ else ⟨B.cap, B.meet, B.bs, l, B.high, B.seq⟩
def Bk.num (B : Bk) (q : Int) : Bk := ⟨B.cap, B.meet, B.bs, B.ss, B.high, q⟩
abbrev Bc (B : Bk) (v1 v2 : Value) : List Value := [.int .i64 B.cap, .int .i64 B.meet, v1, v2, .int .u64 B.high, .int .u64 B.seq]
/-- a book in memory, whose sides are its own -/
def BkH (b : Nat) (B : Bk) (hs : Hp) : Prop := ∃ v1 v2 k1 k2, hs = Tb b (Bc B v1 v2) :: (k1 ++ k2) ∧ Side v1 B.bs k1 ∧ Side v2 B.ss k2
/-- .. with a teller -/
abbrev TBh (t b : Nat) (B : Bk) (v1 v2 ve : Value) (k1 k2 ke : Hp) : Hp := Tt t b ve :: Tb b (Bc B v1 v2) :: (k1 ++ (k2 ++ ke))
def TB (t b : Nat) (B : Bk) (evs : List Ev) (hs : Hp) : Prop := ∃ v1 v2 ve k1 k2 ke, hs = TBh t b B v1 v2 ve k1 k2 ke ∧ Side v1 B.bs k1 ∧ Side v2 B.ss k2 ∧ Evs ve evs ke
/-- the order that comes meets the other side: the state of trading -/
def Bk.ts (B : Bk) (evs : List Ev) (t : Tk) : TS := ⟨B.side (3 - t.side), t.left, B.seq, evs⟩
def Bk.traded (B : Bk) (t : Tk) (z : TS) : Bk := (B.put (3 - t.side) z.L).num z.seq
set_option maxRecDepth 10000 in
theorem trade_ok (w : World) (t b po : Nat) (B : Bk) (evs : List Ev) (tk : Tk) (hs : tk.side = 1 ∨ tk.side = 2) (v1 v2 ve : Value) (k1 k2 ke : Hp) (h1 : Side v1 B.bs k1) (h2 : Side v2 B.ss k2) (hE : Evs ve evs ke) (hOk : (B.ts evs tk).Ok)
    (hn : (B.ts evs tk).L.length ≤ 1000000) (he : evs.length ≤ 1000000000) :
    Does Try.prog 82 [.pointer (some ⟨t, 0, none⟩), .pointer (some ⟨po, 0, none⟩)] (To po tk tk.left :: TBh t b B v1 v2 ve k1 k2 ke) w
      (fun _ hs => ∃ h, hs = To po tk (tr B.meet tk (B.ts evs tk)).left :: h ∧ TB t b (B.traded tk (tr B.meet tk (B.ts evs tk))) (tr B.meet tk (B.ts evs tk)).evs h) := by
  have hmu := mu_le hOk
  have he2 : (B.ts evs tk).evs.length + 2 * (B.ts evs tk).mu ≤ 100000000000 := by
    have : (B.ts evs tk).evs.length = evs.length := rfl
    omega
  rcases hs with hs | hs
  · have e3 : B.side (3 - tk.side) = B.ss := by unfold Bk.side; rw [hs]; rfl
    have ep : ∀ z : TS, B.traded tk z = ⟨B.cap, B.meet, B.bs, z.L, B.high, z.seq⟩ := fun z => by unfold Bk.traded Bk.put; rw [hs]; rfl
    have := trades_ok w t b po 3 tk (.inl ⟨hs, rfl⟩) (.int .i64 B.cap) v1 (.int .u64 B.high) B.meet (B.ts evs tk) v2 ve k2 ke (by unfold Bk.ts; rw [e3]; exact h2) hE hOk hn he2
    have h3 : Does Try.prog 82 [.pointer (some ⟨t, 0, none⟩), .pointer (some ⟨po, 0, none⟩)] (Tt t b ve :: Tb b (Bc B v1 v2) :: To po tk tk.left :: (k2 ++ ke)) w _ := this
    refine (Does.lendT _ h3).keepT ?_
    rintro _ _ ⟨_, ⟨z, hz, vs', ve', ks', ke', rfl, hS', hE'⟩, rfl⟩
    obtain rfl := hz.eq hOk
    generalize tr B.meet tk (B.ts evs tk) = z at *
    have hp : ((Tt t b ve' :: Tb b (Bc ⟨B.cap, B.meet, B.bs, z.L, B.high, z.seq⟩ v1 vs') :: To po tk z.left :: (ks' ++ ke')) ++ (k1 ++ [])).Perm ((To po tk z.left :: TBh t b ⟨B.cap, B.meet, B.bs, z.L, B.high, z.seq⟩ v1 vs' ve' k1 ks' ke') ++ []) := TakeI.out
    exact ⟨To po tk z.left :: TBh t b (B.traded tk z) v1 vs' ve' k1 ks' ke', [], by rw [ep]; exact hp, _, rfl, v1, vs', ve', k1, ks', ke', rfl, by rw [ep]; exact h1, by rw [ep]; exact hS', hE'⟩
  · have e3 : B.side (3 - tk.side) = B.bs := by unfold Bk.side; rw [hs]; rfl
    have ep : ∀ z : TS, B.traded tk z = ⟨B.cap, B.meet, z.L, B.ss, B.high, z.seq⟩ := fun z => by unfold Bk.traded Bk.put; rw [hs]; rfl
    have := trades_ok w t b po 2 tk (.inr ⟨hs, rfl⟩) (.int .i64 B.cap) v2 (.int .u64 B.high) B.meet (B.ts evs tk) v1 ve k1 ke (by unfold Bk.ts; rw [e3]; exact h1) hE hOk hn he2
    have h3 : Does Try.prog 82 [.pointer (some ⟨t, 0, none⟩), .pointer (some ⟨po, 0, none⟩)] (Tt t b ve :: Tb b (Bc B v1 v2) :: To po tk tk.left :: (k1 ++ ke)) w _ := this
    refine (Does.lendT _ h3).keepT ?_
    rintro _ _ ⟨_, ⟨z, hz, vs', ve', ks', ke', rfl, hS', hE'⟩, rfl⟩
    obtain rfl := hz.eq hOk
    generalize tr B.meet tk (B.ts evs tk) = z at *
    have hp : ((Tt t b ve' :: Tb b (Bc ⟨B.cap, B.meet, z.L, B.ss, B.high, z.seq⟩ vs' v2) :: To po tk z.left :: (ks' ++ ke')) ++ (k2 ++ [])).Perm ((To po tk z.left :: TBh t b ⟨B.cap, B.meet, z.L, B.ss, B.high, z.seq⟩ vs' v2 ve' ks' k2 ke') ++ []) := TakeI.out
    exact ⟨To po tk z.left :: TBh t b (B.traded tk z) vs' v2 ve' ks' k2 ke', [], by rw [ep]; exact hp, _, rfl, vs', v2, ve', ks', k2, ke', rfl, by rw [ep]; exact hS', by rw [ep]; exact h2, hE'⟩
end Go.Proofs.Ytfajjkolhajldaa

/- (*teller).whole: would an order trade whole? -/
namespace Go.Proofs.Ytfajjkolhajldaa
open Go.V
set_option linter.unusedVariables false
set_option linter.unusedSimpArgs false

theorem Does.kept {P : Program} {g : Nat} {vals : List Value} {w : World} {v : Value} (h : Does P g vals [] w (fun u _ => u = v)) : Is P g vals w v :=
  Does.less (h.mono fun u hs e => ⟨[], fun _ s => s.sub (List.nil_sublist _), e, rfl⟩)
set_option maxRecDepth 10000 in
theorem whole_ok (w : World) (t b : Nat) (B : Bk) (tk : Tk) (hs : tk.side = 1 ∨ tk.side = 2) (ve : Value) (A1 A2 : Option Addr) (c1 c2 : Nat) (ht : Rd w [] (some ⟨t, 0, none⟩) [.pointer (some ⟨b, 0, none⟩), ve])
    (hb : Rd w [] (some ⟨b, 0, none⟩) (Bc B (.slice A1 B.bs.length c1) (.slice A2 B.ss.length c2))) (h1 : Rd w [] A1 (rows B.bs)) (h2 : Rd w [] A2 (rows B.ss)) (hOk : (B.ts [] tk).Ok) (hn1 : B.bs.length ≤ 1000000) (hn2 : B.ss.length ≤ 1000000) :
    Is Try.prog 81 [.pointer (some ⟨t, 0, none⟩), .agg ⟨tk.cells⟩] w (.bool (decide (tsum (tr B.meet tk (B.ts [] tk)).evs = tk.left))) := by
  have hnn : (B.ts [] tk).L.length ≤ 1000000 := by
    unfold Bk.ts Bk.side
    simp only
    split <;> assumption
  refine Does.kept (Does.of (n := 46) Try.func81 rfl rfl rfl rfl ?_)
  refine .seq ((.region (.nw (.box (l := [.int .u64 tk.o.id, .int .u32 tk.o.mb, .int .i64 tk.o.ty, .int .i64 tk.o.pr, .int .u64 tk.o.v, .int .u64 tk.o.hd, .int .u64 tk.o.pk, .int .i64 tk.side, .int .i64 tk.kind, .int .u64 tk.left]) rfl rfl) fun b3 => (.v (.assign rfl) (.nil ?_)))))
  refine .seq ((.region (.v (.move rfl) (.v (.nilCheck rfl) (.v (.fieldAddr rfl) (.v (.load (v := .pointer (some ⟨b, 0, none⟩)) rfl (ht.cell (i := 0) rfl)) (.v (.nilCheck rfl) (.v (.fieldAddr rfl) (.v (.loadA (vs := Bc B (.slice A1 B.bs.length c1) (.slice A2 B.ss.length c2)) rfl hb.whole rfl) ?_)))))))))
  refine .ef (.call0 rfl rfl fun w s => copied_ok w B.cap B.meet B.high B.seq A1 A2 c1 c2 B.bs B.ss (h1.keep0 s) (h2.keep0 s) (by omega) (by omega)) ?_
  rintro _ _ ⟨_, ⟨E1, E2, d1, d2, k1, k2, rfl, rfl, o1, o2⟩, rfl⟩
  refine .v (.build (out := Bc B (.slice E1 B.bs.length d1) (.slice E2 B.ss.length d2)) rfl rfl) (.nw (.box (l := Bc B (.slice E1 B.bs.length d1) (.slice E2 B.ss.length d2)) rfl rfl) fun b19 => (.v (.build (out := [.pointer (some ⟨b19, 0, none⟩), .slice none 0 0]) rfl rfl) (.nw (.box (l := [.pointer (some ⟨b19, 0, none⟩), .slice none 0 0]) rfl rfl) fun b21 => (.v (.assign rfl) (.nil ?_)))))
  refine .seq ((.region (.v (.fieldAddr rfl) (.v (.load (v := .int .u64 tk.left) rfl (.one rfl)) (.v (.assign rfl) (.nil ?_))))))
  refine .seq ((.region (.v (.move rfl) ?_)))
  refine .ef (.callT (To b3 tk tk.left :: TBh b21 b19 B (.slice E1 B.bs.length d1) (.slice E2 B.ss.length d2) (.slice none 0 0) k1 k2 []) rfl rfl (fun w' s' => trade_ok w' b21 b19 b3 B [] tk hs _ _ _ k1 k2 [] o1 o2 (OwnS.nil _ _) hOk hnn (by simp))) ?_
  rintro _ _ ⟨_, ⟨h, rfl, ⟨v1', v2', ve', k1', k2', ke', rfl, -, -, hE⟩⟩, rfl⟩
  have hz := (tr_run (meet := B.meet) (t := tk) hOk).ok hOk
  have hmu := mu_le hOk
  have hze : (B.ts [] tk).evs.length = 0 := rfl
  generalize tr B.meet tk (B.ts [] tk) = z at *
  refine .nil ?_
  obtain ⟨A, c, rfl⟩ := OwnS.sl hE
  refine .seq ((.region (.v (.assign rfl) (.nil ?_))))
  refine .seq (.seq ((.region (.v (.move rfl) (.v (.nilCheck rfl) (.v (.fieldAddr rfl) (.v (.load (v := .slice A z.evs.length c) rfl (.one rfl)) (.v (.len rfl) (.v (.move rfl) (.nil ?_))))))))))
  refine .keep ke' ?_
  have hnb : z.evs.length ≤ 2513169434843 := by
    omega
  refine .block (.loop (X := Nat) (fun i => [(6, .int .u64 tk.left), (7, .int .u64 (tsum (z.evs.take i))), (29, .slice A z.evs.length c), (30, .int .i64 z.evs.length), (31, .int .i64 i)]) (fun _ => ke') (fun i => i ≤ z.evs.length) (fun i => z.evs.length - i) 0 (by omega)
    (.cons rfl (.cons rfl (.cons rfl (.cons rfl (.cons rfl (.nil _)))))) (fun _ s => s) ?_)
  intro i hi
  refine .seq ((.region (.v (.lss rfl rfl) (.nil ?_))))
  refine .seq (.cond_dec rfl (fun g1 => .skip ?_) (fun g1 => .exit ?_))
  · have hil : i < z.evs.length := by omega
    obtain ⟨bk, ok, lk, rfl, -, rfl, -, -, -⟩ := hE.some_ (by omega)
    generalize hev : z.evs[i] = ev
    have hat : ∀ own, At w own [(bk, Ch.cells lk 40)] ⟨bk, ok + i * 13, none⟩ ev.cells := fun own => hE.atN (fun _ h => h) (fun j v hv => by
      have h13 := (List.getElem?_eq_some_iff.1 hv).1
      rw [erows_get z.evs i j hil (by simpa [Ev.cells] using h13), hev]; exact hv)
    have etk : z.evs.take (i + 1) = z.evs.take i ++ [ev] := by rw [List.take_add_one, List.getElem?_eq_getElem hil, hev]; rfl
    refine .seq (.block (.seq ((.region (.v (.indexAddr rfl rfl (by omega) (by omega)) (.v (.loadA (vs := ev.cells) rfl (hat _) rfl) (.nw .alloc fun b9 => (.st (.sw rfl rfl) (.nil ?_)))))))))
    refine .seq ((.region (.v (.fieldAddr rfl) (.v (.load (v := .int .i64 ev.kind) rfl (.one rfl)) (.v (.eqi rfl rfl) (.nil ?_))))))
    refine .cond_dec rfl (fun g2 => ?_) (fun g2 => .skip ?_)
    · refine .region (.v (.move rfl) (.v (.fieldAddr rfl) (.v (.load (v := .int .u64 ev.q) rfl (.one rfl)) (.v (.add rfl rfl) (.v (.assign rfl) (.nil ?_))))))
      refine .region (.v (.addi rfl rfl (by omega)) (.v (.move rfl) (.nil ?_)))
      exact ⟨i + 1, by omega, by omega, .cons rfl (.cons (by rw [etk, tsum_snoc, if_pos g2]; rfl) (.cons rfl (.cons rfl (.cons rfl (.nil _))))), fun _ s => s.take⟩
    · refine .region (.v (.addi rfl rfl (by omega)) (.v (.move rfl) (.nil ?_)))
      exact ⟨i + 1, by omega, by omega, .cons rfl (.cons (by rw [etk, tsum_snoc, if_neg g2]; rfl) (.cons rfl (.cons rfl (.cons rfl (.nil _))))), fun _ s => s.take⟩
  · refine .seq ((.region (.v (.move rfl) (.v (.move rfl) (.v (.eqi rfl rfl) (.v (.assign rfl) (.nil ?_)))))))
    have : z.evs.take i = z.evs := List.take_of_length_le (by omega)
    exact .ret ⟨[_], ⟨rfl, trivial⟩, by rw [this]; rfl⟩
end Go.Proofs.Ytfajjkolhajldaa

/- tell and rests in terms of books; (*teller).comes. -/
namespace Go.Proofs.Ytfajjkolhajldaa
open Go.V
set_option linter.unusedVariables false
set_option linter.unusedSimpArgs false

theorem tellB_ok (w : World) (t b : Nat) (B : Bk) (evs : List Ev) (e : Ev) (v1 v2 ve : Value) (k1 k2 ke : Hp) (h1 : Side v1 B.bs k1) (h2 : Side v2 B.ss k2) (hE : Evs ve evs ke) (hn : evs.length + 1 ≤ 1000000000000) :
    Does Try.prog 54 [.pointer (some ⟨t, 0, none⟩), .agg ⟨e.cells⟩] (TBh t b B v1 v2 ve k1 k2 ke) w (fun _ hs => TB t b (B.num (nx B.seq)) (evs ++ [e.num (nx B.seq)]) hs) := by
  refine (Does.lendT (Tt t b ve :: Tb b (Bc B v1 v2) :: ke) (tell_ok w t b _ _ _ _ _ B.seq e evs ve ke hE hn)).keepT ?_
  rintro _ _ ⟨_, ⟨ve', ke', rfl, hE'⟩, rfl⟩
  have hp : ((Tt t b ve' :: Tb b (Bc (B.num (nx B.seq)) v1 v2) :: ke') ++ (k1 ++ (k2 ++ []))).Perm (TBh t b (B.num (nx B.seq)) v1 v2 ve' k1 k2 ke' ++ []) := TakeI.out
  exact ⟨TBh t b (B.num (nx B.seq)) v1 v2 ve' k1 k2 ke', [], hp, v1, v2, ve', k1, k2, ke', rfl, h1, h2, hE'⟩
theorem restB_ok (w : World) (b : Nat) (B : Bk) (s : Int) (hs : s = 1 ∨ s = 2) (o : Ord) (v1 v2 : Value) (k1 k2 : Hp) (h1 : Side v1 B.bs k1) (h2 : Side v2 B.ss k2) (hn1 : B.bs.length ≤ 1000000) (hn2 : B.ss.length ≤ 1000000) :
    Does Try.prog 83 [.pointer (some ⟨b, 0, none⟩), .int .i64 s, .agg ⟨o.cells⟩] (Tb b (Bc B v1 v2) :: (k1 ++ k2)) w (fun _ hs => BkH b (B.put s (rst s o (B.side s))) hs) := by
  rcases hs with rfl | rfl
  · refine (Does.lendT (Tb b (Bc B v1 v2) :: k1) (rests_ok w b 2 1 (by omega) (Bc B v1 v2) rfl o B.bs _ k1 rfl h1 (by omega))).keepT ?_
    rintro _ _ ⟨_, ⟨v, k', rfl, h'⟩, rfl⟩
    have e : B.put 1 (rst 1 o (B.side 1)) = ⟨B.cap, B.meet, rst 1 o B.bs, B.ss, B.high, B.seq⟩ := rfl
    have hp : ((Tb b (Bc ⟨B.cap, B.meet, rst 1 o B.bs, B.ss, B.high, B.seq⟩ v v2) :: k') ++ k2).Perm ((Tb b (Bc ⟨B.cap, B.meet, rst 1 o B.bs, B.ss, B.high, B.seq⟩ v v2) :: (k' ++ k2)) ++ []) := TakeI.out
    exact ⟨Tb b (Bc ⟨B.cap, B.meet, rst 1 o B.bs, B.ss, B.high, B.seq⟩ v v2) :: (k' ++ k2), [], hp, v, v2, k', k2, rfl, h', h2⟩
  · refine (Does.lendT (Tb b (Bc B v1 v2) :: k2) (rests_ok w b 3 2 (by omega) (Bc B v1 v2) rfl o B.ss _ k2 rfl h2 (by omega))).keepT ?_
    rintro _ _ ⟨_, ⟨v, k', rfl, h'⟩, rfl⟩
    have e : B.put 2 (rst 2 o (B.side 2)) = ⟨B.cap, B.meet, B.bs, rst 2 o B.ss, B.high, B.seq⟩ := rfl
    have hp : ((Tb b (Bc ⟨B.cap, B.meet, B.bs, rst 2 o B.ss, B.high, B.seq⟩ v1 v) :: k') ++ (k1 ++ [])).Perm ((Tb b (Bc ⟨B.cap, B.meet, B.bs, rst 2 o B.ss, B.high, B.seq⟩ v1 v) :: (k1 ++ k')) ++ []) := TakeI.out
    exact ⟨Tb b (Bc ⟨B.cap, B.meet, B.bs, rst 2 o B.ss, B.high, B.seq⟩ v1 v) :: (k1 ++ k'), [], hp, v1, v, k1, k', rfl, h1, h'⟩
/-- the order that rests: what it shows, what it hides -/
def restOf (o : Ord) (left : Int) : Ord := ⟨o.id, o.mb, o.ty, o.pr, if 0 < o.pk then min o.pk left else left, left - (if 0 < o.pk then min o.pk left else left), o.pk⟩
def Bk.comes (B : Bk) (evs : List Ev) (t : Tk) : Bk × List Ev :=
  if t.kind = 4 ∧ tsum (tr B.meet t (B.ts [] t)).evs ≠ t.left then (B.num (nx B.seq), evs ++ [(evCancel t.o.id t.left 4).num (nx B.seq)])
  else
    let z := tr B.meet t (B.ts evs t)
    let B1 := B.traded t z
    if z.left = 0 then (B1, z.evs)
    else if t.kind ≠ 1 ∧ t.kind ≠ 5 then (B1.num (nx B1.seq), z.evs ++ [(evCancel t.o.id z.left 3).num (nx B1.seq)])
    else (B1.put t.side (rst t.side (restOf t.o z.left) (B1.side t.side)), z.evs)
set_option maxRecDepth 10000 in
theorem comes_ok (w : World) (t b : Nat) (B : Bk) (evs : List Ev) (tk : Tk) (hs : tk.side = 1 ∨ tk.side = 2) (v1 v2 ve : Value) (k1 k2 ke : Hp) (h1 : Side v1 B.bs k1) (h2 : Side v2 B.ss k2) (hE : Evs ve evs ke) (hOk : (B.ts evs tk).Ok) (hpk : U tk.o.pk)
    (hn1 : B.bs.length ≤ 500000) (hn2 : B.ss.length ≤ 500000) (he : evs.length ≤ 1000000) :
    Does Try.prog 57 [.pointer (some ⟨t, 0, none⟩), .agg ⟨tk.cells⟩] (TBh t b B v1 v2 ve k1 k2 ke) w (fun _ hs => TB t b (B.comes evs tk).1 (B.comes evs tk).2 hs) := by
  have hOk0 : (B.ts [] tk).Ok := ⟨hOk.good, hOk.lo, hOk.hi⟩
  have hnn : (B.ts evs tk).L.length ≤ 1000000 := by
    unfold Bk.ts Bk.side; simp only
    split <;> omega
  obtain ⟨A1, c1, rfl⟩ := OwnS.sl h1
  obtain ⟨A2, c2, rfl⟩ := OwnS.sl h2
  refine Does.less (Does.of (n := 75) Try.func57 rfl rfl rfl rfl ?_)
  refine .seq ((.region (.nw (.box (l := [.int .u64 tk.o.id, .int .u32 tk.o.mb, .int .i64 tk.o.ty, .int .i64 tk.o.pr, .int .u64 tk.o.v, .int .u64 tk.o.hd, .int .u64 tk.o.pk, .int .i64 tk.side, .int .i64 tk.kind, .int .u64 tk.left]) rfl rfl) fun b3 => (.nil ?_))))
  refine .seq (.seq ((.region (.v (.fieldAddr rfl) (.v (.load (v := .int .i64 tk.kind) rfl (.one rfl)) (.v (.eqi rfl rfl) (.v (.move rfl) (.and 7 11 4 4 rfl rfl (fun g1 => .v (.move rfl) (.v (.loadA (vs := tk.cells) rfl .whole rfl) (.pc rfl rfl (fun w s => whole_ok w t b B tk hs ve A1 A2 c1 c2 (Rd.chunk s (T := 120) (l := [.pointer (some ⟨b, 0, none⟩), ve]) (by simp) (fun j v hv => by rw [Nat.zero_add]; exact hv)) (Rd.chunk s (T := 117) (l := Bc B (.slice A1 B.bs.length c1) (.slice A2 B.ss.length c2)) (by simp) (fun j v hv => by rw [Nat.zero_add]; exact hv)) (OwnS.rd h1 s (no := []) (fun p hp => by simp [hp]) (by simp)) (OwnS.rd h2 s (no := []) (fun p hp => by simp [hp]) (by simp)) hOk0 (by omega) (by omega)) (.v (.not rfl) (.nil ⟨rfl, rfl, rfl, rfl⟩))))) (.nil ?_)))))))))
  refine .cond rfl (fun g1 => ?_) (fun g1 => .skip ?_)
  · have g1' : tk.kind = 4 ∧ tsum (tr B.meet tk (B.ts [] tk)).evs ≠ tk.left := by simpa using g1
    have eC : B.comes evs tk = (B.num (nx B.seq), evs ++ [(evCancel tk.o.id tk.left 4).num (nx B.seq)]) := by unfold Bk.comes; rw [if_pos g1']
    refine .seq ((.region (.v (.move rfl) (.v (.fieldAddr rfl) (.v (.fieldAddr rfl) (.v (.load (v := .int .u64 tk.o.id) rfl (.one rfl)) (.v (.fieldAddr rfl) (.v (.load (v := .int .u64 tk.left) rfl (.one rfl)) (.v (.build (out := (evCancel tk.o.id tk.left 4).cells) rfl rfl) ?_)))))))))
    refine .ef (.callT (TBh t b B (.slice A1 B.bs.length c1) (.slice A2 B.ss.length c2) ve k1 k2 ke) rfl rfl (fun w' s' => tellB_ok w' t b B evs (evCancel tk.o.id tk.left 4) _ _ ve k1 k2 ke h1 h2 hE (by omega))) ?_
    rintro _ _ ⟨_, ⟨v1', v2', ve', k1', k2', ke', rfl, h1', h2', hE'⟩, rfl⟩
    refine .nil (.ret ⟨[], trivial, _, fun _ s => Sat.take (pre := TBh t b (B.num (nx B.seq)) v1' v2' ve' k1' k2' ke') s, ?_⟩)
    rw [eC]
    exact ⟨v1', v2', ve', k1', k2', ke', rfl, h1', h2', hE'⟩
  have g1' : ¬ (tk.kind = 4 ∧ tsum (tr B.meet tk (B.ts [] tk)).evs ≠ tk.left) := by
    rintro ⟨a, c⟩
    simp [a, c] at g1
  refine .seq ((.region (.v (.move rfl) ?_)))
  refine .ef (.callT (To b3 tk tk.left :: TBh t b B (.slice A1 B.bs.length c1) (.slice A2 B.ss.length c2) ve k1 k2 ke) rfl rfl (fun w' s' => trade_ok w' t b b3 B evs tk hs _ _ ve k1 k2 ke h1 h2 hE hOk hnn (by omega))) ?_
  rintro _ _ ⟨_, ⟨h, rfl, ⟨v1', v2', ve', k1', k2', ke', rfl, h1', h2', hE'⟩⟩, rfl⟩
  obtain ⟨zok, zlen, zev, zl⟩ := (tr_run (meet := B.meet) (t := tk) hOk).ok hOk
  have hmu := mu_le hOk
  have eC0 : B.comes evs tk = (if (tr B.meet tk (B.ts evs tk)).left = 0 then (B.traded tk (tr B.meet tk (B.ts evs tk)), (tr B.meet tk (B.ts evs tk)).evs)
      else if tk.kind ≠ 1 ∧ tk.kind ≠ 5 then ((B.traded tk (tr B.meet tk (B.ts evs tk))).num (nx (B.traded tk (tr B.meet tk (B.ts evs tk))).seq), (tr B.meet tk (B.ts evs tk)).evs ++ [(evCancel tk.o.id (tr B.meet tk (B.ts evs tk)).left 3).num (nx (B.traded tk (tr B.meet tk (B.ts evs tk))).seq)])
      else ((B.traded tk (tr B.meet tk (B.ts evs tk))).put tk.side (rst tk.side (restOf tk.o (tr B.meet tk (B.ts evs tk)).left) ((B.traded tk (tr B.meet tk (B.ts evs tk))).side tk.side)), (tr B.meet tk (B.ts evs tk)).evs)) := by
    unfold Bk.comes; rw [if_neg g1']
  rw [eC0]
  have hL : ∀ z : TS, z.L.length ≤ (B.ts evs tk).L.length → (B.traded tk z).bs.length ≤ 1000000 ∧ (B.traded tk z).ss.length ≤ 1000000 := fun z hz => by
    unfold Bk.traded Bk.put Bk.num
    split <;> simp <;> omega
  have hL2 := hL _ zlen
  have hev0 : (B.ts evs tk).evs.length = evs.length := rfl
  generalize tr B.meet tk (B.ts evs tk) = z at *
  have ezlo := zok.lo
  have ezhi := zok.hi
  generalize B.traded tk z = B1 at *
  refine .nil ?_
  refine .keep (To b3 tk z.left :: TBh t b B1 v1' v2' ve' k1' k2' ke') ?_
  refine .seq (.seq ((.region (.v (.fieldAddr rfl) (.v (.load (v := .int .u64 z.left) rfl (.one rfl)) (.v (.eqi rfl rfl) (.nil ?_)))))))
  refine .cond_dec rfl (fun g2 => ?_) (fun g2 => .skip ?_)
  · rw [if_pos g2]
    exact .ret ⟨[], trivial, _, fun _ s => Sat.take (pre := TBh t b B1 v1' v2' ve' k1' k2' ke') s, v1', v2', ve', k1', k2', ke', rfl, h1', h2', hE'⟩
  rw [if_neg g2]
  refine .seq (.seq ((.region (.v (.fieldAddr rfl) (.v (.load (v := .int .i64 tk.kind) rfl (.one rfl)) (.v (.nei rfl rfl) (.v (.move rfl) (.and 29 32 3 3 rfl rfl (fun g2 => .v (.fieldAddr rfl) (.v (.load (v := .int .i64 tk.kind) rfl (.one rfl)) (.v (.nei rfl rfl) (.nil ⟨rfl, rfl, rfl, rfl⟩)))) (.nil ?_)))))))))
  refine .cond rfl (fun g3 => ?_) (fun g3 => .skip ?_) <;> simp only [Bool.and_eq_true, Bool.or_eq_true, Bool.not_eq_true', Bool.and_eq_false_iff, Bool.or_eq_false_iff, Bool.not_eq_false', decide_eq_true_eq, decide_eq_false_iff_not, Bool.false_eq_true, false_iff] at g3
  · rw [if_pos g3]
    refine .seq ((.region (.v (.move rfl) (.v (.fieldAddr rfl) (.v (.fieldAddr rfl) (.v (.load (v := .int .u64 tk.o.id) rfl (.one rfl)) (.v (.fieldAddr rfl) (.v (.load (v := .int .u64 z.left) rfl (.one rfl)) (.v (.build (out := (evCancel tk.o.id z.left 3).cells) rfl rfl) ?_)))))))))
    refine .ef (.callT (TBh t b B1 v1' v2' ve' k1' k2' ke') rfl rfl (fun w' s' => tellB_ok w' t b B1 z.evs (evCancel tk.o.id z.left 3) _ _ ve' k1' k2' ke' h1' h2' hE' (by omega))) ?_
    rintro _ _ ⟨_, ⟨v1x, v2x, vex, k1x, k2x, kex, rfl, h1x, h2x, hEx⟩, rfl⟩
    exact .nil (.ret ⟨[], trivial, _, fun _ s => Sat.take (pre := TBh t b (B1.num (nx B1.seq)) v1x v2x vex k1x k2x kex) s, v1x, v2x, vex, k1x, k2x, kex, rfl, h1x, h2x, hEx⟩)
  rw [if_neg (by omega)]
  obtain ⟨lv, hlv⟩ : ∃ lv, (if 0 < tk.o.pk then min tk.o.pk z.left else z.left) = lv := ⟨_, rfl⟩
  have hU := hpk
  unfold U at hU
  have hlv2 : 0 ≤ z.left - lv ∧ z.left - lv ≤ 18446744073709551615 := by
    rw [← hlv]
    split <;> omega
  have er : restOf tk.o z.left = ⟨tk.o.id, tk.o.mb, tk.o.ty, tk.o.pr, lv, z.left - lv, tk.o.pk⟩ := by unfold restOf; rw [hlv]
  rw [er]
  refine .seq ((.region (.v (.fieldAddr rfl) (.v (.load (v := .int .u64 z.left) rfl (.one rfl)) (.v (.fieldAddr rfl) (.v (.fieldAddr rfl) (.st (.storeL rfl rfl rfl) (.nil ?_))))))))
  refine .mid (X := Unit) (fun _ => [(0, .pointer (some ⟨t, 0, none⟩)), (3, .pointer (some ⟨b3, 0, none⟩))]) (fun _ => To b3 ⟨⟨tk.o.id, tk.o.mb, tk.o.ty, tk.o.pr, lv, tk.o.hd, tk.o.pk⟩, tk.side, tk.kind, tk.left⟩ z.left :: TBh t b B1 v1' v2' ve' k1' k2' ke') (fun _ => True)
    (.seq ((.region (.v (.fieldAddr rfl) (.v (.fieldAddr rfl) (.v (.load (v := .int .u64 tk.o.pk) rfl (.one rfl)) (.v (.gtr rfl rfl) (.nil ?_)))))))) ?_
  · refine .cond_dec rfl (fun g4 => ?_) (fun g4 => .skip ?_)
    · refine .region (.v (.fieldAddr rfl) (.v (.fieldAddr rfl) (.v (.load (v := .int .u64 tk.o.pk) rfl (.one rfl)) (.v (.fieldAddr rfl) (.v (.load (v := .int .u64 z.left) rfl (.one rfl)) (.v (.min2 rfl rfl) (.v (.fieldAddr rfl) (.v (.fieldAddr rfl) (.st (.storeL rfl rfl rfl) (.nil ?_))))))))))
      have e : min tk.o.pk z.left = lv := by rw [← hlv, if_pos g4]
      rw [e]
      exact ⟨(), trivial, .cons rfl (.cons rfl (.nil _)), fun _ s => s⟩
    · have e : z.left = lv := by rw [← hlv, if_neg g4]
      refine ⟨(), trivial, .cons rfl (.cons rfl (.nil _)), fun _ s => ?_⟩
      rw [← e]
      exact s
  · rintro _ _
    refine .seq ((.region (.v (.fieldAddr rfl) (.v (.load (v := .int .u64 z.left) rfl (.one rfl)) (.v (.fieldAddr rfl) (.v (.fieldAddr rfl) (.v (.load (v := .int .u64 lv) rfl (.one rfl)) (.v (.subU (z.left - lv) rfl rfl rfl hlv2) (.v (.fieldAddr rfl) (.v (.fieldAddr rfl) (.st (.storeL rfl rfl rfl) (.nil ?_))))))))))))
    refine (.drawK [Tt t b ve', (b3, Ch.cells [.int .u64 tk.o.id, .int .u32 tk.o.mb, .int .i64 tk.o.ty, .int .i64 tk.o.pr, .int .u64 lv, .int .u64 (z.left - lv), .int .u64 tk.o.pk, .int .i64 tk.side, .int .i64 tk.kind, .int .u64 z.left] 132)] (by intro p hp; simp at hp ⊢; rcases hp with rfl | rfl <;> simp) (by kernel_rfl) (by kernel_rfl) ?_)
    refine .v (fun _ f => .move rfl) (.v (fun _ f => .nilCheck rfl) (.v (fun _ f => .fieldAddr rfl) (.v (fun _ f => .load (v := .pointer (some ⟨b, 0, none⟩)) rfl (.one (hb := .sub f) rfl)) (.v (fun _ f => .fieldAddr rfl) (.v (fun _ f => .load (v := .int .i64 tk.side) rfl (.one (hb := .sub f) rfl)) (.v (fun _ f => .fieldAddr rfl) (.v (fun _ f => .loadA (vs := [.int .u64 tk.o.id, .int .u32 tk.o.mb, .int .i64 tk.o.ty, .int .i64 tk.o.pr, .int .u64 lv, .int .u64 (z.left - lv), .int .u64 tk.o.pk]) rfl (.chunk (hb := .sub f) (fun j v hv => ?_)) rfl) ?_)))))))
    · match j, hv with
      | 0, hv => exact hv
      | 1, hv => exact hv
      | 2, hv => exact hv
      | 3, hv => exact hv
      | 4, hv => exact hv
      | 5, hv => exact hv
      | 6, hv => exact hv
      | _ + 7, hv => cases hv
    refine .ef (.callT (Tb b (Bc B1 v1' v2') :: (k1' ++ k2')) rfl rfl (fun w' s' => restB_ok w' b B1 tk.side hs ⟨tk.o.id, tk.o.mb, tk.o.ty, tk.o.pr, lv, z.left - lv, tk.o.pk⟩ _ _ k1' k2' h1' h2' hL2.1 hL2.2)) (fun _ _ ⟨_, _, e⟩ _ => by subst e; intro p hp; simp at hp ⊢; rcases hp with rfl | rfl <;> simp) ?_
    rintro _ _ ⟨_, ⟨v1x, v2x, k1x, k2x, rfl, h1x, h2x⟩, rfl⟩
    exact .nil ⟨[], trivial, _, fun _ s => Sat.take (pre := TBh t b (B1.put tk.side (rst tk.side ⟨tk.o.id, tk.o.mb, tk.o.ty, tk.o.pr, lv, z.left - lv, tk.o.pk⟩ (B1.side tk.side))) v1x v2x ve' k1x k2x ke') s, v1x, v2x, ve', k1x, k2x, ke', rfl, h1x, h2x, hE'⟩
end Go.Proofs.Ytfajjkolhajldaa

/- (*Book).Do: what it does. -/
namespace Go.Proofs.Ytfajjkolhajldaa
open Go.V
set_option linter.unusedVariables false
set_option linter.unusedSimpArgs false

def evReject (id target code : Int) : Ev := ⟨0, 2, id, 0, target, 0, 0, 0, 0, 0, 0, 0, code⟩
def evAck (t : Tk) : Ev := ⟨0, 1, t.o.id, 0, 0, t.o.mb, t.side, t.kind, t.o.pr, t.left, t.o.pk, 0, 0⟩
def Bk.top (B : Bk) (h : Int) : Bk := ⟨B.cap, B.meet, B.bs, B.ss, h, B.seq⟩
/-- where the order that a command speaks of stands; the order -/
def Bk.at_ (B : Bk) (c : Cm) : Int × Int × Bool := plc c.tg B.bs B.ss
def Bk.tgt (B : Bk) (c : Cm) : Option Ord := if (B.at_ c).2.2 then (B.side (B.at_ c).1)[(B.at_ c).2.1.toNat]? else none
def Bk.why (B : Bk) (c : Cm) : Int := rfs B.cap B.high B.bs B.ss c (B.tgt c) (B.at_ c).1
/-- the order that a command speaks of goes -/
def Bk.goes (B : Bk) (c : Cm) : Bk := if c.k ≠ 1 then (B.put (B.at_ c).1 ((B.side (B.at_ c).1).eraseIdx (B.at_ c).2.1.toNat)).num (nx B.seq) else B
def Bk.gone (B : Bk) (c : Cm) : List Ev := if c.k ≠ 1 then (match B.tgt c with | some o => [(evCancel c.tg (o.v + o.hd) (if c.k = 3 then 2 else 1)).num (nx B.seq)] | none => []) else []
def Bk.does (B : Bk) (c : Cm) : Bk × List Ev :=
  if B.why c ≠ 0 then (B.num (nx B.seq), [(evReject (if c.k = 2 then 0 else c.id) (if c.k = 1 then 0 else c.tg) (B.why c)).num (nx B.seq)])
  else if c.k ≠ 2 then Bk.comes (((B.goes c).num (nx (B.goes c).seq)).top (cmg c (B.tgt c) (B.at_ c).1).o.id) (B.gone c ++ [(evAck (cmg c (B.tgt c) (B.at_ c).1)).num (nx (B.goes c).seq)]) (cmg c (B.tgt c) (B.at_ c).1)
  else (B.goes c, B.gone c)
theorem at_spec (B : Bk) (c : Cm) : (B.at_ c = (0, 0, false) ∧ B.tgt c = none ∧ (∀ o ∈ B.bs ++ B.ss, o.id ≠ c.tg)) ∨
    ∃ s : Int, (s = 1 ∨ s = 2) ∧ ∃ i, ∃ hi : i < (B.side s).length, B.at_ c = (s, (i : Int), true) ∧ B.tgt c = some (B.side s)[i] ∧ (B.side s)[i].id = c.tg := by
  have hsome : ∀ (s : Int) (i : Nat) (hi : i < (B.side s).length), B.at_ c = (s, (i : Int), true) → B.tgt c = some (B.side s)[i] := fun s i hi h => by
    unfold Bk.tgt; rw [h]; simp [hi]
  rcases idx_spec c.tg B.bs with ⟨h1, n1⟩ | ⟨i, hi, h1, h2, h3⟩
  · rcases idx_spec c.tg B.ss with ⟨h2, n2⟩ | ⟨i, hi, h2, h3, h4⟩
    · refine .inl ⟨?_, ?_, fun o ho => ?_⟩
      · unfold Bk.at_ plc; rw [h1, h2]; rfl
      · have : B.at_ c = (0, 0, false) := by unfold Bk.at_ plc; rw [h1, h2]; rfl
        unfold Bk.tgt; rw [this]; rfl
      · rcases List.mem_append.1 ho with ho | ho
        · obtain ⟨m, hm, rfl⟩ := List.mem_iff_getElem.1 ho; exact n1 m hm
        · obtain ⟨m, hm, rfl⟩ := List.mem_iff_getElem.1 ho; exact n2 m hm
    · have e : B.at_ c = (2, (i : Int), true) := by unfold Bk.at_ plc; rw [h1, h2, if_neg (by omega), if_pos (by omega)]
      exact .inr ⟨2, .inr rfl, i, hi, e, hsome 2 i hi e, h3⟩
  · have e : B.at_ c = (1, (i : Int), true) := by unfold Bk.at_ plc; rw [h1, if_pos (by omega)]
    exact .inr ⟨1, .inl rfl, i, hi, e, hsome 1 i hi e, h2⟩
/-- the order that a command speaks of, in a block of its own -/
def TgH (tp : Option Addr) (h : Hp) : Option Ord → Prop
  | none => tp = none ∧ h = []
  | some o => ∃ bt, tp = some ⟨bt, 0, none⟩ ∧ h = [(bt, .cells o.cells 125)]
theorem TgH.rd {w0 w : World} {own : List Nat} {hs h : Hp} {tp : Option Addr} {tg : Option Ord} (k : TgH tp h tg) (s : Sat w0 own hs w) (hh : h ⊆ hs) : TgR w [] tp tg := by
  cases tg with
  | none => exact k.1
  | some o =>
    obtain ⟨bt, rfl, rfl⟩ := k
    refine ⟨bt, rfl, fun j v hv => ⟨bt, 0, rfl, by simp, ?_⟩⟩
    rw [s.cell (hh List.mem_cons_self), Nat.zero_add]; exact hv
theorem rows_erase (l : List Ord) (i : Nat) : (rows l).take (i * 7) ++ (rows l).drop ((i + 1) * 7) = rows (l.eraseIdx i) := by
  rw [rows_take, rows_drop, ← rows_app, List.eraseIdx_eq_take_drop_succ]
/-- a book whose orders are good, and that is not too great -/
structure Bk.Ok (B : Bk) : Prop where
  good : ∀ o ∈ B.bs ++ B.ss, o.G
  len : B.bs.length + B.ss.length ≤ 100000
theorem Bk.side_sub (B : Bk) (s : Int) : ∀ o ∈ B.side s, o ∈ B.bs ++ B.ss := fun o ho => by
  unfold Bk.side at ho
  split at ho <;> simp [ho]
theorem Bk.put_mem {B : Bk} {s : Int} {l : List Ord} {o : Ord} (h : o ∈ (B.put s l).bs ++ (B.put s l).ss) : o ∈ l ∨ o ∈ B.bs ++ B.ss := by
  unfold Bk.put at h
  split at h <;> simp at h ⊢ <;> rcases h with h | h <;> simp [h]
theorem Bk.goes_mem {B : Bk} {c : Cm} {o : Ord} (h : o ∈ (B.goes c).bs ++ (B.goes c).ss) : o ∈ B.bs ++ B.ss := by
  unfold Bk.goes at h
  split at h
  · rcases Bk.put_mem h with h | h
    · exact B.side_sub _ _ (List.mem_of_mem_eraseIdx h)
    · exact h
  · exact h
theorem Bk.goes_len (B : Bk) (c : Cm) : (B.goes c).bs.length ≤ B.bs.length ∧ (B.goes c).ss.length ≤ B.ss.length := by
  unfold Bk.goes
  split
  · unfold Bk.put Bk.num Bk.side
    split
    · exact ⟨List.length_eraseIdx_le .., Nat.le_refl _⟩
    · exact ⟨Nat.le_refl _, List.length_eraseIdx_le ..⟩
  · exact ⟨Nat.le_refl _, Nat.le_refl _⟩
theorem cmg_facts {c : Cm} {tg : Option Ord} {side : Int} : (cmg c tg side).left = c.q ∧ (cmg c tg side).o.pk = c.pk ∧ (cmg c tg side).o.id = c.id ∧ (cmg c tg side).o.pr = c.pr := by
  unfold cmg
  cases tg with
  | none => exact ⟨rfl, rfl, rfl, rfl⟩
  | some o => simp only; split <;> exact ⟨rfl, rfl, rfl, rfl⟩
theorem cmg_side {c : Cm} {tg : Option Ord} {side : Int} (h0 : c.chk = 0) (h2 : c.k ≠ 2) (h3 : c.k = 3 → tg ≠ none) (hs : tg ≠ none → side = 1 ∨ side = 2) : (cmg c tg side).side = 1 ∨ (cmg c tg side).side = 2 := by
  have hk := chk_kinds (c := c) (by rw [h0]; decide)
  unfold cmg
  cases tg with
  | none =>
    refine chk_side h0 ?_
    rcases hk with h | h | h
    · exact h
    · exact absurd h h2
    · exact absurd rfl (h3 h)
  | some o =>
    simp only
    split
    · exact hs (by simp)
    · rename_i hk'
      refine chk_side h0 ?_
      rcases hk with h | h | h
      · exact h
      · exact absurd h h2
      · exact absurd h hk'
theorem rfs_zero {cap high : Int} {bs ss : List Ord} {c : Cm} {tg : Option Ord} {side : Int} (h : rfs cap high bs ss c tg side = 0) : (c.k ≠ 1 → tg ≠ none) ∧ c.chk = 0 ∧ (c.k ≠ 2 → high < c.id) ∧
    (c.k = 1 → (cmg c tg side).kind = 1 ∨ (cmg c tg side).kind = 5 → (bs.length : Int) + ss.length < cap) ∧ (c.k ≠ 2 → (cmg c tg side).kind = 5 → headReach (cmg c tg side).side (cmg c tg side).kind (cmg c tg side).o.pr (if (cmg c tg side).side = 1 then ss else bs) = false) := by
  unfold rfs at h
  by_cases h1 : c.chk = 90
  · rw [if_pos h1] at h; omega
  rw [if_neg h1] at h
  by_cases h2 : c.k ≠ 1 ∧ tg = none
  · rw [if_pos h2] at h; omega
  rw [if_neg h2] at h
  by_cases h3 : c.chk ≠ 0
  · rw [if_pos h3] at h; omega
  rw [if_neg h3] at h
  by_cases h4 : c.k = 2
  · exact ⟨fun a b => h2 ⟨a, b⟩, by omega, fun a => absurd h4 a, fun a => by omega, fun a => absurd h4 a⟩
  rw [if_neg h4] at h
  by_cases h5 : c.id ≤ high
  · rw [if_pos h5] at h; omega
  rw [if_neg h5] at h
  by_cases h6 : c.k = 1 ∧ ((cmg c tg side).kind = 1 ∨ (cmg c tg side).kind = 5) ∧ cap ≤ bs.length + ss.length
  · rw [if_pos h6] at h; omega
  rw [if_neg h6] at h
  by_cases h7 : (cmg c tg side).kind = 5 ∧ headReach (cmg c tg side).side (cmg c tg side).kind (cmg c tg side).o.pr (if (cmg c tg side).side = 1 then ss else bs) = true
  · rw [if_pos h7] at h; omega
  refine ⟨fun a b => h2 ⟨a, b⟩, by omega, fun _ => by omega, fun a b => ?_, fun _ a => ?_⟩
  · rcases Int.lt_or_le ((bs.length : Int) + ss.length) cap with hh | hh
    · exact hh
    · exact absurd ⟨a, b, hh⟩ h6
  · rw [Bool.eq_false_iff]; exact fun b => h7 ⟨a, b⟩
end Go.Proofs.Ytfajjkolhajldaa

/- (*Book).Do: its walk. -/
namespace Go.Proofs.Ytfajjkolhajldaa
open Go.V
set_option linter.unusedVariables false
set_option linter.unusedSimpArgs false

structure MS where
  v1 : Value
  v2 : Value
  ve : Value
  k1 : Hp
  k2 : Hp
  ke : Hp
abbrev MS.H (m : MS) (t b : Nat) (B : Bk) : Hp := TBh t b B m.v1 m.v2 m.ve m.k1 m.k2 m.ke
def MS.I (m : MS) (B : Bk) (evs : List Ev) : Prop := Side m.v1 B.bs m.k1 ∧ Side m.v2 B.ss m.k2 ∧ Evs m.ve evs m.ke
theorem gone_len (B : Bk) (c : Cm) : (B.gone c).length ≤ 1 := by
  unfold Bk.gone
  split
  · cases B.tgt c <;> simp
  · simp
set_option maxRecDepth 20000 in
set_option maxHeartbeats 1000000 in
theorem do_ok (w : World) (b : Nat) (B : Bk) (hOk : B.Ok) (c : Cm) (hq : U c.q) (hpk : U c.pk) (v1 v2 : Value) (k1 k2 : Hp) (h1 : Side v1 B.bs k1) (h2 : Side v2 B.ss k2) :
    Does Try.prog 19 [.pointer (some ⟨b, 0, none⟩), .agg ⟨c.cells⟩] (Tb b (Bc B v1 v2) :: (k1 ++ k2)) w
      (fun v hs => ∃ h ke, hs = h ++ ke ∧ BkH b (B.does c).1 h ∧ Evs v (B.does c).2 ke) := by
  have hlen := hOk.len
  obtain ⟨A1, c1, rfl⟩ := OwnS.sl h1
  obtain ⟨A2, c2, rfl⟩ := OwnS.sl h2
  have hsp := at_spec B c
  have hside : B.tgt c ≠ none → (B.at_ c).1 = 1 ∨ (B.at_ c).1 = 2 := by
    intro hne
    rcases hsp with ⟨_, h, _⟩ | ⟨s, hs, i, hi, e, _, _⟩
    · exact absurd h hne
    · rw [e]; exact hs
  refine Does.less (Does.of (n := 139) Try.func19 rfl rfl rfl rfl ?_)
  refine .seq ((.region (.nw (.box (l := c.cells) rfl rfl) fun b3 => (.v (.assign rfl) (.nil ?_)))))
  refine .seq ((.region (.v (.move rfl) (.v (.build (out := [.pointer (some ⟨b, 0, none⟩), .slice none 0 0]) rfl rfl) (.nw (.box (l := [.pointer (some ⟨b, 0, none⟩), .slice none 0 0]) rfl rfl) fun t => (.v (.assign rfl) (.nil ?_)))))))
  refine .seq ((.region (.v (.assign rfl) (.nil ?_))))
  refine .keep ((b3, Ch.cells c.cells 37) :: TBh t b B (.slice A1 B.bs.length c1) (.slice A2 B.ss.length c2) (.slice none 0 0) k1 k2 []) ?_
  refine .seq ((.region (.v (.move rfl) (.v (.fieldAddr rfl) (.v (.load (v := .int .u64 c.tg) rfl (.one rfl)) (.pc (v := plcV (B.at_ c)) rfl rfl (fun w s => place_ok w b B.cap B.meet B.high B.seq c.tg A1 A2 c1 c2 B.bs B.ss (Rd.chunk s (T := 117) (l := Bc B (.slice A1 B.bs.length c1) (.slice A2 B.ss.length c2)) (by simp) (fun j v hv => by rw [Nat.zero_add]; exact hv)) (OwnS.rd h1 s (no := []) (fun p hp => by simp [hp]) (by simp)) (OwnS.rd h2 s (no := []) (fun p hp => by simp [hp]) (by simp)) (by omega) (by omega)) (.v (.move rfl) (.v (.extract rfl rfl) (.v (.extract rfl rfl) (.v (.extract rfl rfl) (.v (.assign rfl) (.v (.assign rfl) (.v (.assign rfl) (.nil ?_))))))))))))))
  -- the order that is spoken of
  refine .mid (X := Option Addr × Hp) (fun x => [(0, .pointer (some ⟨b, 0, none⟩)), (3, .pointer (some ⟨b3, 0, none⟩)), (5, .pointer (some ⟨t, 0, none⟩)), (6, .pointer x.1), (7, .int .i64 (B.at_ c).1), (8, .int .i64 (B.at_ c).2.1)])
    (fun x => x.2 ++ ((b3, Ch.cells c.cells 37) :: TBh t b B (.slice A1 B.bs.length c1) (.slice A2 B.ss.length c2) (.slice none 0 0) k1 k2 [])) (fun x => TgH x.1 x.2 (B.tgt c)) (.seq ((.region (.v (.move rfl) (.nil ?_))))) ?_
  · refine .cond rfl (fun g1 => ?_) (fun g1 => .skip ?_)
    · rcases hsp with ⟨e, _, _⟩ | ⟨s, hs, i, hi, e, htg, hid⟩
      · rw [e] at g1; cases g1
      rw [e]
      rcases hs with rfl | rfl
      · have hi' : i < B.bs.length := hi
        have htg' : B.tgt c = some B.bs[i] := htg
        obtain ⟨bk, ok, lk, rfl, -, rfl, -, -, -⟩ := h1.some_ (by omega)
        generalize ho : B.bs[i] = o at htg'
        have hat : ∀ own hs', [(bk, Ch.cells lk 125)] ⊆ hs' → At w own hs' ⟨bk, ok + i * 7, none⟩ o.cells := fun own hs' hh => h1.atN hh (fun j v hv => by
          have h7 := (List.getElem?_eq_some_iff.1 hv).1
          rw [rows_get B.bs i j hi' (by simpa [Ord.cells, rcells] using h7), ho]; exact hv)
        refine .seq ((.region (.v (.move rfl) (.v (.move rfl) (.pc (v := .pointer (some ⟨b, 2, none⟩)) rfl rfl (fun w' _ => side_ok w' b 1) (.v (.nilCheck rfl) (.v (.load (v := .slice (some ⟨bk, ok, none⟩) B.bs.length c1) rfl (.one rfl)) (.v (.move rfl) (.v (.indexAddr (i := (i : Int)) rfl rfl (by omega) (by omega)) (.v (.loadA (vs := o.cells) rfl (hat _ _ (fun p hp => by simp at hp ⊢; simp [hp])) rfl) (.nw .alloc fun b10 => (.st (.sw rfl rfl) (.nil ?_)))))))))))))
        refine .region (.v (.assign rfl) (.nil ?_))
        exact ⟨(some ⟨b10, 0, none⟩, [(b10, Ch.cells o.cells 125)]), by rw [htg']; exact ⟨b10, rfl, rfl⟩, .cons rfl (.cons rfl (.cons rfl (.cons rfl (.cons rfl (.cons rfl (.nil _)))))), fun _ s => s⟩
      · have hi' : i < B.ss.length := hi
        have htg' : B.tgt c = some B.ss[i] := htg
        obtain ⟨bk, ok, lk, rfl, -, rfl, -, -, -⟩ := h2.some_ (by omega)
        generalize ho : B.ss[i] = o at htg'
        have hat : ∀ own hs', [(bk, Ch.cells lk 125)] ⊆ hs' → At w own hs' ⟨bk, ok + i * 7, none⟩ o.cells := fun own hs' hh => h2.atN hh (fun j v hv => by
          have h7 := (List.getElem?_eq_some_iff.1 hv).1
          rw [rows_get B.ss i j hi' (by simpa [Ord.cells, rcells] using h7), ho]; exact hv)
        refine .seq ((.region (.v (.move rfl) (.v (.move rfl) (.pc (v := .pointer (some ⟨b, 3, none⟩)) rfl rfl (fun w' _ => side_ok w' b 2) (.v (.nilCheck rfl) (.v (.load (v := .slice (some ⟨bk, ok, none⟩) B.ss.length c2) rfl (.one rfl)) (.v (.move rfl) (.v (.indexAddr (i := (i : Int)) rfl rfl (by omega) (by omega)) (.v (.loadA (vs := o.cells) rfl (hat _ _ (fun p hp => by simp at hp ⊢; simp [hp])) rfl) (.nw .alloc fun b10 => (.st (.sw rfl rfl) (.nil ?_)))))))))))))
        refine .region (.v (.assign rfl) (.nil ?_))
        exact ⟨(some ⟨b10, 0, none⟩, [(b10, Ch.cells o.cells 125)]), by rw [htg']; exact ⟨b10, rfl, rfl⟩, .cons rfl (.cons rfl (.cons rfl (.cons rfl (.cons rfl (.cons rfl (.nil _)))))), fun _ s => s⟩
    · have htg : B.tgt c = none := by
        rcases hsp with ⟨_, h, _⟩ | ⟨s, hs, i, hi, e, _, _⟩
        · exact h
        · rw [e] at g1; cases g1
      exact ⟨(none, []), by rw [htg]; exact ⟨rfl, rfl⟩, .cons rfl (.cons rfl (.cons rfl (.cons rfl (.cons rfl (.cons rfl (.nil _)))))), fun _ s => s⟩
  rintro ⟨tp, ht⟩ hT
  dsimp only at hT ⊢
  refine .seq (.seq ((.region (.v (.move rfl) (.v (.loadA (vs := c.cells) rfl .whole rfl) (.v (.move rfl) (.v (.move rfl) (.pc (v := .int .i64 (rfs B.cap B.high B.bs B.ss c (B.tgt c) (B.at_ c).1)) rfl rfl (fun w' s => refused_ok w' b B.cap B.meet B.high B.seq A1 A2 c1 c2 B.bs B.ss (Rd.chunk s (T := 117) (l := Bc B (.slice A1 B.bs.length c1) (.slice A2 B.ss.length c2)) (by simp) (fun j v hv => by rw [Nat.zero_add]; exact hv)) (OwnS.rd h1 s (no := []) (fun p hp => by simp [hp]) (by simp)) (OwnS.rd h2 s (no := []) (fun p hp => by simp [hp]) (by simp)) (by omega) (by omega) c tp (B.tgt c) (B.at_ c).1 (hT.rd s (fun p hp => by simp [hp])) hside) (.v (.assign rfl) (.nil ?_))))))))))
  have ew : rfs B.cap B.high B.bs B.ss c (B.tgt c) (B.at_ c).1 = B.why c := rfl
  rw [ew]
  refine .seq ((.region (.v (.move rfl) (.v (.nei rfl rfl) (.nil ?_)))))
  refine .cond_dec rfl (fun g2 => ?_) (fun g2 => .skip ?_)
  · have eD : B.does c = (B.num (nx B.seq), [(evReject (if c.k = 2 then 0 else c.id) (if c.k = 1 then 0 else c.tg) (B.why c)).num (nx B.seq)]) := by unfold Bk.does; rw [if_pos g2]
    refine .seq ((.region (.v (.fieldAddr rfl) (.v (.load (v := .int .u64 c.id) rfl (.one rfl)) (.v (.fieldAddr rfl) (.v (.load (v := .int .u64 c.tg) rfl (.one rfl)) (.v (.move rfl) (.v (.build (out := [.int .u64 0, .int .i64 2, .int .u64 c.id, .int .u64 0, .int .u64 c.tg, .int .u32 0, .int .i64 0, .int .i64 0, .int .i64 0, .int .u64 0, .int .u64 0, .int .i64 0, .int .i64 (B.why c)]) rfl rfl) (.nw .alloc fun b12 => (.st (.sw rfl rfl) (.nil ?_)))))))))))
    refine .mid (X := Unit) (fun _ => [(5, .pointer (some ⟨t, 0, none⟩)), (12, .pointer (some ⟨b12, 0, none⟩))]) (fun _ => (b12, Ch.cells [.int .u64 0, .int .i64 2, .int .u64 (if c.k = 2 then 0 else c.id), .int .u64 0, .int .u64 (if c.k = 1 then 0 else c.tg), .int .u32 0, .int .i64 0, .int .i64 0, .int .i64 0, .int .u64 0, .int .u64 0, .int .i64 0, .int .i64 (B.why c)] 40) :: TBh t b B (.slice A1 B.bs.length c1) (.slice A2 B.ss.length c2) (.slice none 0 0) k1 k2 []) (fun _ => True)
      (.seq ((.region (.v (.fieldAddr rfl) (.v (.load (v := .int .i64 c.k) rfl (.one rfl)) (.nil ?_)))))) ?_
    · refine .block (.seq ((.region (.v (.eqi rfl rfl) (.v (.assign rfl) (.nil ?_))))))
      refine .cond_dec rfl (fun g3 => ?_) (fun g3 => ?_)
      · refine .region (.v (.fieldAddr rfl) (.st (.storeL rfl rfl rfl) (.nil ?_)))
        refine ⟨(), trivial, .cons rfl (.cons rfl (.nil _)), fun _ s => ?_⟩
        rw [if_pos g3, if_neg (by omega)]
        exact s.take
      · refine .seq ((.region (.v (.eqi rfl rfl) (.v (.assign rfl) (.nil ?_)))))
        refine .cond_dec rfl (fun g4 => ?_) (fun g4 => .skip ?_)
        · refine .region (.v (.fieldAddr rfl) (.st (.storeL rfl rfl rfl) (.nil ?_)))
          refine ⟨(), trivial, .cons rfl (.cons rfl (.nil _)), fun _ s => ?_⟩
          rw [if_neg g3, if_pos g4]
          exact s.take
        · refine ⟨(), trivial, .cons rfl (.cons rfl (.nil _)), fun _ s => ?_⟩
          rw [if_neg g3, if_neg g4]
          exact s.take
    · rintro _ _
      refine .seq ((.region (.v (.move rfl) (.v (.loadA (vs := (evReject (if c.k = 2 then 0 else c.id) (if c.k = 1 then 0 else c.tg) (B.why c)).cells) rfl .whole rfl) ?_))))
      refine .ef (.callT (TBh t b B (.slice A1 B.bs.length c1) (.slice A2 B.ss.length c2) (.slice none 0 0) k1 k2 []) rfl rfl (fun w' s' => tellB_ok w' t b B [] (evReject (if c.k = 2 then 0 else c.id) (if c.k = 1 then 0 else c.tg) (B.why c)) _ _ _ k1 k2 [] h1 h2 (OwnS.nil _ _) (by simp))) ?_
      rintro _ _ ⟨_, ⟨v1x, v2x, vex, k1x, k2x, kex, rfl, h1x, h2x, hEx⟩, rfl⟩
      refine .nil ?_
      refine .seq ((.region (.v (.move rfl) (.v (.nilCheck rfl) (.v (.fieldAddr rfl) (.v (.load (v := vex) rfl (.one rfl)) (.v (.assign rfl) (.nil ?_))))))))
      refine .ret ⟨[_], ⟨rfl, trivial⟩, _, fun _ s => Sat.take (pre := (Tb b (Bc (B.num (nx B.seq)) v1x v2x) :: (k1x ++ k2x)) ++ kex) s, ?_⟩
      rw [eD]
      exact ⟨_, kex, rfl, ⟨v1x, v2x, k1x, k2x, rfl, h1x, h2x⟩, hEx⟩
  · have g2' : B.why c = 0 := Decidable.of_not_not g2
    obtain ⟨z1, z2, z3, z4, z5⟩ := rfs_zero g2'
    obtain ⟨h3f, h3b⟩ : (c.k ≠ 1 → B.tgt c ≠ none) ∧ c.chk = 0 := ⟨z1, z2⟩
    refine .mid (X := MS) (fun _ => [(0, .pointer (some ⟨b, 0, none⟩)), (3, .pointer (some ⟨b3, 0, none⟩)), (5, .pointer (some ⟨t, 0, none⟩)), (6, .pointer tp), (7, .int .i64 (B.at_ c).1)]) (fun m => ht ++ ((b3, Ch.cells c.cells 37) :: m.H t b (B.goes c))) (fun m => m.I (B.goes c) (B.gone c))
      (.seq ((.region (.v (.fieldAddr rfl) (.v (.load (v := .int .i64 c.k) rfl (.one rfl)) (.v (.nei rfl rfl) (.nil ?_))))))) ?_
    · refine .cond_dec rfl (fun g5 => ?_) (fun g5 => .skip ?_)
      · refine .seq ((.region (.v (.assign rfl) (.nil ?_))))
        refine .mid (X := Unit) (fun _ => [(0, .pointer (some ⟨b, 0, none⟩)), (3, .pointer (some ⟨b3, 0, none⟩)), (5, .pointer (some ⟨t, 0, none⟩)), (6, .pointer tp), (7, .int .i64 (B.at_ c).1), (8, .int .i64 (B.at_ c).2.1), (13, .int .i64 (if c.k = 3 then 2 else 1))]) (fun _ => ht ++ ((b3, Ch.cells c.cells 37) :: TBh t b B (.slice A1 B.bs.length c1) (.slice A2 B.ss.length c2) (.slice none 0 0) k1 k2 [])) (fun _ => True)
          (.seq ((.region (.v (.fieldAddr rfl) (.v (.load (v := .int .i64 c.k) rfl (.one rfl)) (.v (.eqi rfl rfl) (.nil ?_))))))) ?_
        · refine .cond_dec rfl (fun g6 => ?_) (fun g6 => .skip ?_)
          · refine .region (.v (.assign rfl) (.nil ?_))
            exact ⟨(), trivial, .cons rfl (.cons rfl (.cons rfl (.cons rfl (.cons rfl (.cons rfl (.cons (by rw [if_pos g6]; rfl) (.nil _))))))), fun _ s => s⟩
          · exact ⟨(), trivial, .cons rfl (.cons rfl (.cons rfl (.cons rfl (.cons rfl (.cons rfl (.cons (by rw [if_neg g6]; rfl) (.nil _))))))), fun _ s => s⟩
        · rintro _ _
          obtain ⟨rs, hrs⟩ : ∃ rs : Int, (if c.k = 3 then 2 else 1) = rs := ⟨_, rfl⟩
          rw [hrs]
          rcases hsp with ⟨_, h, _⟩ | ⟨s, hs, i, hi, e, htg, hid⟩
          · exact absurd h (h3f g5)
          have hgood : (B.side s)[i].G := hOk.good _ (B.side_sub s _ (List.getElem_mem hi))
          generalize ho : (B.side s)[i] = o at htg hgood
          have egone : B.gone c = [(evCancel c.tg (o.v + o.hd) rs).num (nx B.seq)] := by unfold Bk.gone; rw [if_pos g5, htg, ← hrs]
          have egoes : B.goes c = (B.put s ((B.side s).eraseIdx i)).num (nx B.seq) := by unfold Bk.goes; rw [if_pos g5, e]; simp
          rw [egone, egoes]
          rw [htg] at hT
          obtain ⟨bt, rfl, rfl⟩ := hT
          obtain ⟨q1, q2, q3, q4, q5, q6⟩ := hgood
          rw [e]
          rcases hs with rfl | rfl
          · have hi' : i < B.bs.length := hi
            refine .seq ((.region (.v (.move rfl) (.v (.move rfl) (.pc (v := .pointer (some ⟨b, 2, none⟩)) rfl rfl (fun w' _ => side_ok w' b 1) (.v (.assign rfl) (.nil ?_)))))))
            refine .seq ((.region (.v (.move rfl) (.v (.move rfl) (.v (.nilCheck rfl) (.v (.load (v := .slice A1 B.bs.length c1) rfl (.one rfl)) (.v (.move rfl) (.v (.move rfl) (.v (.addi (i := (i : Int)) rfl rfl (by omega)) ?_)))))))))
            refine .ef (.callT k1 rfl rfl (fun w' s' => delete_ok w' A1 B.bs.length c1 i (rows B.bs) k1 h1 hi' (by omega) (rows_ones _))) ?_
            rintro v' _ ⟨ks', hS0, rfl⟩
            have hS' : Side v' (B.bs.eraseIdx i) ks' := by
              unfold Side
              rw [List.length_eraseIdx_of_lt hi', ← rows_erase]; exact hS0
            obtain ⟨A', c', rfl⟩ := OwnS.sl hS'
            refine .v (.nilCheck rfl) (.st (.storeL rfl rfl rfl) (.nil ?_))
            refine .keep ([(bt, Ch.cells o.cells 125)] ++ ((b3, Ch.cells c.cells 37) :: TBh t b ⟨B.cap, B.meet, B.bs.eraseIdx i, B.ss, B.high, B.seq⟩ (.slice A' (B.bs.eraseIdx i).length c') (.slice A2 B.ss.length c2) (.slice none 0 0) ks' k2 [])) ?_
            refine (.drawK [(bt, Ch.cells o.cells 125), (b3, Ch.cells c.cells 37)] (by intro p hp; simp at hp ⊢; rcases hp with rfl | rfl <;> simp) (by kernel_rfl) (by kernel_rfl) ?_)
            refine .v (fun _ f => .move rfl) (.v (fun _ f => .fieldAddr rfl) (.v (fun _ f => .load (v := .int .u64 c.tg) rfl (.one (hb := .sub f) rfl)) (.v (fun _ f => .move rfl) (.v (fun _ f => .nilCheck rfl) (.v (fun _ f => .fieldAddr rfl) (.v (fun _ f => .load (v := .int .u64 o.v) rfl (.one (hb := .sub f) rfl)) (.v (fun _ f => .move rfl) (.v (fun _ f => .nilCheck rfl) (.v (fun _ f => .fieldAddr rfl) (.v (fun _ f => .load (v := .int .u64 o.hd) rfl (.one (hb := .sub f) rfl)) (.v (fun _ f => .addU (o.v + o.hd) rfl rfl rfl (by omega)) (.v (fun _ f => .move rfl) (.v (fun _ _ => .build (out := (evCancel c.tg (o.v + o.hd) rs).cells) rfl rfl) ?_)))))))))))))
            refine .ef (.callT (TBh t b ⟨B.cap, B.meet, B.bs.eraseIdx i, B.ss, B.high, B.seq⟩ (.slice A' (B.bs.eraseIdx i).length c') (.slice A2 B.ss.length c2) (.slice none 0 0) ks' k2 []) rfl rfl (fun w' s' => tellB_ok w' t b ⟨B.cap, B.meet, B.bs.eraseIdx i, B.ss, B.high, B.seq⟩ [] (evCancel c.tg (o.v + o.hd) rs) _ _ _ ks' k2 [] hS' h2 (OwnS.nil _ _) (by simp))) (fun _ _ ⟨_, _, e⟩ _ => by subst e; intro p hp; simp at hp ⊢; rcases hp with rfl | rfl <;> simp) ?_
            rintro _ _ ⟨_, ⟨v1x, v2x, vex, k1x, k2x, kex, rfl, h1x, h2x, hEx⟩, rfl⟩
            exact .nil ⟨⟨v1x, v2x, vex, k1x, k2x, kex⟩, ⟨h1x, h2x, hEx⟩, .cons rfl (.cons rfl (.cons rfl (.cons rfl (.cons rfl (.nil _))))), fun _ s => Sat.take (pre := [(bt, Ch.cells o.cells 125)] ++ ((b3, Ch.cells c.cells 37) :: TBh t b (((⟨B.cap, B.meet, B.bs.eraseIdx i, B.ss, B.high, B.seq⟩ : Bk)).num (nx B.seq)) v1x v2x vex k1x k2x kex)) s⟩
          · have hi' : i < B.ss.length := hi
            refine .seq ((.region (.v (.move rfl) (.v (.move rfl) (.pc (v := .pointer (some ⟨b, 3, none⟩)) rfl rfl (fun w' _ => side_ok w' b 2) (.v (.assign rfl) (.nil ?_)))))))
            refine .seq ((.region (.v (.move rfl) (.v (.move rfl) (.v (.nilCheck rfl) (.v (.load (v := .slice A2 B.ss.length c2) rfl (.one rfl)) (.v (.move rfl) (.v (.move rfl) (.v (.addi (i := (i : Int)) rfl rfl (by omega)) ?_)))))))))
            refine .ef (.callT k2 rfl rfl (fun w' s' => delete_ok w' A2 B.ss.length c2 i (rows B.ss) k2 h2 hi' (by omega) (rows_ones _))) ?_
            rintro v' _ ⟨ks', hS0, rfl⟩
            have hS' : Side v' (B.ss.eraseIdx i) ks' := by
              unfold Side
              rw [List.length_eraseIdx_of_lt hi', ← rows_erase]; exact hS0
            obtain ⟨A', c', rfl⟩ := OwnS.sl hS'
            refine .v (.nilCheck rfl) (.st (.storeL rfl rfl rfl) (.nil ?_))
            refine .keep ([(bt, Ch.cells o.cells 125)] ++ ((b3, Ch.cells c.cells 37) :: TBh t b ⟨B.cap, B.meet, B.bs, B.ss.eraseIdx i, B.high, B.seq⟩ (.slice A1 B.bs.length c1) (.slice A' (B.ss.eraseIdx i).length c') (.slice none 0 0) k1 ks' [])) ?_
            refine (.drawK [(bt, Ch.cells o.cells 125), (b3, Ch.cells c.cells 37)] (by intro p hp; simp at hp ⊢; rcases hp with rfl | rfl <;> simp) (by kernel_rfl) (by kernel_rfl) ?_)
            refine .v (fun _ f => .move rfl) (.v (fun _ f => .fieldAddr rfl) (.v (fun _ f => .load (v := .int .u64 c.tg) rfl (.one (hb := .sub f) rfl)) (.v (fun _ f => .move rfl) (.v (fun _ f => .nilCheck rfl) (.v (fun _ f => .fieldAddr rfl) (.v (fun _ f => .load (v := .int .u64 o.v) rfl (.one (hb := .sub f) rfl)) (.v (fun _ f => .move rfl) (.v (fun _ f => .nilCheck rfl) (.v (fun _ f => .fieldAddr rfl) (.v (fun _ f => .load (v := .int .u64 o.hd) rfl (.one (hb := .sub f) rfl)) (.v (fun _ f => .addU (o.v + o.hd) rfl rfl rfl (by omega)) (.v (fun _ f => .move rfl) (.v (fun _ _ => .build (out := (evCancel c.tg (o.v + o.hd) rs).cells) rfl rfl) ?_)))))))))))))
            refine .ef (.callT (TBh t b ⟨B.cap, B.meet, B.bs, B.ss.eraseIdx i, B.high, B.seq⟩ (.slice A1 B.bs.length c1) (.slice A' (B.ss.eraseIdx i).length c') (.slice none 0 0) k1 ks' []) rfl rfl (fun w' s' => tellB_ok w' t b ⟨B.cap, B.meet, B.bs, B.ss.eraseIdx i, B.high, B.seq⟩ [] (evCancel c.tg (o.v + o.hd) rs) _ _ _ k1 ks' [] h1 hS' (OwnS.nil _ _) (by simp))) (fun _ _ ⟨_, _, e⟩ _ => by subst e; intro p hp; simp at hp ⊢; rcases hp with rfl | rfl <;> simp) ?_
            rintro _ _ ⟨_, ⟨v1x, v2x, vex, k1x, k2x, kex, rfl, h1x, h2x, hEx⟩, rfl⟩
            exact .nil ⟨⟨v1x, v2x, vex, k1x, k2x, kex⟩, ⟨h1x, h2x, hEx⟩, .cons rfl (.cons rfl (.cons rfl (.cons rfl (.cons rfl (.nil _))))), fun _ s => Sat.take (pre := [(bt, Ch.cells o.cells 125)] ++ ((b3, Ch.cells c.cells 37) :: TBh t b (((⟨B.cap, B.meet, B.bs, B.ss.eraseIdx i, B.high, B.seq⟩ : Bk)).num (nx B.seq)) v1x v2x vex k1x k2x kex)) s⟩
      · have g5' : c.k = 1 := Decidable.of_not_not g5
        have egoes : B.goes c = B := by unfold Bk.goes; rw [if_neg g5]
        have egone : B.gone c = [] := by unfold Bk.gone; rw [if_neg g5]
        rw [egoes, egone]
        exact ⟨⟨_, _, _, _, _, _⟩, ⟨h1, h2, OwnS.nil _ _⟩, .cons rfl (.cons rfl (.cons rfl (.cons rfl (.cons rfl (.nil _))))), fun _ s => s⟩
    rintro ⟨v1', v2', ve', k1', k2', ke'⟩ ⟨m1, m2, mE⟩
    dsimp only at m1 m2 mE ⊢
    refine .mid (X := MS) (fun _ => [(5, .pointer (some ⟨t, 0, none⟩))]) (fun m => m.H t b (B.does c).1) (fun m => m.I (B.does c).1 (B.does c).2)
      (.seq ((.region (.v (.fieldAddr rfl) (.v (.load (v := .int .i64 c.k) rfl (.one rfl)) (.v (.nei rfl rfl) (.nil ?_))))))) ?_
    · refine .cond_dec rfl (fun g7 => ?_) (fun g7 => .skip ?_)
      · have eD : B.does c = Bk.comes (((B.goes c).num (nx (B.goes c).seq)).top (cmg c (B.tgt c) (B.at_ c).1).o.id) (B.gone c ++ [(evAck (cmg c (B.tgt c) (B.at_ c).1)).num (nx (B.goes c).seq)]) (cmg c (B.tgt c) (B.at_ c).1) := by
          unfold Bk.does; rw [if_neg g2, if_pos g7]
        have hcs := cmg_side (c := c) (tg := B.tgt c) (side := (B.at_ c).1) h3b g7 (fun e => h3f (by omega)) hside
        obtain ⟨f1, f2, f3, f4⟩ := cmg_facts (c := c) (tg := B.tgt c) (side := (B.at_ c).1)
        have hgm := fun o => Bk.goes_mem (B := B) (c := c) (o := o)
        have hgl := B.goes_len c
        have hgn := gone_len B c
        rw [eD]
        refine .seq ((.region (.v (.loadA (vs := c.cells) rfl .whole rfl) (.v (.move rfl) (.v (.move rfl) (.pc rfl rfl (fun w' s => coming_ok w' c tp (B.tgt c) (B.at_ c).1 (hT.rd s (fun p hp => by simp [hp])) (fun e => h3f (by omega))) ?_))))))
        generalize cmg c (B.tgt c) (B.at_ c).1 = tk at hcs f1 f2 f3 f4 ⊢
        generalize B.goes c = B1 at m1 m2 hgm hgl ⊢
        generalize B.gone c = ev1 at mE hgn ⊢
        refine .nw .alloc fun b15 => (.st (.sw rfl rfl) (.nil ?_))
        refine .seq ((.region (.v (.move rfl) (.v (.fieldAddr rfl) (.v (.fieldAddr rfl) (.v (.load (v := .int .u64 tk.o.id) rfl (.one rfl)) (.v (.fieldAddr rfl) (.v (.fieldAddr rfl) (.v (.load (v := .int .u32 tk.o.mb) rfl (.one rfl)) (.v (.fieldAddr rfl) (.v (.load (v := .int .i64 tk.side) rfl (.one rfl)) (.v (.fieldAddr rfl) (.v (.load (v := .int .i64 tk.kind) rfl (.one rfl)) (.v (.fieldAddr rfl) (.v (.fieldAddr rfl) (.v (.load (v := .int .i64 tk.o.pr) rfl (.one rfl)) (.v (.fieldAddr rfl) (.v (.load (v := .int .u64 tk.left) rfl (.one rfl)) (.v (.fieldAddr rfl) (.v (.fieldAddr rfl) (.v (.load (v := .int .u64 tk.o.pk) rfl (.one rfl)) (.v (.build (out := (evAck tk).cells) rfl rfl) ?_))))))))))))))))))))))
        refine .ef (.callT (TBh t b B1 v1' v2' ve' k1' k2' ke') rfl rfl (fun w' s' => tellB_ok w' t b B1 ev1 (evAck tk) _ _ _ k1' k2' ke' m1 m2 mE (by omega))) ?_
        rintro _ _ ⟨_, ⟨v1x, v2x, vex, k1x, k2x, kex, rfl, h1x, h2x, hEx⟩, rfl⟩
        refine .nil ?_
        refine .keep ((b15, Ch.cells tk.cells 132) :: TBh t b (B1.num (nx B1.seq)) v1x v2x vex k1x k2x kex) ?_
        refine .seq ((.region (.v (.move rfl) (.v (.fieldAddr rfl) (.v (.fieldAddr rfl) (.v (.load (v := .int .u64 tk.o.id) rfl (.one rfl)) (.v (.nilCheck rfl) (.v (.fieldAddr rfl) (.v (.fieldAddr rfl) (.st (.storeL rfl rfl rfl) (.nil ?_)))))))))))
        refine .heap (hs' := (b15, Ch.cells tk.cells 132) :: TBh t b ((B1.num (nx B1.seq)).top tk.o.id) v1x v2x vex k1x k2x kex) (fun _ s => s) ?_
        refine .region (.v (.move rfl) (.v (.loadA (vs := tk.cells) rfl .whole rfl) ?_))
        have hU := hq
        unfold U at hU
        refine .ef (.callT (TBh t b ((B1.num (nx B1.seq)).top tk.o.id) v1x v2x vex k1x k2x kex) rfl rfl (fun w' s' => comes_ok w' t b ((B1.num (nx B1.seq)).top tk.o.id) (ev1 ++ [(evAck tk).num (nx B1.seq)]) tk hcs _ _ _ k1x k2x kex h1x h2x hEx ⟨fun o ho => hOk.good o (hgm o (Bk.side_sub B1 _ o ho)), by show 0 ≤ tk.left; omega, by show tk.left ≤ _; omega⟩ (by rw [f2]; exact hpk)
          (by show B1.bs.length ≤ _; omega) (by show B1.ss.length ≤ _; omega) (by simp; omega))) ?_
        rintro _ _ ⟨_, ⟨v1y, v2y, vey, k1y, k2y, key, rfl, h1y, h2y, hEy⟩, rfl⟩
        exact .nil ⟨⟨v1y, v2y, vey, k1y, k2y, key⟩, ⟨h1y, h2y, hEy⟩, .cons rfl (.nil _), fun _ s => s.take⟩
      · have eD : B.does c = (B.goes c, B.gone c) := by unfold Bk.does; rw [if_neg g2, if_neg g7]
        rw [eD]
        exact ⟨⟨v1', v2', ve', k1', k2', ke'⟩, ⟨m1, m2, mE⟩, .cons rfl (.nil _), fun _ s => Sat.take (pre := TBh t b (B.goes c) v1' v2' ve' k1' k2' ke') s⟩
    · rintro ⟨v1y, v2y, vey, k1y, k2y, key⟩ ⟨n1, n2, nE⟩
      dsimp only at n1 n2 nE ⊢
      refine .seq ((.region (.v (.move rfl) (.v (.nilCheck rfl) (.v (.fieldAddr rfl) (.v (.load (v := vey) rfl (.one rfl)) (.v (.assign rfl) (.nil ?_))))))))
      exact .ret ⟨[_], ⟨rfl, trivial⟩, _, fun _ s => Sat.take (pre := (Tb b (Bc (B.does c).1 v1y v2y) :: (k1y ++ k2y)) ++ key) s, _, key, rfl, ⟨v1y, v2y, k1y, k2y, rfl, n1, n2⟩, nE⟩
end Go.Proofs.Ytfajjkolhajldaa

/- The law's own parts: fit, lives, begun. -/
namespace Go.Proofs.Ytfajjkolhajldaa
open Go.V
set_option linter.unusedVariables false
set_option linter.unusedSimpArgs false

theorem Does.call_Do (w : World) (b : Nat) (B : Bk) (hOk : B.Ok) (c : Cm) (hq : U c.q) (hpk : U c.pk) (v1 v2 : Value) (k1 k2 : Hp) (h1 : Side v1 B.bs k1) (h2 : Side v2 B.ss k2) :
    Does Try.prog 19 [.pointer (some ⟨b, 0, none⟩), .agg ⟨c.cells⟩] (Tb b (Bc B v1 v2) :: (k1 ++ k2)) w
      (fun v hs => ∃ A c' v1' v2' k1' k2' ke, v = .slice A (B.does c).2.length c' ∧ hs = (Tb b (Bc (B.does c).1 v1' v2') :: (k1' ++ k2')) ++ ke ∧ Side v1' (B.does c).1.bs k1' ∧ Side v2' (B.does c).1.ss k2' ∧ Evs (.slice A (B.does c).2.length c') (B.does c).2 ke) := by
  refine (do_ok w b B hOk c hq hpk v1 v2 k1 k2 h1 h2).mono ?_
  rintro v _ ⟨_, ke, rfl, ⟨v1', v2', k1', k2', rfl, h1', h2'⟩, hE⟩
  obtain ⟨A, c', rfl⟩ := OwnS.sl hE
  exact ⟨A, c', v1', v2', k1', k2', ke, rfl, rfl, h1', h2', hE⟩
/-- a field of an event, loaded -/
theorem Evs.ld {w0 : World} {own : List Nat} {b o n c i j : Nat} {l : List Ev} {h hs : Hp} {v : Value} (k : Evs (.slice (some ⟨b, o, none⟩) n c) l h) (hh : h ⊆ hs) (hi : i < l.length) (hj : j < 13) (hv : (l[i].cells)[j]? = some v) : At w0 own hs ⟨b, o + i * 13 + j, none⟩ [v] := by
  rw [Nat.add_assoc]
  exact OwnS.at1 k hh (by rw [erows_get l i j hi hj]; exact hv)
def lb0 : Bk := ⟨4, 0, [], [], 0, 0⟩
def lb1 : Bk := ⟨4, 0, [], [⟨1, 0, 1, 10, 5, 0, 0⟩], 1, 1⟩
def lb2 : Bk := ⟨4, 0, [], [], 2, 4⟩
def lc1 : Cm := ⟨1, 1, 0, 0, 2, 1, 10, 5, 0⟩
def lc2 : Cm := ⟨1, 2, 0, 0, 1, 3, 11, 7, 0⟩
def le1 : List Ev := [⟨1, 1, 1, 0, 0, 0, 2, 1, 10, 5, 0, 0, 0⟩]
def le2 : List Ev := [⟨2, 1, 2, 0, 0, 0, 1, 3, 11, 7, 0, 0, 0⟩, ⟨3, 3, 2, 1, 0, 0, 1, 0, 10, 5, 0, 0, 0⟩, ⟨4, 4, 2, 0, 0, 0, 0, 0, 0, 2, 0, 3, 0⟩]
theorem lives1 : lb0.does lc1 = (lb1, le1) := by kernel_rfl
theorem lives2 : lb1.does lc2 = (lb2, le2) := by kernel_rfl
/-- a new book -/
def newB (c m : Int) : Bk := ⟨c, m, [], [], 0, 0⟩
end Go.Proofs.Ytfajjkolhajldaa
