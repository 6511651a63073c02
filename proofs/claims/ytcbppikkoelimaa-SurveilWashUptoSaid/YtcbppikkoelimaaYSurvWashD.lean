/- Texts that the row RSurvWash stands on: SVSmall, SVAloneP, SVAloneL, QRests, QMeets, QTSpec, QTrades, QTFun, QWhole, QComes, QDoS, QDoW, QBegun, QInv, QVl. -/
import Derived.Test.YtcbppikkoelimaaYSurvWashC
import Derived.Test.YtcbppikkoelimaaYSurvWashA
import Derived.Test.YtcbppikkoelimaaYSurvWashB
/- Surveil: New, Count, Cases, and what the laws compare with. -/
namespace Go.Proofs.Ytcbppikkoelimaa
open Go.V
set_option linter.unusedVariables false
set_option linter.unusedSimpArgs false

abbrev AlL : List Lf := [.i .i64, .i .u32, .i .u64, .i .u64, .i .i64]
abbrev CsL : List Lf := [.i .i64, .i .u32, .i .u64, .i .u64, .i .i64, .b]
theorem Al.oks (x : Al) : V.oks AlL x.cells := ⟨rfl, rfl, rfl, rfl, rfl, trivial⟩
theorem Cs.oks (x : Cs) : V.oks CsL x.cells := ⟨rfl, rfl, rfl, rfl, rfl, trivial, trivial⟩
set_option maxRecDepth 10000 in
theorem alerts_ok (w : World) (A B : Option Addr) (len ca cb : Nat) (l : List Al) (hA : Rd w [] A (l.flatMap Al.cells)) (hB : Rd w [] B (l.flatMap Al.cells)) (hl : len = l.length) (hb : len ≤ 3518437208883) :
    Is Try.prog 10 [.slice A len ca, .slice B len cb] w (.bool true) := by
  refine Does.pure (Does.of (n := 26) Try.func10 rfl rfl rfl rfl ?_)
  refine .seq ((.region (.v (.assign rfl) (.nil ?_))))
  refine .seq (.seq ((.region (.v (.move rfl) (.v (.len rfl) (.v (.move rfl) (.v (.len rfl) (.v (.nei rfl rfl) (.nil ?_)))))))))
  refine .cond_dec rfl (fun g => absurd rfl g) (fun g => .skip ?_)
  refine .seq (.seq ((.region (.v (.assign rfl) (.nil ?_)))))
  refine .block (.loop (X := Nat) (fun i => [(0, .slice A len ca), (1, .slice B len cb), (5, .int .i64 i)]) (fun _ => []) (fun i => i ≤ len) (fun i => len - i) 0 (by omega) (.cons rfl (.cons rfl (.cons rfl (.nil _)))) (fun _ s => s) ?_)
  intro i hi
  refine .seq (.seq ((.region (.v (.move rfl) (.v (.move rfl) (.v (.len rfl) (.v (.lss rfl rfl) (.nil ?_))))))))
  refine .cond_dec rfl (fun g2 => .skip ?_) (fun g2 => .exit ?_)
  · have hil : i < l.length := by omega
    obtain ⟨b, o, rfl, hc⟩ := Rd.recs Al.cells 5 (fun _ => rfl) hA (by omega) (by omega)
    obtain ⟨b', o', rfl, hc'⟩ := Rd.recs Al.cells 5 (fun _ => rfl) hB (by omega) (by omega)
    have q := fun hs => recAt Al.cells 5 (fun _ => rfl) (z := (i : Int)) (hc hs) hil
    have q' := fun hs => recAt Al.cells 5 (fun _ => rfl) (z := (i : Int)) (hc' hs) hil
    generalize l[i] = x at q q'
    refine .seq (.block (.seq ((.drawS (by kernel_rfl) (by kernel_rfl) (.v (.move rfl) (.v (.move rfl) (.v (.indexAddr rfl rfl (by omega) (by omega)) (.v (.loadA (vs := Al.cells x) rfl (q _) rfl) (.v (.move rfl) (.v (.move rfl) (.v (.indexAddr rfl rfl (by omega) (by omega)) (.v (.loadA (vs := Al.cells x) rfl (q' _) rfl) (.v (.neA rfl rfl (Al.oks x) (Al.oks x)) (.nil ?_))))))))))))))
    refine .cond rfl (fun g3 => absurd g3 (by rw [(cellsEq_iff (Al.oks x) (Al.oks x)).2 rfl]; simp)) (fun _ => .skip ?_)
    refine .region (.v (.move rfl) (.v (.addi rfl rfl (by omega)) (.v (.assign rfl) (.nil ?_))))
    exact ⟨i + 1, by omega, by omega, .cons rfl (.cons rfl (.cons rfl (.nil _))), fun _ s => s⟩
  · refine .seq ((.region (.v (.assign rfl) (.nil ?_))))
    exact .ret ⟨[_], ⟨rfl, trivial⟩, rfl⟩

set_option maxRecDepth 10000 in
theorem cases_ok (w : World) (A B : Option Addr) (len ca cb : Nat) (l : List Cs) (hA : Rd w [] A (l.flatMap Cs.cells)) (hB : Rd w [] B (l.flatMap Cs.cells)) (hl : len = l.length) (hb : len ≤ 2932031007402) :
    Is Try.prog 12 [.slice A len ca, .slice B len cb] w (.bool true) := by
  refine Does.pure (Does.of (n := 26) Try.func12 rfl rfl rfl rfl ?_)
  refine .seq ((.region (.v (.assign rfl) (.nil ?_))))
  refine .seq (.seq ((.region (.v (.move rfl) (.v (.len rfl) (.v (.move rfl) (.v (.len rfl) (.v (.nei rfl rfl) (.nil ?_)))))))))
  refine .cond_dec rfl (fun g => absurd rfl g) (fun g => .skip ?_)
  refine .seq (.seq ((.region (.v (.assign rfl) (.nil ?_)))))
  refine .block (.loop (X := Nat) (fun i => [(0, .slice A len ca), (1, .slice B len cb), (5, .int .i64 i)]) (fun _ => []) (fun i => i ≤ len) (fun i => len - i) 0 (by omega) (.cons rfl (.cons rfl (.cons rfl (.nil _)))) (fun _ s => s) ?_)
  intro i hi
  refine .seq (.seq ((.region (.v (.move rfl) (.v (.move rfl) (.v (.len rfl) (.v (.lss rfl rfl) (.nil ?_))))))))
  refine .cond_dec rfl (fun g2 => .skip ?_) (fun g2 => .exit ?_)
  · have hil : i < l.length := by omega
    obtain ⟨b, o, rfl, hc⟩ := Rd.recs Cs.cells 6 (fun _ => rfl) hA (by omega) (by omega)
    obtain ⟨b', o', rfl, hc'⟩ := Rd.recs Cs.cells 6 (fun _ => rfl) hB (by omega) (by omega)
    have q := fun hs => recAt Cs.cells 6 (fun _ => rfl) (z := (i : Int)) (hc hs) hil
    have q' := fun hs => recAt Cs.cells 6 (fun _ => rfl) (z := (i : Int)) (hc' hs) hil
    generalize l[i] = x at q q'
    refine .seq (.block (.seq ((.drawS (by kernel_rfl) (by kernel_rfl) (.v (.move rfl) (.v (.move rfl) (.v (.indexAddr rfl rfl (by omega) (by omega)) (.v (.loadA (vs := Cs.cells x) rfl (q _) rfl) (.v (.move rfl) (.v (.move rfl) (.v (.indexAddr rfl rfl (by omega) (by omega)) (.v (.loadA (vs := Cs.cells x) rfl (q' _) rfl) (.v (.neA rfl rfl (Cs.oks x) (Cs.oks x)) (.nil ?_))))))))))))))
    refine .cond rfl (fun g3 => absurd g3 (by rw [(cellsEq_iff (Cs.oks x) (Cs.oks x)).2 rfl]; simp)) (fun _ => .skip ?_)
    refine .region (.v (.move rfl) (.v (.addi rfl rfl (by omega)) (.v (.assign rfl) (.nil ?_))))
    exact ⟨i + 1, by omega, by omega, .cons rfl (.cons rfl (.cons rfl (.nil _))), fun _ s => s⟩
  · refine .seq ((.region (.v (.assign rfl) (.nil ?_))))
    exact .ret ⟨[_], ⟨rfl, trivial⟩, rfl⟩

theorem csrows_length (l : List Cs) : (csrows l).length = l.length * 6 := flatMap_length _ 6 (fun _ => rfl) l
theorem alrows_length (l : List Al) : (alrows l).length = l.length * 5 := flatMap_length _ 5 (fun _ => rfl) l
theorem csrows_ones (l : List Cs) : ones (csrows l) = true := by
  simp only [ones, csrows, List.all_flatMap, List.all_eq_true]
  intro v _ x hx
  simp [Cs.cells] at hx
  rcases hx with rfl | rfl | rfl | rfl | rfl | rfl <;> rfl
theorem alrows_ones (l : List Al) : ones (alrows l) = true := by
  simp only [ones, alrows, List.all_flatMap, List.all_eq_true]
  intro v _ x hx
  simp [Al.cells] at hx
  rcases hx with rfl | rfl | rfl | rfl | rfl <;> rfl
set_option maxRecDepth 10000 in
theorem csclone_ok (w : World) (A : Option Addr) (len cap : Nat) (l : List Cs) (hx : Rd w [] A (csrows l)) (hl : len = l.length) (hb : len ≤ 2932031007402) :
    Does Try.prog 26 [.slice A len cap] [] w (fun v hs => CsOwn v l hs) := by
  refine Does.less (Does.of (n := 8) Try.func26 rfl rfl rfl rfl ?_)
  refine .seq ((.region (.v (.assign rfl) (.nil ?_))))
  refine .seq (.seq ((.region (.v (.move rfl) (.v (.eql_slice_nil rfl rfl) (.nil ?_))))))
  refine .cond rfl (fun h1 => ?_) (fun h1 => .skip ?_)
  · have hA : A = none := by simpa using h1
    subst hA
    have h0 : l.length = 0 := by
      have := congrArg List.length hx.empty
      rw [csrows_length] at this
      simp only [List.length_nil] at this; omega
    have hl0 : l = [] := List.eq_nil_of_length_eq_zero h0
    subst hl0
    refine .seq ((.region (.v (.assign rfl) (.nil ?_))))
    exact .ret ⟨[_], ⟨rfl, trivial⟩, [], fun _ s => s, OwnS.nil _ _⟩
  · refine .seq ((.region (.ef (.buildSlice (out := []) rfl (by decide) rfl rfl) ?_)))
    rintro _ _ ⟨b6, rfl, rfl⟩
    refine .v (.move rfl) ?_
    refine .ef (.append (c := 0) (k := len) (vs := []) (news := csrows l) (h := [(b6, .cells [] 48)]) (fr := []) rfl rfl ⟨rfl, .inr ⟨b6, 0, 0, [], rfl, rfl, by omega, by simp, by simp⟩⟩ (by exact List.Perm.refl _)
      (fun w' s => (hx.keep0 s).src (by rw [csrows_length, hl]) (by omega)) (by rw [csrows_length, hl]) (csrows_ones _) (by omega) (by omega)) ?_
    rintro v _ ⟨h', k', rfl⟩
    refine .v (.assign rfl) (.nil ?_)
    refine .ret ⟨[_], ⟨rfl, trivial⟩, h', fun _ s => by simpa using s, ?_⟩
    rw [Nat.zero_add, hl] at k'
    exact k'
set_option maxRecDepth 20000 in
theorem Cases_ok {w0 w : World} {own : List Nat} {HS : Hp} (s : Sat w0 own HS w) (p : WP) (wn : Wn) (n : Int) {W : Wt} {z : WZ} (hI : WI W z) (hsub : z.H p wn n ⊆ HS) (hb : W.cs.length ≤ 1000000000) :
    Does Try.prog 13 [.pointer (some ⟨p.b, 0, none⟩)] [] w (fun v hs => CsOwn v W.cs hs) := by
  obtain ⟨eo, co, ep, cp, ea, ca, vl, hl, vc, hc⟩ := z
  have oc := hI.c
  dsimp only at oc hsub
  obtain ⟨Ac, kc, rfl⟩ := OwnS.slice oc
  have r1 : Rd w [] (some ⟨p.b, 0, none⟩) (wcells wn n p.mo p.mp p.ma vl (.slice Ac W.cs.length kc)) := Rd.blk (T := 77) (hb := ⟨hsub (by simp)⟩) s
  have r2 : Rd w [] Ac (csrows W.cs) := OwnS.rd oc s (no := []) (fun y hy => hsub (by simp [hy])) (by simp)
  refine Does.less (Does.of (n := 8) Try.func13 rfl rfl rfl rfl ?_)
  refine .seq ((.region (.v (.assign rfl) (.nil ?_))))
  refine .seq ((.region (.v (.move rfl) (.v (.nilCheck rfl) (.v (.fieldAddr rfl) (.v (.load (v := .slice Ac W.cs.length kc) rfl (Rd.cell r1 (i := 10) rfl)) ?_))))))
  refine .ef (.call0 rfl rfl fun w s => csclone_ok w Ac W.cs.length kc W.cs (r2.keep0 s) rfl (by omega)) ?_
  rintro v _ ⟨h, k', rfl⟩
  refine .v (.assign rfl) (.nil ?_)
  exact .ret ⟨[_], ⟨rfl, trivial⟩, h, fun _ s => by simpa using s, k'⟩
set_option maxRecDepth 20000 in
theorem Count_ok {w0 w : World} {own : List Nat} {HS : Hp} (s : Sat w0 own HS w) (p : WP) (wn : Wn) (n : Int) {z : WZ} (hsub : z.H p wn n ⊆ HS) :
    Is Try.prog 14 [.pointer (some ⟨p.b, 0, none⟩)] w (.int .u64 n) := by
  have r1 : Rd w [] (some ⟨p.b, 0, none⟩) (wcells wn n p.mo p.mp p.ma z.vl z.vc) := Rd.blk (T := 77) (hb := ⟨hsub (by simp)⟩) s
  refine Does.pure (Does.of (n := 7) Try.func14 rfl rfl rfl rfl ?_)
  refine .seq ((.region (.v (.assign rfl) (.nil ?_))))
  refine .seq ((.region (.v (.move rfl) (.v (.nilCheck rfl) (.v (.fieldAddr rfl) (.v (.load (v := .int .u64 n) rfl (Rd.cell r1 (i := 5) rfl)) (.v (.assign rfl) (.nil ?_))))))))
  exact .ret ⟨[_], ⟨rfl, trivial⟩, rfl⟩
set_option maxRecDepth 20000 in
theorem within_ok (w : World) (n most : Int) : Is Try.prog 22 [.int .i64 n, .int .i64 most] w (.bool (decide (1 ≤ n ∧ n ≤ most))) := by
  refine Does.pure (Does.of (n := 12) Try.func22 rfl rfl rfl rfl ?_)
  refine .seq ((.region (.v (.assign rfl) (.nil ?_))))
  refine .seq ((.region (.v (.move rfl) (.v (.geq rfl rfl) (.v (.move rfl) (.and (b2 := decide (n ≤ most)) 7 10 3 3 rfl rfl (fun g1 => .v (.move rfl) (.v (.move rfl) (.v (.leq rfl rfl) (.nil ⟨rfl, rfl, rfl, rfl⟩)))) (.v (.assign rfl) (.nil ?_))))))))
  refine .ret ⟨[_], ⟨rfl, trivial⟩, vb ?_⟩
  simp
set_option maxRecDepth 20000 in
theorem Valid_ok (w : World) (wn : Wn) : Is Try.prog 8 [.agg ⟨wn.cells⟩] w (.bool (decide wn.Can)) := by
  refine Does.pure (Does.of (n := 53) Try.func8 rfl rfl rfl rfl ?_)
  refine .seq ((.region (.nw (.box (l := wn.cells) rfl rfl) fun b1 => (.v (.assign rfl) (.nil ?_)))))
  refine .seq ((.region (.v (.fieldAddr rfl) (.v (.load (v := .int .i64 wn.span) rfl (.one rfl)) (.v (.geq rfl rfl) (.v (.move rfl) (.and (b2 := decide (wn.span ≤ 1000)) 6 9 3 3 rfl rfl (fun g1 => .v (.fieldAddr rfl) (.v (.load (v := .int .i64 wn.span) rfl (.one rfl)) (.v (.leq rfl rfl) (.nil ⟨rfl, rfl, rfl, rfl⟩)))) (.v (.move rfl) (.and (b2 := decide (1 ≤ wn.lay)) 11 14 3 3 rfl rfl (fun g2 => .v (.fieldAddr rfl) (.v (.load (v := .int .i64 wn.lay) rfl (.one rfl)) (.v (.geq rfl rfl) (.nil ⟨rfl, rfl, rfl, rfl⟩)))) (.v (.move rfl) (.and (b2 := decide (wn.lay ≤ wn.span)) 16 21 5 5 rfl rfl (fun g3 => .v (.fieldAddr rfl) (.v (.load (v := .int .i64 wn.lay) rfl (.one rfl)) (.v (.fieldAddr rfl) (.v (.load (v := .int .i64 wn.span) rfl (.one rfl)) (.v (.leq rfl rfl) (.nil ⟨rfl, rfl, rfl, rfl⟩)))))) (.v (.move rfl) (.and (b2 := decide (1 ≤ wn.rat)) 23 26 3 3 rfl rfl (fun g4 => .v (.fieldAddr rfl) (.v (.load (v := .int .i64 wn.rat) rfl (.one rfl)) (.v (.geq rfl rfl) (.nil ⟨rfl, rfl, rfl, rfl⟩)))) (.v (.move rfl) (.and (b2 := decide (wn.rat ≤ 1000)) 28 31 3 3 rfl rfl (fun g5 => .v (.fieldAddr rfl) (.v (.load (v := .int .i64 wn.rat) rfl (.one rfl)) (.v (.leq rfl rfl) (.nil ⟨rfl, rfl, rfl, rfl⟩)))) (.v (.move rfl) (.and (b2 := decide (1 ≤ wn.lst)) 33 36 3 3 rfl rfl (fun g6 => .v (.fieldAddr rfl) (.v (.load (v := .int .i64 wn.lst) rfl (.one rfl)) (.v (.geq rfl rfl) (.nil ⟨rfl, rfl, rfl, rfl⟩)))) (.v (.move rfl) (.and (b2 := decide (wn.lst ≤ 1000)) 38 41 3 3 rfl rfl (fun g7 => .v (.fieldAddr rfl) (.v (.load (v := .int .i64 wn.lst) rfl (.one rfl)) (.v (.leq rfl rfl) (.nil ⟨rfl, rfl, rfl, rfl⟩)))) (.v (.move rfl) (.and (b2 := decide (1 ≤ wn.mov)) 43 46 3 3 rfl rfl (fun g8 => .v (.fieldAddr rfl) (.v (.load (v := .int .i64 wn.mov) rfl (.one rfl)) (.v (.geq rfl rfl) (.nil ⟨rfl, rfl, rfl, rfl⟩)))) (.v (.move rfl) (.and (b2 := decide (wn.mov ≤ 262144)) 48 51 3 3 rfl rfl (fun g9 => .v (.fieldAddr rfl) (.v (.load (v := .int .i64 wn.mov) rfl (.one rfl)) (.v (.leq rfl rfl) (.nil ⟨rfl, rfl, rfl, rfl⟩)))) (.v (.assign rfl) (.nil ?_)))))))))))))))))))))))))
  refine .ret ⟨[_], ⟨rfl, trivial⟩, vb ?_⟩
  simp only [Bool.and_eq_true, decide_eq_true_eq]
  unfold Wn.Can
  omega
set_option maxRecDepth 20000 in
theorem SNew_ok (w : World) (wn : Wn) : Does Try.prog 7 [.agg ⟨wn.cells⟩] [] w (fun v hs => (wn.Can ∧ ∃ p z, v = .tuple ⟨[.pointer (some ⟨p.b, 0, none⟩), .int .i64 0]⟩ ∧ hs = WZ.H p wn 0 z ∧ WI Wt.new z) ∨ (¬ wn.Can ∧ v = .tuple ⟨[.pointer none, .int .i64 1]⟩ ∧ hs = [])) := by
  refine Does.less (Does.of (n := 46) Try.func7 rfl rfl rfl rfl ?_)
  refine .seq ((.region (.nw (.box (l := wn.cells) rfl rfl) fun b1 => (.v (.assign rfl) (.v (.assign rfl) (.nil ?_))))))
  refine .seq ((.region (.v (.assign rfl) (.nil ?_))))
  refine .seq (.seq ((.region (.v (.move rfl) (.v (.fieldAddr rfl) (.v (.load (v := .int .i64 wn.span) rfl (.one rfl)) (.pc (v := .bool (decide (1 ≤ wn.span ∧ wn.span ≤ 1000))) rfl rfl (fun w s => within_ok w wn.span 1000) ?_)))))))
  refine .v (.not rfl) (.v (.move rfl) (.or (b2 := !decide (1 ≤ wn.lay ∧ wn.lay ≤ wn.span)) 10 17 7 7 rfl rfl (fun g1 => .v (.move rfl) (.v (.fieldAddr rfl) (.v (.load (v := .int .i64 wn.lay) rfl (.one rfl)) (.v (.fieldAddr rfl) (.v (.load (v := .int .i64 wn.span) rfl (.one rfl)) (.pc (v := .bool (decide (1 ≤ wn.lay ∧ wn.lay ≤ wn.span))) rfl rfl (fun w s => within_ok w wn.lay wn.span) (.v (.not rfl) (.nil ⟨rfl, rfl, rfl, rfl⟩)))))))) (.v (.move rfl) (.or (b2 := !decide (1 ≤ wn.rat ∧ wn.rat ≤ 1000)) 19 24 5 5 rfl rfl (fun g2 => .v (.move rfl) (.v (.fieldAddr rfl) (.v (.load (v := .int .i64 wn.rat) rfl (.one rfl)) (.pc (v := .bool (decide (1 ≤ wn.rat ∧ wn.rat ≤ 1000))) rfl rfl (fun w s => within_ok w wn.rat 1000) (.v (.not rfl) (.nil ⟨rfl, rfl, rfl, rfl⟩)))))) (.v (.move rfl) (.or (b2 := !decide (1 ≤ wn.lst ∧ wn.lst ≤ 1000)) 26 31 5 5 rfl rfl (fun g3 => .v (.move rfl) (.v (.fieldAddr rfl) (.v (.load (v := .int .i64 wn.lst) rfl (.one rfl)) (.pc (v := .bool (decide (1 ≤ wn.lst ∧ wn.lst ≤ 1000))) rfl rfl (fun w s => within_ok w wn.lst 1000) (.v (.not rfl) (.nil ⟨rfl, rfl, rfl, rfl⟩)))))) (.v (.move rfl) (.or (b2 := !decide (1 ≤ wn.mov ∧ wn.mov ≤ 262144)) 33 38 5 5 rfl rfl (fun g4 => .v (.move rfl) (.v (.fieldAddr rfl) (.v (.load (v := .int .i64 wn.mov) rfl (.one rfl)) (.pc (v := .bool (decide (1 ≤ wn.mov ∧ wn.mov ≤ 262144))) rfl rfl (fun w s => within_ok w wn.mov 262144) (.v (.not rfl) (.nil ⟨rfl, rfl, rfl, rfl⟩)))))) (.nil ?_)))))))))
  refine .cond rfl (fun h1 => ?_) (fun h1 => .skip ?_)
  · simp only [Bool.or_eq_true, Bool.not_eq_true', decide_eq_false_iff_not] at h1
    refine .seq ((.region (.v (.assign rfl) (.v (.assign rfl) (.nil ?_)))))
    exact .ret ⟨[_, _], ⟨rfl, rfl, trivial⟩, [], fun _ s => s.sub (List.nil_sublist _), .inr ⟨by unfold Wn.Can; omega, rfl, rfl⟩⟩
  · simp only [Bool.or_eq_false_iff, Bool.not_eq_false', decide_eq_true_eq] at h1
    refine .seq ((.region (.v (.loadA (vs := wn.cells) rfl .whole rfl) (.ef (.makeMap .u64) ?_))))
    rintro _ _ ⟨mo, rfl, rfl⟩
    refine .ef (.makeMap .u32) ?_
    rintro _ _ ⟨mp, rfl, rfl⟩
    refine .ef (.makeMap .u32) ?_
    rintro _ _ ⟨ma, rfl, rfl⟩
    refine .v (.build (out := wcells wn 0 mo mp ma (.slice none 0 0) (.slice none 0 0)) rfl rfl) (.nw (.box (l := wcells wn 0 mo mp ma (.slice none 0 0) (.slice none 0 0)) rfl rfl) fun b45 => (.v (.assign rfl) (.v (.assign rfl) (.nil ?_))))
    exact .ret ⟨[_, _], ⟨rfl, rfl, trivial⟩, WZ.H ⟨b45, mo, mp, ma⟩ wn 0 ⟨[], 0, [], 0, [], 0, .slice none 0 0, [], .slice none 0 0, []⟩, fun _ s => s.take, .inl ⟨by unfold Wn.Can; omega, ⟨b45, mo, mp, ma⟩, ⟨[], 0, [], 0, [], 0, .slice none 0 0, [], .slice none 0 0, []⟩, rfl, rfl, ⟨MOk.nil, fun _ => rfl, MOk.nil, fun _ => rfl, MOk.nil, fun _ => rfl, OwnS.nil _ _, OwnS.nil _ _⟩⟩⟩
end Go.Proofs.Ytcbppikkoelimaa

/- SurveilAlone, plain: what is found of a member hangs on its own orders alone. -/
namespace Go.Proofs.Ytcbppikkoelimaa
open Go.V
set_option linter.unusedVariables false
set_option linter.unusedSimpArgs false

structure Wt.Srt (W : Wt) : Prop where
  s : W.last.Pairwise fun a b => a.at_ ≤ b.at_
  n : ∀ x ∈ W.last, x.at_ ≤ W.n
theorem drop_sorted {s n : Int} : ∀ {l : List Sn}, (l.Pairwise fun a b => a.at_ ≤ b.at_) → l.dropWhile (fun x => decide (s ≤ n - x.at_)) = l.filter fun x => !decide (s ≤ n - x.at_)
  | [], _ => rfl
  | a :: l, h => by
    have h' := List.pairwise_cons.1 h
    rw [List.dropWhile_cons, List.filter_cons]
    by_cases ha : s ≤ n - a.at_
    · simp only [ha, decide_true, if_true, Bool.not_true, Bool.false_eq_true, if_false]
      exact drop_sorted h'.2
    · simp only [ha, decide_false, Bool.false_eq_true, if_false, Bool.not_false, if_true]
      congr 1
      symm
      rw [List.filter_eq_self]
      intro x hx
      have := h'.1 x hx
      simp; omega
theorem Wt.Srt.tick {W : Wt} (h : W.Srt) (w : Wn) : (W.tick w).Srt :=
  ⟨h.s.sublist (List.dropWhile_sublist _), fun x hx => by have := h.n x ((List.dropWhile_sublist _).subset hx); show x.at_ ≤ W.n + 1; omega⟩
theorem Wt.Srt.push {W : Wt} (h : W.Srt) {W' : Wt} {x : Sn} (hn : W'.n = W.n) (hl : W'.last = W.last ++ [x]) (hx : x.at_ = W.n) : W'.Srt := by
  refine ⟨?_, fun y hy => ?_⟩
  · rw [hl, List.pairwise_append]
    refine ⟨h.s, by simp, fun a ha b hb => ?_⟩
    have : b = x := by simpa using hb
    subst this
    rw [hx]; exact h.n a ha
  · rw [hn]
    rw [hl] at hy
    rcases List.mem_append.1 hy with hy | hy
    · exact h.n y hy
    · have : y = x := by simpa using hy
      subst this; omega
theorem Wt.Srt.same {W W' : Wt} (h : W.Srt) (hn : W'.n = W.n) (hl : W'.last = W.last) : W'.Srt := ⟨by rw [hl]; exact h.s, by rw [hl, hn]; exact h.n⟩
/-- does an event that is remembered concern a member? -/
def conc (m : Int) (x : Sn) : Bool := (x.tr && (decide (x.by_ = m) || decide (x.se = m))) || (x.fr && decide (x.cm = m))
def ownA (m : Int) (l : List Al) : List Al := l.filter fun a => decide (a.m = m) && decide (a.r ≠ 4)
theorem ownA_app (m : Int) (a b : List Al) : ownA m (a ++ b) = ownA m a ++ ownA m b := by simp [ownA]
/-- two watches that are one to a member -/
structure Rl (m : Int) (p q : Wt) : Prop where
  n : p.n = q.n
  K : ∀ id, (p.K id = none ∧ q.K id = none) ∨ ∃ k k', p.K id = some k ∧ q.K id = some k' ∧ k.m = k'.m ∧ k.s = k'.s ∧ (k.m = m → k.t = k'.t)
  o : (p.P m).o = (q.P m).o
  t : (p.P m).t = (q.P m).t
  last : p.last.filter (conc m) = q.last.filter (conc m)
  sp : p.Srt
  sq : q.Srt
/-- alike in what counts for a member -/
structure Alk (m : Int) (p p' : Wt) : Prop where
  n : p'.n = p.n
  K : p'.K = p.K
  o : (p'.P m).o = (p.P m).o
  t : (p'.P m).t = (p.P m).t
  last : p'.last = p.last
theorem Rl.left {m : Int} {p q p' : Wt} (h : Rl m p q) (a : Alk m p p') : Rl m p' q :=
  ⟨a.n.trans h.n, by rw [a.K]; exact h.K, a.o.trans h.o, a.t.trans h.t, by rw [a.last]; exact h.last, h.sp.same a.n a.last, h.sq⟩
theorem Rl.right {m : Int} {p q q' : Wt} (h : Rl m p q) (a : Alk m q q') : Rl m p q' :=
  ⟨h.n.trans a.n.symm, by rw [a.K]; exact h.K, h.o.trans a.o.symm, h.t.trans a.t.symm, by rw [a.last]; exact h.last, h.sp, h.sq.same a.n a.last⟩
theorem alk_al (w : Wn) (z : Wt × List Al) (r m' o n m : Int) : Alk m z.1 (Wt.al w z r m' o n).1 := by
  have h1 := Wt.al_eq w z r m' o n
  have h2 := Wt.al_P w z r m' o n m
  exact ⟨h1.1, h1.2.1, h2.1, h2.2, h1.2.2.2⟩
theorem own_al_other (w : Wn) (z : Wt × List Al) {r m' o n m : Int} (h : m' ≠ m ∨ r = 4) : ownA m (Wt.al w z r m' o n).2 = ownA m z.2 := by
  unfold Wt.al
  split
  · rfl
  · rw [ownA_app]
    have : ownA m [⟨r, m', z.1.n, o, n⟩] = [] := by
      unfold ownA
      rw [List.filter_eq_nil_iff]
      intro a ha
      have : a = ⟨r, m', z.1.n, o, n⟩ := by simpa using ha
      subst this
      rcases h with h | h <;> simp [h]
    rw [this, List.append_nil]
theorem own_al_same {m : Int} (w : Wn) {z z' : Wt × List Al} (h : ownA m z.2 = ownA m z'.2) (hn : z.1.n = z'.1.n) (r m' o n : Int) : ownA m (Wt.al w z r m' o n).2 = ownA m (Wt.al w z' r m' o n).2 := by
  unfold Wt.al
  split
  · exact h
  · rw [ownA_app, ownA_app, h, hn]
theorem Rl.who {m : Int} {p q : Wt} (h : Rl m p q) (id : Int) : p.who id = q.who id := by
  unfold Wt.who
  rcases h.K id with ⟨h1, h2⟩ | ⟨k, k', h1, h2, h3, -⟩
  · rw [h1, h2]
  · rw [h1, h2]; exact h3
theorem Rl.tick {m : Int} {p q : Wt} (h : Rl m p q) (w : Wn) : Rl m (p.tick w) (q.tick w) := by
  refine ⟨by show p.n + 1 = q.n + 1; rw [h.n], h.K, h.o, h.t, ?_, h.sp.tick w, h.sq.tick w⟩
  show (p.last.dropWhile _).filter _ = (q.last.dropWhile _).filter _
  rw [drop_sorted h.sp.s, drop_sorted h.sq.s, List.filter_filter, List.filter_filter]
  have e : ∀ l : List Sn, l.filter (fun a => conc m a && !decide (w.span ≤ p.n + 1 - a.at_)) = (l.filter (conc m)).filter fun a => !decide (w.span ≤ p.n + 1 - a.at_) := fun l => by
    rw [List.filter_filter]; exact List.filter_congr fun x _ => by rw [Bool.and_comm]
  rw [← h.n, e, e, h.last]
/-- a pair: watch and what was told -/
structure Rz (m : Int) (z z' : Wt × List Al) : Prop where
  r : Rl m z.1 z'.1
  o : ownA m z.2 = ownA m z'.2
theorem Rz.al_both {m : Int} {z z' : Wt × List Al} (h : Rz m z z') (w : Wn) (r m' o n : Int) : Rz m (Wt.al w z r m' o n) (Wt.al w z' r m' o n) :=
  ⟨(h.r.left (alk_al w z r m' o n m)).right (alk_al w z' r m' o n m), own_al_same w h.o h.r.n r m' o n⟩
theorem Rz.al_l {m : Int} {z z' : Wt × List Al} (h : Rz m z z') (w : Wn) {r m' o n : Int} (hm : m' ≠ m ∨ r = 4) : Rz m (Wt.al w z r m' o n) z' :=
  ⟨h.r.left (alk_al w z r m' o n m), by rw [own_al_other w z hm]; exact h.o⟩
theorem Rz.al_r {m : Int} {z z' : Wt × List Al} (h : Rz m z z') (w : Wn) {r m' o n : Int} (hm : m' ≠ m ∨ r = 4) : Rz m z (Wt.al w z' r m' o n) :=
  ⟨h.r.right (alk_al w z' r m' o n m), by rw [own_al_other w z' hm]; exact h.o⟩
theorem Rz.jump_l {m : Int} {z z' : Wt × List Al} (h : Rz m z z') (w : Wn) (pr m' id : Int) : Rz m (jump w z pr m' id) z' := by
  unfold jump
  split
  · exact h
  · split
    · exact h.al_l w (.inr rfl)
    · exact h
theorem Rz.jump_r {m : Int} {z z' : Wt × List Al} (h : Rz m z z') (w : Wn) (pr m' id : Int) : Rz m z (jump w z' pr m' id) := by
  unfold jump
  split
  · exact h
  · split
    · exact h.al_r w (.inr rfl)
    · exact h

theorem alk_chg (W : Wt) (m' m : Int) (f : Pf → Pf) (h : ∀ p, (f p).o = p.o ∧ (f p).t = p.t) : Alk m W (W.chg m' f) := by
  have h1 := W.chg_eq m' f
  refine ⟨h1.1, h1.2.1, ?_, ?_, h1.2.2.2.1⟩
  · rw [Wt.chg_P]; split
    · rename_i e; rw [(h _).1, e.1]
    · rfl
  · rw [Wt.chg_P]; split
    · rename_i e; rw [(h _).2, e.1]
    · rfl
theorem Alk.trans {m : Int} {a b c : Wt} (h : Alk m a b) (k : Alk m b c) : Alk m a c := ⟨k.n.trans h.n, k.K.trans h.K, k.o.trans h.o, k.t.trans h.t, k.last.trans h.last⟩
/-- what a trade does to profiles and orders -/
theorem trade0_P {m : Int} (hm : m ≠ 0) (W : Wt) (e : Ev) : ((W.trade0 e).P m).o = (W.P m).o ∧ ((W.trade0 e).P m).t = (W.P m).t + (if W.who e.id = m then 1 else 0) + (if W.who e.other = m then 1 else 0) := by
  unfold Wt.trade0
  have a1 := alk_chg ((((W.part e.id).part e.other).chg (W.who e.id) fun p => { p with t := p.t + 1 }).chg (W.who e.other) fun p => { p with t := p.t + 1 }) (W.buyer e) m (fun p => { p with b := (p.b + e.q) % 18446744073709551616 }) (fun _ => ⟨rfl, rfl⟩)
  have a2 := alk_chg (((((W.part e.id).part e.other).chg (W.who e.id) fun p => { p with t := p.t + 1 }).chg (W.who e.other) fun p => { p with t := p.t + 1 }).chg (W.buyer e) fun p => { p with b := (p.b + e.q) % 18446744073709551616 }) (W.seller e) m (fun p => { p with s := (p.s + e.q) % 18446744073709551616 }) (fun _ => ⟨rfl, rfl⟩)
  have a := a1.trans a2
  rw [a.o, a.t]
  have hP : ∀ x, ((W.part e.id).part e.other).P x = W.P x := fun _ => rfl
  simp only [Wt.chg_P, hP]
  by_cases h1 : W.who e.id = m <;> by_cases h2 : W.who e.other = m
  · subst h1; simp [hm, h2]
  · subst h1; simp [hm, h2, Ne.symm h2]
  · subst h2; simp [hm, h1, Ne.symm h1]
  · simp [h1, h2, Ne.symm h1, Ne.symm h2]
theorem trade0_eq (W : Wt) (e : Ev) : (W.trade0 e).n = W.n ∧ (W.trade0 e).K = ((W.part e.id).part e.other).K ∧ (W.trade0 e).A = W.A ∧ (W.trade0 e).last = W.last ∧ (W.trade0 e).cs = W.cs := by
  unfold Wt.trade0
  refine ⟨?_, ?_, ?_, ?_, ?_⟩
  · rw [(Wt.chg_eq _ _ _).1, (Wt.chg_eq _ _ _).1, (Wt.chg_eq _ _ _).1, (Wt.chg_eq _ _ _).1]; rfl
  · rw [(Wt.chg_eq _ _ _).2.1, (Wt.chg_eq _ _ _).2.1, (Wt.chg_eq _ _ _).2.1, (Wt.chg_eq _ _ _).2.1]
  · rw [(Wt.chg_eq _ _ _).2.2.1, (Wt.chg_eq _ _ _).2.2.1, (Wt.chg_eq _ _ _).2.2.1, (Wt.chg_eq _ _ _).2.2.1]; rfl
  · rw [(Wt.chg_eq _ _ _).2.2.2.1, (Wt.chg_eq _ _ _).2.2.2.1, (Wt.chg_eq _ _ _).2.2.2.1, (Wt.chg_eq _ _ _).2.2.2.1]; rfl
  · rw [(Wt.chg_eq _ _ _).2.2.2.2, (Wt.chg_eq _ _ _).2.2.2.2, (Wt.chg_eq _ _ _).2.2.2.2, (Wt.chg_eq _ _ _).2.2.2.2]; rfl
theorem part_K (W : Wt) (a id : Int) : (W.part a).K id = if id = a then (W.K a).map (fun k => { k with t := true }) else W.K id := rfl
abbrev RK (m : Int) (a b : Option Kn) : Prop := (a = none ∧ b = none) ∨ ∃ k k', a = some k ∧ b = some k' ∧ k.m = k'.m ∧ k.s = k'.s ∧ (k.m = m → k.t = k'.t)
theorem RK.both {m : Int} {a b : Option Kn} (h : RK m a b) : RK m (a.map fun k => { k with t := true }) (b.map fun k => { k with t := true }) := by
  rcases h with ⟨rfl, rfl⟩ | ⟨k, k', rfl, rfl, h1, h2, -⟩
  · exact .inl ⟨rfl, rfl⟩
  · exact .inr ⟨_, _, rfl, rfl, h1, h2, fun _ => rfl⟩
theorem RK.lone {m : Int} {a b : Option Kn} (h : RK m a b) (hm : ∀ k, a = some k → k.m ≠ m) : RK m (a.map fun k => { k with t := true }) b := by
  rcases h with ⟨rfl, rfl⟩ | ⟨k, k', rfl, rfl, h1, h2, -⟩
  · exact .inl ⟨rfl, rfl⟩
  · exact .inr ⟨_, _, rfl, rfl, h1, h2, fun e => absurd e (hm k rfl)⟩
theorem who_ne {W : Wt} {m id : Int} (h : W.who id ≠ m) : ∀ k, W.K id = some k → k.m ≠ m := by
  intro k hk
  unfold Wt.who at h
  rw [hk] at h; exact h
theorem Rl.trade {m : Int} (hm : m ≠ 0) {p q : Wt} (h : Rl m p q) (e : Ev) : Rl m (p.trade1 e) (q.trade1 e) := by
  have p0 := trade0_eq p e
  have q0 := trade0_eq q e
  have pP := trade0_P hm p e
  have qP := trade0_P hm q e
  have w1 := h.who e.id
  have w2 := h.who e.other
  have hb : p.buyer e = q.buyer e := by unfold Wt.buyer; rw [w1, w2]
  have hs : p.seller e = q.seller e := by unfold Wt.seller; rw [w1, w2]
  refine ⟨?_, fun id => ?_, ?_, ?_, ?_, h.sp.push p0.1 rfl rfl, h.sq.push q0.1 rfl rfl⟩
  · show (p.trade0 e).n = (q.trade0 e).n
    rw [p0.1, q0.1, h.n]
  · show RK m ((p.trade0 e).K id) ((q.trade0 e).K id)
    rw [p0.2.1, q0.2.1, part_K, part_K, part_K, part_K, part_K, part_K]
    have := h.K id
    have := h.K e.id
    have := h.K e.other
    split
    · split
      · exact RK.both (RK.both (h.K _))
      · exact RK.both (h.K _)
    · split
      · exact RK.both (h.K _)
      · exact h.K _
  · show ((p.trade0 e).P m).o = ((q.trade0 e).P m).o
    rw [pP.1, qP.1, h.o]
  · show ((p.trade0 e).P m).t = ((q.trade0 e).P m).t
    rw [pP.2, qP.2, h.t, w1, w2]
  · show (p.last ++ [_]).filter _ = (q.last ++ [_]).filter _
    rw [List.filter_append, List.filter_append, h.last, h.n, hb, hs]
theorem Rl.lone {m : Int} (hm : m ≠ 0) {p q : Wt} (h : Rl m p q) (e : Ev) (h1 : p.who e.id ≠ m) (h2 : p.who e.other ≠ m) : Rl m (p.trade1 e) q := by
  have p0 := trade0_eq p e
  have pP := trade0_P hm p e
  rw [if_neg h1, if_neg h2] at pP
  refine ⟨?_, fun id => ?_, ?_, ?_, ?_, h.sp.push p0.1 rfl rfl, h.sq⟩
  · show (p.trade0 e).n = _
    rw [p0.1, h.n]
  · show RK m ((p.trade0 e).K id) (q.K id)
    rw [p0.2.1, part_K, part_K, part_K]
    have k1 := who_ne h1
    have k2 := who_ne h2
    split
    · rename_i e1
      rw [e1]
      split
      · rename_i e2
        refine RK.lone (RK.lone (by rw [e2]; exact h.K _) k1) fun k hk => ?_
        cases hK : p.K e.id with
        | none => rw [hK] at hk; cases hk
        | some k0 =>
          rw [hK] at hk
          have := Option.some.inj hk
          subst this
          exact k1 k0 hK
      · exact RK.lone (h.K _) k2
    · split
      · rename_i e2; rw [e2]; exact RK.lone (h.K _) k1
      · exact h.K _
  · show ((p.trade0 e).P m).o = _
    rw [pP.1, h.o]
  · show ((p.trade0 e).P m).t = _
    rw [pP.2, h.t]; omega
  · show (p.last ++ [_]).filter _ = _
    rw [List.filter_append, h.last]
    have : ([⟨p.n, true, tickOf e.pr, p.buyer e, p.seller e, 0, 0, false⟩] : List Sn).filter (conc m) = [] := by
      rw [List.filter_eq_nil_iff]
      intro x hx
      have : x = ⟨p.n, true, tickOf e.pr, p.buyer e, p.seller e, 0, 0, false⟩ := by simpa using hx
      subst this
      unfold conc Wt.buyer Wt.seller
      by_cases hs : e.sd = 1 <;> simp [hs, h1, h2]
    rw [this, List.append_nil]
theorem layN_conc (m s : Int) (l : List Sn) : layN m s l = layN m s (l.filter (conc m)) := by
  unfold layN
  rw [List.filter_filter]
  congr 1
  refine List.filter_congr fun x _ => ?_
  unfold conc
  cases x.fr <;> cases x.tr <;> by_cases h : x.cm = m <;> simp [h]
theorem metB_conc (m s : Int) (l : List Sn) : metB m s l = metB m s (l.filter (conc m)) := by
  unfold metB
  rw [List.any_filter]
  congr 1
  funext x
  unfold conc
  by_cases hs : s = 1 <;> cases x.tr <;> simp [hs] <;> intro h <;> simp [h]
theorem Rz.ack {m : Int} (hm : m ≠ 0) {z z' : Wt × List Al} (h : Rz m z z') (w : Wn) (e : Ev) : Rz m (Wt.acks w z e) (Wt.acks w z' e) := by
  have hP : ∀ W : Wt, ((W.ack0 e).P m).t = (W.P m).t ∧ ((W.ack0 e).P m).o = (W.P m).o + if e.mb = m then 1 else 0 := fun W => by
    unfold Wt.ack0
    rw [Wt.chg_P]
    by_cases e1 : e.mb = m
    · subst e1; simp [hm]
    · simp [e1, Ne.symm e1]
  have hE : ∀ W : Wt, (W.ack0 e).n = W.n ∧ (W.ack0 e).K = (fun x => if x = e.id then some ⟨e.mb, e.sd, false⟩ else W.K x) ∧ (W.ack0 e).last = W.last := fun W => by
    unfold Wt.ack0
    have := Wt.chg_eq ({ W with K := fun x => if x = e.id then some ⟨e.mb, e.sd, false⟩ else W.K x, A := fun x => if x = e.mb then true else W.A x } : Wt) e.mb (fun p => { p with o := p.o + 1 })
    exact ⟨this.1, this.2.1, this.2.2.2.1⟩
  have h0 : Rz m (z.1.ack0 e, z.2) (z'.1.ack0 e, z'.2) := by
    refine ⟨⟨?_, fun id => ?_, ?_, ?_, ?_, h.r.sp.same (hE _).1 (hE _).2.2, h.r.sq.same (hE _).1 (hE _).2.2⟩, h.o⟩
    · show (z.1.ack0 e).n = (z'.1.ack0 e).n
      rw [(hE _).1, (hE _).1, h.r.n]
    · show RK m ((z.1.ack0 e).K id) ((z'.1.ack0 e).K id)
      rw [(hE _).2.1, (hE _).2.1]
      dsimp only
      split
      · exact .inr ⟨_, _, rfl, rfl, rfl, rfl, fun _ => rfl⟩
      · exact h.r.K id
    · show ((z.1.ack0 e).P m).o = ((z'.1.ack0 e).P m).o
      rw [(hP _).2, (hP _).2, h.r.o]
    · show ((z.1.ack0 e).P m).t = ((z'.1.ack0 e).P m).t
      rw [(hP _).1, (hP _).1, h.r.t]
    · show (z.1.ack0 e).last.filter _ = (z'.1.ack0 e).last.filter _
      rw [(hE _).2.2, (hE _).2.2, h.r.last]
  unfold Wt.acks
  by_cases e1 : e.mb = m
  · rw [e1]
    have o1 : ((z.1.ack0 e).P m).o = ((z'.1.ack0 e).P m).o := h0.r.o
    have t1 : ((z.1.ack0 e).P m).t = ((z'.1.ack0 e).P m).t := h0.r.t
    rw [← o1, ← t1]
    split
    · exact h0.al_both w _ _ _ _
    · exact h0
  · split
    · split
      · exact (h0.al_l w (.inl e1)).al_r w (.inl e1)
      · exact h0.al_l w (.inl e1)
    · split
      · exact h0.al_r w (.inl e1)
      · exact h0
theorem Rz.trade {m : Int} (hm : m ≠ 0) {z z' : Wt × List Al} (h : Rz m z z') (w : Wn) (e : Ev) : Rz m (Wt.trades w z e) (Wt.trades w z' e) := by
  unfold Wt.trades
  refine Rz.jump_l (Rz.jump_r ?_ w _ _ _) w _ _ _
  unfold Wt.wash
  have h0 : Rz m (z.1.trade1 e, z.2) (z'.1.trade1 e, z'.2) := ⟨h.r.trade hm e, h.o⟩
  rw [h.r.who e.id, h.r.who e.other]
  split
  · exact h0.al_both w _ _ _ _
  · exact h0
theorem Rz.lone {m : Int} (hm : m ≠ 0) {z z' : Wt × List Al} (h : Rz m z z') (w : Wn) (e : Ev) (h1 : z.1.who e.id ≠ m) (h2 : z.1.who e.other ≠ m) : Rz m (Wt.trades w z e) z' := by
  unfold Wt.trades
  refine Rz.jump_l ?_ w _ _ _
  unfold Wt.wash
  have h0 : Rz m (z.1.trade1 e, z.2) z' := ⟨h.r.lone hm e h1 h2, h.o⟩
  split
  · exact h0.al_l w (.inl h1)
  · exact h0
theorem Rl.fresh {m : Int} {p q : Wt} (h : Rl m p q) {k k' : Kn} (h1 : k.m = k'.m) (h2 : k.s = k'.s) : Rl m (p.fresh k) (q.fresh k') :=
  ⟨h.n, h.K, h.o, h.t, by show (p.last ++ [_]).filter _ = (q.last ++ [_]).filter _; rw [List.filter_append, List.filter_append, h.last, h.n, h1, h2], h.sp.push rfl rfl rfl, h.sq.push rfl rfl rfl⟩
theorem Rl.fresh_l {m : Int} {p q : Wt} (h : Rl m p q) {k : Kn} (h1 : k.m ≠ m) : Rl m (p.fresh k) q := by
  refine ⟨h.n, h.K, h.o, h.t, ?_, h.sp.push rfl rfl rfl, h.sq⟩
  show (p.last ++ [_]).filter _ = _
  rw [List.filter_append, h.last]
  simp [conc, h1]
theorem Rz.cancel {m : Int} {z z' : Wt × List Al} (h : Rz m z z') (w : Wn) (e : Ev) (h1 : z.1.who e.id = m) (hm : m ≠ 0) : Rz m (Wt.cancels w z e) (Wt.cancels w z' e) := by
  unfold Wt.cancels
  rcases h.r.K e.id with ⟨e1, e2⟩ | ⟨k, k', e1, e2, hm1, hs1, ht⟩
  · rw [e1, e2]; exact h
  · rw [e1, e2]
    dsimp only
    have hkm : k.m = m := by unfold Wt.who at h1; rw [e1] at h1; exact h1
    rw [← ht hkm]
    have hC : Rl m (z.1.chg k.m fun p => { p with c := p.c + 1 }) (z'.1.chg k'.m fun p => { p with c := p.c + 1 }) := (h.r.left (alk_chg _ _ m (fun p => { p with c := p.c + 1 }) (fun _ => ⟨rfl, rfl⟩))).right (alk_chg _ _ m (fun p => { p with c := p.c + 1 }) (fun _ => ⟨rfl, rfl⟩))
    split
    · exact ⟨hC, h.o⟩
    · have hF := hC.fresh hm1 hs1
      have e3 : ∀ W W' : Wt, Rl m W W' → layN k.m k.s W.last = layN k'.m k'.s W'.last := fun W W' hR => by
        rw [← hm1, ← hs1, hkm, layN_conc, hR.last, ← layN_conc]
      have e4 : ∀ W W' : Wt, Rl m W W' → metB k.m k.s W.last = metB k'.m k'.s W'.last := fun W W' hR => by
        rw [← hm1, ← hs1, hkm, metB_conc, hR.last, ← metB_conc]
      rw [e3 _ _ hF, e4 _ _ hF, ← hm1]
      have hF' : Rz m ((z.1.chg k.m fun p => { p with c := p.c + 1 }).fresh k, z.2) ((z'.1.chg k.m fun p => { p with c := p.c + 1 }).fresh k', z'.2) := ⟨by rw [hm1] at hF ⊢; exact hF, h.o⟩
      split
      · exact hF'.al_both w _ _ _ _
      · exact hF'
theorem Rz.cancel_l {m : Int} {z z' : Wt × List Al} (h : Rz m z z') (w : Wn) (e : Ev) (h1 : z.1.who e.id ≠ m) : Rz m (Wt.cancels w z e) z' := by
  unfold Wt.cancels
  have hk := who_ne h1
  split
  · exact h
  · rename_i k e1
    have hkm := hk k e1
    have hC : Rl m (z.1.chg k.m fun p => { p with c := p.c + 1 }) z'.1 := h.r.left (alk_chg _ _ m (fun p => { p with c := p.c + 1 }) (fun _ => ⟨rfl, rfl⟩))
    split
    · exact ⟨hC, h.o⟩
    · have hF : Rz m ((z.1.chg k.m fun p => { p with c := p.c + 1 }).fresh k, z.2) z' := ⟨hC.fresh_l hkm, h.o⟩
      split
      · exact hF.al_l w (.inl hkm)
      · exact hF
abbrev evNil : Ev := ⟨0, 5, 0, 0, 0, 0, 0, 0, 0, 0, 0, 0, 0⟩
def whoStep (f : Int → Int) (e : Ev) : Int → Int := if e.kind = 1 then (fun x => if x = e.id then e.mb else f x) else f
def othE (m : Int) (f : Int → Int) (e : Ev) : Ev := if (e.kind = 3 ∧ f e.id ≠ m ∧ f e.other ≠ m) ∨ (e.kind = 4 ∧ f e.id ≠ m) then evNil else e
def oth (m : Int) : (Int → Int) → List Ev → List Ev
  | _, [] => []
  | f, e :: l => othE m (whoStep f e) e :: oth m (whoStep f e) l
/-- whose orders are, behind an event -/
theorem who_al (w : Wn) (z : Wt × List Al) (r m o n id : Int) : (Wt.al w z r m o n).1.who id = z.1.who id := by unfold Wt.who; rw [(Wt.al_eq w z r m o n).2.1]
theorem who_part (W : Wt) (a id : Int) : (W.part a).who id = W.who id := by
  unfold Wt.who
  rw [part_K]
  by_cases e : id = a
  · rw [if_pos e, e]; cases W.K a <;> rfl
  · rw [if_neg e]
theorem who_chg (W : Wt) (m : Int) (f : Pf → Pf) (id : Int) : (W.chg m f).who id = W.who id := by unfold Wt.who; rw [(W.chg_eq m f).2.1]
theorem who_jump (w : Wn) (z : Wt × List Al) (p m i id : Int) : (jump w z p m i).1.who id = z.1.who id := by
  unfold jump
  split
  · rfl
  · split
    · exact who_al _ _ _ _ _ _ _
    · rfl
theorem who_trade1 (W : Wt) (e : Ev) (id : Int) : (W.trade1 e).who id = W.who id := by
  have : (W.trade1 e).who id = ((W.part e.id).part e.other).who id := by
    show (match (W.trade0 e).K id with | some k => k.m | none => 0) = _
    rw [(trade0_eq W e).2.1]; rfl
  rw [this, who_part, who_part]
theorem who_ev (w : Wn) (z : Wt × List Al) (e : Ev) (id : Int) : (Wt.ev w z e).1.who id = whoStep z.1.who e id := by
  unfold Wt.ev whoStep
  split
  · unfold Wt.acks
    have hE : ∀ W : Wt, (W.ack0 e).who id = if id = e.id then e.mb else W.who id := fun W => by
      unfold Wt.ack0
      rw [who_chg]
      unfold Wt.who
      dsimp only
      by_cases e1 : id = e.id
      · rw [if_pos e1, if_pos e1]
      · rw [if_neg e1, if_neg e1]
    split
    · rw [who_al]; exact hE _
    · exact hE _
  · split
    · unfold Wt.trades
      rw [who_jump]
      unfold Wt.wash
      split
      · rw [who_al]; exact who_trade1 _ _ _
      · exact who_trade1 _ _ _
    · split
      · unfold Wt.cancels
        split
        · rfl
        · split
          · exact who_chg _ _ _ _
          · split
            · rw [who_al]; exact who_chg _ _ _ _
            · exact who_chg _ _ _ _
      · rfl
theorem alone_run {m : Int} (hm : m ≠ 0) (w : Wn) : ∀ (l : List Ev) (z z' : Wt × List Al) (f : Int → Int), Rz m z z' → (∀ id, f id = z.1.who id) → ownA m (Wt.add w z l).2 = ownA m (Wt.add w z' (oth m f l)).2
  | [], z, z', f, h, _ => h.o
  | e :: l, z, z', f, h, hf => by
    have hf : f = z.1.who := funext hf
    subst hf
    show ownA m (Wt.add w (Wt.ev w z e) l).2 = ownA m (Wt.add w (Wt.ev w z' (othE m (whoStep z.1.who e) e)) (oth m (whoStep z.1.who e) l)).2
    refine alone_run hm w l _ _ _ ?_ (fun id => (who_ev w z e id).symm)
    have h0 : Rz m (z.1.tick w, z.2) (z'.1.tick w, z'.2) := ⟨h.r.tick w, h.o⟩
    have hE : Wt.ev w z' evNil = (z'.1.tick w, z'.2) := by unfold Wt.ev; simp
    by_cases k1 : e.kind = 1
    · have : othE m (whoStep z.1.who e) e = e := by unfold othE; rw [if_neg (by omega)]
      rw [this]
      unfold Wt.ev
      rw [if_pos k1, if_pos k1]
      exact h0.ack hm w e
    · have hws : whoStep z.1.who e = z.1.who := by unfold whoStep; rw [if_neg k1]
      rw [hws]
      have ht : ∀ id, (z.1.tick w).who id = z.1.who id := fun _ => rfl
      by_cases k3 : e.kind = 3
      · by_cases hc : z.1.who e.id ≠ m ∧ z.1.who e.other ≠ m
        · have : othE m z.1.who e = evNil := by unfold othE; rw [if_pos (.inl ⟨k3, hc⟩)]
          rw [this, hE]
          unfold Wt.ev
          rw [if_neg k1, if_pos k3]
          exact h0.lone hm w e hc.1 hc.2
        · have : othE m z.1.who e = e := by unfold othE; rw [if_neg (by rintro (hh | hh); exact hc hh.2; omega)]
          rw [this]
          unfold Wt.ev
          rw [if_neg k1, if_pos k3, if_neg k1, if_pos k3]
          exact h0.trade hm w e
      · by_cases k4 : e.kind = 4
        · by_cases hc : z.1.who e.id ≠ m
          · have : othE m z.1.who e = evNil := by unfold othE; rw [if_pos (.inr ⟨k4, hc⟩)]
            rw [this, hE]
            unfold Wt.ev
            rw [if_neg k1, if_neg k3]
            split
            · exact h0.cancel_l w e hc
            · exact h0
          · have hc' : z.1.who e.id = m := by simpa using hc
            have : othE m z.1.who e = e := by unfold othE; rw [if_neg (by rintro (hh | hh); exact k3 hh.1; exact hh.2 hc')]
            rw [this]
            unfold Wt.ev
            rw [if_neg k1, if_neg k3, if_neg k1, if_neg k3]
            split
            · exact h0.cancel w e hc' hm
            · exact h0
        · have : othE m z.1.who e = e := by unfold othE; rw [if_neg (by rintro (hh | hh); exact k3 hh.1; exact k4 hh.1)]
          rw [this]
          unfold Wt.ev
          rw [if_neg k1, if_neg k3, if_neg (fun hh => k4 hh.1), if_neg k1, if_neg k3, if_neg (fun hh => k4 hh.1)]
          exact h0
theorem alone {m : Int} (hm : m ≠ 0) (w : Wn) (l : List Ev) : ownA m (Wt.add w (Wt.new, []) l).2 = ownA m (Wt.add w (Wt.new, []) (oth m (fun _ => 0) l)).2 :=
  alone_run hm w l _ _ _ ⟨⟨rfl, fun _ => .inl ⟨rfl, rfl⟩, rfl, rfl, rfl, ⟨by simp [Wt.new], by simp [Wt.new]⟩, ⟨by simp [Wt.new], by simp [Wt.new]⟩⟩, rfl⟩ (fun _ => rfl)
end Go.Proofs.Ytcbppikkoelimaa

/- SurveilAlone: the law. -/
namespace Go.Proofs.Ytcbppikkoelimaa
open Go.V
set_option linter.unusedVariables false
set_option linter.unusedSimpArgs false

theorem SNew_yes (w : World) {wn : Wn} (h : wn.Can) : Does Try.prog 7 [.agg ⟨wn.cells⟩] [] w (fun v hs => ∃ p z, v = .tuple ⟨[.pointer (some ⟨WP.b p, 0, none⟩), .int .i64 0]⟩ ∧ hs = WZ.H p wn 0 z ∧ WI Wt.new z) :=
  (SNew_ok w wn).mono fun v hs h' => by
    rcases h' with ⟨-, h'⟩ | ⟨h', -⟩
    · exact h'
    · exact absurd h h'
theorem SNew_no (w : World) {wn : Wn} (h : ¬ wn.Can) : Is Try.prog 7 [.agg ⟨wn.cells⟩] w (.tuple ⟨[.pointer none, .int .i64 1]⟩) :=
  (SNew_ok w wn).mono fun v hs h' => by
    rcases h' with ⟨h', -⟩ | ⟨-, h'⟩
    · exact absurd h' h
    · exact h'
theorem Valid_yes (w : World) {wn : Wn} (h : wn.Can) : Is Try.prog 8 [.agg ⟨wn.cells⟩] w (.bool true) := by have := Valid_ok w wn; rwa [decide_eq_true h] at this
theorem Valid_no (w : World) {wn : Wn} (h : ¬ wn.Can) : Is Try.prog 8 [.agg ⟨wn.cells⟩] w (.bool false) := by have := Valid_ok w wn; rwa [decide_eq_false h] at this
theorem ownA_snoc (m : Int) (l : List Al) (x : Al) : ownA m (l ++ [x]) = ownA m l ++ if x.m = m ∧ x.r ≠ 4 then [x] else [] := by
  rw [ownA_app]
  congr 1
  unfold ownA
  by_cases h : x.m = m ∧ x.r ≠ 4
  · rw [if_pos h]; simp [h]
  · rw [if_neg h, List.filter_cons_of_neg (by simpa using fun h1 => fun h2 => h ⟨h1, h2⟩)]; rfl
structure OWS where
  i : Nat
  v : Value
  k : Hp
set_option maxRecDepth 20000 in
theorem own_ok (w : World) (A : Option Addr) (cap : Nat) (l : List Al) (m : Int) (hA : Rd w [] A (alrows l)) (hb : l.length ≤ 1000000000) :
    Does Try.prog 11 [.slice A l.length cap, .int .u32 m] [] w (fun v hs => AlOwn v (ownA m l) hs) := by
  refine Does.less (Does.of (n := 37) Try.func11 rfl rfl rfl rfl ?_)
  refine .seq ((.region (.v (.assign rfl) (.nil ?_))))
  refine .seq ((.region (.ef (.buildSlice (out := []) rfl (by decide) rfl rfl) ?_)))
  rintro _ _ ⟨b7, rfl, rfl⟩
  refine .v (.assign rfl) (.nil ?_)
  refine .seq (.seq ((.region (.v (.assign rfl) (.nil ?_)))))
  refine .block (.loop (X := OWS) (fun x => [(0, .slice A l.length cap), (1, .int .u32 m), (5, x.v), (6, .int .i64 x.i)]) (fun x => x.k) (fun x => x.i ≤ l.length ∧ AlOwn x.v (ownA m (l.take x.i)) x.k) (fun x => l.length - x.i) ⟨0, .slice (some ⟨b7, 0, none⟩) 0 0, [(b7, .cells [] 46)]⟩ ⟨Nat.zero_le _, (⟨rfl, .inr ⟨b7, 0, 0, [], rfl, rfl, Nat.le_refl _, by simp, by simp [alrows]⟩⟩ : AlOwn (.slice (some ⟨b7, 0, none⟩) 0 0) [] [(b7, .cells [] 46)])⟩ (.cons rfl (.cons rfl (.cons rfl (.cons rfl (.nil _))))) (fun _ s => s) ?_)
  rintro ⟨i, v, k⟩ ⟨hi, ho⟩
  dsimp only at hi ho ⊢
  refine .seq (.seq ((.region (.v (.move rfl) (.v (.move rfl) (.v (.len rfl) (.v (.lss rfl rfl) (.nil ?_))))))))
  refine .cond_dec rfl (fun h1 => .skip ?_) (fun h1 => .exit ?_)
  · have hil : i < l.length := by omega
    obtain ⟨b, o, rfl, hat⟩ := Rd.recs Al.cells 5 (fun _ => rfl) hA (by omega) (by omega)
    have hx := fun hs => recAt Al.cells 5 (fun _ => rfl) (z := (i : Int)) (hat hs) hil
    have hxm := fun hs => fldAt Al.cells 5 (fun _ => rfl) (z := (i : Int)) (hat hs) hil 1 rfl
    have hxr := fun hs => fldAt Al.cells 5 (fun _ => rfl) (z := (i : Int)) (hat hs) hil 0 rfl
    have hsn := ownA_snoc m (l.take i) l[i]
    rw [← take_snoc hil] at hsn
    have hle : (ownA m (l.take i)).length ≤ i := by
      have := List.length_filter_le (fun a : Al => decide (a.m = m) && decide (a.r ≠ 4)) (l.take i)
      rw [List.length_take] at this
      unfold ownA; omega
    generalize l[i] = x at hx hxm hxr hsn
    refine .mid (X := Value × Hp) (fun z => [(0, .slice (some ⟨b, o, none⟩) l.length cap), (1, .int .u32 m), (5, z.1), (6, .int .i64 i)]) (fun z => z.2) (fun z => AlOwn z.1 (ownA m (l.take (i + 1))) z.2) (.block (.seq ((.region (.v (.move rfl) (.v (.move rfl) (.v (.indexAddr rfl rfl (by omega) (by omega)) (.v (.fieldAddr rfl) (.v (.load (v := .int .u32 x.m) rfl (hxm _)) (.v (.move rfl) (.v (.eqi rfl rfl) (.v (.move rfl) (.and (b2 := decide (x.r ≠ 4)) 21 27 6 6 rfl rfl (fun g1 => .v (.move rfl) (.v (.move rfl) (.v (.indexAddr rfl rfl (by omega) (by omega)) (.v (.fieldAddr rfl) (.v (.load (v := .int .i64 x.r) rfl (hxr _)) (.v (.nei rfl rfl) (.nil ⟨rfl, rfl, rfl, rfl⟩))))))) (.nil ?_)))))))))))))) ?_
    · refine .cond rfl (fun h2 => ?_) (fun h2 => .skip ?_)
      · rw [Bool.and_eq_true, decide_eq_true_eq, decide_eq_true_eq] at h2
        rw [if_pos h2] at hsn
        refine .region (.v (.move rfl) (.v (.move rfl) (.v (.move rfl) (.v (.indexAddr rfl rfl (by omega) (by omega)) (.v (.loadA (vs := x.cells) rfl (hx _) rfl) (.push (vs := alrows (ownA m (l.take i))) (c := (ownA m (l.take i)).length) (oc := x.cells) rfl rfl ho rfl rfl rfl (by omega) (by omega) ?_))))))
        intro bq v' k' ho'
        refine .v (.assign rfl) (.nil ?_)
        refine ⟨(v', k'), ?_, .cons rfl (.cons rfl (.cons rfl (.cons rfl (.nil _)))), fun _ s => s.take⟩
        show OwnS _ 5 _ (ownA m (l.take (i + 1))).length (alrows (ownA m (l.take (i + 1)))) _
        rw [hsn, List.length_append, alrows_app]; exact ho'
      · have h2 : ¬ (x.m = m ∧ x.r ≠ 4) := fun hh => by rw [decide_eq_true hh.1, decide_eq_true hh.2] at h2; cases h2
        rw [if_neg h2, List.append_nil] at hsn
        rw [hsn]
        exact ⟨(v, k), ho, .cons rfl (.cons rfl (.cons rfl (.cons rfl (.nil _)))), fun _ s => s⟩
    · rintro ⟨v', k'⟩ ho'
      dsimp only at ho' ⊢
      refine .region (.v (.move rfl) (.v (.addi rfl rfl (by omega)) (.v (.assign rfl) (.nil ?_))))
      exact ⟨⟨i + 1, v', k'⟩, ⟨hil, ho'⟩, by show l.length - (i + 1) < _; omega, .cons rfl (.cons rfl (.cons rfl (.cons rfl (.nil _)))), fun _ s => s⟩
  · have hil : i = l.length := by omega
    subst hil
    rw [List.take_length] at ho
    refine .seq ((.region (.v (.move rfl) (.v (.assign rfl) (.nil ?_)))))
    exact .ret ⟨[_], ⟨rfl, trivial⟩, k, fun _ s => s, ho⟩
/-! ### the other ones' events -/
def whoF (l : List Ev) : Int → Int := l.foldl whoStep (fun _ => 0)
theorem oth_snoc (m : Int) : ∀ (a : List Ev) (f : Int → Int) (e : Ev), oth m f (a ++ [e]) = oth m f a ++ [othE m (whoStep (a.foldl whoStep f) e) e]
  | [], f, e => rfl
  | x :: a, f, e => by
    show othE m (whoStep f x) x :: oth m (whoStep f x) (a ++ [e]) = _
    rw [oth_snoc m a (whoStep f x) e]; rfl
theorem oth_length (m : Int) : ∀ (a : List Ev) (f : Int → Int), (oth m f a).length = a.length
  | [], f => rfl
  | x :: a, f => by show (oth m (whoStep f x) a).length + 1 = _; rw [oth_length m a]; rfl
def othUp (m : Int) (l : List Ev) (i : Nat) : List Ev := oth m (fun _ => 0) (l.take i) ++ l.drop i
theorem othUp_zero (m : Int) (l : List Ev) : othUp m l 0 = l := rfl
theorem othUp_full (m : Int) (l : List Ev) : othUp m l l.length = oth m (fun _ => 0) l := by
  unfold othUp; rw [List.take_length, List.drop_length, List.append_nil]
theorem othUp_length (m : Int) (l : List Ev) (i : Nat) : (othUp m l i).length = l.length := by
  unfold othUp; rw [List.length_append, oth_length, ← List.length_append, List.take_append_drop]
theorem othUp_succ (m : Int) {l : List Ev} {i : Nat} (h : i < l.length) : othUp m l (i + 1) = (othUp m l i).set i (othE m (whoF (l.take (i + 1))) l[i]) := by
  have hl : (oth m (fun _ => 0) (l.take i)).length = i := by rw [oth_length, List.length_take]; omega
  unfold othUp
  rw [take_snoc h, oth_snoc, List.drop_eq_getElem_cons h, List.set_append, if_neg (by omega), hl, Nat.sub_self, List.set_cons_zero, List.append_assoc]
  unfold whoF
  rw [List.foldl_append]; rfl
theorem othUp_same (m : Int) {l : List Ev} {i : Nat} (h : i < l.length) : (othUp m l i).set i l[i] = othUp m l i := by
  have hl : (oth m (fun _ => 0) (l.take i)).length = i := by rw [oth_length, List.length_take]; omega
  unfold othUp
  rw [List.drop_eq_getElem_cons h, List.set_append, if_neg (by omega), hl, Nat.sub_self, List.set_cons_zero]
theorem whoF_snoc {l : List Ev} {i : Nat} (h : i < l.length) : whoF (l.take (i + 1)) = whoStep (whoF (l.take i)) l[i] := by
  unfold whoF; rw [take_snoc h, List.foldl_append]; rfl
structure ALS where
  i : Nat
  es : List ME
  c : Nat
  lo : List Value
set_option maxRecDepth 20000 in
set_option maxHeartbeats 8000000 in
theorem SurveilAlone_ok (w : World) (wn : Wn) (A : Option Addr) (cap : Nat) (l : List Ev) (m : Int) (hA : Rd w [] A (erows l)) (hb : l.length ≤ 1200000) :
    Is Try.prog 3 [.agg ⟨wn.cells⟩, .slice A l.length cap, .int .u32 m] w (.bool true) := by
  refine Does.pure (Does.of (n := 144) Try.func3 rfl rfl rfl rfl ?_)
  refine .seq ((.region (.nw (.box (l := wn.cells) rfl rfl) fun b3 => (.v (.assign rfl) (.nil ?_)))))
  by_cases hc : wn.Can
  case neg =>
    refine .seq ((.region (.v (.loadA (vs := wn.cells) rfl .whole rfl) (.pc rfl rfl (fun w s => SNew_no w hc) ?_))))
    refine .v (.move rfl) (.v (.extract rfl rfl) (.v (.extract rfl rfl) (.v (.assign rfl) (.v (.assign rfl) (.nil ?_)))))
    refine .seq ((.region (.v (.loadA (vs := wn.cells) rfl .whole rfl) (.pc rfl rfl (fun w s => SNew_no w hc) ?_))))
    refine .v (.move rfl) (.v (.extract rfl rfl) (.v (.extract rfl rfl) (.v (.assign rfl) (.v (.assign rfl) (.nil ?_)))))
    refine .seq (.seq ((.region (.v (.move rfl) (.v (.move rfl) (.v (.nei rfl rfl) (.v (.move rfl) (.or (b2 := false) 31 36 5 5 rfl rfl (fun g1 => .v (.move rfl) (.v (.eql_ptr_nil rfl rfl) (.v (.move rfl) (.v (.eql_ptr_nil rfl rfl) (.v (.neb rfl rfl) (.nil ⟨rfl, rfl, rfl, rfl⟩)))))) (.v (.move rfl) (.or (b2 := false) 38 43 5 5 rfl rfl (fun g2 => .v (.move rfl) (.v (.neq_ptr_nil rfl rfl) (.v (.loadA (vs := wn.cells) rfl .whole rfl) (.pc rfl rfl (fun w s => Valid_no w hc) (.v (.neb rfl rfl) (.nil ⟨rfl, rfl, rfl, rfl⟩)))))) (.nil ?_)))))))))))
    refine .cond_false rfl (.skip ?_)
    refine .seq (.seq ((.region (.v (.move rfl) (.v (.eql_ptr_nil rfl rfl) (.v (.move rfl) (.or (b2 := true) 47 49 2 2 rfl rfl (fun g3 => .v (.move rfl) (.v (.eql_ptr_nil rfl rfl) (.nil ⟨rfl, rfl, rfl, rfl⟩))) (.v (.move rfl) (.or (b2 := true) 51 53 2 2 rfl rfl (fun g4 => absurd g4 (by simp)) (.nil ?_))))))))))
    refine .cond_true rfl ?_
    refine .seq ((.region (.v (.assign rfl) (.nil ?_))))
    exact .ret ⟨[_], ⟨rfl, trivial⟩, rfl⟩
  refine .seq ((.region (.v (.loadA (vs := wn.cells) rfl .whole rfl) ?_)))
  refine .ef (.call0 rfl rfl fun w s => SNew_yes w hc) ?_
  rintro _ _ ⟨_, ⟨p, zp, rfl, rfl, hIp⟩, rfl⟩
  refine .v (.move rfl) (.v (.extract rfl rfl) (.v (.extract rfl rfl) (.v (.assign rfl) (.v (.assign rfl) (.nil ?_)))))
  refine .seq ((.region (.v (.loadA (vs := wn.cells) rfl .whole rfl) ?_)))
  refine .ef (.call0 rfl rfl fun w s => SNew_yes w hc) ?_
  rintro _ _ ⟨_, ⟨q, zq, rfl, rfl, hIq⟩, rfl⟩
  refine .v (.move rfl) (.v (.extract rfl rfl) (.v (.extract rfl rfl) (.v (.assign rfl) (.v (.assign rfl) (.nil ?_)))))
  refine .seq (.seq ((.region (.v (.move rfl) (.v (.move rfl) (.v (.nei rfl rfl) (.v (.move rfl) (.or (b2 := false) 31 36 5 5 rfl rfl (fun g1 => .v (.move rfl) (.v (.eql_ptr_nil rfl rfl) (.v (.move rfl) (.v (.eql_ptr_nil rfl rfl) (.v (.neb rfl rfl) (.nil ⟨rfl, rfl, rfl, rfl⟩)))))) (.v (.move rfl) (.or (b2 := false) 38 43 5 5 rfl rfl (fun g2 => .v (.move rfl) (.v (.neq_ptr_nil rfl rfl) (.v (.loadA (vs := wn.cells) rfl .whole rfl) (.pc rfl rfl (fun w s => Valid_yes w hc) (.v (.neb rfl rfl) (.nil ⟨rfl, rfl, rfl, rfl⟩)))))) (.nil ?_)))))))))))
  refine .cond_false rfl (.skip ?_)
  refine .seq (.seq ((.region (.v (.move rfl) (.v (.eql_ptr_nil rfl rfl) (.v (.move rfl) (.or (b2 := false) 47 49 2 2 rfl rfl (fun g3 => .v (.move rfl) (.v (.eql_ptr_nil rfl rfl) (.nil ⟨rfl, rfl, rfl, rfl⟩))) (.v (.move rfl) (.or (b2 := decide (m = 0)) 51 53 2 2 rfl rfl (fun g4 => .v (.move rfl) (.v (.eqi rfl rfl) (.nil ⟨rfl, rfl, rfl, rfl⟩))) (.nil ?_))))))))))
  refine .cond rfl (fun h2 => ?_) (fun h2 => .skip ?_)
  · refine .seq ((.region (.v (.assign rfl) (.nil ?_))))
    exact .ret ⟨[_], ⟨rfl, trivial⟩, rfl⟩
  have hm : m ≠ 0 := by simpa using h2
  refine .seq ((.region (.ef (.makeMap .u64) ?_)))
  rintro _ _ ⟨mw, rfl, rfl⟩
  refine .v (.assign rfl) (.nil ?_)
  refine .seq ((.region (.ef (.buildSlice (out := []) rfl (by decide) rfl rfl) ?_)))
  rintro _ _ ⟨b56, rfl, rfl⟩
  refine .v (.move rfl) ?_
  refine .ef (.append (c := 0) (k := l.length) (vs := []) (news := erows l) (h := [(b56, .cells [] 34)]) rfl rfl ⟨rfl, .inr ⟨b56, 0, 0, [], rfl, rfl, by omega, by simp, by simp⟩⟩ TakeI.out (fun w' s => (hA.keep0 s).src (erows_length l) (by omega)) (erows_length l) (erows_ones _) (by omega) (by omega)) ?_
  rintro vo _ ⟨ho, oo, rfl⟩
  rw [Nat.zero_add, List.nil_append] at oo
  refine .v (.assign rfl) (.nil ?_)
  refine .keep (M64 mw [] 0 :: (WZ.H p wn 0 zp ++ (WZ.H q wn 0 zq ++ ho))) ?_
  refine .seq (.seq ((.region (.v (.assign rfl) (.nil ?_)))))
  obtain ⟨Ao, ko, rfl⟩ := OwnS.slice oo
  refine .block (.loop (X := ALS × Hp) (fun x => [(1, .slice A l.length cap), (2, .int .u32 m), (7, .pointer (some ⟨p.b, 0, none⟩)), (9, .pointer (some ⟨q.b, 0, none⟩)), (11, .map (some mw)), (12, .slice Ao l.length ko), (13, .int .i64 x.1.i)]) (fun x => M64 mw x.1.es x.1.c :: (WZ.H p wn 0 zp ++ (WZ.H q wn 0 zq ++ x.2))) (fun x => x.1.i ≤ l.length ∧ MOk x.1.es x.1.c ∧ (∀ id, (mget id x.1.es).getD (.int .u32 0) = .int .u32 (whoF (l.take x.1.i) id)) ∧ OwnS 34 13 (.slice Ao l.length ko) l.length (erows (othUp m l x.1.i)) x.2) (fun x => l.length - x.1.i) (⟨0, [], 0, []⟩, ho) ⟨Nat.zero_le _, MOk.nil, fun _ => rfl, oo⟩ (.cons rfl (.cons rfl (.cons rfl (.cons rfl (.cons rfl (.cons rfl (.cons rfl (.nil _)))))))) (fun _ s => s) ?_)
  rintro ⟨⟨i, es, c, _⟩, ho⟩ ⟨hi, hmo, hwho, oo⟩
  dsimp only at hi hmo hwho oo ⊢
  refine .seq (.seq ((.region (.v (.move rfl) (.v (.move rfl) (.v (.len rfl) (.v (.lss rfl rfl) (.nil ?_))))))))
  refine .cond_dec rfl (fun h3 => .skip ?_) (fun h3 => .exit ?_)
  · have hil : i < l.length := by omega
    obtain ⟨be, oe, rfl, hat⟩ := Rd.recs Ev.cells 13 (fun _ => rfl) hA (by omega) (by omega)
    have hk := fun hs => fldAt Ev.cells 13 (fun _ => rfl) (z := (i : Int)) (hat hs) hil 1 rfl
    have hid := fun hs => fldAt Ev.cells 13 (fun _ => rfl) (z := (i : Int)) (hat hs) hil 2 rfl
    have hot := fun hs => fldAt Ev.cells 13 (fun _ => rfl) (z := (i : Int)) (hat hs) hil 3 rfl
    have hmb := fun hs => fldAt Ev.cells 13 (fun _ => rfl) (z := (i : Int)) (hat hs) hil 5 rfl
    have hws := whoF_snoc hil
    have hou := othUp_succ m hil
    have hsame := othUp_same m hil
    have holen := othUp_length m l i
    generalize l[i] = e at hk hid hot hmb hws hou hsame
    obtain ⟨bo, oo_, lo, rfl, -, rfl, -, hlo, -⟩ := OwnS.some_ oo (by omega)
    have hcapo := (OwnS.cap_ oo).2
    refine .mid (X := Hp) (fun _ => [(1, .slice (some ⟨be, oe, none⟩) l.length cap), (2, .int .u32 m), (7, .pointer (some ⟨p.b, 0, none⟩)), (9, .pointer (some ⟨q.b, 0, none⟩)), (11, .map (some mw)), (12, .slice (some ⟨bo, oo_, none⟩) l.length ko), (13, .int .i64 i)]) (fun x => x) (fun x => ∃ es c ho, x = M64 mw es c :: (WZ.H p wn 0 zp ++ (WZ.H q wn 0 zq ++ ho)) ∧ MOk es c ∧ (∀ id, (mget id es).getD (.int .u32 0) = .int .u32 (whoF (l.take (i + 1)) id)) ∧ OwnS 34 13 (.slice (some ⟨bo, oo_, none⟩) l.length ko) l.length (erows (othUp m l (i + 1))) ho) (.block ?_) ?_
    · refine .mid (X := List ME × Nat) (fun _ => [(1, .slice (some ⟨be, oe, none⟩) l.length cap), (2, .int .u32 m), (7, .pointer (some ⟨p.b, 0, none⟩)), (9, .pointer (some ⟨q.b, 0, none⟩)), (11, .map (some mw)), (12, .slice (some ⟨bo, oo_, none⟩) l.length ko), (13, .int .i64 i)]) (fun x => M64 mw x.1 x.2 :: (WZ.H p wn 0 zp ++ (WZ.H q wn 0 zq ++ [(bo, Ch.cells lo 34)]))) (fun x => MOk x.1 x.2 ∧ ∀ id, (mget id x.1).getD (.int .u32 0) = .int .u32 (whoF (l.take (i + 1)) id)) (.seq ((.region (.v (.move rfl) (.v (.move rfl) (.v (.indexAddr rfl rfl (by omega) (by omega)) (.v (.fieldAddr rfl) (.v (.load (v := .int .i64 e.kind) rfl (hk _)) (.v (.eqi rfl rfl) (.nil ?_)))))))))) ?_
      · rw [hws]
        unfold whoStep
        refine .cond_dec rfl (fun h4 => ?_) (fun h4 => .skip ?_)
        · rw [if_pos h4]
          refine (.drawQ 11 [0, 1, 2, 3, 4, 5, 6, 7, 8, 9, 10, 11] [] (List.nil_subset _) (by kernel_rfl) (by kernel_rfl) ?_)
          refine .v (fun _ f => .move rfl) (.v (fun _ f => .move rfl) (.v (fun _ f => .move rfl) (.v (fun _ f => .indexAddr rfl rfl (by omega) (by omega)) (.v (fun _ f => .fieldAddr rfl) (.v (fun hs' f => .load (v := .int .u64 e.id) rfl (hid hs')) (.v (fun _ f => .move rfl) (.v (fun _ f => .move rfl) (.v (fun _ f => .indexAddr rfl rfl (by omega) (by omega)) (.v (fun _ f => .fieldAddr rfl) (.v (fun hs' f => .load (v := .int .u32 e.mb) rfl (hmb hs')) ?_))))))))))
          refine .st (.mapUpdate (es := es) (c := c) rfl rfl rfl) (.nil ?_)
          refine ⟨((mset e.id (.int .u32 e.mb) es c).1, (mset e.id (.int .u32 e.mb) es c).2), ⟨hmo.set _ _, fun id => ?_⟩, .cons rfl (.cons rfl (.cons rfl (.cons rfl (.cons rfl (.cons rfl (.cons rfl (.nil _))))))), fun _ s => s⟩
          dsimp only
          rw [mget_set]
          by_cases e1 : id = e.id
          · rw [if_pos e1, if_pos e1]; rfl
          · rw [if_neg e1, if_neg e1]; exact hwho id
        · rw [if_neg h4]
          exact ⟨(es, c), ⟨hmo, hwho⟩, .cons rfl (.cons rfl (.cons rfl (.cons rfl (.cons rfl (.cons rfl (.cons rfl (.nil _))))))), fun _ s => s⟩
      · clear hmo hwho es c
        rintro ⟨es, c⟩ ⟨hmo, hwho⟩
        dsimp only at hmo hwho ⊢
        generalize whoF (l.take (i + 1)) = F at hwho hou
        refine .seq ((.drawK [M64 mw es c] (by intro y hy; simp at hy; subst hy; simp) (by kernel_rfl) (by kernel_rfl) ?_))
        refine .v (fun _ f => .move rfl) (.v (fun _ f => .move rfl) (.v (fun _ f => .move rfl) (.v (fun _ f => .indexAddr rfl rfl (by omega) (by omega)) (.v (fun _ f => .fieldAddr rfl) (.v (fun hs' f => .load (v := .int .u64 e.id) rfl (hid hs')) (.v (fun _ f => .lookupE (es := es) (c := c) (v := .int .u32 (F e.id)) rfl rfl (hb := .sub f) (hwho _)) ?_))))))
        refine .v (fun _ f => .move rfl) (.v (fun _ f => .move rfl) (.v (fun _ f => .move rfl) (.v (fun _ f => .indexAddr rfl rfl (by omega) (by omega)) (.v (fun _ f => .fieldAddr rfl) (.v (fun hs' f => .load (v := .int .u64 e.other) rfl (hot hs')) (.v (fun _ f => .lookupE (es := es) (c := c) (v := .int .u32 (F e.other)) rfl rfl (hb := .sub f) (hwho _)) (.v (fun _ f => .assign rfl) (.v (fun _ f => .assign rfl) (.nil ?_)))))))))
        refine .seq ((.region (.v (.move rfl) (.v (.move rfl) (.v (.indexAddr rfl rfl (by omega) (by omega)) (.v (.fieldAddr rfl) (.v (.load (v := .int .i64 e.kind) rfl (hk _)) (.v (.eqi rfl rfl) (.v (.move rfl) (.and (b2 := decide (F e.id ≠ m)) 102 105 3 3 rfl rfl (fun g5 => .v (.move rfl) (.v (.move rfl) (.v (.nei rfl rfl) (.nil ⟨rfl, rfl, rfl, rfl⟩)))) (.v (.move rfl) (.and (b2 := decide (F e.other ≠ m)) 107 110 3 3 rfl rfl (fun g6 => .v (.move rfl) (.v (.move rfl) (.v (.nei rfl rfl) (.nil ⟨rfl, rfl, rfl, rfl⟩)))) (.v (.move rfl) (.or (b2 := decide (e.kind = 4) && decide (F e.id ≠ m)) 112 123 11 8 rfl rfl (fun g7 => .v (.move rfl) (.v (.move rfl) (.v (.indexAddr rfl rfl (by omega) (by omega)) (.v (.fieldAddr rfl) (.v (.load (v := .int .i64 e.kind) rfl (hk _)) (.v (.eqi rfl rfl) (.v (.move rfl) (.and (b2 := decide (F e.id ≠ m)) 119 122 3 3 rfl rfl (fun g8 => .v (.move rfl) (.v (.move rfl) (.v (.nei rfl rfl) (.nil ⟨rfl, rfl, rfl, rfl⟩)))) (.nil ⟨rfl, rfl, rfl, rfl⟩))))))))) (.nil ?_)))))))))))))))
        have oo' : OwnS 34 13 (.slice (some ⟨bo, oo_, none⟩) l.length ko) (othUp m l i).length ((othUp m l i).flatMap Ev.cells) [(bo, .cells lo 34)] := by rw [holen]; exact oo
        refine .cond rfl (fun h5 => ?_) (fun h5 => .skip ?_)
        · have h5' : (e.kind = 3 ∧ F e.id ≠ m ∧ F e.other ≠ m) ∨ (e.kind = 4 ∧ F e.id ≠ m) := by
            simp only [Bool.or_eq_true, Bool.and_eq_true, decide_eq_true_eq] at h5
            rcases h5 with h5 | h5
            · exact .inl ⟨h5.1.1, h5.1.2, h5.2⟩
            · exact .inr h5
          have hoe : othE m F e = evNil := by unfold othE; rw [if_pos h5']
          rw [hoe] at hou
          have o2 := OwnS.setR Ev.cells (fun _ => rfl) oo' (i := i) (by omega) evNil
          rw [← hou] at o2
          rw [othUp_length] at o2
          refine .region (.v (.move rfl) (.v (.move rfl) (.v (.build (out := evNil.cells) rfl rfl) (.v (.indexAddr rfl rfl (by omega) (by omega)) (.st (.storeA (b := bo) (l := lo) (vs := evNil.cells) rfl rfl rfl rfl (by show _ + 13 ≤ _; omega)) (.nil ?_))))))
          rw [Int.toNat_natCast]
          exact ⟨_, ⟨es, c, [(bo, .cells (splice lo (oo_ + i * 13) evNil.cells) 34)], rfl, hmo, hwho, o2⟩, .cons rfl (.cons rfl (.cons rfl (.cons rfl (.cons rfl (.cons rfl (.cons rfl (.nil _))))))), fun _ s => s.take⟩
        · have h5' : ¬ ((e.kind = 3 ∧ F e.id ≠ m ∧ F e.other ≠ m) ∨ (e.kind = 4 ∧ F e.id ≠ m)) := fun hh => by
            have : ((decide (e.kind = 3) && decide (F e.id ≠ m)) && decide (F e.other ≠ m) || decide (e.kind = 4) && decide (F e.id ≠ m)) = true := by
              simp only [Bool.or_eq_true, Bool.and_eq_true, decide_eq_true_eq]
              rcases hh with hh | hh
              · exact .inl ⟨⟨hh.1, hh.2.1⟩, hh.2.2⟩
              · exact .inr hh
            rw [this] at h5; cases h5
          have hoe : othE m F e = e := by unfold othE; rw [if_neg h5']
          rw [hoe, hsame] at hou
          rw [← hou] at oo
          exact ⟨_, ⟨es, c, [(bo, .cells lo 34)], rfl, hmo, hwho, oo⟩, .cons rfl (.cons rfl (.cons rfl (.cons rfl (.cons rfl (.cons rfl (.cons rfl (.nil _))))))), fun _ s => s⟩
    · rintro _ ⟨es', c', ho', rfl, hmo', hwho', oo'⟩
      refine .region (.v (.move rfl) (.v (.addi rfl rfl (by omega)) (.v (.assign rfl) (.nil ?_))))
      exact ⟨(⟨i + 1, es', c', []⟩, ho'), ⟨hil, hmo', hwho', oo'⟩, by show l.length - (i + 1) < _; omega, .cons rfl (.cons rfl (.cons rfl (.cons rfl (.cons rfl (.cons rfl (.cons rfl (.nil _))))))), fun _ s => s⟩
  · have hil : i = l.length := by omega
    subst hil
    rw [othUp_full] at oo
    have hlo : (oth m (fun _ => 0) l).length = l.length := oth_length _ _ _
    have ha := alone hm wn l
    have hb1 := (Wt.Bd.add (w := wn) l (z := (Wt.new, [])) Wt.Bd.new).2.2
    have hb2 := (Wt.Bd.add (w := wn) (oth m (fun _ => 0) l) (z := (Wt.new, [])) Wt.Bd.new).2.2
    rw [hlo] at hb2
    refine .seq ((.region (.v (.move rfl) (.ef (.buildSlice (out := []) rfl (by decide) rfl rfl) ?_))))
    rintro _ _ ⟨b130, rfl, rfl⟩
    refine .v (.move rfl) ?_
    refine .ef (.append (c := 0) (k := l.length) (vs := []) (news := erows l) (h := [(b130, .cells [] 34)]) rfl rfl ⟨rfl, .inr ⟨b130, 0, 0, [], rfl, rfl, by omega, by simp, by simp⟩⟩ TakeI.out (fun w' s => (hA.keep0 s).src (erows_length l) (by omega)) (erows_length l) (erows_ones _) (by omega) (by omega)) ?_
    rintro vl _ ⟨hl, ol, rfl⟩
    rw [Nat.zero_add, List.nil_append] at ol
    obtain ⟨Al1, kl1, rfl⟩ := OwnS.slice ol
    refine .ef (.callT (WZ.H p wn 0 zp) rfl rfl fun w s => add_ok w p wn hc hIp Wt.Bd.new l Al1 kl1 (OwnS.rd ol s (fun y hy => by simp [hy]) (Sat.apart (a := hl) (b := WZ.H p wn 0 zp) s)) (by show (0 : Int) + _ ≤ _; omega)) ?_
    rintro v1 _ ⟨_, ⟨zp', k1, rfl, -, o1⟩, rfl⟩
    refine .v (.move rfl) (.v (.move rfl) ?_)
    have hadd := fun w r => add_ok w q wn hc hIq Wt.Bd.new (oth m (fun _ => 0) l) Ao ko r (by rw [hlo]; show (0 : Int) + _ ≤ _; omega)
    rw [hlo] at hadd
    refine .ef (.callT (WZ.H q wn 0 zq) rfl rfl fun w s => hadd w (OwnS.rd oo s (fun y hy => by simp [hy]) (Sat.apart (a := ho) (b := WZ.H q wn 0 zq) s))) ?_
    rintro v2 _ ⟨_, ⟨zq', k2, rfl, -, o2⟩, rfl⟩
    refine .v (.assign rfl) (.v (.assign rfl) (.nil ?_))
    generalize (Wt.add wn (Wt.new, []) l).2 = X at o1 ha hb1
    generalize (Wt.add wn (Wt.new, []) (oth m (fun _ => 0) l)).2 = Y at o2 ha hb2
    obtain ⟨X1, x1, rfl⟩ := OwnS.slice o1
    obtain ⟨Y1, y1, rfl⟩ := OwnS.slice o2
    simp only [List.length_nil, Nat.zero_add] at hb1 hb2
    refine .seq ((.region (.v (.move rfl) (.v (.move rfl) ?_))))
    refine .ef (.call0 rfl rfl fun w s => own_ok w X1 x1 X m (OwnS.rd o1 s (no := []) (fun y hy => by simp [hy]) (by simp)) (by omega)) ?_
    rintro vX _ ⟨hX, oX, rfl⟩
    refine .v (.move rfl) (.v (.move rfl) ?_)
    refine .ef (.call0 rfl rfl fun w s => own_ok w Y1 y1 Y m (OwnS.rd o2 s (no := []) (fun y hy => by simp [hy]) (by simp)) (by omega)) ?_
    rintro vY _ ⟨hY, oY, rfl⟩
    rw [← ha] at oY
    have hle := List.length_filter_le (fun a : Al => decide (a.m = m) && decide (a.r ≠ 4)) X
    obtain ⟨X2, x2, rfl⟩ := OwnS.slice oX
    obtain ⟨Y2, y2, rfl⟩ := OwnS.slice oY
    refine .pc (v := .bool true) rfl rfl (fun w s => alerts_ok w X2 Y2 (ownA m X).length x2 y2 (ownA m X) (OwnS.rd oX s (no := []) (fun y hy => by simp [hy]) (by simp)) (OwnS.rd oY s (no := []) (fun y hy => by simp [hy]) (by simp)) rfl (by unfold ownA; omega)) ?_
    refine .v (.assign rfl) (.nil ?_)
    exact .ret ⟨[_], ⟨rfl, trivial⟩, rfl⟩
end Go.Proofs.Ytcbppikkoelimaa

/- (*Book).rests: an order goes behind all others at its price. -/
namespace Go.Proofs.Ytcbppikkoelimaa
open Go.V
set_option linter.unusedVariables false
set_option linter.unusedSimpArgs false

/-- a side that is somebody's own -/
abbrev Side (v : Value) (l : List Ord) (h : Hp) : Prop := OwnS 97 7 v l.length (rows l) h
/-- where an order of a price comes to stand -/
def rpos (s pr : Int) : List Ord → Nat
  | [] => 0
  | x :: l => if bet s pr x.pr && l.all (fun x => bet s pr x.pr) then 0 else rpos s pr l + 1
theorem rpos_eq {s pr : Int} : ∀ (l : List Ord) (p : Nat), p ≤ l.length → (∀ m, (hm : m < l.length) → p ≤ m → bet s pr l[m].pr = true) → (∀ m, (hm : m < l.length) → m + 1 = p → bet s pr l[m].pr = false) → rpos s pr l = p
  | [], p, hp, _, _ => by simp at hp; simp [rpos, hp]
  | x :: l, p, hp, h1, h2 => by
    cases p with
    | zero =>
      have hx := h1 0 (by simp) (Nat.zero_le _)
      have hl : l.all (fun x => bet s pr x.pr) = true := by
        rw [List.all_eq_true]
        intro y hy
        obtain ⟨i, hi, rfl⟩ := List.mem_iff_getElem.1 hy
        exact h1 (i + 1) (by simpa using hi) (Nat.zero_le _)
      have hx : bet s pr x.pr = true := hx
      simp [rpos, hx, hl]
    | succ p =>
      have ih := rpos_eq l p (by simpa using hp) (fun m hm hpm => h1 (m + 1) (by simpa using hm) (by omega)) (fun m hm e => h2 (m + 1) (by simpa using hm) (by omega))
      have hf : (bet s pr x.pr && l.all (fun x => bet s pr x.pr)) = false := by
        cases p with
        | zero =>
          have : bet s pr x.pr = false := h2 0 (by simp) rfl
          simp [this]
        | succ p =>
          have hlt : p < l.length := by simp at hp; omega
          have : bet s pr l[p].pr = false := h2 (p + 1) (by simp; omega) rfl
          rw [Bool.and_eq_false_iff]
          refine .inr ?_
          rw [Bool.eq_false_iff]
          intro ha
          rw [List.all_eq_true] at ha
          have := ha l[p] (List.getElem_mem hlt)
          simp_all
      simp only [rpos]
      rw [hf, ih]; rfl
theorem rpos_le (s pr : Int) : ∀ (l : List Ord), rpos s pr l ≤ l.length
  | [] => Nat.le_refl _
  | x :: l => by
    have := rpos_le s pr l
    unfold rpos; split <;> simp <;> omega
/-- a side with an order put in -/
def rst (s : Int) (o : Ord) (l : List Ord) : List Ord := l.take (rpos s o.pr l) ++ [o] ++ l.drop (rpos s o.pr l)
theorem rst_length (s : Int) (o : Ord) (l : List Ord) : (rst s o l).length = l.length + 1 := by
  have := rpos_le s o.pr l
  simp [rst]; omega
theorem rows_take (l : List Ord) (k : Nat) : (rows l).take (k * 7) = rows (l.take k) := by
  induction l generalizing k with
  | nil => simp [rows]
  | cons x l ih =>
    cases k with
    | zero => simp [rows]
    | succ k =>
      rw [List.take_succ_cons, show rows (x :: l) = x.cells ++ rows l from rfl, show rows (x :: l.take k) = x.cells ++ rows (l.take k) from rfl, List.take_append, List.take_of_length_le (by simp [Ord.cells, rcells]; omega), show (k + 1) * 7 - x.cells.length = k * 7 from by simp [Ord.cells, rcells]; omega, ih]
theorem rows_drop (l : List Ord) (k : Nat) : (rows l).drop (k * 7) = rows (l.drop k) := by
  have h1 : rows l = rows (l.take k) ++ rows (l.drop k) := by rw [← rows_app, List.take_append_drop]
  have h2 := rows_take l k
  have h3 := List.take_append_drop (k * 7) (rows l)
  rw [h2] at h3
  exact List.append_cancel_left (h3.trans h1)
set_option maxRecDepth 10000 in
theorem rests_ok (w : World) (b i : Nat) (s : Int) (hsi : s = 1 ∧ i = 2 ∨ s = 2 ∧ i = 3) (L : List Value) (hlen : L.length = 6) (o : Ord) (l : List Ord) (v : Value) (k : Hp) (hL : L[i]? = some v) (ho : Side v l k) (hn : l.length + 1 ≤ 2513169434843) :
    Does Try.prog 58 [.pointer (some ⟨b, 0, none⟩), .int .i64 s, .agg ⟨o.cells⟩] (Tb b L :: k) w
      (fun _ hs => ∃ v' k', hs = Tb b (L.set i v') :: k' ∧ Side v' (rst s o l) k') := by
  obtain ⟨A, c, rfl⟩ := OwnS.sl ho
  have hside : (if s = 1 then some (⟨b, 2, none⟩ : Addr) else if s = 2 then some ⟨b, 3, none⟩ else none) = some ⟨b, i, none⟩ := by
    rcases hsi with ⟨rfl, rfl⟩ | ⟨rfl, rfl⟩ <;> rfl
  refine Does.less (Does.of (n := 42) Try.func58 rfl rfl rfl rfl ?_)
  refine .seq ((.region (.nw (.box (l := o.cells) rfl rfl) fun b5 => (.nil ?_))))
  refine .seq ((.region (.v (.move rfl) (.v (.move rfl) (.pc (v := .pointer (some ⟨b, i, none⟩)) rfl rfl (fun w' _ => hside ▸ side_ok w' b s) (.v (.assign rfl) (.nil ?_)))))))
  refine .seq ((.region (.v (.move rfl) (.v (.nilCheck rfl) (.v (.load (v := .slice A l.length c) rfl (.one hL)) (.v (.len rfl) (.v (.assign rfl) (.nil ?_))))))))
  refine .seq (.block (.loop (X := Nat) (fun p => [(1, .int .i64 s), (5, .pointer (some ⟨b5, 0, none⟩)), (6, .pointer (some ⟨b, i, none⟩)), (7, .int .i64 p)]) (fun _ => (b5, .cells o.cells 97) :: Tb b L :: k) (fun p => p ≤ l.length ∧ ∀ m, (hm : m < l.length) → p ≤ m → bet s o.pr l[m].pr = true) (fun p => p) l.length ⟨Nat.le_refl _, fun m hm h => by omega⟩
    (.cons rfl (.cons rfl (.cons rfl (.cons rfl (.nil _))))) (fun _ s => s) ?_))
  rintro p ⟨hp, hP⟩
  have ep : (∀ m, (hm : m < l.length) → m + 1 = p → bet s o.pr l[m].pr = false) → rpos s o.pr l = p := fun h => rpos_eq l p hp hP h
  cases p with
  | zero =>
    refine .seq (.seq ((.drawK _ (fun _ h => h) (by kernel_rfl) (by kernel_rfl) ?_)))
    refine .v (fun _ f => .move rfl) (.v (fun _ f => .gtr rfl rfl) (.v (fun _ f => .move rfl) (.and (b2 := false) 17 29 12 12 rfl rfl (fun g => absurd g (by simp)) (.nil ?_))))
    refine .cond rfl (fun h => absurd h (by simp)) (fun _ => .exit ?_)
    have er := ep (fun m hm e => by omega)
    refine (.drawQ 9 [0, 1, 2, 3, 4, 5, 6, 7, 8, 9] [(b5, .cells o.cells 97), Tb b L] (by intro p hp; simp at hp ⊢; rcases hp with rfl | rfl <;> simp) (by kernel_rfl) (by kernel_rfl) ?_)
    refine .v (fun _ f => .move rfl) (.v (fun _ f => .move rfl) (.v (fun _ f => .nilCheck rfl) (.v (fun _ f => .load (v := .slice A l.length c) rfl (.one (b := b) (l := L) (T := 89) (hb := .sub f) hL)) (.v (fun _ f => .move rfl) (.v (fun _ f => .loadA (vs := o.cells) rfl (.whole (hb := .sub f)) rfl) ?_)))))
    refine .ef (.buildSlice (out := o.cells) rfl (by decide) rfl rfl) (fun v hs' ⟨b, _, e⟩ f => by subst e; exact fun p hp => List.mem_cons_of_mem _ (f hp)) ?_
    rintro _ _ ⟨nb, rfl, rfl⟩
    refine .ef (.call (R := fun v hs => OwnS 97 7 v (l.length + 1) ((rows l).take (0 * 7) ++ o.cells ++ (rows l).drop (0 * 7)) hs) (pre := k ++ [(nb, Ch.cells o.cells 97)]) (fr := [(b5, .cells o.cells 97), Tb b L]) rfl rfl (by rw [List.append_assoc]; exact List.perm_append_comm (l₁ := [_, _, _])) (fun w' s' => insert_ok w' A l.length c 0 nb (rows l) o.cells k ho (by omega) hn (rows_ones l) rfl rfl)) (fun v hs' ⟨h, _, e⟩ _ => by subst e; exact fun p hp => List.mem_append_right _ hp) ?_
    rintro v' _ ⟨k', o', rfl⟩
    obtain ⟨A', c', rfl⟩ := OwnS.sl o'
    refine .v (fun _ f => .nilCheck rfl) (.st (.store rfl rfl rfl (by rw [hlen]; omega)) (.nil ?_))
    refine ⟨[], trivial, Tb b (L.set i (.slice A' (l.length + 1) c')) :: k', fun _ s' => ?_, _, k', rfl, ?_⟩
    · exact (s'.perm (List.perm_append_comm (l₁ := k'))).sub (.cons _ (.refl _))
    · unfold Side
      rw [rst_length, rst, er, rows_app, rows_app]
      rw [rows_take, rows_drop] at o'
      simpa [rows] using o'
  | succ q =>
    have hq : q < l.length := by omega
    have eq : (((q + 1 : Nat) : Int) - 1).toNat = q := by omega
    obtain ⟨bk, ok, lk, rfl, -, rfl, -, -, -⟩ := ho.some_ (by omega)
    have hbt : ∀ w', Is Try.prog 72 [.int .i64 s, .int .i64 o.pr, .int .i64 l[q].pr] w' (.bool (bet s o.pr l[q].pr)) := fun w' => better_ok w' s o.pr l[q].pr
    generalize hpr : l[q].pr = pq at hbt
    have hat : ∀ hs', ((b5, Ch.cells o.cells 97) :: Tb b L :: [(bk, Ch.cells lk 97)]) ⊆ hs' → At w (bl (Tb b L :: [(bk, Ch.cells lk 97)])) hs' ⟨bk, ok + q * 7 + 3, none⟩ [.int .i64 pq] := fun hs' f => by
      rw [← hpr]; rw [Nat.add_assoc]; exact ho.at1 (fun p hp => f (by simp at hp ⊢; simp [hp])) (by rw [rows_get l q 3 hq (by omega)]; rfl)
    refine .seq (.seq ((.drawK _ (fun _ h => h) (by kernel_rfl) (by kernel_rfl) ?_)))
    refine .v (fun _ f => .move rfl) (.v (fun _ f => .gtr rfl rfl) (.v (fun _ f => .move rfl) (.and 17 29 12 12 rfl rfl (fun g1 => .v (fun _ f => .move rfl) (.v (fun _ f => .fieldAddr rfl) (.v (fun _ f => .load (v := .int .i64 o.pr) rfl (.one (hb := .sub f) rfl)) (.v (fun _ f => .move rfl) (.v (fun _ f => .nilCheck rfl) (.v (fun _ f => .load (v := .slice (some ⟨bk, ok, none⟩) l.length c) rfl (.one (hb := .sub f) hL)) (.v (fun _ f => .move rfl) (.v (fun _ f => .subE (q : Int) rfl rfl (by omega) (by omega)) (.v (fun _ f => .indexAddr rfl rfl (by omega) (by omega)) (.v (fun _ f => .fieldAddr rfl) (.v (fun _ f => .load (v := .int .i64 pq) rfl (hat _ f)) (.pc (v := .bool (bet s o.pr pq)) rfl rfl (fun w _ => hbt w) (.nil ⟨rfl, rfl, rfl, rfl⟩))))))))))))) (.nil ?_))))
    refine .cond rfl (fun h1 => .skip ?_) (fun h1 => .exit ?_)
    · have h1' : bet s o.pr l[q].pr = true := by rw [hpr]; simpa using h1
      refine .block ((.region (.v (.move rfl) (.v (.subi rfl rfl (by omega)) (.v (.assign rfl) (.nil ?_))))))
      refine ⟨q, ⟨by omega, fun m hm hqm => ?_⟩, by omega, .cons rfl (.cons rfl (.cons rfl (.cons (by rw [show ((q + 1 : Nat) : Int) - 1 = q from by omega]; rfl) (.nil _)))), fun _ s => s⟩
      by_cases e : m = q
      · subst e; exact h1'
      · exact hP m hm (by omega)
    · have h1' : bet s o.pr l[q].pr = false := by rw [hpr]; simpa using h1
      have er := ep (fun m hm e => by obtain rfl : m = q := (by omega); exact h1')
      refine (.drawQ 9 [0, 1, 2, 3, 4, 5, 6, 7, 8, 9] [(b5, .cells o.cells 97), Tb b L] (by intro p hp; simp at hp ⊢; rcases hp with rfl | rfl <;> simp) (by kernel_rfl) (by kernel_rfl) ?_)
      refine .v (fun _ f => .move rfl) (.v (fun _ f => .move rfl) (.v (fun _ f => .nilCheck rfl) (.v (fun _ f => .load (v := .slice (some ⟨bk, ok, none⟩) l.length c) rfl (.one (b := b) (l := L) (T := 89) (hb := .sub f) hL)) (.v (fun _ f => .move rfl) (.v (fun _ f => .loadA (vs := o.cells) rfl (.whole (hb := .sub f)) rfl) ?_)))))
      refine .ef (.buildSlice (out := o.cells) rfl (by decide) rfl rfl) (fun v hs' ⟨b, _, e⟩ f => by subst e; exact fun p hp => List.mem_cons_of_mem _ (f hp)) ?_
      rintro _ _ ⟨nb, rfl, rfl⟩
      refine .ef (.call (R := fun v hs => OwnS 97 7 v (l.length + 1) ((rows l).take ((q + 1) * 7) ++ o.cells ++ (rows l).drop ((q + 1) * 7)) hs) (pre := [(bk, Ch.cells lk 97)] ++ [(nb, Ch.cells o.cells 97)]) (fr := [(b5, .cells o.cells 97), Tb b L]) rfl rfl (by rw [List.append_assoc]; exact List.perm_append_comm (l₁ := [_, _, _])) (fun w' s' => insert_ok w' (some ⟨bk, ok, none⟩) l.length c (q + 1) nb (rows l) o.cells [(bk, Ch.cells lk 97)] ho (by omega) hn (rows_ones l) rfl rfl)) (fun v hs' ⟨h, _, e⟩ _ => by subst e; exact fun p hp => List.mem_append_right _ hp) ?_
      rintro v' _ ⟨k', o', rfl⟩
      obtain ⟨A', c', rfl⟩ := OwnS.sl o'
      refine .v (fun _ f => .nilCheck rfl) (.st (.store rfl rfl rfl (by rw [hlen]; omega)) (.nil ?_))
      refine ⟨[], trivial, Tb b (L.set i (.slice A' (l.length + 1) c')) :: k', fun _ s' => ?_, _, k', rfl, ?_⟩
      · exact (s'.perm (List.perm_append_comm (l₁ := k'))).sub (.cons _ (.refl _))
      · unfold Side
        rw [rst_length, rst, er, rows_app, rows_app]
        rw [rows_take, rows_drop] at o'
        simpa [rows] using o'
end Go.Proofs.Ytcbppikkoelimaa

/- Trading: its states; (*teller).meets. -/
namespace Go.Proofs.Ytcbppikkoelimaa
open Go.V
set_option linter.unusedVariables false
set_option linter.unusedSimpArgs false

/-- where trading stands: the other side, what is left, the last number, what was told -/
structure TS where
  L : List Ord
  left : Int
  seq : Int
  evs : List Ev
def ev0 : Ev := ⟨0, 0, 0, 0, 0, 0, 0, 0, 0, 0, 0, 0, 0⟩
def evCancel (id q reason : Int) : Ev := ⟨0, 4, id, 0, 0, 0, 0, 0, 0, q, 0, reason, 0⟩
def evTrade (id other sd pr q : Int) : Ev := ⟨0, 3, id, other, 0, 0, sd, 0, pr, q, 0, 0, 0⟩
def evRefresh (id pr q : Int) : Ev := ⟨0, 5, id, 0, 0, 0, 0, 0, pr, q, 0, 0, 0⟩
def TS.tell (s : TS) (e : Ev) : TS := ⟨s.L, s.left, nx s.seq, s.evs ++ [e.num (nx s.seq)]⟩
def TS.meets (meet : Int) (t : Tk) (f : Ord) (rest : List Ord) (s : TS) : TS :=
  let s1 := if meet = 1 then s else (⟨rest, s.left, s.seq, s.evs⟩ : TS).tell (evCancel f.id (f.v + f.hd) 5)
  if meet = 2 then s1 else ⟨s1.L, 0, (s1.tell (evCancel t.o.id s1.left 5)).seq, (s1.tell (evCancel t.o.id s1.left 5)).evs⟩

/-- a book's cells: one side is 'mine' -/
abbrev BL (i : Nat) (x0 x1 m o x4 q : Value) : List Value := [x0, x1, if i = 2 then m else o, if i = 2 then o else m, x4, q]
theorem BL_get {i : Nat} (hi : i = 2 ∨ i = 3) (x0 x1 m o x4 q : Value) : (BL i x0 x1 m o x4 q)[i]? = some m := by
  rcases hi with rfl | rfl <;> rfl
theorem BL_set {i : Nat} (hi : i = 2 ∨ i = 3) (x0 x1 m o x4 q m' : Value) : (BL i x0 x1 m o x4 q).set i m' = BL i x0 x1 m' o x4 q := by
  rcases hi with rfl | rfl <;> rfl
abbrev To (po : Nat) (t : Tk) (left : Int) : Nat × Ch := (po, .cells [.int .u64 t.o.id, .int .u32 t.o.mb, .int .i64 t.o.ty, .int .i64 t.o.pr, .int .u64 t.o.v, .int .u64 t.o.hd, .int .u64 t.o.pk, .int .i64 t.side, .int .i64 t.kind, .int .u64 left] 104)
abbrev TH (t b po i : Nat) (x0 x1 vo x4 : Value) (tk : Tk) (left seq : Int) (vs ve : Value) (ks ke : Hp) : Hp :=
  Tt t b ve :: Tb b (BL i x0 x1 vs vo x4 (.int .u64 seq)) :: To po tk left :: (ks ++ ke)
def THs (t b po i : Nat) (x0 x1 vo x4 : Value) (tk : Tk) (s : TS) (hs : Hp) : Prop :=
  ∃ vs ve ks ke, hs = TH t b po i x0 x1 vo x4 tk s.left s.seq vs ve ks ke ∧ Side vs s.L ks ∧ Evs ve s.evs ke

theorem delete0_ok (w : World) (A : Option Addr) (n c : Nat) (x : Ord) (l : List Ord) (h : Hp) (k : Side (.slice A n c) (x :: l) h) (hn : n = l.length + 1) (hb : n ≤ 2513169434843) :
    Does Try.prog 32 [.slice A n c, .int .i64 0, .int .i64 1] h w (fun v hs => Side v l hs) := by
  subst hn
  refine (delete_ok w A (l.length + 1) c 0 (rows (x :: l)) h k (by omega) hb (rows_ones _)).mono fun v hs h => ?_
  have e : (rows (x :: l)).take (0 * 7) ++ (rows (x :: l)).drop ((0 + 1) * 7) = rows l := by
    rw [rows_drop]; simp
  rw [e] at h
  exact h
theorem wrapU {x : Int} (h : U x) : IntKind.u64.wrap x = x := by
  unfold U at h
  simp [IntKind.wrap, IntKind.bits, IntKind.signed]; omega
set_option maxRecDepth 10000 in
theorem meets_ok (w : World) (t b po i : Nat) (hi : i = 2 ∨ i = 3) (x0 x1 vo x4 : Value) (tk : Tk) (meet : Int) (f : Ord) (rest : List Ord) (left seq : Int) (evs : List Ev) (vs ve : Value) (ks ke : Hp)
    (hS : Side vs (f :: rest) ks) (hE : Evs ve evs ke) (hn : rest.length + 1 ≤ 2513169434843) (he : evs.length + 2 ≤ 1000000000000) (hq : U (f.v + f.hd)) :
    Does Try.prog 74 [.pointer (some ⟨t, 0, none⟩), .pointer (some ⟨po, 0, none⟩), .int .i64 meet, .agg ⟨f.cells⟩, .pointer (some ⟨b, i, none⟩)] (TH t b po i x0 x1 vo x4 tk left seq vs ve ks ke) w
      (fun _ hs => THs t b po i x0 x1 vo x4 tk ((⟨f :: rest, left, seq, evs⟩ : TS).meets meet tk f rest) hs) := by
  refine Does.less (Does.of (n := 45) Try.func74 rfl rfl rfl rfl ?_)
  refine .seq ((.region (.nw (.box (l := f.cells) rfl rfl) fun b8 => (.nil ?_))))
  refine .mid (X := TS × Value × Value × Hp × Hp) (fun x => [(0, .pointer (some ⟨t, 0, none⟩)), (1, .pointer (some ⟨po, 0, none⟩)), (2, .int .i64 meet)]) (fun x => TH t b po i x0 x1 vo x4 tk x.1.left x.1.seq x.2.1 x.2.2.1 x.2.2.2.1 x.2.2.2.2)
    (fun x => Side x.2.1 x.1.L x.2.2.2.1 ∧ Evs x.2.2.1 x.1.evs x.2.2.2.2 ∧ x.1.evs.length + 1 ≤ 1000000000000 ∧ x.1 = (if meet = 1 then (⟨f :: rest, left, seq, evs⟩ : TS) else (⟨rest, left, seq, evs⟩ : TS).tell (evCancel f.id (f.v + f.hd) 5)))
    (.seq ((.region (.v (.move rfl) (.v (.nei rfl rfl) (.nil ?_)))))) ?_
  · refine .cond_dec rfl (fun h1 => ?_) (fun h1 => .skip ?_)
    · obtain ⟨A, c, rfl⟩ := OwnS.sl hS
      refine .seq ((.region (.v (.move rfl) (.v (.move rfl) (.v (.nilCheck rfl) (.v (.load (v := .slice A (f :: rest).length c) rfl (.one (BL_get hi _ _ _ _ _ _))) ?_))))))
      refine .ef (.callT ks rfl rfl (fun w' s' => delete0_ok w' A _ c f rest ks hS rfl (by simp; omega))) ?_
      rintro v' _ ⟨ks', hS', rfl⟩
      obtain ⟨A', c', rfl⟩ := OwnS.sl hS'
      refine .v (.nilCheck rfl) (.st (.store rfl rfl rfl (by rcases hi with rfl | rfl <;> simp)) (.nil ?_))
      rw [BL_set hi]
      refine .region (.v (.move rfl) (.v (.fieldAddr rfl) (.v (.load (v := .int .u64 f.id) rfl (.one rfl)) (.v (.fieldAddr rfl) (.v (.load (v := .int .u64 f.v) rfl (.one rfl)) (.v (.fieldAddr rfl) (.v (.load (v := .int .u64 f.hd) rfl (.one rfl)) (.v (.add rfl rfl) ?_))))))))
      rw [wrapU hq]
      refine .v (.build (out := (evCancel f.id (f.v + f.hd) 5).cells) rfl rfl) ?_
      refine .ef (.callT (Tt t b ve :: Tb b (BL i x0 x1 (.slice A' rest.length c') vo x4 (.int .u64 seq)) :: ke) rfl rfl (fun w' s' => tell_ok w' t b x0 x1 _ _ x4 seq (evCancel f.id (f.v + f.hd) 5) evs ve ke hE (by omega))) ?_
      rintro _ _ ⟨_, ⟨ve', ke', rfl, hE'⟩, rfl⟩
      refine .nil ⟨⟨(⟨rest, left, seq, evs⟩ : TS).tell (evCancel f.id (f.v + f.hd) 5), _, ve', ks', ke'⟩, ⟨hS', hE', by simp [TS.tell]; omega, by rw [if_neg h1]⟩, .cons rfl (.cons rfl (.cons rfl (.nil _))), fun _ s => Sat.take (pre := TH t b po i x0 x1 vo x4 tk left (nx seq) (.slice A' rest.length c') ve' ks' ke') s⟩
    · have h1' : meet = 1 := by omega
      exact ⟨⟨⟨f :: rest, left, seq, evs⟩, vs, ve, ks, ke⟩, ⟨hS, hE, by simp; omega, by rw [if_pos h1']⟩, .cons rfl (.cons rfl (.cons rfl (.nil _))), fun _ s => Sat.take (pre := TH t b po i x0 x1 vo x4 tk left seq vs ve ks ke) s⟩
  · rintro ⟨s1, vs1, ve1, ks1, ke1⟩ ⟨hS1, hE1, he1, hs1⟩
    dsimp only at hS1 hE1 he1 hs1 ⊢
    have fin : (⟨f :: rest, left, seq, evs⟩ : TS).meets meet tk f rest = if meet = 2 then s1 else ⟨s1.L, 0, (s1.tell (evCancel tk.o.id s1.left 5)).seq, (s1.tell (evCancel tk.o.id s1.left 5)).evs⟩ := by rw [hs1]; rfl
    rw [fin]
    refine .seq ((.region (.v (.move rfl) (.v (.nei rfl rfl) (.nil ?_)))))
    refine .cond_dec rfl (fun h2 => ?_) (fun h2 => .skip ?_)
    · rw [if_neg h2]
      refine .seq ((.drawK [To po tk s1.left] (by intro p hp; simp at hp; subst hp; simp) (by kernel_rfl) (by kernel_rfl) ?_))
      refine .v (fun _ f => .move rfl) (.v (fun _ f => .move rfl) (.v (fun _ f => .nilCheck rfl) (.v (fun _ f => .fieldAddr rfl) (.v (fun _ f => .fieldAddr rfl) (.v (fun _ f => .load (v := .int .u64 tk.o.id) rfl (.one (hb := .sub f) rfl)) (.v (fun _ f => .move rfl) (.v (fun _ f => .nilCheck rfl) (.v (fun _ f => .fieldAddr rfl) (.v (fun _ f => .load (v := .int .u64 s1.left) rfl (.one (hb := .sub f) rfl)) (.v (fun _ f => .build (out := (evCancel tk.o.id s1.left 5).cells) rfl rfl) ?_))))))))))
      refine .ef (.callT (Tt t b ve1 :: Tb b (BL i x0 x1 vs1 vo x4 (.int .u64 s1.seq)) :: ke1) rfl rfl (fun w' s' => tell_ok w' t b x0 x1 _ _ x4 s1.seq (evCancel tk.o.id s1.left 5) s1.evs ve1 ke1 hE1 he1)) (fun _ _ ⟨_, _, e⟩ _ => by subst e; intro p hp; simp at hp; subst hp; simp) ?_
      rintro _ _ ⟨_, ⟨ve', ke', rfl, hE'⟩, rfl⟩
      refine .nil ?_
      refine .region (.v (.move rfl) (.v (.nilCheck rfl) (.v (.fieldAddr rfl) (.st (.storeL rfl rfl rfl) (.nil ?_)))))
      exact ⟨[], trivial, _, fun _ s => Sat.take (pre := TH t b po i x0 x1 vo x4 tk 0 (nx s1.seq) vs1 ve' ks1 ke') s, vs1, ve', ks1, ke', rfl, hS1, hE'⟩
    · rw [if_pos (by omega)]
      exact ⟨[], trivial, _, fun _ s => s, vs1, ve1, ks1, ke1, rfl, hS1, hE1⟩
end Go.Proofs.Ytcbppikkoelimaa

/- Trading, as a plain machine: its steps, that it ends. -/
namespace Go.Proofs.Ytcbppikkoelimaa
open Go.V
set_option linter.unusedVariables false
set_option linter.unusedSimpArgs false

/-- an order that shows something, and hides no more than it may -/
def Ord.G (o : Ord) : Prop := 1 ≤ o.v ∧ 0 ≤ o.hd ∧ o.v + o.hd ≤ 4294967295 ∧ 0 ≤ o.pk ∧ o.pk ≤ 4294967295 ∧ (o.pk = 0 ∧ o.hd = 0 ∨ 0 < o.pk ∧ o.v ≤ o.pk ∧ o.v + o.hd ≤ 256 * o.pk)
/-- the next show of an order -/
def Ord.next (f : Ord) : Ord := ⟨f.id, f.mb, f.ty, f.pr, min f.pk f.hd, f.hd - min f.pk f.hd, f.pk⟩
def Ord.less (f : Ord) (q : Int) : Ord := ⟨f.id, f.mb, f.ty, f.pr, f.v - q, f.hd, f.pk⟩
def TS.hit (t : Tk) (f : Ord) (rest : List Ord) (s : TS) : TS :=
  let q := min s.left f.v
  let s1 := s.tell (evTrade t.o.id f.id t.side f.pr q)
  if 0 < f.v - q then ⟨f.less q :: rest, s.left - q, s1.seq, s1.evs⟩
  else if 0 < f.hd then (⟨rst (3 - t.side) f.next rest, s.left - q, s1.seq, s1.evs⟩ : TS).tell (evRefresh f.id f.pr f.next.v)
  else ⟨rest, s.left - q, s1.seq, s1.evs⟩
def TS.step (meet : Int) (t : Tk) (s : TS) : Option TS :=
  match s.L with
  | [] => none
  | f :: rest => if 0 < s.left ∧ reach t.side t.kind t.o.pr f.pr = true then some (if f.mb = t.o.mb ∧ t.o.mb ≠ 0 ∧ meet ≠ 0 then s.meets meet t f rest else s.hit t f rest) else none
inductive TRun (meet : Int) (t : Tk) : TS → TS → Prop
  | stop {s : TS} : s.step meet t = none → TRun meet t s s
  | step {s s' z : TS} : s.step meet t = some s' → TRun meet t s' z → TRun meet t s z
theorem TRun.det {meet : Int} {t : Tk} {s z z' : TS} (h : TRun meet t s z) (h' : TRun meet t s z') : z = z' := by
  induction h with
  | stop hs =>
    cases h' with
    | stop _ => rfl
    | step h1 _ => rw [hs] at h1; cases h1
  | step hs _ ih =>
    cases h' with
    | stop h1 => rw [hs] at h1; cases h1
    | step h1 h2 => rw [hs] at h1; cases h1; exact ih h2

def Ord.shows (o : Ord) : Nat := 1 + ((o.hd + o.pk - 1) / o.pk).toNat
def TS.mu (s : TS) : Nat := (s.L.map Ord.shows).sum + (if 0 < s.left then 1 else 0)
theorem next_G {f : Ord} (h : f.G) (hp : 0 < f.hd) : f.next.G ∧ f.next.shows + 1 ≤ f.shows := by
  obtain ⟨id, mb, ty, pr, v, hd, pk⟩ := f
  unfold Ord.G Ord.next Ord.shows at *
  simp only at *
  have hpk : 0 < pk := by omega
  refine ⟨by omega, ?_⟩
  by_cases hle : hd ≤ pk
  · have e1 : min pk hd = hd := by omega
    have e2 : (hd - hd + pk - 1) / pk = 0 := Int.ediv_eq_zero_of_lt (by omega) (by omega)
    have e3 : 1 ≤ (hd + pk - 1) / pk := by
      have := Int.add_mul_ediv_right (hd - 1) 1 (show pk ≠ 0 by omega)
      rw [show hd - 1 + 1 * pk = hd + pk - 1 from by omega] at this
      have h2 : 0 ≤ (hd - 1) / pk := Int.ediv_nonneg (by omega) (by omega)
      omega
    rw [e1, e2]; omega
  · have e1 : min pk hd = pk := by omega
    have e3 := Int.add_mul_ediv_right (hd - 1) 1 (show pk ≠ 0 by omega)
    rw [show hd - 1 + 1 * pk = hd + pk - 1 from by omega] at e3
    have h2 : 0 ≤ (hd - 1) / pk := Int.ediv_nonneg (by omega) (by omega)
    rw [e1, e3, show hd - pk + pk - 1 = hd - 1 from by omega]
    omega
theorem shows_le {f : Ord} (h : f.G) : f.shows ≤ 257 := by
  obtain ⟨id, mb, ty, pr, v, hd, pk⟩ := f
  unfold Ord.G Ord.shows at *
  simp only at *
  rcases h.2.2.2.2.2 with ⟨h1, h2⟩ | ⟨h1, h2, h3⟩
  · subst h1; subst h2; decide
  · have : (hd + pk - 1) / pk ≤ 256 := by
      have := Int.ediv_le_ediv h1 (show hd + pk - 1 ≤ 257 * pk - 1 by omega)
      have h4 : (257 * pk - 1) / pk < 257 := Int.ediv_lt_of_lt_mul h1 (by omega)
      omega
    omega
theorem rst_sum (s : Int) (o : Ord) (l : List Ord) : ((rst s o l).map Ord.shows).sum = o.shows + (l.map Ord.shows).sum := by
  have h : (l.map Ord.shows).sum = ((l.take (rpos s o.pr l)).map Ord.shows).sum + ((l.drop (rpos s o.pr l)).map Ord.shows).sum := by rw [← List.sum_append, ← List.map_append, List.take_append_drop]
  simp only [rst, List.map_append, List.sum_append, List.map_cons, List.map_nil, List.sum_cons, List.sum_nil]
  omega
theorem rst_mem {s : Int} {o x : Ord} {l : List Ord} (h : x ∈ rst s o l) : x = o ∨ x ∈ l := by
  simp only [rst, List.mem_append, List.mem_singleton] at h
  rcases h with (h | h) | h
  · exact .inr (List.mem_of_mem_take h)
  · exact .inl h
  · exact .inr (List.mem_of_mem_drop h)
/-- what holds between two steps -/
structure TS.Ok (s : TS) : Prop where
  good : ∀ f ∈ s.L, f.G
  lo : 0 ≤ s.left
  hi : s.left ≤ 18446744073709551615
theorem TS.Ok.step {meet : Int} {t : Tk} {s s' : TS} (h : s.Ok) (hs : s.step meet t = some s') : s'.Ok ∧ s'.mu < s.mu ∧ s'.L.length ≤ s.L.length ∧ s'.evs.length ≤ s.evs.length + 2 ∧ s'.left ≤ s.left := by
  obtain ⟨L, left, seq, evs⟩ := s
  unfold TS.step at hs
  obtain ⟨hg, hlo, hhi⟩ := h
  simp only at hs hg hlo hhi
  cases L with
  | nil => cases hs
  | cons f rest =>
    simp only at hs
    split at hs
    · rename_i hc
      have hfG := hg f (by simp)
      have hrG : ∀ x ∈ rest, x.G := fun x hx => hg x (by simp [hx])
      have hsh : 1 ≤ f.shows := by unfold Ord.shows; omega
      have hind : (if 0 < left then 1 else 0) = 1 := if_pos hc.1
      simp only [Option.some.injEq] at hs
      subst hs
      split
      · simp only [TS.meets]
        by_cases m1 : meet = 1
        · rw [if_pos m1, if_neg (show ¬ meet = 2 by omega)]
          simp [TS.mu, TS.tell, hind]
          exact ⟨⟨hg, by simp, by simp⟩, hlo⟩
        · rw [if_neg m1]
          by_cases m2 : meet = 2
          · rw [if_pos m2]
            simp [TS.mu, TS.tell, hind]
            exact ⟨⟨hrG, hlo, hhi⟩, by have := hc.1; simp [this]; omega⟩
          · rw [if_neg m2]
            simp [TS.mu, TS.tell, hind]
            exact ⟨⟨hrG, by simp, by simp⟩, by omega, hlo⟩
      · have hv : 1 ≤ f.v := hfG.1
        simp only [TS.hit]
        by_cases c1 : 0 < f.v - min left f.v
        · rw [if_pos c1]
          have e : min left f.v = left := by omega
          have hlG : (f.less left).G := by unfold Ord.G Ord.less at *; simp only at *; omega
          have hls : (f.less left).shows = f.shows := rfl
          simp [TS.mu, TS.tell, hind, e, hls]
          refine ⟨⟨fun x hx => ?_, by simp, by simp⟩, hlo⟩
          rcases List.mem_cons.1 hx with rfl | hx
          · exact hlG
          · exact hrG x hx
        · rw [if_neg c1]
          have e : min left f.v = f.v := by omega
          have hle : (if 0 < left - f.v then 1 else 0) ≤ 1 := by split <;> omega
          by_cases c2 : 0 < f.hd
          · rw [if_pos c2]
            obtain ⟨nG, nS⟩ := next_G hfG c2
            simp [TS.mu, TS.tell, hind, e, rst_sum, rst_length]
            refine ⟨⟨fun x hx => ?_, by simp only; omega, by simp only; omega⟩, by (try split) <;> omega, by omega⟩
            rcases rst_mem hx with rfl | hx
            · exact nG
            · exact hrG x hx
          · rw [if_neg c2]
            simp [TS.mu, TS.tell, hind, e]
            exact ⟨⟨hrG, by simp only; omega, by simp only; omega⟩, by (try split) <;> omega, by omega⟩
    · cases hs
end Go.Proofs.Ytcbppikkoelimaa

/- (*teller).trades: its walk. -/
namespace Go.Proofs.Ytcbppikkoelimaa
open Go.V
set_option linter.unusedVariables false
set_option linter.unusedSimpArgs false

theorem Side.set0 {b o n c : Nat} {f f' : Ord} {rest : List Ord} {l : List Value} (h : Side (.slice (some ⟨b, o, none⟩) n c) (f :: rest) [(b, .cells l 97)]) : Side (.slice (some ⟨b, o, none⟩) n c) (f' :: rest) [(b, .cells (splice l o f'.cells) 97)] := by
  obtain ⟨b', o', l', e1, e2, e3, e4, e5, e6⟩ := h.some_ (by simp)
  cases e1
  simp only [List.cons.injEq, Prod.mk.injEq, Ch.cells.injEq] at e3
  obtain ⟨⟨_, e3, _⟩, _⟩ := e3
  subst e3
  subst e2
  have hlen : (f :: rest).length = rest.length + 1 := rfl
  have hl7 : o + 7 ≤ l.length := by
    have : 1 * 7 ≤ c * 7 := Nat.mul_le_mul_right _ (by omega)
    omega
  refine ⟨rows_length _, .inr ⟨b, o, c, _, rfl, rfl, e4, ?_, ?_⟩⟩
  · rw [splice_length _ _ _ (by simp [Ord.cells, rcells]; omega)]; exact e5
  · have h7 : f'.cells.length = 7 := rfl
    have e : (splice l o f'.cells).drop o = f'.cells ++ l.drop (o + 7) := by
      unfold V.splice
      rw [List.append_assoc, List.drop_append_of_le_length (by rw [List.length_take]; omega), List.drop_take, Nat.sub_self, List.take_zero, List.nil_append, h7]
    rw [e]
    have e2 : (f' :: rest).length * 7 = 7 + rest.length * 7 := by simp; omega
    rw [e2, List.take_append, h7, List.take_of_length_le (by omega), show 7 + rest.length * 7 - 7 = rest.length * 7 from by omega]
    have e3 : (l.drop (o + 7)).take (rest.length * 7) = rows rest := by
      have : ((l.drop o).take ((f :: rest).length * 7)).drop 7 = rows rest := by
        rw [e6]; rfl
      rw [← this, List.drop_take, List.drop_drop, show (f :: rest).length * 7 - 7 = rest.length * 7 from by simp; omega]
    rw [e3]; rfl
theorem min_int (a b : Int) : (if a ≤ b then a else b) = min a b := by omega

set_option maxRecDepth 10000 in
set_option maxHeartbeats 1000000 in
theorem trades_ok (w : World) (t b po i : Nat) (tk : Tk) (hsi : tk.side = 1 ∧ i = 3 ∨ tk.side = 2 ∧ i = 2) (x0 vo x4 : Value) (meet : Int) (s0 : TS) (vs0 ve0 : Value) (ks0 ke0 : Hp) (hS0 : Side vs0 s0.L ks0) (hE0 : Evs ve0 s0.evs ke0) (hOk0 : s0.Ok)
    (hn0 : s0.L.length ≤ 1000000) (he0 : s0.evs.length + 2 * s0.mu ≤ 100000000000) :
    Does Try.prog 57 [.pointer (some ⟨t, 0, none⟩), .pointer (some ⟨po, 0, none⟩)] (TH t b po i x0 (.int .i64 meet) vo x4 tk s0.left s0.seq vs0 ve0 ks0 ke0) w
      (fun _ hs => ∃ z, TRun meet tk s0 z ∧ THs t b po i x0 (.int .i64 meet) vo x4 tk z hs) := by
  have hi : i = 2 ∨ i = 3 := by omega
  have hside : (if 3 - tk.side = 1 then some (⟨b, 2, none⟩ : Addr) else if 3 - tk.side = 2 then some ⟨b, 3, none⟩ else none) = some ⟨b, i, none⟩ := by
    rcases hsi with ⟨h, rfl⟩ | ⟨h, rfl⟩ <;> rw [h] <;> rfl
  have hsb : 1 ≤ tk.side ∧ tk.side ≤ 2 := by omega
  refine Does.less (Does.of (n := 166) Try.func57 rfl rfl rfl rfl ?_)
  refine .seq ((.region (.v (.move rfl) (.v (.nilCheck rfl) (.v (.fieldAddr rfl) (.v (.load (v := .pointer (some ⟨b, 0, none⟩)) rfl (.one rfl)) (.v (.nilCheck rfl) (.v (.fieldAddr rfl) (.v (.fieldAddr rfl) (.v (.fieldAddr rfl) (.v (.load (v := .int .i64 meet) rfl (.one rfl)) (.v (.assign rfl) (.nil ?_)))))))))))))
  refine .seq ((.region (.v (.move rfl) (.v (.nilCheck rfl) (.v (.fieldAddr rfl) (.v (.load (v := .int .i64 tk.side) rfl (.one rfl)) (.v (.subi rfl rfl (by omega)) (.v (.assign rfl) (.nil ?_)))))))))
  refine .seq ((.region (.v (.move rfl) (.v (.nilCheck rfl) (.v (.fieldAddr rfl) (.v (.load (v := .pointer (some ⟨b, 0, none⟩)) rfl (.one rfl)) (.v (.move rfl) (.pc (v := .pointer (some ⟨b, i, none⟩)) rfl rfl (fun w' _ => hside ▸ side_ok w' b (3 - tk.side)) (.v (.assign rfl) (.nil ?_))))))))))
  refine .block (.loop (X := TS × Value × Value × Hp × Hp) (fun x => [(0, .pointer (some ⟨t, 0, none⟩)), (1, .pointer (some ⟨po, 0, none⟩)), (4, .int .i64 meet), (5, .int .i64 (3 - tk.side)), (6, .pointer (some ⟨b, i, none⟩))])
    (fun x => TH t b po i x0 (.int .i64 meet) vo x4 tk x.1.left x.1.seq x.2.1 x.2.2.1 x.2.2.2.1 x.2.2.2.2)
    (fun x => Side x.2.1 x.1.L x.2.2.2.1 ∧ Evs x.2.2.1 x.1.evs x.2.2.2.2 ∧ x.1.Ok ∧ x.1.L.length ≤ 1000000 ∧ x.1.evs.length + 2 * x.1.mu ≤ 100000000000 ∧ ∀ z, TRun meet tk x.1 z → TRun meet tk s0 z) (fun x => x.1.mu)
    ⟨s0, vs0, ve0, ks0, ke0⟩ ⟨hS0, hE0, hOk0, hn0, he0, fun _ h => h⟩ (.cons rfl (.cons rfl (.cons rfl (.cons rfl (.cons rfl (.nil _)))))) (fun _ s => s) ?_)
  rintro ⟨⟨L, left, seq, evs⟩, vs, ve, ks, ke⟩ ⟨hS, hE, hOk, hn, he, hrun⟩
  dsimp only at hS hE hOk hn he hrun ⊢
  obtain ⟨A, c, rfl⟩ := OwnS.sl hS
  cases L with
  | nil =>
    refine .seq (.seq ((.drawK _ (fun _ h => h) (by kernel_rfl) (by kernel_rfl) ?_)))
    refine .v (fun _ f => .move rfl) (.v (fun _ f => .nilCheck rfl) (.v (fun _ f => .fieldAddr rfl) (.v (fun _ f => .load (v := .int .u64 left) rfl (.one (hb := .sub f) rfl)) (.v (fun _ f => .gtr rfl rfl) (.v (fun _ f => .move rfl) ?_)))))
    refine .and 34 39 5 5 rfl rfl (fun g1 => .v (fun _ f => .move rfl) (.v (fun _ f => .nilCheck rfl) (.v (fun _ f => .load (v := .slice A 0 c) rfl (.one (hb := .sub f) (BL_get hi _ _ _ _ _ _))) (.v (fun _ f => .len rfl) (.v (fun _ f => .gtr rfl rfl) (.nil ⟨rfl, rfl, rfl, rfl⟩)))))) ?_
    refine .v (fun _ f => .move rfl) (.and (b2 := false) 41 51 10 10 rfl rfl (fun g2 => absurd g2 (by simp)) (.nil ?_))
    refine .cond rfl (fun h => absurd h (by simp)) (fun _ => .exit ?_)
    exact ⟨[], trivial, _, fun _ s => s, _, hrun _ (.stop rfl), .slice A 0 c, ve, ks, ke, rfl, hS, hE⟩
  | cons f rest =>
    obtain ⟨bk, ok, lk, rfl, -, rfl, hck, hlk, hvk⟩ := hS.some_ (by simp)
    have hlen : (f :: rest).length = rest.length + 1 := rfl
    have hfG := hOk.good f (by simp)
    have hlo := hOk.lo
    have hhi := hOk.hi
    dsimp only at hlo hhi
    have hat : ∀ (own : List Nat) (hs' : Hp), [(bk, Ch.cells lk 97)] ⊆ hs' → ∀ (j : Nat) (us : List Value), (∀ (m : Nat) (v : Value), us[m]? = some v → (f.cells)[j + m]? = some v) → At w own hs' ⟨bk, ok + (0 : Int).toNat * 7 + j, none⟩ us := fun own hs' hsub j us hu => by
      show At w own hs' ⟨bk, ok + 0 + j, none⟩ us
      rw [Nat.add_zero]
      refine hS.atN hsub (fun m v hv => ?_)
      have h1 := hu m v hv
      have h2 := (List.getElem?_eq_some_iff.1 h1).1
      have := rows_get (f :: rest) 0 (j + m) (by simp) (by simpa [Ord.cells, rcells] using h2)
      rw [Nat.zero_mul, Nat.zero_add] at this
      rw [this]; exact h1
    refine .seq (.seq ((.drawK _ (fun _ h => h) (by kernel_rfl) (by kernel_rfl) ?_)))
    refine .v (fun _ f => .move rfl) (.v (fun _ f => .nilCheck rfl) (.v (fun _ f => .fieldAddr rfl) (.v (fun _ f => .load (v := .int .u64 left) rfl (.one (hb := .sub f) rfl)) (.v (fun _ f => .gtr rfl rfl) (.v (fun _ f => .move rfl) ?_)))))
    refine .and 34 39 5 5 rfl rfl (fun g1 => .v (fun _ f => .move rfl) (.v (fun _ f => .nilCheck rfl) (.v (fun _ h => .load (v := .slice (some ⟨bk, ok, none⟩) (f :: rest).length c) rfl (.one (hb := .sub h) (BL_get hi _ _ _ _ _ _))) (.v (fun _ f => .len rfl) (.v (fun _ f => .gtr rfl rfl) (.nil ⟨rfl, rfl, rfl, rfl⟩)))))) ?_
    refine .v (fun _ f => .move rfl) ?_
    refine .and 41 51 10 10 rfl rfl (fun g2 => .v (fun _ f => .move rfl) (.v (fun _ f => .nilCheck rfl) (.v (fun _ f => .loadA (vs := [.int .u64 tk.o.id, .int .u32 tk.o.mb, .int .i64 tk.o.ty, .int .i64 tk.o.pr, .int .u64 tk.o.v, .int .u64 tk.o.hd, .int .u64 tk.o.pk, .int .i64 tk.side, .int .i64 tk.kind, .int .u64 left]) rfl (.whole (hb := .sub f)) rfl) (.v (fun _ f => .move rfl) (.v (fun _ f => .nilCheck rfl) (.v (fun _ h => .load (v := .slice (some ⟨bk, ok, none⟩) (f :: rest).length c) rfl (.one (hb := .sub h) (BL_get hi _ _ _ _ _ _))) (.v (fun _ f => .indexAddr rfl rfl (by simp) (by simp)) (.v (fun _ f => .fieldAddr rfl) (.v (fun _ h => .load (v := .int .i64 f.pr) rfl (hat _ _ (fun p hp => h (by simp at hp ⊢; simp [hp])) 3 _ (fun m v hv => by match m, hv with | 0, hv => exact hv))) (.pc (v := .bool (reach tk.side tk.kind tk.o.pr f.pr)) rfl rfl (fun w' _ => reaches_ok w' tk.o.id tk.o.mb tk.o.ty tk.o.pr tk.o.v tk.o.hd tk.o.pk tk.side tk.kind left f.pr) (.nil ⟨rfl, rfl, rfl, rfl⟩))))))))))) ?_
    refine .nil ?_
    refine .cond rfl (fun h1 => .skip ?_) (fun h1 => .exit ?_)
    · have h1' : 0 < left ∧ reach tk.side tk.kind tk.o.pr f.pr = true := by
        simp at h1; exact h1
      have hstep : (⟨f :: rest, left, seq, evs⟩ : TS).step meet tk = some (if f.mb = tk.o.mb ∧ tk.o.mb ≠ 0 ∧ meet ≠ 0 then (⟨f :: rest, left, seq, evs⟩ : TS).meets meet tk f rest else (⟨f :: rest, left, seq, evs⟩ : TS).hit tk f rest) := by
        simp only [TS.step]; rw [if_pos h1']
      obtain ⟨k1, k2, k3, k4, k5⟩ := hOk.step hstep
      have k3 := Nat.le_trans k3 hn
      have k6 := fun z h => hrun z (.step hstep h)
      have k7 : ∀ s' : TS, s'.evs.length ≤ evs.length + 2 → s'.mu < (⟨f :: rest, left, seq, evs⟩ : TS).mu → s'.evs.length + 2 * s'.mu ≤ 100000000000 := fun s' a b => by
        have : evs.length + 2 * (⟨f :: rest, left, seq, evs⟩ : TS).mu ≤ 100000000000 := he
        omega
      have heb : evs.length ≤ 100000000000 := by
        have : evs.length + 2 * (⟨f :: rest, left, seq, evs⟩ : TS).mu ≤ 100000000000 := he
        omega
      refine .block (.seq ((.region (.v (.move rfl) (.v (.nilCheck rfl) (.v (.load (v := (.slice (some ⟨bk, ok, none⟩) (f :: rest).length c)) rfl (.one (BL_get hi _ _ _ _ _ _))) (.v (.indexAddr rfl rfl (by simp) (by simp)) (.v (.loadA (vs := [.int .u64 f.id, .int .u32 f.mb, .int .i64 f.ty, .int .i64 f.pr, .int .u64 f.v, .int .u64 f.hd, .int .u64 f.pk]) rfl (hat _ _ (fun p hp => by simp at hp ⊢; simp [hp]) 0 _ (fun m v hv => by rw [Nat.zero_add]; exact hv)) rfl) (.nw .alloc fun b7 => (.st (.sw rfl rfl) (.nil ?_)))))))))))
      refine .seq (.seq ((.drawK _ (fun _ h => h) (by kernel_rfl) (by kernel_rfl) ?_)))
      refine .v (fun _ f => .fieldAddr rfl) (.v (fun _ h => .load (v := .int .u32 f.mb) rfl (.one (hb := .sub h) rfl)) (.v (fun _ f => .move rfl) (.v (fun _ f => .nilCheck rfl) (.v (fun _ f => .fieldAddr rfl) (.v (fun _ f => .fieldAddr rfl) (.v (fun _ f => .load (v := .int .u32 tk.o.mb) rfl (.one (hb := .sub f) rfl)) (.v (fun _ f => .eqi rfl rfl) (.v (fun _ f => .move rfl) ?_))))))))
      refine .and 66 72 6 6 rfl rfl (fun g3 => .v (fun _ f => .move rfl) (.v (fun _ f => .nilCheck rfl) (.v (fun _ f => .fieldAddr rfl) (.v (fun _ f => .fieldAddr rfl) (.v (fun _ f => .load (v := .int .u32 tk.o.mb) rfl (.one (hb := .sub f) rfl)) (.v (fun _ f => .nei rfl rfl) (.nil ⟨rfl, rfl, rfl, rfl⟩))))))) (.v (fun _ f => .move rfl) (.and 74 76 2 2 rfl rfl (fun g4 => .v (fun _ f => .move rfl) (.v (fun _ f => .nei rfl rfl) (.nil ⟨rfl, rfl, rfl, rfl⟩))) (.nil ?_)))
      refine .cond rfl (fun h2 => ?_) (fun h2 => .skip ?_) <;> simp only [Bool.and_eq_true, Bool.or_eq_true, Bool.not_eq_true', Bool.and_eq_false_iff, Bool.or_eq_false_iff, Bool.not_eq_false', decide_eq_true_eq, decide_eq_false_iff_not, Bool.false_eq_true, false_iff] at h2
      · have hm : f.mb = tk.o.mb ∧ tk.o.mb ≠ 0 ∧ meet ≠ 0 := ⟨h2.1.1, h2.1.2, h2.2⟩
        rw [if_pos hm] at k1 k2 k3 k4 k6
        refine .seq ((.region (.v (.move rfl) (.v (.move rfl) (.v (.move rfl) (.v (.loadA (vs := [.int .u64 f.id, .int .u32 f.mb, .int .i64 f.ty, .int .i64 f.pr, .int .u64 f.v, .int .u64 f.hd, .int .u64 f.pk]) rfl .whole rfl) (.v (.move rfl) ?_)))))))
        refine .ef (.callT (TH t b po i x0 (.int .i64 meet) vo x4 tk left seq (.slice (some ⟨bk, ok, none⟩) (f :: rest).length c) ve [(bk, Ch.cells lk 97)] ke) rfl rfl (fun w' s' => meets_ok w' t b po i hi x0 (.int .i64 meet) vo x4 tk meet f rest left seq evs _ ve _ ke hS hE (by omega) (by omega) (by unfold Ord.G at hfG; unfold U; omega))) ?_
        rintro _ _ ⟨hh, hT, rfl⟩
        obtain ⟨sm, hsm⟩ : ∃ sm, (⟨f :: rest, left, seq, evs⟩ : TS).meets meet tk f rest = sm := ⟨_, rfl⟩
        rw [hsm] at hT k1 k2 k3 k4 k6
        obtain ⟨vs', ve', ks', ke', rfl, hS', hE'⟩ := hT
        refine .nil (.exit ?_)
        exact ⟨⟨sm, vs', ve', ks', ke'⟩, ⟨hS', hE', k1, k3, k7 _ k4 k2, k6⟩, k2, .cons rfl (.cons rfl (.cons rfl (.cons rfl (.cons rfl (.nil _))))), fun _ s => Sat.take (pre := TH t b po i x0 (.int .i64 meet) vo x4 tk sm.left sm.seq vs' ve' ks' ke') s⟩
      · have hm : ¬ (f.mb = tk.o.mb ∧ tk.o.mb ≠ 0 ∧ meet ≠ 0) := by
          rintro ⟨a1, a2, a3⟩
          rcases h2 with (h2 | h2) | h2
          · exact h2 a1
          · exact h2 a2
          · exact h2 a3
        rw [if_neg hm] at k1 k2 k3 k4 k6
        obtain ⟨g1, g2, g3, g4, g5, g6⟩ := hfG
        refine .seq ((.drawK _ (fun _ h => h) (by kernel_rfl) (by kernel_rfl) ?_))
        refine .v (fun _ f => .move rfl) (.v (fun _ f => .nilCheck rfl) (.v (fun _ f => .fieldAddr rfl) (.v (fun _ f => .load (v := .int .u64 left) rfl (.one (hb := .sub f) rfl)) (.v (fun _ f => .fieldAddr rfl) (.v (fun _ h => .load (v := .int .u64 f.v) rfl (.one (hb := .sub h) rfl)) (.v (fun _ f => .min2 rfl rfl) (.v (fun _ f => .assign rfl) (.nil ?_))))))))
        obtain ⟨q, hq⟩ : ∃ q, min left f.v = q := ⟨_, rfl⟩
        have hit : (⟨f :: rest, left, seq, evs⟩ : TS).hit tk f rest = (if 0 < f.v - q then ⟨f.less q :: rest, left - q, nx seq, evs ++ [(evTrade tk.o.id f.id tk.side f.pr q).num (nx seq)]⟩
            else if 0 < f.hd then (⟨rst (3 - tk.side) f.next rest, left - q, nx seq, evs ++ [(evTrade tk.o.id f.id tk.side f.pr q).num (nx seq)]⟩ : TS).tell (evRefresh f.id f.pr f.next.v)
            else ⟨rest, left - q, nx seq, evs ++ [(evTrade tk.o.id f.id tk.side f.pr q).num (nx seq)]⟩) := by
          rw [← hq]; rfl
        rw [hit] at k1 k2 k3 k4 k6
        rw [hq]
        refine .seq ((.drawK [To po tk left, (b7, .cells [.int .u64 f.id, .int .u32 f.mb, .int .i64 f.ty, .int .i64 f.pr, .int .u64 f.v, .int .u64 f.hd, .int .u64 f.pk] 97)] (by intro p hp; simp at hp ⊢; rcases hp with rfl | rfl <;> simp) (by kernel_rfl) (by kernel_rfl) ?_))
        refine .v (fun _ f => .move rfl) (.v (fun _ f => .move rfl) (.v (fun _ f => .nilCheck rfl) (.v (fun _ f => .fieldAddr rfl) (.v (fun _ f => .fieldAddr rfl) (.v (fun _ f => .load (v := .int .u64 tk.o.id) rfl (.one (hb := .sub f) rfl)) (.v (fun _ f => .fieldAddr rfl) (.v (fun _ h => .load (v := .int .u64 f.id) rfl (.one (hb := .sub h) rfl)) (.v (fun _ f => .move rfl) (.v (fun _ f => .nilCheck rfl) (.v (fun _ f => .fieldAddr rfl) (.v (fun _ f => .load (v := .int .i64 tk.side) rfl (.one (hb := .sub f) rfl)) (.v (fun _ f => .fieldAddr rfl) (.v (fun _ h => .load (v := .int .i64 f.pr) rfl (.one (hb := .sub h) rfl)) (.v (fun _ f => .move rfl) (.v (fun _ _ => .build (out := (evTrade tk.o.id f.id tk.side f.pr q).cells) rfl rfl) ?_)))))))))))))))
        refine .ef (.callT (Tt t b ve :: Tb b (BL i x0 (.int .i64 meet) (.slice (some ⟨bk, ok, none⟩) (f :: rest).length c) vo x4 (.int .u64 seq)) :: ke) rfl rfl (fun w' s' => tell_ok w' t b x0 (.int .i64 meet) _ _ x4 seq (evTrade tk.o.id f.id tk.side f.pr q) evs ve ke hE (by omega))) (fun _ _ ⟨_, _, e⟩ _ => by subst e; intro p hp; simp at hp ⊢; rcases hp with rfl | rfl <;> simp) ?_
        rintro _ _ ⟨_, ⟨ve1, ke1, rfl, hE1⟩, rfl⟩
        refine .nil ?_
        have hql : 0 ≤ left - q ∧ left - q ≤ 18446744073709551615 := by omega
        have hqv : 0 ≤ f.v - q ∧ f.v - q ≤ 18446744073709551615 := by omega
        have hE1' : Evs ve1 (evs ++ [(evTrade tk.o.id f.id tk.side f.pr q).num (nx seq)]) ke1 := hE1
        have hel : (evs ++ [(evTrade tk.o.id f.id tk.side f.pr q).num (nx seq)]).length = evs.length + 1 := by simp
        refine .keep ((b7, Ch.cells [.int .u64 f.id, .int .u32 f.mb, .int .i64 f.ty, .int .i64 f.pr, .int .u64 f.v, .int .u64 f.hd, .int .u64 f.pk] 97) :: TH t b po i x0 (.int .i64 meet) vo x4 tk left (nx seq) (.slice (some ⟨bk, ok, none⟩) (f :: rest).length c) ve1 [(bk, Ch.cells lk 97)] ke1) ?_
        refine .seq ((.region (.v (.move rfl) (.v (.nilCheck rfl) (.v (.fieldAddr rfl) (.v (.load (v := .int .u64 left) rfl (.one rfl)) (.v (.move rfl) (.v (.subU (left - q) rfl rfl rfl hql) (.v (.nilCheck rfl) (.v (.fieldAddr rfl) (.st (.storeL rfl rfl rfl) (.nil ?_))))))))))))
        refine .seq ((.region (.v (.fieldAddr rfl) (.v (.load (v := .int .u64 f.v) rfl (.one rfl)) (.v (.move rfl) (.v (.subU (f.v - q) rfl rfl rfl hqv) (.v (.fieldAddr rfl) (.st (.storeL rfl rfl rfl) (.nil ?_)))))))))
        refine .seq ((.drawQ 5 [0, 1, 2, 3, 4, 5] _ (fun _ h => h) (by kernel_rfl) (by kernel_rfl) ?_))
        refine .v (fun _ f => .move rfl) (.v (fun _ f => .nilCheck rfl) (.v (fun _ h => .load (v := (.slice (some ⟨bk, ok, none⟩) (f :: rest).length c)) rfl (.one (hb := .sub h) (BL_get hi _ _ _ _ _ _))) (.v (fun _ h => .loadA (vs := [.int .u64 f.id, .int .u32 f.mb, .int .i64 f.ty, .int .i64 f.pr, .int .u64 (f.v - q), .int .u64 f.hd, .int .u64 f.pk]) rfl (.whole (hb := .sub h)) rfl) (.v (fun _ f => .indexAddr rfl rfl (by simp) (by simp)) (.st (.storeA rfl rfl rfl rfl (by show ok + 0 + 7 ≤ lk.length; have : 1 * 7 ≤ c * 7 := Nat.mul_le_mul_right _ (by omega); omega)) (.nil ?_))))))
        have hS2 : Side (.slice (some ⟨bk, ok, none⟩) (f :: rest).length c) (f.less q :: rest) [(bk, Ch.cells (V.splice lk (ok + (0 : Int).toNat * 7) [.int .u64 f.id, .int .u32 f.mb, .int .i64 f.ty, .int .i64 f.pr, .int .u64 (f.v - q), .int .u64 f.hd, .int .u64 f.pk]) 97)] := hS.set0 (f' := f.less q)
        refine .seq (.seq ((.region (.v (.fieldAddr rfl) (.v (.load (v := .int .u64 (f.v - q)) rfl (.one rfl)) (.v (.gtr rfl rfl) (.nil ?_)))))))
        refine .cond_dec rfl (fun h3 => .exit ?_) (fun h3 => .skip ?_)
        · rw [if_pos h3] at k1 k2 k3 k4 k6
          exact ⟨⟨⟨f.less q :: rest, left - q, nx seq, evs ++ [(evTrade tk.o.id f.id tk.side f.pr q).num (nx seq)]⟩, (.slice (some ⟨bk, ok, none⟩) (f :: rest).length c), ve1, [(bk, Ch.cells (V.splice lk (ok + (0 : Int).toNat * 7) [.int .u64 f.id, .int .u32 f.mb, .int .i64 f.ty, .int .i64 f.pr, .int .u64 (f.v - q), .int .u64 f.hd, .int .u64 f.pk]) 97)], ke1⟩, ⟨hS2, hE1', k1, k3, k7 _ k4 k2, k6⟩, k2, .cons rfl (.cons rfl (.cons rfl (.cons rfl (.cons rfl (.nil _))))), fun _ s => Sat.take (pre := TH t b po i x0 (.int .i64 meet) vo x4 tk (left - q) (nx seq) (.slice (some ⟨bk, ok, none⟩) (f :: rest).length c) ve1 [(bk, Ch.cells (V.splice lk (ok + (0 : Int).toNat * 7) [.int .u64 f.id, .int .u32 f.mb, .int .i64 f.ty, .int .i64 f.pr, .int .u64 (f.v - q), .int .u64 f.hd, .int .u64 f.pk]) 97)] ke1) s⟩
        rw [if_neg h3] at k1 k2 k3 k4 k6
        refine .seq ((.region (.v (.move rfl) (.v (.move rfl) (.v (.nilCheck rfl) (.v (.load (v := (.slice (some ⟨bk, ok, none⟩) (f :: rest).length c)) rfl (.one (BL_get hi _ _ _ _ _ _))) ?_))))))
        refine .ef (.callT [(bk, Ch.cells (V.splice lk (ok + (0 : Int).toNat * 7) [.int .u64 f.id, .int .u32 f.mb, .int .i64 f.ty, .int .i64 f.pr, .int .u64 (f.v - q), .int .u64 f.hd, .int .u64 f.pk]) 97)] rfl rfl (fun w' s' => delete0_ok w' _ _ c (f.less q) rest _ hS2 rfl (by omega))) ?_
        rintro v3 _ ⟨ks3, hS3, rfl⟩
        obtain ⟨A3, c3, rfl⟩ := OwnS.sl hS3
        refine .v (.nilCheck rfl) (.st (.store rfl rfl rfl (by rcases hi with rfl | rfl <;> simp)) (.nil ?_))
        rw [BL_set hi]
        refine .keep ((b7, Ch.cells [.int .u64 f.id, .int .u32 f.mb, .int .i64 f.ty, .int .i64 f.pr, .int .u64 (f.v - q), .int .u64 f.hd, .int .u64 f.pk] 97) :: TH t b po i x0 (.int .i64 meet) vo x4 tk (left - q) (nx seq) (.slice A3 rest.length c3) ve1 ks3 ke1) ?_
        refine .seq ((.region (.v (.fieldAddr rfl) (.v (.load (v := .int .u64 f.hd) rfl (.one rfl)) (.v (.gtr rfl rfl) (.nil ?_))))))
        refine .cond_dec rfl (fun h4 => ?_) (fun h4 => .skip ?_)
        · rw [if_pos h4] at k1 k2 k3 k4 k6
          have hmn : 0 ≤ f.hd - min f.pk f.hd ∧ f.hd - min f.pk f.hd ≤ 18446744073709551615 := by omega
          refine .seq ((.region (.v (.fieldAddr rfl) (.v (.load (v := .int .u64 f.pk) rfl (.one rfl)) (.v (.fieldAddr rfl) (.v (.load (v := .int .u64 f.hd) rfl (.one rfl)) (.v (.min2 rfl rfl) (.v (.fieldAddr rfl) (.st (.storeL rfl rfl rfl) (.nil ?_))))))))))
          refine .seq ((.region (.v (.fieldAddr rfl) (.v (.load (v := .int .u64 f.hd) rfl (.one rfl)) (.v (.fieldAddr rfl) (.v (.load (v := .int .u64 (min f.pk f.hd)) rfl (.one rfl)) (.v (.subU (f.hd - min f.pk f.hd) rfl rfl rfl hmn) (.v (.fieldAddr rfl) (.st (.storeL rfl rfl rfl) (.nil ?_))))))))))
          refine .seq ((.drawK [Tt t b ve1, (b7, Ch.cells [.int .u64 f.id, .int .u32 f.mb, .int .i64 f.ty, .int .i64 f.pr, .int .u64 (min f.pk f.hd), .int .u64 (f.hd - min f.pk f.hd), .int .u64 f.pk] 97)] (by intro p hp; simp at hp ⊢; rcases hp with rfl | rfl <;> simp) (by kernel_rfl) (by kernel_rfl) ?_))
          refine .v (fun _ f => .move rfl) (.v (fun _ f => .nilCheck rfl) (.v (fun _ f => .fieldAddr rfl) (.v (fun _ f => .load (v := .pointer (some ⟨b, 0, none⟩)) rfl (.one (hb := .sub f) rfl)) (.v (fun _ f => .move rfl) (.v (fun _ h => .loadA (vs := [.int .u64 f.id, .int .u32 f.mb, .int .i64 f.ty, .int .i64 f.pr, .int .u64 (min f.pk f.hd), .int .u64 (f.hd - min f.pk f.hd), .int .u64 f.pk]) rfl (.whole (hb := .sub h)) rfl) ?_)))))
          refine .ef (.callT (Tb b (BL i x0 (.int .i64 meet) (.slice A3 rest.length c3) vo x4 (.int .u64 (nx seq))) :: ks3) rfl rfl (fun w' s' => rests_ok w' b i (3 - tk.side) (by omega) _ rfl f.next rest _ ks3 (BL_get hi _ _ _ _ _ _) hS3 (by omega))) (fun _ _ ⟨_, _, e⟩ _ => by subst e; intro p hp; simp at hp ⊢; rcases hp with rfl | rfl <;> simp) ?_
          rintro _ _ ⟨_, ⟨v4, ks4, rfl, hS4⟩, rfl⟩
          refine .nil ?_
          rw [BL_set hi]
          refine .keep ((b7, Ch.cells [.int .u64 f.id, .int .u32 f.mb, .int .i64 f.ty, .int .i64 f.pr, .int .u64 (min f.pk f.hd), .int .u64 (f.hd - min f.pk f.hd), .int .u64 f.pk] 97) :: TH t b po i x0 (.int .i64 meet) vo x4 tk (left - q) (nx seq) v4 ve1 ks4 ke1) ?_
          refine .region (.v (.move rfl) (.v (.fieldAddr rfl) (.v (.load (v := .int .u64 f.id) rfl (.one rfl)) (.v (.fieldAddr rfl) (.v (.load (v := .int .i64 f.pr) rfl (.one rfl)) (.v (.fieldAddr rfl) (.v (.load (v := .int .u64 (min f.pk f.hd)) rfl (.one rfl)) (.v (.build (out := (evRefresh f.id f.pr f.next.v).cells) rfl rfl) ?_))))))))
          refine .ef (.callT (Tt t b ve1 :: Tb b (BL i x0 (.int .i64 meet) v4 vo x4 (.int .u64 (nx seq))) :: ke1) rfl rfl (fun w' s' => tell_ok w' t b x0 (.int .i64 meet) _ _ x4 (nx seq) (evRefresh f.id f.pr f.next.v) _ ve1 ke1 hE1' (by omega))) ?_
          rintro _ _ ⟨_, ⟨ve5, ke5, rfl, hE5⟩, rfl⟩
          refine .nil ?_
          exact ⟨⟨(⟨rst (3 - tk.side) f.next rest, left - q, nx seq, evs ++ [(evTrade tk.o.id f.id tk.side f.pr q).num (nx seq)]⟩ : TS).tell (evRefresh f.id f.pr f.next.v), v4, ve5, ks4, ke5⟩, ⟨hS4, hE5, k1, k3, k7 _ k4 k2, k6⟩, k2, .cons rfl (.cons rfl (.cons rfl (.cons rfl (.cons rfl (.nil _))))), fun _ s => Sat.take (pre := TH t b po i x0 (.int .i64 meet) vo x4 tk (left - q) (nx (nx seq)) v4 ve5 ks4 ke5) s⟩
        · rw [if_neg h4] at k1 k2 k3 k4 k6
          exact ⟨⟨⟨rest, left - q, nx seq, evs ++ [(evTrade tk.o.id f.id tk.side f.pr q).num (nx seq)]⟩, _, ve1, ks3, ke1⟩, ⟨hS3, hE1', k1, k3, k7 _ k4 k2, k6⟩, k2, .cons rfl (.cons rfl (.cons rfl (.cons rfl (.cons rfl (.nil _))))), fun _ s => Sat.take (pre := TH t b po i x0 (.int .i64 meet) vo x4 tk (left - q) (nx seq) (.slice A3 rest.length c3) ve1 ks3 ke1) s⟩
    · have hstop : (⟨f :: rest, left, seq, evs⟩ : TS).step meet tk = none := by
        simp only [TS.step]
        rw [if_neg]
        rintro ⟨k1, k2⟩
        simp [k1, k2] at h1
      exact ⟨[], trivial, _, fun _ s => s, _, hrun _ (.stop hstop), _, ve, _, ke, rfl, hS, hE⟩
end Go.Proofs.Ytcbppikkoelimaa

/- Trading to its end, as a function. -/
namespace Go.Proofs.Ytcbppikkoelimaa
open Go.V
set_option linter.unusedVariables false
set_option linter.unusedSimpArgs false

def trF (meet : Int) (t : Tk) : Nat → TS → TS
  | 0, s => s
  | n + 1, s => match s.step meet t with
    | none => s
    | some s' => trF meet t n s'
/-- trading, to its end -/
def tr (meet : Int) (t : Tk) (s : TS) : TS := trF meet t (s.mu + 1) s
theorem trF_run {meet : Int} {t : Tk} : ∀ (n : Nat) (s : TS), s.Ok → s.mu < n → TRun meet t s (trF meet t n s)
  | 0, s, _, h => by omega
  | n + 1, s, hk, h => by
    unfold trF
    cases hs : s.step meet t with
    | none => exact .stop hs
    | some s' =>
      obtain ⟨h1, h2, _⟩ := hk.step hs
      exact .step hs (trF_run n s' h1 (by omega))
theorem tr_run {meet : Int} {t : Tk} {s : TS} (h : s.Ok) : TRun meet t s (tr meet t s) := trF_run _ s h (by omega)
theorem TRun.eq {meet : Int} {t : Tk} {s z : TS} (h : TRun meet t s z) (hk : s.Ok) : z = tr meet t s := h.det (tr_run hk)
theorem TRun.ok {meet : Int} {t : Tk} {s z : TS} (h : TRun meet t s z) (hk : s.Ok) : z.Ok ∧ z.L.length ≤ s.L.length ∧ z.evs.length + 2 * z.mu ≤ s.evs.length + 2 * s.mu ∧ z.left ≤ s.left := by
  induction h with
  | stop _ => exact ⟨hk, Nat.le_refl _, Nat.le_refl _, Int.le_refl _⟩
  | step hs _ ih =>
    obtain ⟨h1, h2, h3, h4, h5⟩ := hk.step hs
    obtain ⟨i1, i2, i3, i4⟩ := ih h1
    exact ⟨i1, by omega, by omega, by omega⟩
/-- what was traded -/
def tsum (l : List Ev) : Int := l.foldl (fun a e => if e.kind = 3 then IntKind.u64.wrap (a + e.q) else a) 0
theorem tsum_snoc (l : List Ev) (e : Ev) : tsum (l ++ [e]) = if e.kind = 3 then IntKind.u64.wrap (tsum l + e.q) else tsum l := by simp [tsum]
theorem mu_le {s : TS} (h : s.Ok) : s.mu ≤ 257 * s.L.length + 1 := by
  obtain ⟨L, left, seq, evs⟩ := s
  have hg := h.good
  unfold TS.mu
  dsimp only at *
  have key : (L.map Ord.shows).sum ≤ 257 * L.length := by
    clear h
    induction L with
    | nil => simp
    | cons f L ih =>
      have h1 := shows_le (hg f (by simp))
      have h2 := ih fun x hx => hg x (by simp [hx])
      simp only [List.map_cons, List.sum_cons, List.length_cons]
      omega
  split <;> omega
/-- a book -/
structure Bk where
  cap : Int
  meet : Int
  bs : List Ord
  ss : List Ord
  high : Int
  seq : Int
def Bk.side (B : Bk) (s : Int) : List Ord := if s = 1 then B.bs else B.ss
def Bk.put (B : Bk) (s : Int) (l : List Ord) : Bk := if s = 1 then ⟨B.cap, B.meet, l, B.ss, B.high, B.seq⟩ else ⟨B.cap, B.meet, B.bs, l, B.high, B.seq⟩
def Bk.num (B : Bk) (q : Int) : Bk := ⟨B.cap, B.meet, B.bs, B.ss, B.high, q⟩
abbrev Bc (B : Bk) (v1 v2 : Value) : List Value := [.int .i64 B.cap, .int .i64 B.meet, v1, v2, .int .u64 B.high, .int .u64 B.seq]
/-- a book in memory, whose sides are its own -/
def BkH (b : Nat) (B : Bk) (hs : Hp) : Prop := ∃ v1 v2 k1 k2, hs = Tb b (Bc B v1 v2) :: (k1 ++ k2) ∧ Side v1 B.bs k1 ∧ Side v2 B.ss k2
/-- .. with a teller -/
abbrev TBh (t b : Nat) (B : Bk) (v1 v2 ve : Value) (k1 k2 ke : Hp) : Hp := Tt t b ve :: Tb b (Bc B v1 v2) :: (k1 ++ (k2 ++ ke))
def TB (t b : Nat) (B : Bk) (evs : List Ev) (hs : Hp) : Prop := ∃ v1 v2 ve k1 k2 ke, hs = TBh t b B v1 v2 ve k1 k2 ke ∧ Side v1 B.bs k1 ∧ Side v2 B.ss k2 ∧ Evs ve evs ke
/-- the order that comes meets the other side: the state of trading -/
def Bk.ts (B : Bk) (evs : List Ev) (t : Tk) : TS := ⟨B.side (3 - t.side), t.left, B.seq, evs⟩
def Bk.traded (B : Bk) (t : Tk) (z : TS) : Bk := (B.put (3 - t.side) z.L).num z.seq
set_option maxRecDepth 10000 in
theorem trade_ok (w : World) (t b po : Nat) (B : Bk) (evs : List Ev) (tk : Tk) (hs : tk.side = 1 ∨ tk.side = 2) (v1 v2 ve : Value) (k1 k2 ke : Hp) (h1 : Side v1 B.bs k1) (h2 : Side v2 B.ss k2) (hE : Evs ve evs ke) (hOk : (B.ts evs tk).Ok)
    (hn : (B.ts evs tk).L.length ≤ 1000000) (he : evs.length ≤ 1000000000) :
    Does Try.prog 57 [.pointer (some ⟨t, 0, none⟩), .pointer (some ⟨po, 0, none⟩)] (To po tk tk.left :: TBh t b B v1 v2 ve k1 k2 ke) w
      (fun _ hs => ∃ h, hs = To po tk (tr B.meet tk (B.ts evs tk)).left :: h ∧ TB t b (B.traded tk (tr B.meet tk (B.ts evs tk))) (tr B.meet tk (B.ts evs tk)).evs h) := by
  have hmu := mu_le hOk
  have he2 : (B.ts evs tk).evs.length + 2 * (B.ts evs tk).mu ≤ 100000000000 := by
    have : (B.ts evs tk).evs.length = evs.length := rfl
    omega
  rcases hs with hs | hs
  · have e3 : B.side (3 - tk.side) = B.ss := by unfold Bk.side; rw [hs]; rfl
    have ep : ∀ z : TS, B.traded tk z = ⟨B.cap, B.meet, B.bs, z.L, B.high, z.seq⟩ := fun z => by unfold Bk.traded Bk.put; rw [hs]; rfl
    have := trades_ok w t b po 3 tk (.inl ⟨hs, rfl⟩) (.int .i64 B.cap) v1 (.int .u64 B.high) B.meet (B.ts evs tk) v2 ve k2 ke (by unfold Bk.ts; rw [e3]; exact h2) hE hOk hn he2
    have h3 : Does Try.prog 57 [.pointer (some ⟨t, 0, none⟩), .pointer (some ⟨po, 0, none⟩)] (Tt t b ve :: Tb b (Bc B v1 v2) :: To po tk tk.left :: (k2 ++ ke)) w _ := this
    refine (Does.lendT _ h3).keepT ?_
    rintro _ _ ⟨_, ⟨z, hz, vs', ve', ks', ke', rfl, hS', hE'⟩, rfl⟩
    obtain rfl := hz.eq hOk
    generalize tr B.meet tk (B.ts evs tk) = z at *
    have hp : ((Tt t b ve' :: Tb b (Bc ⟨B.cap, B.meet, B.bs, z.L, B.high, z.seq⟩ v1 vs') :: To po tk z.left :: (ks' ++ ke')) ++ (k1 ++ [])).Perm ((To po tk z.left :: TBh t b ⟨B.cap, B.meet, B.bs, z.L, B.high, z.seq⟩ v1 vs' ve' k1 ks' ke') ++ []) := TakeI.out
    exact ⟨To po tk z.left :: TBh t b (B.traded tk z) v1 vs' ve' k1 ks' ke', [], by rw [ep]; exact hp, _, rfl, v1, vs', ve', k1, ks', ke', rfl, by rw [ep]; exact h1, by rw [ep]; exact hS', hE'⟩
  · have e3 : B.side (3 - tk.side) = B.bs := by unfold Bk.side; rw [hs]; rfl
    have ep : ∀ z : TS, B.traded tk z = ⟨B.cap, B.meet, z.L, B.ss, B.high, z.seq⟩ := fun z => by unfold Bk.traded Bk.put; rw [hs]; rfl
    have := trades_ok w t b po 2 tk (.inr ⟨hs, rfl⟩) (.int .i64 B.cap) v2 (.int .u64 B.high) B.meet (B.ts evs tk) v1 ve k1 ke (by unfold Bk.ts; rw [e3]; exact h1) hE hOk hn he2
    have h3 : Does Try.prog 57 [.pointer (some ⟨t, 0, none⟩), .pointer (some ⟨po, 0, none⟩)] (Tt t b ve :: Tb b (Bc B v1 v2) :: To po tk tk.left :: (k1 ++ ke)) w _ := this
    refine (Does.lendT _ h3).keepT ?_
    rintro _ _ ⟨_, ⟨z, hz, vs', ve', ks', ke', rfl, hS', hE'⟩, rfl⟩
    obtain rfl := hz.eq hOk
    generalize tr B.meet tk (B.ts evs tk) = z at *
    have hp : ((Tt t b ve' :: Tb b (Bc ⟨B.cap, B.meet, z.L, B.ss, B.high, z.seq⟩ vs' v2) :: To po tk z.left :: (ks' ++ ke')) ++ (k2 ++ [])).Perm ((To po tk z.left :: TBh t b ⟨B.cap, B.meet, z.L, B.ss, B.high, z.seq⟩ vs' v2 ve' ks' k2 ke') ++ []) := TakeI.out
    exact ⟨To po tk z.left :: TBh t b (B.traded tk z) vs' v2 ve' ks' k2 ke', [], by rw [ep]; exact hp, _, rfl, vs', v2, ve', ks', k2, ke', rfl, by rw [ep]; exact hS', by rw [ep]; exact h2, hE'⟩
end Go.Proofs.Ytcbppikkoelimaa

/- (*teller).whole: would an order trade whole? -/
namespace Go.Proofs.Ytcbppikkoelimaa
open Go.V
set_option linter.unusedVariables false
set_option linter.unusedSimpArgs false

theorem Does.kept {P : Program} {g : Nat} {vals : List Value} {w : World} {v : Value} (h : Does P g vals [] w (fun u _ => u = v)) : Is P g vals w v :=
  Does.less (h.mono fun u hs e => ⟨[], fun _ s => s.sub (List.nil_sublist _), e, rfl⟩)
set_option maxRecDepth 10000 in
theorem whole_ok (w : World) (t b : Nat) (B : Bk) (tk : Tk) (hs : tk.side = 1 ∨ tk.side = 2) (ve : Value) (A1 A2 : Option Addr) (c1 c2 : Nat) (ht : Rd w [] (some ⟨t, 0, none⟩) [.pointer (some ⟨b, 0, none⟩), ve])
    (hb : Rd w [] (some ⟨b, 0, none⟩) (Bc B (.slice A1 B.bs.length c1) (.slice A2 B.ss.length c2))) (h1 : Rd w [] A1 (rows B.bs)) (h2 : Rd w [] A2 (rows B.ss)) (hOk : (B.ts [] tk).Ok) (hn1 : B.bs.length ≤ 1000000) (hn2 : B.ss.length ≤ 1000000) :
    Is Try.prog 56 [.pointer (some ⟨t, 0, none⟩), .agg ⟨tk.cells⟩] w (.bool (decide (tsum (tr B.meet tk (B.ts [] tk)).evs = tk.left))) := by
  have hnn : (B.ts [] tk).L.length ≤ 1000000 := by
    unfold Bk.ts Bk.side
    simp only
    split <;> assumption
  refine Does.kept (Does.of (n := 46) Try.func56 rfl rfl rfl rfl ?_)
  refine .seq ((.region (.nw (.box (l := [.int .u64 tk.o.id, .int .u32 tk.o.mb, .int .i64 tk.o.ty, .int .i64 tk.o.pr, .int .u64 tk.o.v, .int .u64 tk.o.hd, .int .u64 tk.o.pk, .int .i64 tk.side, .int .i64 tk.kind, .int .u64 tk.left]) rfl rfl) fun b3 => (.v (.assign rfl) (.nil ?_)))))
  refine .seq ((.region (.v (.move rfl) (.v (.nilCheck rfl) (.v (.fieldAddr rfl) (.v (.load (v := .pointer (some ⟨b, 0, none⟩)) rfl (ht.cell (i := 0) rfl)) (.v (.nilCheck rfl) (.v (.fieldAddr rfl) (.v (.loadA (vs := Bc B (.slice A1 B.bs.length c1) (.slice A2 B.ss.length c2)) rfl hb.whole rfl) ?_)))))))))
  refine .ef (.call0 rfl rfl fun w s => copied_ok w B.cap B.meet B.high B.seq A1 A2 c1 c2 B.bs B.ss (h1.keep0 s) (h2.keep0 s) (by omega) (by omega)) ?_
  rintro _ _ ⟨_, ⟨E1, E2, d1, d2, k1, k2, rfl, rfl, o1, o2⟩, rfl⟩
  refine .v (.build (out := Bc B (.slice E1 B.bs.length d1) (.slice E2 B.ss.length d2)) rfl rfl) (.nw (.box (l := Bc B (.slice E1 B.bs.length d1) (.slice E2 B.ss.length d2)) rfl rfl) fun b19 => (.v (.build (out := [.pointer (some ⟨b19, 0, none⟩), .slice none 0 0]) rfl rfl) (.nw (.box (l := [.pointer (some ⟨b19, 0, none⟩), .slice none 0 0]) rfl rfl) fun b21 => (.v (.assign rfl) (.nil ?_)))))
  refine .seq ((.region (.v (.fieldAddr rfl) (.v (.load (v := .int .u64 tk.left) rfl (.one rfl)) (.v (.assign rfl) (.nil ?_))))))
  refine .seq ((.region (.v (.move rfl) ?_)))
  refine .ef (.callT (To b3 tk tk.left :: TBh b21 b19 B (.slice E1 B.bs.length d1) (.slice E2 B.ss.length d2) (.slice none 0 0) k1 k2 []) rfl rfl (fun w' s' => trade_ok w' b21 b19 b3 B [] tk hs _ _ _ k1 k2 [] o1 o2 (OwnS.nil _ _) hOk hnn (by simp))) ?_
  rintro _ _ ⟨_, ⟨h, rfl, ⟨v1', v2', ve', k1', k2', ke', rfl, -, -, hE⟩⟩, rfl⟩
  have hz := (tr_run (meet := B.meet) (t := tk) hOk).ok hOk
  have hmu := mu_le hOk
  have hze : (B.ts [] tk).evs.length = 0 := rfl
  generalize tr B.meet tk (B.ts [] tk) = z at *
  refine .nil ?_
  obtain ⟨A, c, rfl⟩ := OwnS.sl hE
  refine .seq ((.region (.v (.assign rfl) (.nil ?_))))
  refine .seq (.seq ((.region (.v (.move rfl) (.v (.nilCheck rfl) (.v (.fieldAddr rfl) (.v (.load (v := .slice A z.evs.length c) rfl (.one rfl)) (.v (.len rfl) (.v (.move rfl) (.nil ?_))))))))))
  refine .keep ke' ?_
  have hnb : z.evs.length ≤ 2513169434843 := by
    omega
  refine .block (.loop (X := Nat) (fun i => [(6, .int .u64 tk.left), (7, .int .u64 (tsum (z.evs.take i))), (29, .slice A z.evs.length c), (30, .int .i64 z.evs.length), (31, .int .i64 i)]) (fun _ => ke') (fun i => i ≤ z.evs.length) (fun i => z.evs.length - i) 0 (by omega)
    (.cons rfl (.cons rfl (.cons rfl (.cons rfl (.cons rfl (.nil _)))))) (fun _ s => s) ?_)
  intro i hi
  refine .seq ((.region (.v (.lss rfl rfl) (.nil ?_))))
  refine .seq (.cond_dec rfl (fun g1 => .skip ?_) (fun g1 => .exit ?_))
  · have hil : i < z.evs.length := by omega
    obtain ⟨bk, ok, lk, rfl, -, rfl, -, -, -⟩ := hE.some_ (by omega)
    generalize hev : z.evs[i] = ev
    have hat : ∀ own, At w own [(bk, Ch.cells lk 34)] ⟨bk, ok + i * 13, none⟩ ev.cells := fun own => hE.atN (fun _ h => h) (fun j v hv => by
      have h13 := (List.getElem?_eq_some_iff.1 hv).1
      rw [erows_get z.evs i j hil (by simpa [Ev.cells] using h13), hev]; exact hv)
    have etk : z.evs.take (i + 1) = z.evs.take i ++ [ev] := by rw [List.take_add_one, List.getElem?_eq_getElem hil, hev]; rfl
    refine .seq (.block (.seq ((.region (.v (.indexAddr rfl rfl (by omega) (by omega)) (.v (.loadA (vs := ev.cells) rfl (hat _) rfl) (.nw .alloc fun b9 => (.st (.sw rfl rfl) (.nil ?_)))))))))
    refine .seq ((.region (.v (.fieldAddr rfl) (.v (.load (v := .int .i64 ev.kind) rfl (.one rfl)) (.v (.eqi rfl rfl) (.nil ?_))))))
    refine .cond_dec rfl (fun g2 => ?_) (fun g2 => .skip ?_)
    · refine .region (.v (.move rfl) (.v (.fieldAddr rfl) (.v (.load (v := .int .u64 ev.q) rfl (.one rfl)) (.v (.add rfl rfl) (.v (.assign rfl) (.nil ?_))))))
      refine .region (.v (.addi rfl rfl (by omega)) (.v (.move rfl) (.nil ?_)))
      exact ⟨i + 1, by omega, by omega, .cons rfl (.cons (by rw [etk, tsum_snoc, if_pos g2]; rfl) (.cons rfl (.cons rfl (.cons rfl (.nil _))))), fun _ s => s.take⟩
    · refine .region (.v (.addi rfl rfl (by omega)) (.v (.move rfl) (.nil ?_)))
      exact ⟨i + 1, by omega, by omega, .cons rfl (.cons (by rw [etk, tsum_snoc, if_neg g2]; rfl) (.cons rfl (.cons rfl (.cons rfl (.nil _))))), fun _ s => s.take⟩
  · refine .seq ((.region (.v (.move rfl) (.v (.move rfl) (.v (.eqi rfl rfl) (.v (.assign rfl) (.nil ?_)))))))
    have : z.evs.take i = z.evs := List.take_of_length_le (by omega)
    exact .ret ⟨[_], ⟨rfl, trivial⟩, by rw [this]; rfl⟩
end Go.Proofs.Ytcbppikkoelimaa

/- tell and rests in terms of books; (*teller).comes. -/
namespace Go.Proofs.Ytcbppikkoelimaa
open Go.V
set_option linter.unusedVariables false
set_option linter.unusedSimpArgs false

theorem tellB_ok (w : World) (t b : Nat) (B : Bk) (evs : List Ev) (e : Ev) (v1 v2 ve : Value) (k1 k2 ke : Hp) (h1 : Side v1 B.bs k1) (h2 : Side v2 B.ss k2) (hE : Evs ve evs ke) (hn : evs.length + 1 ≤ 1000000000000) :
    Does Try.prog 31 [.pointer (some ⟨t, 0, none⟩), .agg ⟨e.cells⟩] (TBh t b B v1 v2 ve k1 k2 ke) w (fun _ hs => TB t b (B.num (nx B.seq)) (evs ++ [e.num (nx B.seq)]) hs) := by
  refine (Does.lendT (Tt t b ve :: Tb b (Bc B v1 v2) :: ke) (tell_ok w t b _ _ _ _ _ B.seq e evs ve ke hE hn)).keepT ?_
  rintro _ _ ⟨_, ⟨ve', ke', rfl, hE'⟩, rfl⟩
  have hp : ((Tt t b ve' :: Tb b (Bc (B.num (nx B.seq)) v1 v2) :: ke') ++ (k1 ++ (k2 ++ []))).Perm (TBh t b (B.num (nx B.seq)) v1 v2 ve' k1 k2 ke' ++ []) := TakeI.out
  exact ⟨TBh t b (B.num (nx B.seq)) v1 v2 ve' k1 k2 ke', [], hp, v1, v2, ve', k1, k2, ke', rfl, h1, h2, hE'⟩
theorem restB_ok (w : World) (b : Nat) (B : Bk) (s : Int) (hs : s = 1 ∨ s = 2) (o : Ord) (v1 v2 : Value) (k1 k2 : Hp) (h1 : Side v1 B.bs k1) (h2 : Side v2 B.ss k2) (hn1 : B.bs.length ≤ 1000000) (hn2 : B.ss.length ≤ 1000000) :
    Does Try.prog 58 [.pointer (some ⟨b, 0, none⟩), .int .i64 s, .agg ⟨o.cells⟩] (Tb b (Bc B v1 v2) :: (k1 ++ k2)) w (fun _ hs => BkH b (B.put s (rst s o (B.side s))) hs) := by
  rcases hs with rfl | rfl
  · refine (Does.lendT (Tb b (Bc B v1 v2) :: k1) (rests_ok w b 2 1 (by omega) (Bc B v1 v2) rfl o B.bs _ k1 rfl h1 (by omega))).keepT ?_
    rintro _ _ ⟨_, ⟨v, k', rfl, h'⟩, rfl⟩
    have e : B.put 1 (rst 1 o (B.side 1)) = ⟨B.cap, B.meet, rst 1 o B.bs, B.ss, B.high, B.seq⟩ := rfl
    have hp : ((Tb b (Bc ⟨B.cap, B.meet, rst 1 o B.bs, B.ss, B.high, B.seq⟩ v v2) :: k') ++ k2).Perm ((Tb b (Bc ⟨B.cap, B.meet, rst 1 o B.bs, B.ss, B.high, B.seq⟩ v v2) :: (k' ++ k2)) ++ []) := TakeI.out
    exact ⟨Tb b (Bc ⟨B.cap, B.meet, rst 1 o B.bs, B.ss, B.high, B.seq⟩ v v2) :: (k' ++ k2), [], hp, v, v2, k', k2, rfl, h', h2⟩
  · refine (Does.lendT (Tb b (Bc B v1 v2) :: k2) (rests_ok w b 3 2 (by omega) (Bc B v1 v2) rfl o B.ss _ k2 rfl h2 (by omega))).keepT ?_
    rintro _ _ ⟨_, ⟨v, k', rfl, h'⟩, rfl⟩
    have e : B.put 2 (rst 2 o (B.side 2)) = ⟨B.cap, B.meet, B.bs, rst 2 o B.ss, B.high, B.seq⟩ := rfl
    have hp : ((Tb b (Bc ⟨B.cap, B.meet, B.bs, rst 2 o B.ss, B.high, B.seq⟩ v1 v) :: k') ++ (k1 ++ [])).Perm ((Tb b (Bc ⟨B.cap, B.meet, B.bs, rst 2 o B.ss, B.high, B.seq⟩ v1 v) :: (k1 ++ k')) ++ []) := TakeI.out
    exact ⟨Tb b (Bc ⟨B.cap, B.meet, B.bs, rst 2 o B.ss, B.high, B.seq⟩ v1 v) :: (k1 ++ k'), [], hp, v1, v, k1, k', rfl, h1, h'⟩
/-- the order that rests: what it shows, what it hides -/
def restOf (o : Ord) (left : Int) : Ord := ⟨o.id, o.mb, o.ty, o.pr, if 0 < o.pk then min o.pk left else left, left - (if 0 < o.pk then min o.pk left else left), o.pk⟩
def Bk.comes (B : Bk) (evs : List Ev) (t : Tk) : Bk × List Ev :=
  if t.kind = 4 ∧ tsum (tr B.meet t (B.ts [] t)).evs ≠ t.left then (B.num (nx B.seq), evs ++ [(evCancel t.o.id t.left 4).num (nx B.seq)])
  else
    let z := tr B.meet t (B.ts evs t)
    let B1 := B.traded t z
    if z.left = 0 then (B1, z.evs)
    else if t.kind ≠ 1 ∧ t.kind ≠ 5 then (B1.num (nx B1.seq), z.evs ++ [(evCancel t.o.id z.left 3).num (nx B1.seq)])
    else (B1.put t.side (rst t.side (restOf t.o z.left) (B1.side t.side)), z.evs)
set_option maxRecDepth 10000 in
theorem comes_ok (w : World) (t b : Nat) (B : Bk) (evs : List Ev) (tk : Tk) (hs : tk.side = 1 ∨ tk.side = 2) (v1 v2 ve : Value) (k1 k2 ke : Hp) (h1 : Side v1 B.bs k1) (h2 : Side v2 B.ss k2) (hE : Evs ve evs ke) (hOk : (B.ts evs tk).Ok) (hpk : U tk.o.pk)
    (hn1 : B.bs.length ≤ 500000) (hn2 : B.ss.length ≤ 500000) (he : evs.length ≤ 1000000) :
    Does Try.prog 34 [.pointer (some ⟨t, 0, none⟩), .agg ⟨tk.cells⟩] (TBh t b B v1 v2 ve k1 k2 ke) w (fun _ hs => TB t b (B.comes evs tk).1 (B.comes evs tk).2 hs) := by
  have hOk0 : (B.ts [] tk).Ok := ⟨hOk.good, hOk.lo, hOk.hi⟩
  have hnn : (B.ts evs tk).L.length ≤ 1000000 := by
    unfold Bk.ts Bk.side; simp only
    split <;> omega
  obtain ⟨A1, c1, rfl⟩ := OwnS.sl h1
  obtain ⟨A2, c2, rfl⟩ := OwnS.sl h2
  refine Does.less (Does.of (n := 75) Try.func34 rfl rfl rfl rfl ?_)
  refine .seq ((.region (.nw (.box (l := [.int .u64 tk.o.id, .int .u32 tk.o.mb, .int .i64 tk.o.ty, .int .i64 tk.o.pr, .int .u64 tk.o.v, .int .u64 tk.o.hd, .int .u64 tk.o.pk, .int .i64 tk.side, .int .i64 tk.kind, .int .u64 tk.left]) rfl rfl) fun b3 => (.nil ?_))))
  refine .seq (.seq ((.region (.v (.fieldAddr rfl) (.v (.load (v := .int .i64 tk.kind) rfl (.one rfl)) (.v (.eqi rfl rfl) (.v (.move rfl) (.and 7 11 4 4 rfl rfl (fun g1 => .v (.move rfl) (.v (.loadA (vs := tk.cells) rfl .whole rfl) (.pc rfl rfl (fun w s => whole_ok w t b B tk hs ve A1 A2 c1 c2 (Rd.chunk s (T := 92) (l := [.pointer (some ⟨b, 0, none⟩), ve]) (by simp) (fun j v hv => by rw [Nat.zero_add]; exact hv)) (Rd.chunk s (T := 89) (l := Bc B (.slice A1 B.bs.length c1) (.slice A2 B.ss.length c2)) (by simp) (fun j v hv => by rw [Nat.zero_add]; exact hv)) (OwnS.rd h1 s (no := []) (fun p hp => by simp [hp]) (by simp)) (OwnS.rd h2 s (no := []) (fun p hp => by simp [hp]) (by simp)) hOk0 (by omega) (by omega)) (.v (.not rfl) (.nil ⟨rfl, rfl, rfl, rfl⟩))))) (.nil ?_)))))))))
  refine .cond rfl (fun g1 => ?_) (fun g1 => .skip ?_)
  · have g1' : tk.kind = 4 ∧ tsum (tr B.meet tk (B.ts [] tk)).evs ≠ tk.left := by simpa using g1
    have eC : B.comes evs tk = (B.num (nx B.seq), evs ++ [(evCancel tk.o.id tk.left 4).num (nx B.seq)]) := by unfold Bk.comes; rw [if_pos g1']
    refine .seq ((.region (.v (.move rfl) (.v (.fieldAddr rfl) (.v (.fieldAddr rfl) (.v (.load (v := .int .u64 tk.o.id) rfl (.one rfl)) (.v (.fieldAddr rfl) (.v (.load (v := .int .u64 tk.left) rfl (.one rfl)) (.v (.build (out := (evCancel tk.o.id tk.left 4).cells) rfl rfl) ?_)))))))))
    refine .ef (.callT (TBh t b B (.slice A1 B.bs.length c1) (.slice A2 B.ss.length c2) ve k1 k2 ke) rfl rfl (fun w' s' => tellB_ok w' t b B evs (evCancel tk.o.id tk.left 4) _ _ ve k1 k2 ke h1 h2 hE (by omega))) ?_
    rintro _ _ ⟨_, ⟨v1', v2', ve', k1', k2', ke', rfl, h1', h2', hE'⟩, rfl⟩
    refine .nil (.ret ⟨[], trivial, _, fun _ s => Sat.take (pre := TBh t b (B.num (nx B.seq)) v1' v2' ve' k1' k2' ke') s, ?_⟩)
    rw [eC]
    exact ⟨v1', v2', ve', k1', k2', ke', rfl, h1', h2', hE'⟩
  have g1' : ¬ (tk.kind = 4 ∧ tsum (tr B.meet tk (B.ts [] tk)).evs ≠ tk.left) := by
    rintro ⟨a, c⟩
    simp [a, c] at g1
  refine .seq ((.region (.v (.move rfl) ?_)))
  refine .ef (.callT (To b3 tk tk.left :: TBh t b B (.slice A1 B.bs.length c1) (.slice A2 B.ss.length c2) ve k1 k2 ke) rfl rfl (fun w' s' => trade_ok w' t b b3 B evs tk hs _ _ ve k1 k2 ke h1 h2 hE hOk hnn (by omega))) ?_
  rintro _ _ ⟨_, ⟨h, rfl, ⟨v1', v2', ve', k1', k2', ke', rfl, h1', h2', hE'⟩⟩, rfl⟩
  obtain ⟨zok, zlen, zev, zl⟩ := (tr_run (meet := B.meet) (t := tk) hOk).ok hOk
  have hmu := mu_le hOk
  have eC0 : B.comes evs tk = (if (tr B.meet tk (B.ts evs tk)).left = 0 then (B.traded tk (tr B.meet tk (B.ts evs tk)), (tr B.meet tk (B.ts evs tk)).evs)
      else if tk.kind ≠ 1 ∧ tk.kind ≠ 5 then ((B.traded tk (tr B.meet tk (B.ts evs tk))).num (nx (B.traded tk (tr B.meet tk (B.ts evs tk))).seq), (tr B.meet tk (B.ts evs tk)).evs ++ [(evCancel tk.o.id (tr B.meet tk (B.ts evs tk)).left 3).num (nx (B.traded tk (tr B.meet tk (B.ts evs tk))).seq)])
      else ((B.traded tk (tr B.meet tk (B.ts evs tk))).put tk.side (rst tk.side (restOf tk.o (tr B.meet tk (B.ts evs tk)).left) ((B.traded tk (tr B.meet tk (B.ts evs tk))).side tk.side)), (tr B.meet tk (B.ts evs tk)).evs)) := by
    unfold Bk.comes; rw [if_neg g1']
  rw [eC0]
  have hL : ∀ z : TS, z.L.length ≤ (B.ts evs tk).L.length → (B.traded tk z).bs.length ≤ 1000000 ∧ (B.traded tk z).ss.length ≤ 1000000 := fun z hz => by
    unfold Bk.traded Bk.put Bk.num
    split <;> simp <;> omega
  have hL2 := hL _ zlen
  have hev0 : (B.ts evs tk).evs.length = evs.length := rfl
  generalize tr B.meet tk (B.ts evs tk) = z at *
  have ezlo := zok.lo
  have ezhi := zok.hi
  generalize B.traded tk z = B1 at *
  refine .nil ?_
  refine .keep (To b3 tk z.left :: TBh t b B1 v1' v2' ve' k1' k2' ke') ?_
  refine .seq (.seq ((.region (.v (.fieldAddr rfl) (.v (.load (v := .int .u64 z.left) rfl (.one rfl)) (.v (.eqi rfl rfl) (.nil ?_)))))))
  refine .cond_dec rfl (fun g2 => ?_) (fun g2 => .skip ?_)
  · rw [if_pos g2]
    exact .ret ⟨[], trivial, _, fun _ s => Sat.take (pre := TBh t b B1 v1' v2' ve' k1' k2' ke') s, v1', v2', ve', k1', k2', ke', rfl, h1', h2', hE'⟩
  rw [if_neg g2]
  refine .seq (.seq ((.region (.v (.fieldAddr rfl) (.v (.load (v := .int .i64 tk.kind) rfl (.one rfl)) (.v (.nei rfl rfl) (.v (.move rfl) (.and 29 32 3 3 rfl rfl (fun g2 => .v (.fieldAddr rfl) (.v (.load (v := .int .i64 tk.kind) rfl (.one rfl)) (.v (.nei rfl rfl) (.nil ⟨rfl, rfl, rfl, rfl⟩)))) (.nil ?_)))))))))
  refine .cond rfl (fun g3 => ?_) (fun g3 => .skip ?_) <;> simp only [Bool.and_eq_true, Bool.or_eq_true, Bool.not_eq_true', Bool.and_eq_false_iff, Bool.or_eq_false_iff, Bool.not_eq_false', decide_eq_true_eq, decide_eq_false_iff_not, Bool.false_eq_true, false_iff] at g3
  · rw [if_pos g3]
    refine .seq ((.region (.v (.move rfl) (.v (.fieldAddr rfl) (.v (.fieldAddr rfl) (.v (.load (v := .int .u64 tk.o.id) rfl (.one rfl)) (.v (.fieldAddr rfl) (.v (.load (v := .int .u64 z.left) rfl (.one rfl)) (.v (.build (out := (evCancel tk.o.id z.left 3).cells) rfl rfl) ?_)))))))))
    refine .ef (.callT (TBh t b B1 v1' v2' ve' k1' k2' ke') rfl rfl (fun w' s' => tellB_ok w' t b B1 z.evs (evCancel tk.o.id z.left 3) _ _ ve' k1' k2' ke' h1' h2' hE' (by omega))) ?_
    rintro _ _ ⟨_, ⟨v1x, v2x, vex, k1x, k2x, kex, rfl, h1x, h2x, hEx⟩, rfl⟩
    exact .nil (.ret ⟨[], trivial, _, fun _ s => Sat.take (pre := TBh t b (B1.num (nx B1.seq)) v1x v2x vex k1x k2x kex) s, v1x, v2x, vex, k1x, k2x, kex, rfl, h1x, h2x, hEx⟩)
  rw [if_neg (by omega)]
  obtain ⟨lv, hlv⟩ : ∃ lv, (if 0 < tk.o.pk then min tk.o.pk z.left else z.left) = lv := ⟨_, rfl⟩
  have hU := hpk
  unfold U at hU
  have hlv2 : 0 ≤ z.left - lv ∧ z.left - lv ≤ 18446744073709551615 := by
    rw [← hlv]
    split <;> omega
  have er : restOf tk.o z.left = ⟨tk.o.id, tk.o.mb, tk.o.ty, tk.o.pr, lv, z.left - lv, tk.o.pk⟩ := by unfold restOf; rw [hlv]
  rw [er]
  refine .seq ((.region (.v (.fieldAddr rfl) (.v (.load (v := .int .u64 z.left) rfl (.one rfl)) (.v (.fieldAddr rfl) (.v (.fieldAddr rfl) (.st (.storeL rfl rfl rfl) (.nil ?_))))))))
  refine .mid (X := Unit) (fun _ => [(0, .pointer (some ⟨t, 0, none⟩)), (3, .pointer (some ⟨b3, 0, none⟩))]) (fun _ => To b3 ⟨⟨tk.o.id, tk.o.mb, tk.o.ty, tk.o.pr, lv, tk.o.hd, tk.o.pk⟩, tk.side, tk.kind, tk.left⟩ z.left :: TBh t b B1 v1' v2' ve' k1' k2' ke') (fun _ => True)
    (.seq ((.region (.v (.fieldAddr rfl) (.v (.fieldAddr rfl) (.v (.load (v := .int .u64 tk.o.pk) rfl (.one rfl)) (.v (.gtr rfl rfl) (.nil ?_)))))))) ?_
  · refine .cond_dec rfl (fun g4 => ?_) (fun g4 => .skip ?_)
    · refine .region (.v (.fieldAddr rfl) (.v (.fieldAddr rfl) (.v (.load (v := .int .u64 tk.o.pk) rfl (.one rfl)) (.v (.fieldAddr rfl) (.v (.load (v := .int .u64 z.left) rfl (.one rfl)) (.v (.min2 rfl rfl) (.v (.fieldAddr rfl) (.v (.fieldAddr rfl) (.st (.storeL rfl rfl rfl) (.nil ?_))))))))))
      have e : min tk.o.pk z.left = lv := by rw [← hlv, if_pos g4]
      rw [e]
      exact ⟨(), trivial, .cons rfl (.cons rfl (.nil _)), fun _ s => s⟩
    · have e : z.left = lv := by rw [← hlv, if_neg g4]
      refine ⟨(), trivial, .cons rfl (.cons rfl (.nil _)), fun _ s => ?_⟩
      rw [← e]
      exact s
  · rintro _ _
    refine .seq ((.region (.v (.fieldAddr rfl) (.v (.load (v := .int .u64 z.left) rfl (.one rfl)) (.v (.fieldAddr rfl) (.v (.fieldAddr rfl) (.v (.load (v := .int .u64 lv) rfl (.one rfl)) (.v (.subU (z.left - lv) rfl rfl rfl hlv2) (.v (.fieldAddr rfl) (.v (.fieldAddr rfl) (.st (.storeL rfl rfl rfl) (.nil ?_))))))))))))
    refine (.drawK [Tt t b ve', (b3, Ch.cells [.int .u64 tk.o.id, .int .u32 tk.o.mb, .int .i64 tk.o.ty, .int .i64 tk.o.pr, .int .u64 lv, .int .u64 (z.left - lv), .int .u64 tk.o.pk, .int .i64 tk.side, .int .i64 tk.kind, .int .u64 z.left] 104)] (by intro p hp; simp at hp ⊢; rcases hp with rfl | rfl <;> simp) (by kernel_rfl) (by kernel_rfl) ?_)
    refine .v (fun _ f => .move rfl) (.v (fun _ f => .nilCheck rfl) (.v (fun _ f => .fieldAddr rfl) (.v (fun _ f => .load (v := .pointer (some ⟨b, 0, none⟩)) rfl (.one (hb := .sub f) rfl)) (.v (fun _ f => .fieldAddr rfl) (.v (fun _ f => .load (v := .int .i64 tk.side) rfl (.one (hb := .sub f) rfl)) (.v (fun _ f => .fieldAddr rfl) (.v (fun _ f => .loadA (vs := [.int .u64 tk.o.id, .int .u32 tk.o.mb, .int .i64 tk.o.ty, .int .i64 tk.o.pr, .int .u64 lv, .int .u64 (z.left - lv), .int .u64 tk.o.pk]) rfl (.chunk (hb := .sub f) (fun j v hv => ?_)) rfl) ?_)))))))
    · match j, hv with
      | 0, hv => exact hv
      | 1, hv => exact hv
      | 2, hv => exact hv
      | 3, hv => exact hv
      | 4, hv => exact hv
      | 5, hv => exact hv
      | 6, hv => exact hv
      | _ + 7, hv => cases hv
    refine .ef (.callT (Tb b (Bc B1 v1' v2') :: (k1' ++ k2')) rfl rfl (fun w' s' => restB_ok w' b B1 tk.side hs ⟨tk.o.id, tk.o.mb, tk.o.ty, tk.o.pr, lv, z.left - lv, tk.o.pk⟩ _ _ k1' k2' h1' h2' hL2.1 hL2.2)) (fun _ _ ⟨_, _, e⟩ _ => by subst e; intro p hp; simp at hp ⊢; rcases hp with rfl | rfl <;> simp) ?_
    rintro _ _ ⟨_, ⟨v1x, v2x, k1x, k2x, rfl, h1x, h2x⟩, rfl⟩
    exact .nil ⟨[], trivial, _, fun _ s => Sat.take (pre := TBh t b (B1.put tk.side (rst tk.side ⟨tk.o.id, tk.o.mb, tk.o.ty, tk.o.pr, lv, z.left - lv, tk.o.pk⟩ (B1.side tk.side))) v1x v2x ve' k1x k2x ke') s, v1x, v2x, ve', k1x, k2x, ke', rfl, h1x, h2x, hE'⟩
end Go.Proofs.Ytcbppikkoelimaa

/- (*Book).Do: what it does. -/
namespace Go.Proofs.Ytcbppikkoelimaa
open Go.V
set_option linter.unusedVariables false
set_option linter.unusedSimpArgs false

def evReject (id target code : Int) : Ev := ⟨0, 2, id, 0, target, 0, 0, 0, 0, 0, 0, 0, code⟩
def evAck (t : Tk) : Ev := ⟨0, 1, t.o.id, 0, 0, t.o.mb, t.side, t.kind, t.o.pr, t.left, t.o.pk, 0, 0⟩
def Bk.top (B : Bk) (h : Int) : Bk := ⟨B.cap, B.meet, B.bs, B.ss, h, B.seq⟩
/-- where the order that a command speaks of stands; the order -/
def Bk.at_ (B : Bk) (c : Cm) : Int × Int × Bool := plc c.tg B.bs B.ss
def Bk.tgt (B : Bk) (c : Cm) : Option Ord := if (B.at_ c).2.2 then (B.side (B.at_ c).1)[(B.at_ c).2.1.toNat]? else none
def Bk.why (B : Bk) (c : Cm) : Int := rfs B.cap B.high B.bs B.ss c (B.tgt c) (B.at_ c).1
/-- the order that a command speaks of goes -/
def Bk.goes (B : Bk) (c : Cm) : Bk := if c.k ≠ 1 then (B.put (B.at_ c).1 ((B.side (B.at_ c).1).eraseIdx (B.at_ c).2.1.toNat)).num (nx B.seq) else B
def Bk.gone (B : Bk) (c : Cm) : List Ev := if c.k ≠ 1 then (match B.tgt c with | some o => [(evCancel c.tg (o.v + o.hd) (if c.k = 3 then 2 else 1)).num (nx B.seq)] | none => []) else []
def Bk.does (B : Bk) (c : Cm) : Bk × List Ev :=
  if B.why c ≠ 0 then (B.num (nx B.seq), [(evReject (if c.k = 2 then 0 else c.id) (if c.k = 1 then 0 else c.tg) (B.why c)).num (nx B.seq)])
  else if c.k ≠ 2 then Bk.comes (((B.goes c).num (nx (B.goes c).seq)).top (cmg c (B.tgt c) (B.at_ c).1).o.id) (B.gone c ++ [(evAck (cmg c (B.tgt c) (B.at_ c).1)).num (nx (B.goes c).seq)]) (cmg c (B.tgt c) (B.at_ c).1)
  else (B.goes c, B.gone c)
theorem at_spec (B : Bk) (c : Cm) : (B.at_ c = (0, 0, false) ∧ B.tgt c = none ∧ (∀ o ∈ B.bs ++ B.ss, o.id ≠ c.tg)) ∨
    ∃ s : Int, (s = 1 ∨ s = 2) ∧ ∃ i, ∃ hi : i < (B.side s).length, B.at_ c = (s, (i : Int), true) ∧ B.tgt c = some (B.side s)[i] ∧ (B.side s)[i].id = c.tg := by
  have hsome : ∀ (s : Int) (i : Nat) (hi : i < (B.side s).length), B.at_ c = (s, (i : Int), true) → B.tgt c = some (B.side s)[i] := fun s i hi h => by
    unfold Bk.tgt; rw [h]; simp [hi]
  rcases idx_spec c.tg B.bs with ⟨h1, n1⟩ | ⟨i, hi, h1, h2, h3⟩
  · rcases idx_spec c.tg B.ss with ⟨h2, n2⟩ | ⟨i, hi, h2, h3, h4⟩
    · refine .inl ⟨?_, ?_, fun o ho => ?_⟩
      · unfold Bk.at_ plc; rw [h1, h2]; rfl
      · have : B.at_ c = (0, 0, false) := by unfold Bk.at_ plc; rw [h1, h2]; rfl
        unfold Bk.tgt; rw [this]; rfl
      · rcases List.mem_append.1 ho with ho | ho
        · obtain ⟨m, hm, rfl⟩ := List.mem_iff_getElem.1 ho; exact n1 m hm
        · obtain ⟨m, hm, rfl⟩ := List.mem_iff_getElem.1 ho; exact n2 m hm
    · have e : B.at_ c = (2, (i : Int), true) := by unfold Bk.at_ plc; rw [h1, h2, if_neg (by omega), if_pos (by omega)]
      exact .inr ⟨2, .inr rfl, i, hi, e, hsome 2 i hi e, h3⟩
  · have e : B.at_ c = (1, (i : Int), true) := by unfold Bk.at_ plc; rw [h1, if_pos (by omega)]
    exact .inr ⟨1, .inl rfl, i, hi, e, hsome 1 i hi e, h2⟩
/-- the order that a command speaks of, in a block of its own -/
def TgH (tp : Option Addr) (h : Hp) : Option Ord → Prop
  | none => tp = none ∧ h = []
  | some o => ∃ bt, tp = some ⟨bt, 0, none⟩ ∧ h = [(bt, .cells o.cells 97)]
theorem TgH.rd {w0 w : World} {own : List Nat} {hs h : Hp} {tp : Option Addr} {tg : Option Ord} (k : TgH tp h tg) (s : Sat w0 own hs w) (hh : h ⊆ hs) : TgR w [] tp tg := by
  cases tg with
  | none => exact k.1
  | some o =>
    obtain ⟨bt, rfl, rfl⟩ := k
    refine ⟨bt, rfl, fun j v hv => ⟨bt, 0, rfl, by simp, ?_⟩⟩
    rw [s.cell (hh List.mem_cons_self), Nat.zero_add]; exact hv
theorem rows_erase (l : List Ord) (i : Nat) : (rows l).take (i * 7) ++ (rows l).drop ((i + 1) * 7) = rows (l.eraseIdx i) := by
  rw [rows_take, rows_drop, ← rows_app, List.eraseIdx_eq_take_drop_succ]
/-- a book whose orders are good, and that is not too great -/
structure Bk.Ok (B : Bk) : Prop where
  good : ∀ o ∈ B.bs ++ B.ss, o.G
  len : B.bs.length + B.ss.length ≤ 100000
theorem Bk.side_sub (B : Bk) (s : Int) : ∀ o ∈ B.side s, o ∈ B.bs ++ B.ss := fun o ho => by
  unfold Bk.side at ho
  split at ho <;> simp [ho]
theorem Bk.put_mem {B : Bk} {s : Int} {l : List Ord} {o : Ord} (h : o ∈ (B.put s l).bs ++ (B.put s l).ss) : o ∈ l ∨ o ∈ B.bs ++ B.ss := by
  unfold Bk.put at h
  split at h <;> simp at h ⊢ <;> rcases h with h | h <;> simp [h]
theorem Bk.goes_mem {B : Bk} {c : Cm} {o : Ord} (h : o ∈ (B.goes c).bs ++ (B.goes c).ss) : o ∈ B.bs ++ B.ss := by
  unfold Bk.goes at h
  split at h
  · rcases Bk.put_mem h with h | h
    · exact B.side_sub _ _ (List.mem_of_mem_eraseIdx h)
    · exact h
  · exact h
theorem Bk.goes_len (B : Bk) (c : Cm) : (B.goes c).bs.length ≤ B.bs.length ∧ (B.goes c).ss.length ≤ B.ss.length := by
  unfold Bk.goes
  split
  · unfold Bk.put Bk.num Bk.side
    split
    · exact ⟨List.length_eraseIdx_le .., Nat.le_refl _⟩
    · exact ⟨Nat.le_refl _, List.length_eraseIdx_le ..⟩
  · exact ⟨Nat.le_refl _, Nat.le_refl _⟩
theorem cmg_facts {c : Cm} {tg : Option Ord} {side : Int} : (cmg c tg side).left = c.q ∧ (cmg c tg side).o.pk = c.pk ∧ (cmg c tg side).o.id = c.id ∧ (cmg c tg side).o.pr = c.pr := by
  unfold cmg
  cases tg with
  | none => exact ⟨rfl, rfl, rfl, rfl⟩
  | some o => simp only; split <;> exact ⟨rfl, rfl, rfl, rfl⟩
theorem cmg_side {c : Cm} {tg : Option Ord} {side : Int} (h0 : c.chk = 0) (h2 : c.k ≠ 2) (h3 : c.k = 3 → tg ≠ none) (hs : tg ≠ none → side = 1 ∨ side = 2) : (cmg c tg side).side = 1 ∨ (cmg c tg side).side = 2 := by
  have hk := chk_kinds (c := c) (by rw [h0]; decide)
  unfold cmg
  cases tg with
  | none =>
    refine chk_side h0 ?_
    rcases hk with h | h | h
    · exact h
    · exact absurd h h2
    · exact absurd rfl (h3 h)
  | some o =>
    simp only
    split
    · exact hs (by simp)
    · rename_i hk'
      refine chk_side h0 ?_
      rcases hk with h | h | h
      · exact h
      · exact absurd h h2
      · exact absurd h hk'
theorem rfs_zero {cap high : Int} {bs ss : List Ord} {c : Cm} {tg : Option Ord} {side : Int} (h : rfs cap high bs ss c tg side = 0) : (c.k ≠ 1 → tg ≠ none) ∧ c.chk = 0 ∧ (c.k ≠ 2 → high < c.id) ∧
    (c.k = 1 → (cmg c tg side).kind = 1 ∨ (cmg c tg side).kind = 5 → (bs.length : Int) + ss.length < cap) ∧ (c.k ≠ 2 → (cmg c tg side).kind = 5 → headReach (cmg c tg side).side (cmg c tg side).kind (cmg c tg side).o.pr (if (cmg c tg side).side = 1 then ss else bs) = false) := by
  unfold rfs at h
  by_cases h1 : c.chk = 90
  · rw [if_pos h1] at h; omega
  rw [if_neg h1] at h
  by_cases h2 : c.k ≠ 1 ∧ tg = none
  · rw [if_pos h2] at h; omega
  rw [if_neg h2] at h
  by_cases h3 : c.chk ≠ 0
  · rw [if_pos h3] at h; omega
  rw [if_neg h3] at h
  by_cases h4 : c.k = 2
  · exact ⟨fun a b => h2 ⟨a, b⟩, by omega, fun a => absurd h4 a, fun a => by omega, fun a => absurd h4 a⟩
  rw [if_neg h4] at h
  by_cases h5 : c.id ≤ high
  · rw [if_pos h5] at h; omega
  rw [if_neg h5] at h
  by_cases h6 : c.k = 1 ∧ ((cmg c tg side).kind = 1 ∨ (cmg c tg side).kind = 5) ∧ cap ≤ bs.length + ss.length
  · rw [if_pos h6] at h; omega
  rw [if_neg h6] at h
  by_cases h7 : (cmg c tg side).kind = 5 ∧ headReach (cmg c tg side).side (cmg c tg side).kind (cmg c tg side).o.pr (if (cmg c tg side).side = 1 then ss else bs) = true
  · rw [if_pos h7] at h; omega
  refine ⟨fun a b => h2 ⟨a, b⟩, by omega, fun _ => by omega, fun a b => ?_, fun _ a => ?_⟩
  · rcases Int.lt_or_le ((bs.length : Int) + ss.length) cap with hh | hh
    · exact hh
    · exact absurd ⟨a, b, hh⟩ h6
  · rw [Bool.eq_false_iff]; exact fun b => h7 ⟨a, b⟩
end Go.Proofs.Ytcbppikkoelimaa

/- (*Book).Do: its walk. -/
namespace Go.Proofs.Ytcbppikkoelimaa
open Go.V
set_option linter.unusedVariables false
set_option linter.unusedSimpArgs false

structure MS where
  v1 : Value
  v2 : Value
  ve : Value
  k1 : Hp
  k2 : Hp
  ke : Hp
abbrev MS.H (m : MS) (t b : Nat) (B : Bk) : Hp := TBh t b B m.v1 m.v2 m.ve m.k1 m.k2 m.ke
def MS.I (m : MS) (B : Bk) (evs : List Ev) : Prop := Side m.v1 B.bs m.k1 ∧ Side m.v2 B.ss m.k2 ∧ Evs m.ve evs m.ke
theorem gone_len (B : Bk) (c : Cm) : (B.gone c).length ≤ 1 := by
  unfold Bk.gone
  split
  · cases B.tgt c <;> simp
  · simp
set_option maxRecDepth 20000 in
set_option maxHeartbeats 1000000 in
theorem do_ok (w : World) (b : Nat) (B : Bk) (hOk : B.Ok) (c : Cm) (hq : U c.q) (hpk : U c.pk) (v1 v2 : Value) (k1 k2 : Hp) (h1 : Side v1 B.bs k1) (h2 : Side v2 B.ss k2) :
    Does Try.prog 16 [.pointer (some ⟨b, 0, none⟩), .agg ⟨c.cells⟩] (Tb b (Bc B v1 v2) :: (k1 ++ k2)) w
      (fun v hs => ∃ h ke, hs = h ++ ke ∧ BkH b (B.does c).1 h ∧ Evs v (B.does c).2 ke) := by
  have hlen := hOk.len
  obtain ⟨A1, c1, rfl⟩ := OwnS.sl h1
  obtain ⟨A2, c2, rfl⟩ := OwnS.sl h2
  have hsp := at_spec B c
  have hside : B.tgt c ≠ none → (B.at_ c).1 = 1 ∨ (B.at_ c).1 = 2 := by
    intro hne
    rcases hsp with ⟨_, h, _⟩ | ⟨s, hs, i, hi, e, _, _⟩
    · exact absurd h hne
    · rw [e]; exact hs
  refine Does.less (Does.of (n := 139) Try.func16 rfl rfl rfl rfl ?_)
  refine .seq ((.region (.nw (.box (l := c.cells) rfl rfl) fun b3 => (.v (.assign rfl) (.nil ?_)))))
  refine .seq ((.region (.v (.move rfl) (.v (.build (out := [.pointer (some ⟨b, 0, none⟩), .slice none 0 0]) rfl rfl) (.nw (.box (l := [.pointer (some ⟨b, 0, none⟩), .slice none 0 0]) rfl rfl) fun t => (.v (.assign rfl) (.nil ?_)))))))
  refine .seq ((.region (.v (.assign rfl) (.nil ?_))))
  refine .keep ((b3, Ch.cells c.cells 58) :: TBh t b B (.slice A1 B.bs.length c1) (.slice A2 B.ss.length c2) (.slice none 0 0) k1 k2 []) ?_
  refine .seq ((.region (.v (.move rfl) (.v (.fieldAddr rfl) (.v (.load (v := .int .u64 c.tg) rfl (.one rfl)) (.pc (v := plcV (B.at_ c)) rfl rfl (fun w s => place_ok w b B.cap B.meet B.high B.seq c.tg A1 A2 c1 c2 B.bs B.ss (Rd.chunk s (T := 89) (l := Bc B (.slice A1 B.bs.length c1) (.slice A2 B.ss.length c2)) (by simp) (fun j v hv => by rw [Nat.zero_add]; exact hv)) (OwnS.rd h1 s (no := []) (fun p hp => by simp [hp]) (by simp)) (OwnS.rd h2 s (no := []) (fun p hp => by simp [hp]) (by simp)) (by omega) (by omega)) (.v (.move rfl) (.v (.extract rfl rfl) (.v (.extract rfl rfl) (.v (.extract rfl rfl) (.v (.assign rfl) (.v (.assign rfl) (.v (.assign rfl) (.nil ?_))))))))))))))
  -- the order that is spoken of
  refine .mid (X := Option Addr × Hp) (fun x => [(0, .pointer (some ⟨b, 0, none⟩)), (3, .pointer (some ⟨b3, 0, none⟩)), (5, .pointer (some ⟨t, 0, none⟩)), (6, .pointer x.1), (7, .int .i64 (B.at_ c).1), (8, .int .i64 (B.at_ c).2.1)])
    (fun x => x.2 ++ ((b3, Ch.cells c.cells 58) :: TBh t b B (.slice A1 B.bs.length c1) (.slice A2 B.ss.length c2) (.slice none 0 0) k1 k2 [])) (fun x => TgH x.1 x.2 (B.tgt c)) (.seq ((.region (.v (.move rfl) (.nil ?_))))) ?_
  · refine .cond rfl (fun g1 => ?_) (fun g1 => .skip ?_)
    · rcases hsp with ⟨e, _, _⟩ | ⟨s, hs, i, hi, e, htg, hid⟩
      · rw [e] at g1; cases g1
      rw [e]
      rcases hs with rfl | rfl
      · have hi' : i < B.bs.length := hi
        have htg' : B.tgt c = some B.bs[i] := htg
        obtain ⟨bk, ok, lk, rfl, -, rfl, -, -, -⟩ := h1.some_ (by omega)
        generalize ho : B.bs[i] = o at htg'
        have hat : ∀ own hs', [(bk, Ch.cells lk 97)] ⊆ hs' → At w own hs' ⟨bk, ok + i * 7, none⟩ o.cells := fun own hs' hh => h1.atN hh (fun j v hv => by
          have h7 := (List.getElem?_eq_some_iff.1 hv).1
          rw [rows_get B.bs i j hi' (by simpa [Ord.cells, rcells] using h7), ho]; exact hv)
        refine .seq ((.region (.v (.move rfl) (.v (.move rfl) (.pc (v := .pointer (some ⟨b, 2, none⟩)) rfl rfl (fun w' _ => side_ok w' b 1) (.v (.nilCheck rfl) (.v (.load (v := .slice (some ⟨bk, ok, none⟩) B.bs.length c1) rfl (.one rfl)) (.v (.move rfl) (.v (.indexAddr (i := (i : Int)) rfl rfl (by omega) (by omega)) (.v (.loadA (vs := o.cells) rfl (hat _ _ (fun p hp => by simp at hp ⊢; simp [hp])) rfl) (.nw .alloc fun b10 => (.st (.sw rfl rfl) (.nil ?_)))))))))))))
        refine .region (.v (.assign rfl) (.nil ?_))
        exact ⟨(some ⟨b10, 0, none⟩, [(b10, Ch.cells o.cells 97)]), by rw [htg']; exact ⟨b10, rfl, rfl⟩, .cons rfl (.cons rfl (.cons rfl (.cons rfl (.cons rfl (.cons rfl (.nil _)))))), fun _ s => s⟩
      · have hi' : i < B.ss.length := hi
        have htg' : B.tgt c = some B.ss[i] := htg
        obtain ⟨bk, ok, lk, rfl, -, rfl, -, -, -⟩ := h2.some_ (by omega)
        generalize ho : B.ss[i] = o at htg'
        have hat : ∀ own hs', [(bk, Ch.cells lk 97)] ⊆ hs' → At w own hs' ⟨bk, ok + i * 7, none⟩ o.cells := fun own hs' hh => h2.atN hh (fun j v hv => by
          have h7 := (List.getElem?_eq_some_iff.1 hv).1
          rw [rows_get B.ss i j hi' (by simpa [Ord.cells, rcells] using h7), ho]; exact hv)
        refine .seq ((.region (.v (.move rfl) (.v (.move rfl) (.pc (v := .pointer (some ⟨b, 3, none⟩)) rfl rfl (fun w' _ => side_ok w' b 2) (.v (.nilCheck rfl) (.v (.load (v := .slice (some ⟨bk, ok, none⟩) B.ss.length c2) rfl (.one rfl)) (.v (.move rfl) (.v (.indexAddr (i := (i : Int)) rfl rfl (by omega) (by omega)) (.v (.loadA (vs := o.cells) rfl (hat _ _ (fun p hp => by simp at hp ⊢; simp [hp])) rfl) (.nw .alloc fun b10 => (.st (.sw rfl rfl) (.nil ?_)))))))))))))
        refine .region (.v (.assign rfl) (.nil ?_))
        exact ⟨(some ⟨b10, 0, none⟩, [(b10, Ch.cells o.cells 97)]), by rw [htg']; exact ⟨b10, rfl, rfl⟩, .cons rfl (.cons rfl (.cons rfl (.cons rfl (.cons rfl (.cons rfl (.nil _)))))), fun _ s => s⟩
    · have htg : B.tgt c = none := by
        rcases hsp with ⟨_, h, _⟩ | ⟨s, hs, i, hi, e, _, _⟩
        · exact h
        · rw [e] at g1; cases g1
      exact ⟨(none, []), by rw [htg]; exact ⟨rfl, rfl⟩, .cons rfl (.cons rfl (.cons rfl (.cons rfl (.cons rfl (.cons rfl (.nil _)))))), fun _ s => s⟩
  rintro ⟨tp, ht⟩ hT
  dsimp only at hT ⊢
  refine .seq (.seq ((.region (.v (.move rfl) (.v (.loadA (vs := c.cells) rfl .whole rfl) (.v (.move rfl) (.v (.move rfl) (.pc (v := .int .i64 (rfs B.cap B.high B.bs B.ss c (B.tgt c) (B.at_ c).1)) rfl rfl (fun w' s => refused_ok w' b B.cap B.meet B.high B.seq A1 A2 c1 c2 B.bs B.ss (Rd.chunk s (T := 89) (l := Bc B (.slice A1 B.bs.length c1) (.slice A2 B.ss.length c2)) (by simp) (fun j v hv => by rw [Nat.zero_add]; exact hv)) (OwnS.rd h1 s (no := []) (fun p hp => by simp [hp]) (by simp)) (OwnS.rd h2 s (no := []) (fun p hp => by simp [hp]) (by simp)) (by omega) (by omega) c tp (B.tgt c) (B.at_ c).1 (hT.rd s (fun p hp => by simp [hp])) hside) (.v (.assign rfl) (.nil ?_))))))))))
  have ew : rfs B.cap B.high B.bs B.ss c (B.tgt c) (B.at_ c).1 = B.why c := rfl
  rw [ew]
  refine .seq ((.region (.v (.move rfl) (.v (.nei rfl rfl) (.nil ?_)))))
  refine .cond_dec rfl (fun g2 => ?_) (fun g2 => .skip ?_)
  · have eD : B.does c = (B.num (nx B.seq), [(evReject (if c.k = 2 then 0 else c.id) (if c.k = 1 then 0 else c.tg) (B.why c)).num (nx B.seq)]) := by unfold Bk.does; rw [if_pos g2]
    refine .seq ((.region (.v (.fieldAddr rfl) (.v (.load (v := .int .u64 c.id) rfl (.one rfl)) (.v (.fieldAddr rfl) (.v (.load (v := .int .u64 c.tg) rfl (.one rfl)) (.v (.move rfl) (.v (.build (out := [.int .u64 0, .int .i64 2, .int .u64 c.id, .int .u64 0, .int .u64 c.tg, .int .u32 0, .int .i64 0, .int .i64 0, .int .i64 0, .int .u64 0, .int .u64 0, .int .i64 0, .int .i64 (B.why c)]) rfl rfl) (.nw .alloc fun b12 => (.st (.sw rfl rfl) (.nil ?_)))))))))))
    refine .mid (X := Unit) (fun _ => [(5, .pointer (some ⟨t, 0, none⟩)), (12, .pointer (some ⟨b12, 0, none⟩))]) (fun _ => (b12, Ch.cells [.int .u64 0, .int .i64 2, .int .u64 (if c.k = 2 then 0 else c.id), .int .u64 0, .int .u64 (if c.k = 1 then 0 else c.tg), .int .u32 0, .int .i64 0, .int .i64 0, .int .i64 0, .int .u64 0, .int .u64 0, .int .i64 0, .int .i64 (B.why c)] 34) :: TBh t b B (.slice A1 B.bs.length c1) (.slice A2 B.ss.length c2) (.slice none 0 0) k1 k2 []) (fun _ => True)
      (.seq ((.region (.v (.fieldAddr rfl) (.v (.load (v := .int .i64 c.k) rfl (.one rfl)) (.nil ?_)))))) ?_
    · refine .block (.seq ((.region (.v (.eqi rfl rfl) (.v (.assign rfl) (.nil ?_))))))
      refine .cond_dec rfl (fun g3 => ?_) (fun g3 => ?_)
      · refine .region (.v (.fieldAddr rfl) (.st (.storeL rfl rfl rfl) (.nil ?_)))
        refine ⟨(), trivial, .cons rfl (.cons rfl (.nil _)), fun _ s => ?_⟩
        rw [if_pos g3, if_neg (by omega)]
        exact s.take
      · refine .seq ((.region (.v (.eqi rfl rfl) (.v (.assign rfl) (.nil ?_)))))
        refine .cond_dec rfl (fun g4 => ?_) (fun g4 => .skip ?_)
        · refine .region (.v (.fieldAddr rfl) (.st (.storeL rfl rfl rfl) (.nil ?_)))
          refine ⟨(), trivial, .cons rfl (.cons rfl (.nil _)), fun _ s => ?_⟩
          rw [if_neg g3, if_pos g4]
          exact s.take
        · refine ⟨(), trivial, .cons rfl (.cons rfl (.nil _)), fun _ s => ?_⟩
          rw [if_neg g3, if_neg g4]
          exact s.take
    · rintro _ _
      refine .seq ((.region (.v (.move rfl) (.v (.loadA (vs := (evReject (if c.k = 2 then 0 else c.id) (if c.k = 1 then 0 else c.tg) (B.why c)).cells) rfl .whole rfl) ?_))))
      refine .ef (.callT (TBh t b B (.slice A1 B.bs.length c1) (.slice A2 B.ss.length c2) (.slice none 0 0) k1 k2 []) rfl rfl (fun w' s' => tellB_ok w' t b B [] (evReject (if c.k = 2 then 0 else c.id) (if c.k = 1 then 0 else c.tg) (B.why c)) _ _ _ k1 k2 [] h1 h2 (OwnS.nil _ _) (by simp))) ?_
      rintro _ _ ⟨_, ⟨v1x, v2x, vex, k1x, k2x, kex, rfl, h1x, h2x, hEx⟩, rfl⟩
      refine .nil ?_
      refine .seq ((.region (.v (.move rfl) (.v (.nilCheck rfl) (.v (.fieldAddr rfl) (.v (.load (v := vex) rfl (.one rfl)) (.v (.assign rfl) (.nil ?_))))))))
      refine .ret ⟨[_], ⟨rfl, trivial⟩, _, fun _ s => Sat.take (pre := (Tb b (Bc (B.num (nx B.seq)) v1x v2x) :: (k1x ++ k2x)) ++ kex) s, ?_⟩
      rw [eD]
      exact ⟨_, kex, rfl, ⟨v1x, v2x, k1x, k2x, rfl, h1x, h2x⟩, hEx⟩
  · have g2' : B.why c = 0 := Decidable.of_not_not g2
    obtain ⟨z1, z2, z3, z4, z5⟩ := rfs_zero g2'
    obtain ⟨h3f, h3b⟩ : (c.k ≠ 1 → B.tgt c ≠ none) ∧ c.chk = 0 := ⟨z1, z2⟩
    refine .mid (X := MS) (fun _ => [(0, .pointer (some ⟨b, 0, none⟩)), (3, .pointer (some ⟨b3, 0, none⟩)), (5, .pointer (some ⟨t, 0, none⟩)), (6, .pointer tp), (7, .int .i64 (B.at_ c).1)]) (fun m => ht ++ ((b3, Ch.cells c.cells 58) :: m.H t b (B.goes c))) (fun m => m.I (B.goes c) (B.gone c))
      (.seq ((.region (.v (.fieldAddr rfl) (.v (.load (v := .int .i64 c.k) rfl (.one rfl)) (.v (.nei rfl rfl) (.nil ?_))))))) ?_
    · refine .cond_dec rfl (fun g5 => ?_) (fun g5 => .skip ?_)
      · refine .seq ((.region (.v (.assign rfl) (.nil ?_))))
        refine .mid (X := Unit) (fun _ => [(0, .pointer (some ⟨b, 0, none⟩)), (3, .pointer (some ⟨b3, 0, none⟩)), (5, .pointer (some ⟨t, 0, none⟩)), (6, .pointer tp), (7, .int .i64 (B.at_ c).1), (8, .int .i64 (B.at_ c).2.1), (13, .int .i64 (if c.k = 3 then 2 else 1))]) (fun _ => ht ++ ((b3, Ch.cells c.cells 58) :: TBh t b B (.slice A1 B.bs.length c1) (.slice A2 B.ss.length c2) (.slice none 0 0) k1 k2 [])) (fun _ => True)
          (.seq ((.region (.v (.fieldAddr rfl) (.v (.load (v := .int .i64 c.k) rfl (.one rfl)) (.v (.eqi rfl rfl) (.nil ?_))))))) ?_
        · refine .cond_dec rfl (fun g6 => ?_) (fun g6 => .skip ?_)
          · refine .region (.v (.assign rfl) (.nil ?_))
            exact ⟨(), trivial, .cons rfl (.cons rfl (.cons rfl (.cons rfl (.cons rfl (.cons rfl (.cons (by rw [if_pos g6]; rfl) (.nil _))))))), fun _ s => s⟩
          · exact ⟨(), trivial, .cons rfl (.cons rfl (.cons rfl (.cons rfl (.cons rfl (.cons rfl (.cons (by rw [if_neg g6]; rfl) (.nil _))))))), fun _ s => s⟩
        · rintro _ _
          obtain ⟨rs, hrs⟩ : ∃ rs : Int, (if c.k = 3 then 2 else 1) = rs := ⟨_, rfl⟩
          rw [hrs]
          rcases hsp with ⟨_, h, _⟩ | ⟨s, hs, i, hi, e, htg, hid⟩
          · exact absurd h (h3f g5)
          have hgood : (B.side s)[i].G := hOk.good _ (B.side_sub s _ (List.getElem_mem hi))
          generalize ho : (B.side s)[i] = o at htg hgood
          have egone : B.gone c = [(evCancel c.tg (o.v + o.hd) rs).num (nx B.seq)] := by unfold Bk.gone; rw [if_pos g5, htg, ← hrs]
          have egoes : B.goes c = (B.put s ((B.side s).eraseIdx i)).num (nx B.seq) := by unfold Bk.goes; rw [if_pos g5, e]; simp
          rw [egone, egoes]
          rw [htg] at hT
          obtain ⟨bt, rfl, rfl⟩ := hT
          obtain ⟨q1, q2, q3, q4, q5, q6⟩ := hgood
          rw [e]
          rcases hs with rfl | rfl
          · have hi' : i < B.bs.length := hi
            refine .seq ((.region (.v (.move rfl) (.v (.move rfl) (.pc (v := .pointer (some ⟨b, 2, none⟩)) rfl rfl (fun w' _ => side_ok w' b 1) (.v (.assign rfl) (.nil ?_)))))))
            refine .seq ((.region (.v (.move rfl) (.v (.move rfl) (.v (.nilCheck rfl) (.v (.load (v := .slice A1 B.bs.length c1) rfl (.one rfl)) (.v (.move rfl) (.v (.move rfl) (.v (.addi (i := (i : Int)) rfl rfl (by omega)) ?_)))))))))
            refine .ef (.callT k1 rfl rfl (fun w' s' => delete_ok w' A1 B.bs.length c1 i (rows B.bs) k1 h1 hi' (by omega) (rows_ones _))) ?_
            rintro v' _ ⟨ks', hS0, rfl⟩
            have hS' : Side v' (B.bs.eraseIdx i) ks' := by
              unfold Side
              rw [List.length_eraseIdx_of_lt hi', ← rows_erase]; exact hS0
            obtain ⟨A', c', rfl⟩ := OwnS.sl hS'
            refine .v (.nilCheck rfl) (.st (.storeL rfl rfl rfl) (.nil ?_))
            refine .keep ([(bt, Ch.cells o.cells 97)] ++ ((b3, Ch.cells c.cells 58) :: TBh t b ⟨B.cap, B.meet, B.bs.eraseIdx i, B.ss, B.high, B.seq⟩ (.slice A' (B.bs.eraseIdx i).length c') (.slice A2 B.ss.length c2) (.slice none 0 0) ks' k2 [])) ?_
            refine (.drawK [(bt, Ch.cells o.cells 97), (b3, Ch.cells c.cells 58)] (by intro p hp; simp at hp ⊢; rcases hp with rfl | rfl <;> simp) (by kernel_rfl) (by kernel_rfl) ?_)
            refine .v (fun _ f => .move rfl) (.v (fun _ f => .fieldAddr rfl) (.v (fun _ f => .load (v := .int .u64 c.tg) rfl (.one (hb := .sub f) rfl)) (.v (fun _ f => .move rfl) (.v (fun _ f => .nilCheck rfl) (.v (fun _ f => .fieldAddr rfl) (.v (fun _ f => .load (v := .int .u64 o.v) rfl (.one (hb := .sub f) rfl)) (.v (fun _ f => .move rfl) (.v (fun _ f => .nilCheck rfl) (.v (fun _ f => .fieldAddr rfl) (.v (fun _ f => .load (v := .int .u64 o.hd) rfl (.one (hb := .sub f) rfl)) (.v (fun _ f => .addU (o.v + o.hd) rfl rfl rfl (by omega)) (.v (fun _ f => .move rfl) (.v (fun _ _ => .build (out := (evCancel c.tg (o.v + o.hd) rs).cells) rfl rfl) ?_)))))))))))))
            refine .ef (.callT (TBh t b ⟨B.cap, B.meet, B.bs.eraseIdx i, B.ss, B.high, B.seq⟩ (.slice A' (B.bs.eraseIdx i).length c') (.slice A2 B.ss.length c2) (.slice none 0 0) ks' k2 []) rfl rfl (fun w' s' => tellB_ok w' t b ⟨B.cap, B.meet, B.bs.eraseIdx i, B.ss, B.high, B.seq⟩ [] (evCancel c.tg (o.v + o.hd) rs) _ _ _ ks' k2 [] hS' h2 (OwnS.nil _ _) (by simp))) (fun _ _ ⟨_, _, e⟩ _ => by subst e; intro p hp; simp at hp ⊢; rcases hp with rfl | rfl <;> simp) ?_
            rintro _ _ ⟨_, ⟨v1x, v2x, vex, k1x, k2x, kex, rfl, h1x, h2x, hEx⟩, rfl⟩
            exact .nil ⟨⟨v1x, v2x, vex, k1x, k2x, kex⟩, ⟨h1x, h2x, hEx⟩, .cons rfl (.cons rfl (.cons rfl (.cons rfl (.cons rfl (.nil _))))), fun _ s => Sat.take (pre := [(bt, Ch.cells o.cells 97)] ++ ((b3, Ch.cells c.cells 58) :: TBh t b (((⟨B.cap, B.meet, B.bs.eraseIdx i, B.ss, B.high, B.seq⟩ : Bk)).num (nx B.seq)) v1x v2x vex k1x k2x kex)) s⟩
          · have hi' : i < B.ss.length := hi
            refine .seq ((.region (.v (.move rfl) (.v (.move rfl) (.pc (v := .pointer (some ⟨b, 3, none⟩)) rfl rfl (fun w' _ => side_ok w' b 2) (.v (.assign rfl) (.nil ?_)))))))
            refine .seq ((.region (.v (.move rfl) (.v (.move rfl) (.v (.nilCheck rfl) (.v (.load (v := .slice A2 B.ss.length c2) rfl (.one rfl)) (.v (.move rfl) (.v (.move rfl) (.v (.addi (i := (i : Int)) rfl rfl (by omega)) ?_)))))))))
            refine .ef (.callT k2 rfl rfl (fun w' s' => delete_ok w' A2 B.ss.length c2 i (rows B.ss) k2 h2 hi' (by omega) (rows_ones _))) ?_
            rintro v' _ ⟨ks', hS0, rfl⟩
            have hS' : Side v' (B.ss.eraseIdx i) ks' := by
              unfold Side
              rw [List.length_eraseIdx_of_lt hi', ← rows_erase]; exact hS0
            obtain ⟨A', c', rfl⟩ := OwnS.sl hS'
            refine .v (.nilCheck rfl) (.st (.storeL rfl rfl rfl) (.nil ?_))
            refine .keep ([(bt, Ch.cells o.cells 97)] ++ ((b3, Ch.cells c.cells 58) :: TBh t b ⟨B.cap, B.meet, B.bs, B.ss.eraseIdx i, B.high, B.seq⟩ (.slice A1 B.bs.length c1) (.slice A' (B.ss.eraseIdx i).length c') (.slice none 0 0) k1 ks' [])) ?_
            refine (.drawK [(bt, Ch.cells o.cells 97), (b3, Ch.cells c.cells 58)] (by intro p hp; simp at hp ⊢; rcases hp with rfl | rfl <;> simp) (by kernel_rfl) (by kernel_rfl) ?_)
            refine .v (fun _ f => .move rfl) (.v (fun _ f => .fieldAddr rfl) (.v (fun _ f => .load (v := .int .u64 c.tg) rfl (.one (hb := .sub f) rfl)) (.v (fun _ f => .move rfl) (.v (fun _ f => .nilCheck rfl) (.v (fun _ f => .fieldAddr rfl) (.v (fun _ f => .load (v := .int .u64 o.v) rfl (.one (hb := .sub f) rfl)) (.v (fun _ f => .move rfl) (.v (fun _ f => .nilCheck rfl) (.v (fun _ f => .fieldAddr rfl) (.v (fun _ f => .load (v := .int .u64 o.hd) rfl (.one (hb := .sub f) rfl)) (.v (fun _ f => .addU (o.v + o.hd) rfl rfl rfl (by omega)) (.v (fun _ f => .move rfl) (.v (fun _ _ => .build (out := (evCancel c.tg (o.v + o.hd) rs).cells) rfl rfl) ?_)))))))))))))
            refine .ef (.callT (TBh t b ⟨B.cap, B.meet, B.bs, B.ss.eraseIdx i, B.high, B.seq⟩ (.slice A1 B.bs.length c1) (.slice A' (B.ss.eraseIdx i).length c') (.slice none 0 0) k1 ks' []) rfl rfl (fun w' s' => tellB_ok w' t b ⟨B.cap, B.meet, B.bs, B.ss.eraseIdx i, B.high, B.seq⟩ [] (evCancel c.tg (o.v + o.hd) rs) _ _ _ k1 ks' [] h1 hS' (OwnS.nil _ _) (by simp))) (fun _ _ ⟨_, _, e⟩ _ => by subst e; intro p hp; simp at hp ⊢; rcases hp with rfl | rfl <;> simp) ?_
            rintro _ _ ⟨_, ⟨v1x, v2x, vex, k1x, k2x, kex, rfl, h1x, h2x, hEx⟩, rfl⟩
            exact .nil ⟨⟨v1x, v2x, vex, k1x, k2x, kex⟩, ⟨h1x, h2x, hEx⟩, .cons rfl (.cons rfl (.cons rfl (.cons rfl (.cons rfl (.nil _))))), fun _ s => Sat.take (pre := [(bt, Ch.cells o.cells 97)] ++ ((b3, Ch.cells c.cells 58) :: TBh t b (((⟨B.cap, B.meet, B.bs, B.ss.eraseIdx i, B.high, B.seq⟩ : Bk)).num (nx B.seq)) v1x v2x vex k1x k2x kex)) s⟩
      · have g5' : c.k = 1 := Decidable.of_not_not g5
        have egoes : B.goes c = B := by unfold Bk.goes; rw [if_neg g5]
        have egone : B.gone c = [] := by unfold Bk.gone; rw [if_neg g5]
        rw [egoes, egone]
        exact ⟨⟨_, _, _, _, _, _⟩, ⟨h1, h2, OwnS.nil _ _⟩, .cons rfl (.cons rfl (.cons rfl (.cons rfl (.cons rfl (.nil _))))), fun _ s => s⟩
    rintro ⟨v1', v2', ve', k1', k2', ke'⟩ ⟨m1, m2, mE⟩
    dsimp only at m1 m2 mE ⊢
    refine .mid (X := MS) (fun _ => [(5, .pointer (some ⟨t, 0, none⟩))]) (fun m => m.H t b (B.does c).1) (fun m => m.I (B.does c).1 (B.does c).2)
      (.seq ((.region (.v (.fieldAddr rfl) (.v (.load (v := .int .i64 c.k) rfl (.one rfl)) (.v (.nei rfl rfl) (.nil ?_))))))) ?_
    · refine .cond_dec rfl (fun g7 => ?_) (fun g7 => .skip ?_)
      · have eD : B.does c = Bk.comes (((B.goes c).num (nx (B.goes c).seq)).top (cmg c (B.tgt c) (B.at_ c).1).o.id) (B.gone c ++ [(evAck (cmg c (B.tgt c) (B.at_ c).1)).num (nx (B.goes c).seq)]) (cmg c (B.tgt c) (B.at_ c).1) := by
          unfold Bk.does; rw [if_neg g2, if_pos g7]
        have hcs := cmg_side (c := c) (tg := B.tgt c) (side := (B.at_ c).1) h3b g7 (fun e => h3f (by omega)) hside
        obtain ⟨f1, f2, f3, f4⟩ := cmg_facts (c := c) (tg := B.tgt c) (side := (B.at_ c).1)
        have hgm := fun o => Bk.goes_mem (B := B) (c := c) (o := o)
        have hgl := B.goes_len c
        have hgn := gone_len B c
        rw [eD]
        refine .seq ((.region (.v (.loadA (vs := c.cells) rfl .whole rfl) (.v (.move rfl) (.v (.move rfl) (.pc rfl rfl (fun w' s => coming_ok w' c tp (B.tgt c) (B.at_ c).1 (hT.rd s (fun p hp => by simp [hp])) (fun e => h3f (by omega))) ?_))))))
        generalize cmg c (B.tgt c) (B.at_ c).1 = tk at hcs f1 f2 f3 f4 ⊢
        generalize B.goes c = B1 at m1 m2 hgm hgl ⊢
        generalize B.gone c = ev1 at mE hgn ⊢
        refine .nw .alloc fun b15 => (.st (.sw rfl rfl) (.nil ?_))
        refine .seq ((.region (.v (.move rfl) (.v (.fieldAddr rfl) (.v (.fieldAddr rfl) (.v (.load (v := .int .u64 tk.o.id) rfl (.one rfl)) (.v (.fieldAddr rfl) (.v (.fieldAddr rfl) (.v (.load (v := .int .u32 tk.o.mb) rfl (.one rfl)) (.v (.fieldAddr rfl) (.v (.load (v := .int .i64 tk.side) rfl (.one rfl)) (.v (.fieldAddr rfl) (.v (.load (v := .int .i64 tk.kind) rfl (.one rfl)) (.v (.fieldAddr rfl) (.v (.fieldAddr rfl) (.v (.load (v := .int .i64 tk.o.pr) rfl (.one rfl)) (.v (.fieldAddr rfl) (.v (.load (v := .int .u64 tk.left) rfl (.one rfl)) (.v (.fieldAddr rfl) (.v (.fieldAddr rfl) (.v (.load (v := .int .u64 tk.o.pk) rfl (.one rfl)) (.v (.build (out := (evAck tk).cells) rfl rfl) ?_))))))))))))))))))))))
        refine .ef (.callT (TBh t b B1 v1' v2' ve' k1' k2' ke') rfl rfl (fun w' s' => tellB_ok w' t b B1 ev1 (evAck tk) _ _ _ k1' k2' ke' m1 m2 mE (by omega))) ?_
        rintro _ _ ⟨_, ⟨v1x, v2x, vex, k1x, k2x, kex, rfl, h1x, h2x, hEx⟩, rfl⟩
        refine .nil ?_
        refine .keep ((b15, Ch.cells tk.cells 104) :: TBh t b (B1.num (nx B1.seq)) v1x v2x vex k1x k2x kex) ?_
        refine .seq ((.region (.v (.move rfl) (.v (.fieldAddr rfl) (.v (.fieldAddr rfl) (.v (.load (v := .int .u64 tk.o.id) rfl (.one rfl)) (.v (.nilCheck rfl) (.v (.fieldAddr rfl) (.v (.fieldAddr rfl) (.st (.storeL rfl rfl rfl) (.nil ?_)))))))))))
        refine .heap (hs' := (b15, Ch.cells tk.cells 104) :: TBh t b ((B1.num (nx B1.seq)).top tk.o.id) v1x v2x vex k1x k2x kex) (fun _ s => s) ?_
        refine .region (.v (.move rfl) (.v (.loadA (vs := tk.cells) rfl .whole rfl) ?_))
        have hU := hq
        unfold U at hU
        refine .ef (.callT (TBh t b ((B1.num (nx B1.seq)).top tk.o.id) v1x v2x vex k1x k2x kex) rfl rfl (fun w' s' => comes_ok w' t b ((B1.num (nx B1.seq)).top tk.o.id) (ev1 ++ [(evAck tk).num (nx B1.seq)]) tk hcs _ _ _ k1x k2x kex h1x h2x hEx ⟨fun o ho => hOk.good o (hgm o (Bk.side_sub B1 _ o ho)), by show 0 ≤ tk.left; omega, by show tk.left ≤ _; omega⟩ (by rw [f2]; exact hpk)
          (by show B1.bs.length ≤ _; omega) (by show B1.ss.length ≤ _; omega) (by simp; omega))) ?_
        rintro _ _ ⟨_, ⟨v1y, v2y, vey, k1y, k2y, key, rfl, h1y, h2y, hEy⟩, rfl⟩
        exact .nil ⟨⟨v1y, v2y, vey, k1y, k2y, key⟩, ⟨h1y, h2y, hEy⟩, .cons rfl (.nil _), fun _ s => s.take⟩
      · have eD : B.does c = (B.goes c, B.gone c) := by unfold Bk.does; rw [if_neg g2, if_neg g7]
        rw [eD]
        exact ⟨⟨v1', v2', ve', k1', k2', ke'⟩, ⟨m1, m2, mE⟩, .cons rfl (.nil _), fun _ s => Sat.take (pre := TBh t b (B.goes c) v1' v2' ve' k1' k2' ke') s⟩
    · rintro ⟨v1y, v2y, vey, k1y, k2y, key⟩ ⟨n1, n2, nE⟩
      dsimp only at n1 n2 nE ⊢
      refine .seq ((.region (.v (.move rfl) (.v (.nilCheck rfl) (.v (.fieldAddr rfl) (.v (.load (v := vey) rfl (.one rfl)) (.v (.assign rfl) (.nil ?_))))))))
      exact .ret ⟨[_], ⟨rfl, trivial⟩, _, fun _ s => Sat.take (pre := (Tb b (Bc (B.does c).1 v1y v2y) :: (k1y ++ k2y)) ++ key) s, _, key, rfl, ⟨v1y, v2y, k1y, k2y, rfl, n1, n2⟩, nE⟩
end Go.Proofs.Ytcbppikkoelimaa

/- The law's own parts: fit, lives, begun. -/
namespace Go.Proofs.Ytcbppikkoelimaa
open Go.V
set_option linter.unusedVariables false
set_option linter.unusedSimpArgs false

theorem Does.call_Do (w : World) (b : Nat) (B : Bk) (hOk : B.Ok) (c : Cm) (hq : U c.q) (hpk : U c.pk) (v1 v2 : Value) (k1 k2 : Hp) (h1 : Side v1 B.bs k1) (h2 : Side v2 B.ss k2) :
    Does Try.prog 16 [.pointer (some ⟨b, 0, none⟩), .agg ⟨c.cells⟩] (Tb b (Bc B v1 v2) :: (k1 ++ k2)) w
      (fun v hs => ∃ A c' v1' v2' k1' k2' ke, v = .slice A (B.does c).2.length c' ∧ hs = (Tb b (Bc (B.does c).1 v1' v2') :: (k1' ++ k2')) ++ ke ∧ Side v1' (B.does c).1.bs k1' ∧ Side v2' (B.does c).1.ss k2' ∧ Evs (.slice A (B.does c).2.length c') (B.does c).2 ke) := by
  refine (do_ok w b B hOk c hq hpk v1 v2 k1 k2 h1 h2).mono ?_
  rintro v _ ⟨_, ke, rfl, ⟨v1', v2', k1', k2', rfl, h1', h2'⟩, hE⟩
  obtain ⟨A, c', rfl⟩ := OwnS.sl hE
  exact ⟨A, c', v1', v2', k1', k2', ke, rfl, rfl, h1', h2', hE⟩
/-- a field of an event, loaded -/
theorem Evs.ld {w0 : World} {own : List Nat} {b o n c i j : Nat} {l : List Ev} {h hs : Hp} {v : Value} (k : Evs (.slice (some ⟨b, o, none⟩) n c) l h) (hh : h ⊆ hs) (hi : i < l.length) (hj : j < 13) (hv : (l[i].cells)[j]? = some v) : At w0 own hs ⟨b, o + i * 13 + j, none⟩ [v] := by
  rw [Nat.add_assoc]
  exact OwnS.at1 k hh (by rw [erows_get l i j hi hj]; exact hv)
def lb0 : Bk := ⟨4, 0, [], [], 0, 0⟩
def lb1 : Bk := ⟨4, 0, [], [⟨1, 0, 1, 10, 5, 0, 0⟩], 1, 1⟩
def lb2 : Bk := ⟨4, 0, [], [], 2, 4⟩
def lc1 : Cm := ⟨1, 1, 0, 0, 2, 1, 10, 5, 0⟩
def lc2 : Cm := ⟨1, 2, 0, 0, 1, 3, 11, 7, 0⟩
def le1 : List Ev := [⟨1, 1, 1, 0, 0, 0, 2, 1, 10, 5, 0, 0, 0⟩]
def le2 : List Ev := [⟨2, 1, 2, 0, 0, 0, 1, 3, 11, 7, 0, 0, 0⟩, ⟨3, 3, 2, 1, 0, 0, 1, 0, 10, 5, 0, 0, 0⟩, ⟨4, 4, 2, 0, 0, 0, 0, 0, 0, 2, 0, 3, 0⟩]
theorem lives1 : lb0.does lc1 = (lb1, le1) := by kernel_rfl
theorem lives2 : lb1.does lc2 = (lb2, le2) := by kernel_rfl
/-- a new book -/
def newB (c m : Int) : Bk := ⟨c, m, [], [], 0, 0⟩
end Go.Proofs.Ytcbppikkoelimaa

/- Plain: what a book keeps, whatever it is told; the numbers of its events. -/
namespace Go.Proofs.Ytcbppikkoelimaa
open Go.V
set_option linter.unusedVariables false
set_option linter.unusedSimpArgs false

structure Bk.Inv (B : Bk) : Prop where
  lo : 1 ≤ B.cap
  hi : B.cap ≤ 4096
  len : (B.bs.length : Int) + B.ss.length ≤ B.cap
  good : ∀ o ∈ B.bs ++ B.ss, o.G
theorem Bk.Inv.ok {B : Bk} (h : B.Inv) : B.Ok := ⟨h.good, by have := h.len; have := h.hi; omega⟩
theorem newB_inv {c m : Int} (h : Cfg c m) : (newB c m).Inv := ⟨h.1, h.2.1, by simp [newB]; unfold Cfg at h; omega, by simp [newB]⟩
/-- a command's numbers are in their kinds -/
def Cm.wf (c : Cm) : Prop := U c.id ∧ U c.q ∧ U c.pk
theorem chk_sized {c : Cm} (h : c.chk = 0) (hk : c.k ≠ 2) (hw : c.wf) : 1 ≤ c.q ∧ c.q ≤ 4294967295 ∧ c.pk ≤ c.q ∧ (c.pk = 0 ∨ c.q ≤ 256 * c.pk) ∧ 0 ≤ c.pr ∧ c.pr < 262144 ∧ c.id ≠ 0 ∧ (c.k = 1 → 1 ≤ c.ty ∧ c.ty ≤ 5 ∧ (c.pk ≠ 0 → c.ty = 1 ∨ c.ty = 5) ∧ (c.ty = 2 → c.pr = 0)) := by
  obtain ⟨w1, w2, w3⟩ := hw
  unfold U at w1 w2 w3
  have key : ∀ ty : Int, szd c.id c.pr c.q c.pk ty = 0 → 1 ≤ c.q ∧ c.q ≤ 4294967295 ∧ c.pk ≤ c.q ∧ (c.pk = 0 ∨ c.q ≤ 256 * c.pk) ∧ 0 ≤ c.pr ∧ c.pr < 262144 ∧ c.id ≠ 0 ∧ (c.pk ≠ 0 → ty = 1 ∨ ty = 5) ∧ (ty = 2 → c.pr = 0) := by
    intro ty hs
    unfold szd at hs
    by_cases a1 : c.pr < 0 ∨ 262144 ≤ c.pr ∨ ty = 2 ∧ c.pr ≠ 0
    · rw [if_pos a1] at hs; omega
    rw [if_neg a1] at hs
    by_cases a2 : c.q < 1 ∨ 4294967295 < c.q
    · rw [if_pos a2] at hs; omega
    rw [if_neg a2] at hs
    by_cases a3 : c.q < c.pk ∨ c.pk ≠ 0 ∧ (¬ (ty = 1 ∨ ty = 5) ∨ IntKind.u64.wrap (256 * c.pk) < c.q)
    · rw [if_pos a3] at hs; omega
    rw [if_neg a3] at hs
    by_cases a4 : c.id = 0
    · rw [if_pos a4] at hs; omega
    have hw : IntKind.u64.wrap (256 * c.pk) = 256 * c.pk := wrap_u64_in (by omega)
    rw [hw] at a3
    refine ⟨by omega, by omega, by omega, by omega, by omega, by omega, a4, by omega, by omega⟩
  unfold Cm.chk chk at h
  by_cases h1 : c.k = 1
  · rw [if_pos h1] at h
    by_cases h2 : c.sd ≠ 1 ∧ c.sd ≠ 2
    · rw [if_pos h2] at h; omega
    rw [if_neg h2] at h
    by_cases h3 : c.ty < 1 ∨ 5 < c.ty
    · rw [if_pos h3] at h; omega
    rw [if_neg h3] at h
    obtain ⟨k1, k2, k3, k4, k5, k6, k7, k8, k9⟩ := key _ h
    exact ⟨k1, k2, k3, k4, k5, k6, k7, fun _ => ⟨by omega, by omega, k8, k9⟩⟩
  · rw [if_neg h1] at h
    by_cases h3 : c.k = 3
    · rw [if_pos h3] at h
      obtain ⟨k1, k2, k3, k4, k5, k6, k7, k8, k9⟩ := key _ h
      exact ⟨k1, k2, k3, k4, k5, k6, k7, fun e => absurd e h1⟩
    · rw [if_neg h3, if_neg hk] at h; omega
theorem restOf_G {o : Ord} {left q : Int} (h0 : left ≠ 0) (h1 : 0 ≤ left) (h2 : left ≤ q) (h3 : q ≤ 4294967295) (h4 : o.pk ≤ q) (h5 : 0 ≤ o.pk) (h6 : o.pk = 0 ∨ q ≤ 256 * o.pk) : (restOf o left).G := by
  unfold restOf Ord.G
  simp only
  split <;> omega
theorem Bk.put_len {B : Bk} {s : Int} {l : List Ord} (h : l.length ≤ (B.side s).length) : (B.put s l).bs.length ≤ B.bs.length ∧ (B.put s l).ss.length ≤ B.ss.length := by
  unfold Bk.put Bk.side at *
  split at h <;> rename_i e
  · rw [if_pos e]; exact ⟨h, Nat.le_refl _⟩
  · rw [if_neg e]; exact ⟨Nat.le_refl _, h⟩
theorem Bk.put_len1 {B : Bk} {s : Int} {l : List Ord} (h : l.length = (B.side s).length + 1) : (B.put s l).bs.length + (B.put s l).ss.length = B.bs.length + B.ss.length + 1 := by
  unfold Bk.put Bk.side at *
  split at h <;> rename_i e
  · rw [if_pos e]; simp only; omega
  · rw [if_neg e]; simp only; omega
theorem Bk.put_cap (B : Bk) (s : Int) (l : List Ord) : (B.put s l).cap = B.cap ∧ (B.put s l).meet = B.meet ∧ (B.put s l).high = B.high ∧ (B.put s l).seq = B.seq := by
  unfold Bk.put; split <;> exact ⟨rfl, rfl, rfl, rfl⟩
theorem traded_inv {B : Bk} {t : Tk} {z : TS} (h : B.Inv) (hz : z.Ok) (hl : z.L.length ≤ (B.side (3 - t.side)).length) : (B.traded t z).Inv ∧ (B.traded t z).bs.length + (B.traded t z).ss.length ≤ B.bs.length + B.ss.length := by
  have hp := Bk.put_len hl
  have hc := B.put_cap (3 - t.side) z.L
  have e1 : (B.traded t z).bs = (B.put (3 - t.side) z.L).bs := rfl
  have e2 : (B.traded t z).ss = (B.put (3 - t.side) z.L).ss := rfl
  have e3 : (B.traded t z).cap = (B.put (3 - t.side) z.L).cap := rfl
  refine ⟨⟨by rw [e3, hc.1]; exact h.lo, by rw [e3, hc.1]; exact h.hi, ?_, fun o ho => ?_⟩, by rw [e1, e2]; omega⟩
  · have := h.len
    rw [e1, e2, e3, hc.1]; omega
  · rcases Bk.put_mem (B := B) (s := 3 - t.side) (l := z.L) ho with h1 | h1
    · exact hz.good o h1
    · exact h.good o h1
theorem num_inv {B : Bk} (q : Int) (h : B.Inv) : (B.num q).Inv := ⟨h.lo, h.hi, h.len, h.good⟩
theorem top_inv {B : Bk} (q : Int) (h : B.Inv) : (B.top q).Inv := ⟨h.lo, h.hi, h.len, h.good⟩
theorem ts_ok {B : Bk} {evs : List Ev} {t : Tk} (h : ∀ o ∈ B.bs ++ B.ss, o.G) (h1 : 0 ≤ t.left) (h2 : t.left ≤ 18446744073709551615) : (B.ts evs t).Ok := ⟨fun o ho => h o (B.side_sub _ o ho), h1, h2⟩
theorem comes_inv {B : Bk} {evs : List Ev} {t : Tk} (h : B.Inv) (hq : 0 ≤ t.left ∧ t.left ≤ 4294967295) (hp : 0 ≤ t.o.pk ∧ t.o.pk ≤ t.left) (hp2 : t.o.pk = 0 ∨ t.left ≤ 256 * t.o.pk) (hroom : t.kind = 1 ∨ t.kind = 5 → (B.bs.length : Int) + B.ss.length < B.cap) : (B.comes evs t).1.Inv := by
  have hOk : (B.ts evs t).Ok := ts_ok h.good hq.1 (by omega)
  obtain ⟨zok, zlen, _, zl⟩ := (tr_run (meet := B.meet) (t := t) hOk).ok hOk
  unfold Bk.comes
  split
  · exact num_inv _ h
  · simp only
    generalize tr B.meet t (B.ts evs t) = z at *
    obtain ⟨hT, hTl⟩ := traded_inv (t := t) h zok zlen
    split
    · exact hT
    · rename_i hl0
      split
      · exact num_inv _ hT
      · rename_i hk
        have hcap : (B.traded t z).cap = B.cap := (B.put_cap _ _).1
        generalize B.traded t z = B1 at *
        have hlo := zok.lo
        have hzl : z.left ≤ t.left := zl
        have hG := restOf_G (o := t.o) (left := z.left) (q := t.left) hl0 hlo hzl hq.2 hp.2 hp.1 hp2
        have hlen := Bk.put_len1 (B := B1) (s := t.side) (l := rst t.side (restOf t.o z.left) (B1.side t.side)) (rst_length _ _ _)
        have hc := B1.put_cap t.side (rst t.side (restOf t.o z.left) (B1.side t.side))
        have hr := hroom (by omega)
        show (B1.put t.side (rst t.side (restOf t.o z.left) (B1.side t.side))).Inv
        refine ⟨by rw [hc.1]; exact hT.lo, by rw [hc.1]; exact hT.hi, by rw [hc.1, hcap]; omega, fun o ho => ?_⟩
        rcases Bk.put_mem ho with h1 | h1
        · rcases rst_mem h1 with rfl | h1
          · exact hG
          · exact hT.good o (B1.side_sub _ o h1)
        · exact hT.good o h1
theorem goes_len1 {B : Bk} {c : Cm} (hk : c.k ≠ 1) (ht : B.tgt c ≠ none) : (B.goes c).bs.length + (B.goes c).ss.length + 1 = B.bs.length + B.ss.length := by
  rcases at_spec B c with ⟨_, h, _⟩ | ⟨s, hs, i, hi, e, _, _⟩
  · exact absurd h ht
  unfold Bk.goes
  rw [if_pos hk, e]
  simp only [Bk.num, Int.toNat_natCast]
  rcases hs with rfl | rfl
  · have hi' : i < B.bs.length := hi
    show (B.bs.eraseIdx i).length + B.ss.length + 1 = _
    rw [List.length_eraseIdx_of_lt hi']; omega
  · have hi' : i < B.ss.length := hi
    show B.bs.length + (B.ss.eraseIdx i).length + 1 = _
    rw [List.length_eraseIdx_of_lt hi']; omega
theorem goes_cap (B : Bk) (c : Cm) : (B.goes c).cap = B.cap ∧ (B.goes c).meet = B.meet ∧ (B.goes c).high = B.high := by
  unfold Bk.goes
  split
  · have := B.put_cap (B.at_ c).1 ((B.side (B.at_ c).1).eraseIdx (B.at_ c).2.1.toNat)
    exact ⟨this.1, this.2.1, this.2.2.1⟩
  · exact ⟨rfl, rfl, rfl⟩
theorem goes_inv {B : Bk} {c : Cm} (h : B.Inv) : (B.goes c).Inv := by
  have hc := goes_cap B c
  have hl := B.goes_len c
  have := h.len
  exact ⟨by rw [hc.1]; exact h.lo, by rw [hc.1]; exact h.hi, by rw [hc.1]; omega, fun o ho => h.good o (Bk.goes_mem ho)⟩
theorem does_inv {B : Bk} {c : Cm} (h : B.Inv) (hw : c.wf) : (B.does c).1.Inv := by
  unfold Bk.does
  by_cases h0 : B.why c ≠ 0
  · rw [if_pos h0]; exact num_inv _ h
  rw [if_neg h0]
  have h0' : B.why c = 0 := Decidable.of_not_not h0
  obtain ⟨z1, z2, z3, z4, z5⟩ := rfs_zero h0'
  by_cases h2 : c.k ≠ 2
  · rw [if_pos h2]
    obtain ⟨s1, s2, s3, s4, s5, s6, s7, s8⟩ := chk_sized z2 h2 hw
    obtain ⟨f1, f2, f3, f4⟩ := cmg_facts (c := c) (tg := B.tgt c) (side := (B.at_ c).1)
    have hpk := hw.2.2
    unfold U at hpk
    have hgi := goes_inv (c := c) h
    have hgc := goes_cap B c
    refine comes_inv (top_inv _ (num_inv _ hgi)) (by rw [f1]; omega) (by rw [f1, f2]; omega) (by rw [f1, f2]; exact s4) (fun hk => ?_)
    show ((B.goes c).bs.length : Int) + (B.goes c).ss.length < (B.goes c).cap
    rw [hgc.1]
    by_cases h1 : c.k = 1
    · have := z4 h1 hk
      have hl := B.goes_len c
      omega
    · have := goes_len1 h1 (z1 h1)
      have := h.len
      omega
  · rw [if_neg h2]; exact goes_inv h
/-- the events are numbered on from s, to s' -/
def Num : Int → List Ev → Int → Prop
  | s, [], s' => s' = s
  | s, e :: l, s' => e.seq = nx s ∧ Num (nx s) l s'
theorem Num.app : ∀ {l1 l2 : List Ev} {s s1 s2 : Int}, Num s l1 s1 → Num s1 l2 s2 → Num s (l1 ++ l2) s2
  | [], l2, s, s1, s2, h, k => by have : s1 = s := h; subst this; exact k
  | e :: l1, l2, s, s1, s2, h, k => ⟨h.1, Num.app h.2 k⟩
theorem Num.one (s : Int) (e : Ev) : Num s [e.num (nx s)] (nx s) := ⟨rfl, rfl⟩
/-- of trading: what is told is put behind; it is numbered on; it is of trades, cancels, refreshes -/
theorem step_evs {meet : Int} {t : Tk} {s s' : TS} (h : s.step meet t = some s') : ∃ l, s'.evs = s.evs ++ l ∧ Num s.seq l s'.seq ∧ ∀ e ∈ l, e.kind = 3 ∨ e.kind = 4 ∨ e.kind = 5 := by
  obtain ⟨L, left, seq, evs⟩ := s
  unfold TS.step at h
  simp only at h
  cases L with
  | nil => cases h
  | cons f rest =>
    simp only at h
    split at h
    · simp only [Option.some.injEq] at h
      subst h
      split
      · simp only [TS.meets]
        by_cases m1 : meet = 1
        · rw [if_pos m1, if_neg (show ¬ meet = 2 by omega)]
          exact ⟨_, rfl, Num.one _ _, by simp [evCancel, Ev.num]⟩
        · rw [if_neg m1]
          by_cases m2 : meet = 2
          · rw [if_pos m2]
            exact ⟨_, rfl, Num.one _ _, by simp [evCancel, Ev.num]⟩
          · rw [if_neg m2]
            exact ⟨_, List.append_assoc _ _ _, (Num.one _ _).app (Num.one _ _), by simp [evCancel, Ev.num]⟩
      · simp only [TS.hit]
        split
        · exact ⟨_, rfl, Num.one _ _, by simp [evTrade, Ev.num]⟩
        · split
          · exact ⟨_, List.append_assoc _ _ _, (Num.one _ _).app (Num.one _ _), by simp [evTrade, evRefresh, Ev.num]⟩
          · exact ⟨_, rfl, Num.one _ _, by simp [evTrade, Ev.num]⟩
    · cases h
theorem TRun.evs {meet : Int} {t : Tk} {s z : TS} (h : TRun meet t s z) : ∃ l, z.evs = s.evs ++ l ∧ Num s.seq l z.seq ∧ ∀ e ∈ l, e.kind = 3 ∨ e.kind = 4 ∨ e.kind = 5 := by
  induction h with
  | stop _ => exact ⟨[], by simp, rfl, by simp⟩
  | step hs _ ih =>
    obtain ⟨l1, a1, a2, a3⟩ := step_evs hs
    obtain ⟨l2, b1, b2, b3⟩ := ih
    refine ⟨l1 ++ l2, by rw [b1, a1, List.append_assoc], a2.app b2, fun e he => ?_⟩
    rcases List.mem_append.1 he with he | he
    · exact a3 e he
    · exact b3 e he
theorem comes_evs {B : Bk} {evs : List Ev} {t : Tk} (hOk : (B.ts evs t).Ok) : ∃ l, (B.comes evs t).2 = evs ++ l ∧ Num B.seq l (B.comes evs t).1.seq ∧ (∀ e ∈ l, e.kind = 3 ∨ e.kind = 4 ∨ e.kind = 5) ∧ (B.comes evs t).1.high = B.high := by
  obtain ⟨l, a1, a2, a3⟩ := (tr_run (meet := B.meet) (t := t) hOk).evs
  unfold Bk.comes
  split
  · exact ⟨_, rfl, Num.one _ _, by simp [evCancel, Ev.num], rfl⟩
  · simp only
    generalize tr B.meet t (B.ts evs t) = z at *
    have hh : (B.traded t z).high = B.high := (B.put_cap _ _).2.2.1
    have hsq : (B.traded t z).seq = z.seq := rfl
    split
    · exact ⟨l, a1, a2, a3, hh⟩
    · split
      · refine ⟨l ++ [(evCancel t.o.id z.left 3).num (nx (B.traded t z).seq)], by rw [a1, List.append_assoc]; rfl, a2.app (Num.one _ _), fun e he => ?_, hh⟩
        rcases List.mem_append.1 he with he | he
        · exact a3 e he
        · simp at he; subst he; simp [evCancel, Ev.num]
      · have hc := (B.traded t z).put_cap t.side (rst t.side (restOf t.o z.left) ((B.traded t z).side t.side))
        exact ⟨l, a1, by rw [hc.2.2.2]; exact a2, a3, by rw [hc.2.2.1]; exact hh⟩
/-- the acknowledgements' numbers rise, from h to h' -/
def Hi : Int → List Ev → Int → Prop
  | h, [], h' => h' = h
  | h, e :: l, h' => if e.kind = 1 then h < e.id ∧ Hi e.id l h' else Hi h l h'
theorem Hi.none : ∀ {l : List Ev} {h : Int}, (∀ e ∈ l, e.kind ≠ 1) → Hi h l h
  | [], h, _ => rfl
  | e :: l, h, k => by
    unfold Hi
    rw [if_neg (k e (by simp))]
    exact Hi.none fun e he => k e (by simp [he])
theorem Hi.app : ∀ {l1 l2 : List Ev} {s s1 s2 : Int}, Hi s l1 s1 → Hi s1 l2 s2 → Hi s (l1 ++ l2) s2
  | [], l2, s, s1, s2, h, k => by have : s1 = s := h; subst this; exact k
  | e :: l1, l2, s, s1, s2, h, k => by
    rw [List.cons_append]
    unfold Hi at h ⊢
    split at h
    · rename_i e1; rw [if_pos e1]; exact ⟨h.1, Hi.app h.2 k⟩
    · rename_i e1; rw [if_neg e1]; exact Hi.app h k
theorem does_num {B : Bk} {c : Cm} (h : B.Inv) (hw : c.wf) : Num B.seq (B.does c).2 (B.does c).1.seq ∧ Hi B.high (B.does c).2 (B.does c).1.high := by
  unfold Bk.does
  by_cases h0 : B.why c ≠ 0
  · rw [if_pos h0]; exact ⟨Num.one _ _, Hi.none (by simp [evReject, Ev.num])⟩
  rw [if_neg h0]
  obtain ⟨z1, z2, z3, z4, z5⟩ := rfs_zero (Decidable.of_not_not h0)
  have hgone : Num B.seq (B.gone c) (B.goes c).seq ∧ ∀ e ∈ B.gone c, e.kind ≠ 1 := by
    unfold Bk.gone Bk.goes
    by_cases h1 : c.k ≠ 1
    · rw [if_pos h1, if_pos h1]
      cases ht : B.tgt c with
      | none => exact absurd ht (z1 h1)
      | some o => exact ⟨Num.one _ _, by simp [evCancel, Ev.num]⟩
    · rw [if_neg h1, if_neg h1]; exact ⟨rfl, by simp⟩
  have hgh := (goes_cap B c).2.2
  by_cases h2 : c.k ≠ 2
  · rw [if_pos h2]
    obtain ⟨s1, s2, _⟩ := chk_sized z2 h2 hw
    obtain ⟨f1, f2, f3, f4⟩ := cmg_facts (c := c) (tg := B.tgt c) (side := (B.at_ c).1)
    generalize cmg c (B.tgt c) (B.at_ c).1 = tk at *
    obtain ⟨l, a1, a2, a3, a4⟩ := comes_evs (B := ((B.goes c).num (nx (B.goes c).seq)).top tk.o.id) (evs := B.gone c ++ [(evAck tk).num (nx (B.goes c).seq)]) (t := tk) (ts_ok (fun o ho => h.good o (Bk.goes_mem ho)) (by rw [f1]; omega) (by rw [f1]; omega))
    rw [a1, a4]
    refine ⟨(hgone.1.app (Num.one _ _)).app a2, ?_⟩
    have hh : Hi B.high (B.gone c ++ [(evAck tk).num (nx (B.goes c).seq)]) tk.o.id := (Hi.none hgone.2).app (by
      unfold Hi
      rw [if_pos (by rfl)]
      exact ⟨by show B.high < tk.o.id; rw [f3]; exact z3 h2, rfl⟩)
    exact hh.app (Hi.none fun e he => by rcases a3 e he with h | h | h <;> omega)
  · rw [if_neg h2]
    exact ⟨hgone.1, by rw [hgh]; exact Hi.none hgone.2⟩
theorem comes_len {B : Bk} {evs : List Ev} {t : Tk} (hOk : (B.ts evs t).Ok) (hl : (B.ts evs t).L.length ≤ 4096) : (B.comes evs t).2.length ≤ evs.length + 3000000 := by
  obtain ⟨_, _, h3, _⟩ := (tr_run (meet := B.meet) (t := t) hOk).ok hOk
  have hm := mu_le hOk
  have he : (B.ts evs t).evs.length = evs.length := rfl
  unfold Bk.comes
  split
  · simp
  · simp only
    generalize tr B.meet t (B.ts evs t) = z at *
    split
    · show z.evs.length ≤ _; omega
    · split
      · simp only [List.length_append, List.length_singleton]; omega
      · show z.evs.length ≤ _; omega
theorem does_len {B : Bk} {c : Cm} (h : B.Inv) (hw : c.wf) : (B.does c).2.length ≤ 4000000 := by
  have hlen := h.len
  have hhi := h.hi
  unfold Bk.does
  by_cases h0 : B.why c ≠ 0
  · rw [if_pos h0]; simp
  rw [if_neg h0]
  obtain ⟨z1, z2, z3, z4, z5⟩ := rfs_zero (Decidable.of_not_not h0)
  have hg := gone_len B c
  by_cases h2 : c.k ≠ 2
  · rw [if_pos h2]
    obtain ⟨s1, s2, _⟩ := chk_sized z2 h2 hw
    obtain ⟨f1, f2, f3, f4⟩ := cmg_facts (c := c) (tg := B.tgt c) (side := (B.at_ c).1)
    have hgl := B.goes_len c
    generalize cmg c (B.tgt c) (B.at_ c).1 = tk at *
    have hside : ((((B.goes c).num (nx (B.goes c).seq)).top tk.o.id).side (3 - tk.side)).length ≤ 4096 := by
      unfold Bk.side
      split
      · show (B.goes c).bs.length ≤ _; omega
      · show (B.goes c).ss.length ≤ _; omega
    have := comes_len (B := ((B.goes c).num (nx (B.goes c).seq)).top tk.o.id) (evs := B.gone c ++ [(evAck tk).num (nx (B.goes c).seq)]) (t := tk) (ts_ok (fun o ho => h.good o (Bk.goes_mem ho)) (by rw [f1]; omega) (by rw [f1]; omega)) hside
    simp only [List.length_append, List.length_singleton] at this
    omega
  · rw [if_neg h2]; show (B.gone c).length ≤ _; omega
end Go.Proofs.Ytcbppikkoelimaa

/- Plain: a book stays one that can be. -/
namespace Go.Proofs.Ytcbppikkoelimaa
open Go.V
set_option linter.unusedVariables false
set_option linter.unusedSimpArgs false

def ids (l : List Ord) : List Int := l.map Ord.id
def Sd (s : Int) (l : List Ord) : Prop := l.Pairwise (fun a b => bet s b.pr a.pr = false)
theorem Sd.srt {s : Int} {l : List Ord} (h : Sd s l) : Srt s l := fun i hi h0 => List.pairwise_iff_getElem.1 h (i - 1) i (by omega) hi (by omega)
theorem Srt.sd {s : Int} : ∀ {l : List Ord}, Srt s l → Sd s l
  | [], _ => .nil
  | x :: l, h => by
    have hl : Srt s l := fun i hi h0 => by
      have := h (i + 1) (by simpa using hi) (by omega)
      simp only [List.getElem_cons_succ, Nat.add_sub_cancel] at this
      obtain ⟨k, rfl⟩ : ∃ k, i = k + 1 := ⟨i - 1, by omega⟩
      exact this
    have ih := Srt.sd hl
    refine .cons (fun y hy => ?_) ih
    cases l with
    | nil => cases hy
    | cons z l =>
      have h1 : bet s z.pr x.pr = false := h 1 (by simp) (by omega)
      rcases List.mem_cons.1 hy with rfl | hy
      · exact h1
      · have h2 := List.rel_of_pairwise_cons ih hy
        unfold bet at h1 h2 ⊢
        split at h1 <;> simp_all <;> omega
theorem Dist.of {l : List Ord} (h : (ids l).Nodup) : Dist l := fun i hi j hj => by
  have h' : l.Pairwise (fun a b => a.id ≠ b.id) := List.pairwise_map.1 h
  exact fun e => List.pairwise_iff_getElem.1 h' j i (by omega) hi hj e.symm
theorem Dist.nd {l : List Ord} (h : Dist l) : (ids l).Nodup := by
  refine List.pairwise_map.2 (List.pairwise_iff_getElem.2 fun i j hi hj hij => fun e => h j hj i hij e.symm)
/-- an order put behind all that are not worse -/
def ins (s : Int) (o : Ord) : List Ord → List Ord
  | [] => [o]
  | x :: l => if bet s o.pr x.pr = true then o :: x :: l else x :: ins s o l
theorem bet_tr {s p x y : Int} (h : bet s p x = true) (h2 : bet s y x = false) : bet s p y = true := by
  unfold bet at *
  split at h <;> simp_all <;> omega
theorem rst_ins {s : Int} {o : Ord} : ∀ {l : List Ord}, Sd s l → rst s o l = ins s o l
  | [], _ => rfl
  | x :: l, h => by
    have ih := rst_ins (o := o) (List.Pairwise.of_cons h)
    by_cases c : bet s o.pr x.pr = true
    · have hl : l.all (fun x => bet s o.pr x.pr) = true := List.all_eq_true.2 fun y hy => bet_tr c (List.rel_of_pairwise_cons h hy)
      have : rpos s o.pr (x :: l) = 0 := by unfold rpos; rw [c, hl]; rfl
      unfold rst ins; rw [this, if_pos c]; rfl
    · have : rpos s o.pr (x :: l) = rpos s o.pr l + 1 := by
        rw [rpos]; simp only [Bool.not_eq_true] at c; rw [c]; rfl
      unfold ins; rw [if_neg c, ← ih]; unfold rst; rw [this]; rfl
theorem rst_perm (s : Int) (o : Ord) (l : List Ord) : (rst s o l).Perm (o :: l) := by
  unfold rst
  rw [List.append_assoc, List.singleton_append]
  refine List.perm_middle.trans ?_
  rw [List.take_append_drop]
theorem ins_perm (s : Int) (o : Ord) : ∀ (l : List Ord), (ins s o l).Perm (o :: l)
  | [] => .refl _
  | x :: l => by
    unfold ins; split
    · exact .refl _
    · exact ((ins_perm s o l).cons x).trans (.swap o x l)
theorem ins_sd {s : Int} {o : Ord} : ∀ {l : List Ord}, Sd s l → Sd s (ins s o l)
  | [], _ => List.pairwise_singleton _ _
  | x :: l, h => by
    have ih := ins_sd (o := o) (List.Pairwise.of_cons h)
    unfold ins; split
    · rename_i c
      refine .cons (fun y hy => ?_) h
      have hy' : bet s o.pr y.pr = true := by
        rcases List.mem_cons.1 hy with rfl | hy
        · exact c
        · exact bet_tr c (List.rel_of_pairwise_cons h hy)
      unfold bet at hy' ⊢; split at hy' <;> simp_all <;> omega
    · rename_i c
      refine .cons (fun y hy => ?_) ih
      rcases List.mem_cons.1 ((ins_perm s o l).mem_iff.1 hy) with rfl | hy
      · simpa using c
      · exact List.rel_of_pairwise_cons h hy
/-- an order that can rest -/
def Ord.V (o : Ord) (high : Int) : Prop := o.rests high ∧ o.wf
theorem Ord.V.G {o : Ord} {h : Int} (k : o.V h) : o.G := by
  obtain ⟨k1, k2⟩ := k
  unfold Ord.rests Rests at k1; unfold Ord.wf U at k2; unfold Ord.G; omega
theorem Ord.V.up {o : Ord} {h h' : Int} (k : o.V h) (e : h ≤ h') : o.V h' := by
  obtain ⟨k1, k2⟩ := k
  refine ⟨?_, k2⟩
  unfold Ord.rests Rests at k1 ⊢; omega
theorem less_V {f : Ord} {q h : Int} (k : f.V h) (h0 : 0 < q) (h1 : 0 < f.v - q) : (f.less q).V h := by
  obtain ⟨k1, k2⟩ := k
  unfold Ord.less
  refine ⟨?_, ?_⟩
  · unfold Ord.rests Rests at k1 ⊢; simp only; omega
  · unfold Ord.wf U at k2 ⊢; simp only; omega
theorem next_V {f : Ord} {h : Int} (k : f.V h) (h1 : 0 < f.hd) : f.next.V h := by
  obtain ⟨k1, k2⟩ := k
  unfold Ord.next
  refine ⟨?_, ?_⟩
  · unfold Ord.rests Rests at k1 ⊢; unfold Ord.wf U at k2; simp only; omega
  · unfold Ord.rests Rests at k1; unfold Ord.wf U at k2 ⊢; simp only; omega
/-- what trading leaves of a side -/
structure Keeps (sd : Int) (L L' : List Ord) : Prop where
  rests : ∀ hg, (∀ o ∈ L, o.V hg) → ∀ o ∈ L', o.V hg
  sd : Sd sd L'
  ids : ∃ x, (x ++ ids L').Perm (ids L)
  pr : ∀ o ∈ L', ∃ p ∈ L, p.pr = o.pr
theorem Keeps.refl {s : Int} {L : List Ord} (h : Sd s L) : Keeps s L L := ⟨fun _ h => h, h, ⟨[], .refl _⟩, fun o h => ⟨o, h, rfl⟩⟩
theorem Keeps.trans {s : Int} {L L' L'' : List Ord} (h : Keeps s L L') (k : Keeps s L' L'') : Keeps s L L'' := by
  obtain ⟨x, hx⟩ := h.ids
  obtain ⟨y, hy⟩ := k.ids
  refine ⟨fun hg q => k.rests hg (h.rests hg q), k.sd, ⟨x ++ y, ?_⟩, fun o ho => ?_⟩
  · rw [List.append_assoc]; exact (hy.append_left x).trans hx
  · obtain ⟨p, hp, e⟩ := k.pr o ho
    obtain ⟨q, hq, e'⟩ := h.pr p hp
    exact ⟨q, hq, e'.trans e⟩
theorem Keeps.tail {s : Int} {f : Ord} {L : List Ord} (h : Sd s (f :: L)) : Keeps s (f :: L) L :=
  ⟨fun hg k o ho => k o (by simp [ho]), List.Pairwise.of_cons h, ⟨[f.id], .refl _⟩, fun o ho => ⟨o, by simp [ho], rfl⟩⟩
theorem step_keeps {meet : Int} {t : Tk} {s s' : TS} (hs : s.step meet t = some s') (hsd : Sd (3 - t.side) s.L) : Keeps (3 - t.side) s.L s'.L := by
  obtain ⟨L, left, seq, evs⟩ := s
  unfold TS.step at hs
  simp only at hs hsd ⊢
  cases L with
  | nil => cases hs
  | cons f rest =>
    simp only at hs
    split at hs
    · rename_i hc
      simp only [Option.some.injEq] at hs
      subst hs
      split
      · simp only [TS.meets]
        by_cases m1 : meet = 1
        · rw [if_pos m1, if_neg (show ¬ meet = 2 by omega)]
          exact .refl hsd
        · rw [if_neg m1]
          by_cases m2 : meet = 2
          · rw [if_pos m2]; exact .tail hsd
          · rw [if_neg m2]; exact .tail hsd
      · simp only [TS.hit]
        by_cases c1 : 0 < f.v - min left f.v
        · rw [if_pos c1]
          refine ⟨fun hg k o ho => ?_, ?_, ⟨[], .refl _⟩, fun o ho => ?_⟩
          · rcases List.mem_cons.1 ho with rfl | ho
            · refine less_V (k f (by simp)) ?_ c1
              have := hc.1; omega
            · exact k o (by simp [ho])
          · exact .cons (fun y hy => List.rel_of_pairwise_cons hsd hy) (List.Pairwise.of_cons hsd)
          · rcases List.mem_cons.1 ho with rfl | ho
            · exact ⟨f, by simp, rfl⟩
            · exact ⟨o, by simp [ho], rfl⟩
        · rw [if_neg c1]
          by_cases c2 : 0 < f.hd
          · rw [if_pos c2]
            show Keeps _ _ (rst (3 - t.side) f.next rest)
            refine ⟨fun hg k o ho => ?_, ?_, ⟨[], ?_⟩, fun o ho => ?_⟩
            · rcases rst_mem ho with rfl | ho
              · exact next_V (k f (by simp)) c2
              · exact k o (by simp [ho])
            · rw [rst_ins (List.Pairwise.of_cons hsd)]; exact ins_sd (List.Pairwise.of_cons hsd)
            · exact (rst_perm (3 - t.side) f.next rest).map Ord.id
            · rcases rst_mem ho with rfl | ho
              · exact ⟨f, by simp, rfl⟩
              · exact ⟨o, by simp [ho], rfl⟩
          · rw [if_neg c2]; exact .tail hsd
    · cases hs
theorem TRun.keeps {meet : Int} {t : Tk} {s z : TS} (h : TRun meet t s z) (hsd : Sd (3 - t.side) s.L) : Keeps (3 - t.side) s.L z.L ∧ z.step meet t = none := by
  induction h with
  | stop hs => exact ⟨.refl hsd, hs⟩
  | step hs _ ih =>
    have h1 := step_keeps hs hsd
    obtain ⟨i1, i2⟩ := ih h1.sd
    exact ⟨h1.trans i1, i2⟩
/-- a book that can be -/
structure Bk.Vl (B : Bk) : Prop where
  cfg : Cfg B.cap B.meet
  len : (B.bs.length : Int) + B.ss.length ≤ B.cap
  rests : ∀ o ∈ B.bs ++ B.ss, o.V B.high
  nd : (ids (B.bs ++ B.ss)).Nodup
  s1 : Sd 1 B.bs
  s2 : Sd 2 B.ss
  cross : ∀ b ∈ B.bs, ∀ s ∈ B.ss, b.pr < s.pr
theorem Bk.Vl.inv {B : Bk} (h : B.Vl) : B.Inv := ⟨h.cfg.1, h.cfg.2.1, h.len, fun o ho => (h.rests o ho).G⟩
theorem crossB_false {bs ss : List Ord} (h : ∀ b ∈ bs, ∀ s ∈ ss, b.pr < s.pr) : crossB bs ss = false := by
  cases bs with
  | nil => rfl
  | cons b bs =>
    cases ss with
    | nil => rfl
    | cons s ss =>
      have := h b (by simp) s (by simp)
      unfold crossB; simp; omega
theorem Bk.Vl.vld {B : Bk} (h : B.Vl) : vld B.cap B.meet B.high B.bs B.ss = 0 := by
  have := h.cfg; have := h.len
  unfold Cfg at *
  rw [Proofs.Ytcbppikkoelimaa.vld, if_pos ⟨h.cfg, by omega, by omega, by omega, fun o ho => (h.rests o ho).1, .of h.nd, h.s1.srt, h.s2.srt, crossB_false h.cross⟩]
theorem newB_vl {c m : Int} (h : Cfg c m) : (newB c m).Vl := ⟨h, by unfold Cfg at h; simp [newB]; omega, by simp [newB], by simp [newB, Proofs.Ytcbppikkoelimaa.ids], .nil, .nil, by simp [newB]⟩
theorem num_vl {B : Bk} (q : Int) (h : B.Vl) : (B.num q).Vl := ⟨h.cfg, h.len, h.rests, h.nd, h.s1, h.s2, h.cross⟩
theorem top_vl {B : Bk} {q : Int} (h : B.Vl) (e : B.high ≤ q) : (B.top q).Vl := ⟨h.cfg, h.len, fun o ho => (h.rests o ho).up e, h.nd, h.s1, h.s2, h.cross⟩
theorem nd_of {l l' : List Ord} (h : ∃ x, (x ++ ids l').Perm (ids l)) (hn : (ids l).Nodup) : (ids l').Nodup := by
  obtain ⟨x, hx⟩ := h
  exact (List.nodup_append.1 (hx.nodup_iff.2 hn)).2.1
theorem ids_app (a b : List Ord) : ids (a ++ b) = ids a ++ ids b := List.map_append
theorem ids_mem {l l' : List Ord} (h : ∃ x, (x ++ ids l').Perm (ids l)) : ∀ i ∈ ids l', i ∈ ids l := fun i hi => by
  obtain ⟨x, hx⟩ := h
  exact hx.mem_iff.1 (List.mem_append_right _ hi)
/-- one side of a book that can be, less -/
theorem put1_vl {B : Bk} {l : List Ord} (h : B.Vl) (k : Keeps 1 B.bs l) (hl : l.length ≤ B.bs.length) : (B.put 1 l).Vl := by
  have hlen := h.len
  refine ⟨h.cfg, by show (l.length : Int) + B.ss.length ≤ B.cap; omega, fun o ho => ?_, ?_, k.sd, h.s2, fun b hb s hs => ?_⟩
  · rcases List.mem_append.1 (show o ∈ l ++ B.ss from ho) with ho | ho
    · exact k.rests _ (fun o ho => h.rests o (by simp [ho])) o ho
    · exact h.rests o (by simp [ho])
  · show (ids (l ++ B.ss)).Nodup
    obtain ⟨x, hx⟩ := k.ids
    refine nd_of ⟨x, ?_⟩ h.nd
    rw [ids_app, ids_app, ← List.append_assoc]
    exact hx.append_right _
  · obtain ⟨p, hp, e⟩ := k.pr b hb
    have := h.cross p hp s hs; omega
theorem put2_vl {B : Bk} {l : List Ord} (h : B.Vl) (k : Keeps 2 B.ss l) (hl : l.length ≤ B.ss.length) : (B.put 2 l).Vl := by
  have hlen := h.len
  refine ⟨h.cfg, by show (B.bs.length : Int) + l.length ≤ B.cap; omega, fun o ho => ?_, ?_, h.s1, k.sd, fun b hb s hs => ?_⟩
  · rcases List.mem_append.1 (show o ∈ B.bs ++ l from ho) with ho | ho
    · exact h.rests o (by simp [ho])
    · exact k.rests _ (fun o ho => h.rests o (by simp [ho])) o ho
  · show (ids (B.bs ++ l)).Nodup
    obtain ⟨x, hx⟩ := k.ids
    refine nd_of ⟨x, ?_⟩ h.nd
    rw [ids_app, ids_app]
    have h1 : (x ++ (ids B.bs ++ ids l)).Perm (ids B.bs ++ (x ++ ids l)) := by
      rw [← List.append_assoc, ← List.append_assoc]
      exact List.perm_append_comm.append_right _
    exact h1.trans (hx.append_left _)
  · obtain ⟨p, hp, e⟩ := k.pr s hs
    have := h.cross b hb p hp; omega
theorem Keeps.erase {s : Int} {L : List Ord} (h : Sd s L) (i : Nat) : Keeps s L (L.eraseIdx i) := by
  refine ⟨fun hg k o ho => k o (List.mem_of_mem_eraseIdx ho), h.sublist (List.eraseIdx_sublist ..), ?_, fun o ho => ⟨o, List.mem_of_mem_eraseIdx ho, rfl⟩⟩
  by_cases hi : i < L.length
  · refine ⟨[L[i].id], ?_⟩
    have e : L = L.take i ++ L[i] :: L.drop (i + 1) := by rw [← List.drop_eq_getElem_cons hi, List.take_append_drop]
    have e2 : Proofs.Ytcbppikkoelimaa.ids L = Proofs.Ytcbppikkoelimaa.ids (L.take i ++ L[i] :: L.drop (i + 1)) := congrArg Proofs.Ytcbppikkoelimaa.ids e
    rw [e2, List.eraseIdx_eq_take_drop_succ]
    simp only [Proofs.Ytcbppikkoelimaa.ids, List.map_append, List.map_cons]
    exact (List.perm_middle (l₁ := List.map Ord.id (L.take i)) (a := L[i].id) (l₂ := List.map Ord.id (L.drop (i + 1)))).symm
  · rw [List.eraseIdx_of_length_le (by omega)]; exact ⟨[], .refl _⟩
theorem goes_vl {B : Bk} {c : Cm} (h : B.Vl) (ht : c.k ≠ 1 → B.tgt c ≠ none) : (B.goes c).Vl := by
  unfold Bk.goes
  by_cases hk : c.k ≠ 1
  · rw [if_pos hk]
    rcases at_spec B c with ⟨_, h', _⟩ | ⟨s, hs, i, hi, e, _, _⟩
    · exact absurd h' (ht hk)
    rw [e]
    simp only [Int.toNat_natCast]
    refine num_vl _ ?_
    rcases hs with rfl | rfl
    · exact put1_vl h (.erase h.s1 i) (List.length_eraseIdx_le ..)
    · exact put2_vl h (.erase h.s2 i) (List.length_eraseIdx_le ..)
  · rw [if_neg hk]; exact h
theorem goes_fresh {B : Bk} {c : Cm} {x : Int} (h : ∀ o ∈ B.bs ++ B.ss, o.id < x) : ∀ o ∈ (B.goes c).bs ++ (B.goes c).ss, o.id < x := fun o ho => h o (Bk.goes_mem ho)
/-- trading keeps a book one that can be; at its end the other side's best is not reached -/
theorem traded_vl {B : Bk} {t : Tk} {evs : List Ev} {z : TS} (h : B.Vl) (hs : t.side = 1 ∨ t.side = 2) (hr : TRun B.meet t (B.ts evs t) z) (hz : z.L.length ≤ (B.side (3 - t.side)).length) :
    (B.traded t z).Vl ∧ ids ((B.traded t z).bs ++ (B.traded t z).ss) ⊆ ids (B.bs ++ B.ss) ∧ (B.traded t z).side t.side = B.side t.side ∧ (B.traded t z).side (3 - t.side) = z.L ∧
      (0 < z.left → t.kind ≠ 2 → ∀ x ∈ z.L, bet t.side x.pr t.o.pr = true) := by
  obtain ⟨_, _, bs, ss, _, _⟩ := B
  rcases hs with hs | hs
  · have hk := hr.keeps (by show Sd _ _; simp only [Bk.ts, Bk.side, hs]; exact h.s2)
    simp only [Bk.ts, Bk.side, hs] at hk hz
    obtain ⟨hk, hn⟩ := hk
    refine ⟨?_, ?_, ?_, ?_, fun hl h2 x hx => ?_⟩
    · unfold Bk.traded; rw [hs]; exact num_vl _ (put2_vl h hk hz)
    · unfold Bk.traded Bk.put Bk.num; rw [hs]
      show ids (bs ++ z.L) ⊆ ids (bs ++ ss)
      intro i hi
      rw [ids_app, List.mem_append] at hi ⊢
      exact hi.imp id (ids_mem hk.ids i)
    · unfold Bk.traded Bk.put Bk.num Bk.side; simp [hs]
    · unfold Bk.traded Bk.put Bk.num Bk.side; simp [hs]
    · rw [hs]
      obtain ⟨L, left, _, _⟩ := z
      cases L with
      | nil => cases hx
      | cons f L =>
        unfold TS.step at hn
        simp only at hn hl
        split at hn
        · cases hn
        · rename_i hc
          have hf : bet 1 f.pr t.o.pr = true := by
            have hr' : ¬ reach t.side t.kind t.o.pr f.pr = true := fun e => hc ⟨hl, e⟩
            unfold reach at hr'
            rw [hs] at hr'
            simpa [h2] using hr'
          rcases List.mem_cons.1 hx with rfl | hx
          · exact hf
          · have := List.rel_of_pairwise_cons hk.sd hx
            unfold bet at hf this ⊢; simp at hf this ⊢; omega
  · have hk := hr.keeps (by show Sd _ _; simp only [Bk.ts, Bk.side, hs]; exact h.s1)
    simp only [Bk.ts, Bk.side, hs] at hk hz
    obtain ⟨hk, hn⟩ := hk
    refine ⟨?_, ?_, ?_, ?_, fun hl h2 x hx => ?_⟩
    · unfold Bk.traded; rw [hs]; exact num_vl _ (put1_vl h hk hz)
    · unfold Bk.traded Bk.put Bk.num; rw [hs]
      show ids (z.L ++ ss) ⊆ ids (bs ++ ss)
      intro i hi
      rw [ids_app, List.mem_append] at hi ⊢
      exact hi.imp (ids_mem hk.ids i) id
    · unfold Bk.traded Bk.put Bk.num Bk.side; simp [hs]
    · unfold Bk.traded Bk.put Bk.num Bk.side; simp [hs]
    · rw [hs]
      obtain ⟨L, left, _, _⟩ := z
      cases L with
      | nil => cases hx
      | cons f L =>
        unfold TS.step at hn
        simp only at hn hl
        split at hn
        · cases hn
        · rename_i hc
          have hf : bet 2 f.pr t.o.pr = true := by
            have hr' : ¬ reach t.side t.kind t.o.pr f.pr = true := fun e => hc ⟨hl, e⟩
            unfold reach at hr'
            rw [hs] at hr'
            simpa [h2] using hr'
          rcases List.mem_cons.1 hx with rfl | hx
          · exact hf
          · have := List.rel_of_pairwise_cons hk.sd hx
            unfold bet at hf this ⊢; simp at hf this ⊢; omega
theorem put_vl1 {B : Bk} {o : Ord} (h : B.Vl) (hs : o.V B.high) (hf : ∀ i ∈ ids (B.bs ++ B.ss), i ≠ o.id) (hc : (B.bs.length : Int) + B.ss.length < B.cap) (hx : ∀ s ∈ B.ss, o.pr < s.pr) : (B.put 1 (rst 1 o B.bs)).Vl := by
  have hp := rst_perm 1 o B.bs
  refine ⟨h.cfg, ?_, fun x hxm => ?_, ?_, ?_, h.s2, fun b hb s hs' => ?_⟩
  · show ((rst 1 o B.bs).length : Int) + B.ss.length ≤ B.cap
    rw [rst_length]; omega
  · rcases List.mem_append.1 (show x ∈ rst 1 o B.bs ++ B.ss from hxm) with hm | hm
    · rcases rst_mem hm with rfl | hm
      · exact hs
      · exact h.rests x (by simp [hm])
    · exact h.rests x (by simp [hm])
  · show (ids (rst 1 o B.bs ++ B.ss)).Nodup
    have : (ids (rst 1 o B.bs ++ B.ss)).Perm (o.id :: ids (B.bs ++ B.ss)) := by
      have := (hp.append_right B.ss).map Ord.id
      exact this
    refine this.nodup_iff.2 (List.nodup_cons.2 ⟨fun hm => hf _ hm rfl, h.nd⟩)
  · show Sd 1 (rst 1 o B.bs)
    rw [rst_ins h.s1]; exact ins_sd h.s1
  · rcases rst_mem (show b ∈ rst 1 o B.bs from hb) with rfl | hm
    · exact hx s hs'
    · exact h.cross b hm s hs'
theorem put_vl2 {B : Bk} {o : Ord} (h : B.Vl) (hs : o.V B.high) (hf : ∀ i ∈ ids (B.bs ++ B.ss), i ≠ o.id) (hc : (B.bs.length : Int) + B.ss.length < B.cap) (hx : ∀ s ∈ B.bs, s.pr < o.pr) : (B.put 2 (rst 2 o B.ss)).Vl := by
  have hp := rst_perm 2 o B.ss
  refine ⟨h.cfg, ?_, fun x hxm => ?_, ?_, h.s1, ?_, fun b hb s hs' => ?_⟩
  · show (B.bs.length : Int) + (rst 2 o B.ss).length ≤ B.cap
    rw [rst_length]; omega
  · rcases List.mem_append.1 (show x ∈ B.bs ++ rst 2 o B.ss from hxm) with hm | hm
    · exact h.rests x (by simp [hm])
    · rcases rst_mem hm with rfl | hm
      · exact hs
      · exact h.rests x (by simp [hm])
  · show (ids (B.bs ++ rst 2 o B.ss)).Nodup
    have : (ids (B.bs ++ rst 2 o B.ss)).Perm (o.id :: ids (B.bs ++ B.ss)) := by
      have := ((hp.append_left B.bs).trans List.perm_middle).map Ord.id
      exact this
    refine this.nodup_iff.2 (List.nodup_cons.2 ⟨fun hm => hf _ hm rfl, h.nd⟩)
  · show Sd 2 (rst 2 o B.ss)
    rw [rst_ins h.s2]; exact ins_sd h.s2
  · rcases rst_mem (show s ∈ rst 2 o B.ss from hs') with rfl | hm
    · exact hx b hb
    · exact h.cross b hb s hm
theorem restOf_V {o : Ord} {left q hg : Int} (h0 : left ≠ 0) (h1 : 0 ≤ left) (h2 : left ≤ q) (h3 : q ≤ 4294967295) (h4 : o.pk ≤ q) (h5 : 0 ≤ o.pk) (h6 : o.pk = 0 ∨ q ≤ 256 * o.pk) (hid : 1 ≤ o.id ∧ o.id ≤ hg) (hu : U o.id) (ht : o.ty = 1 ∨ o.ty = 5) (hp : 0 ≤ o.pr ∧ o.pr < 262144) : (restOf o left).V hg := by
  unfold restOf Ord.V Ord.rests Rests Ord.wf U at *
  simp only
  split <;> omega
/-- an order that can come -/
structure Tk.V (t : Tk) (B : Bk) : Prop where
  sd : t.side = 1 ∨ t.side = 2
  q : 1 ≤ t.left ∧ t.left ≤ 4294967295
  pk : 0 ≤ t.o.pk ∧ t.o.pk ≤ t.left
  pk2 : t.o.pk = 0 ∨ t.left ≤ 256 * t.o.pk
  room : t.kind = 1 ∨ t.kind = 5 → (B.bs.length : Int) + B.ss.length < B.cap
  id : 1 ≤ t.o.id ∧ U t.o.id
  ty : t.o.ty = t.kind
  pr : 0 ≤ t.o.pr ∧ t.o.pr < 262144
  kd : 1 ≤ t.kind ∧ t.kind ≤ 5
  fresh : ∀ i ∈ ids (B.bs ++ B.ss), i < t.o.id
  post : t.kind = 5 → headReach t.side t.kind t.o.pr (B.side (3 - t.side)) = false
theorem ts_ok' {B : Bk} {evs : List Ev} {t : Tk} (h : B.Vl) (k : t.V B) : (B.ts evs t).Ok := ts_ok h.inv.good (by have := k.q; omega) (by have := k.q; omega)
theorem comes_vl {B : Bk} {evs : List Ev} {t : Tk} (h : B.Vl) (k : t.V B) (hh : t.o.id ≤ B.high) : (B.comes evs t).1.Vl := by
  have hOk : (B.ts evs t).Ok := ts_ok' h k
  have hrun := tr_run (meet := B.meet) (t := t) hOk
  obtain ⟨zok, zlen, _, zl⟩ := hrun.ok hOk
  unfold Bk.comes
  split
  · exact num_vl _ h
  · simp only
    generalize tr B.meet t (B.ts evs t) = z at *
    obtain ⟨v1, v2, v3, v4, v5⟩ := traded_vl h k.sd hrun zlen
    split
    · exact v1
    · rename_i hl0
      split
      · exact num_vl _ v1
      · rename_i hk
        have hc := B.put_cap (3 - t.side) z.L
        have hlo := zok.lo
        have hG : (restOf t.o z.left).V (B.traded t z).high := restOf_V (q := t.left) hl0 hlo zl k.q.2 k.pk.2 k.pk.1 k.pk2 ⟨k.id.1, by show _ ≤ (B.put (3 - t.side) z.L).high; rw [hc.2.2.1]; exact hh⟩ k.id.2 (by rw [k.ty]; omega) k.pr
        have hf : ∀ i ∈ ids ((B.traded t z).bs ++ (B.traded t z).ss), i ≠ (restOf t.o z.left).id := fun i hi e => by
          have := k.fresh i (v2 hi)
          have e2 : (restOf t.o z.left).id = t.o.id := rfl
          omega
        have hcap : ((B.traded t z).bs.length : Int) + (B.traded t z).ss.length < (B.traded t z).cap := by
          have h1 := k.room (by omega)
          have h2 := (traded_inv (t := t) h.inv zok zlen).2
          have h3 : (B.traded t z).cap = B.cap := hc.1
          omega
        have hx := v5 (by omega) (by omega)
        have e2 : (restOf t.o z.left).pr = t.o.pr := rfl
        generalize B.traded t z = B1 at *
        rcases k.sd with hs | hs
        · rw [hs] at v3 v4 hx ⊢
          exact put_vl1 v1 hG hf hcap fun s hs' => by
            have := hx s (by rw [← v4]; exact hs')
            unfold bet at this; simp at this; omega
        · rw [hs] at v3 v4 hx ⊢
          exact put_vl2 v1 hG hf hcap fun s hs' => by
            have := hx s (by rw [← v4]; exact hs')
            unfold bet at this; simp at this; omega
theorem cmg_ty {c : Cm} {tg : Option Ord} {side : Int} : (cmg c tg side).o.ty = (cmg c tg side).kind := by
  unfold cmg
  cases tg with
  | none => rfl
  | some o => simp only; split <;> rfl
theorem cmg_kd {c : Cm} {tg : Option Ord} {side : Int} (h1 : c.k = 1 → 1 ≤ c.ty ∧ c.ty ≤ 5) (hk : c.k = 1 ∨ c.k = 3) (h3 : c.k = 3 → tg ≠ none) (ht : ∀ o, tg = some o → o.ty = 1 ∨ o.ty = 5) : 1 ≤ (cmg c tg side).kind ∧ (cmg c tg side).kind ≤ 5 := by
  unfold cmg
  cases tg with
  | none =>
    rcases hk with hk | hk
    · exact h1 hk
    · exact absurd rfl (h3 hk)
  | some o =>
    simp only; split
    · have := ht o rfl; show 1 ≤ o.ty ∧ o.ty ≤ 5; omega
    · rename_i hk'
      exact h1 (by omega)
theorem tgt_mem {B : Bk} {c : Cm} {o : Ord} (h : B.tgt c = some o) : o ∈ B.bs ++ B.ss ∧ ((B.at_ c).1 = 1 ∨ (B.at_ c).1 = 2) ∧ o.id = c.tg := by
  rcases at_spec B c with ⟨_, h', _⟩ | ⟨s, hs, i, hi, e, h', hid⟩
  · rw [h'] at h; cases h
  · rw [h'] at h; cases h
    exact ⟨B.side_sub _ _ (List.getElem_mem hi), by rw [e]; exact hs, hid⟩
theorem head_sub {s k p : Int} {l l' : List Ord} (h : headReach s k p l = false) (hl : ∀ y ∈ l', ∃ x ∈ l, x.pr = y.pr) (hs : Sd (3 - s) l) (hsd : s = 1 ∨ s = 2) : headReach s k p l' = false := by
  cases l' with
  | nil => rfl
  | cons y l' =>
    obtain ⟨x, hx, e⟩ := hl y (by simp)
    cases l with
    | nil => cases hx
    | cons z l =>
      have hz : reach s k p z.pr = false := h
      show reach s k p y.pr = false
      rw [← e]
      rcases List.mem_cons.1 hx with rfl | hx
      · exact hz
      · have := List.rel_of_pairwise_cons hs hx
        unfold reach bet at *
        rcases hsd with rfl | rfl <;> simp_all <;> omega
/-- the order that a command lets come can come -/
theorem cmg_V {B : Bk} {c : Cm} (h : B.Vl) (hw : c.wf) (h0 : B.why c = 0) (h2 : c.k ≠ 2) : (cmg c (B.tgt c) (B.at_ c).1).V (((B.goes c).num (nx (B.goes c).seq)).top (cmg c (B.tgt c) (B.at_ c).1).o.id) ∧ B.high < (cmg c (B.tgt c) (B.at_ c).1).o.id := by
  obtain ⟨z1, z2, z3, z4, z5⟩ := rfs_zero h0
  obtain ⟨s1, s2, s3, s4, s5, s6, s7, s8⟩ := chk_sized z2 h2 hw
  obtain ⟨f1, f2, f3, f4⟩ := cmg_facts (c := c) (tg := B.tgt c) (side := (B.at_ c).1)
  have hid := hw.1
  have hpk := hw.2.2
  have hk := chk_kinds (c := c) (by rw [z2]; decide)
  have hty := cmg_ty (c := c) (tg := B.tgt c) (side := (B.at_ c).1)
  have hkd := cmg_kd (c := c) (tg := B.tgt c) (side := (B.at_ c).1) (fun e => ⟨(s8 e).1, (s8 e).2.1⟩) (by omega) (fun e => z1 (by omega)) (fun o ho => by
    have := (h.rests o (tgt_mem ho).1).1; unfold Ord.rests Rests at this; exact this.2.1)
  have hside := cmg_side (c := c) (tg := B.tgt c) (side := (B.at_ c).1) z2 h2 (fun e => z1 (by omega)) (fun hn => by
    cases ht : B.tgt c with
    | none => exact absurd ht hn
    | some o => exact (tgt_mem ht).2.1)
  have hgv := goes_vl (c := c) h z1
  have hgc := goes_cap B c
  have z3' := z3 h2
  have hfr : ∀ i ∈ ids ((B.goes c).bs ++ (B.goes c).ss), i < c.id := fun i hi => by
    obtain ⟨o, ho, rfl⟩ := List.mem_map.1 hi
    have := (h.rests o (Bk.goes_mem ho)).1
    unfold Ord.rests Rests at this; omega
  generalize cmg c (B.tgt c) (B.at_ c).1 = t at *
  unfold U at hid hpk
  refine ⟨⟨hside, by omega, by omega, by rw [f1, f2]; exact s4, fun hk' => ?_, ⟨by omega, by rw [f3]; exact hid⟩, hty, by omega, hkd, fun i hi => by rw [f3]; exact hfr i hi, fun h5 => ?_⟩, by omega⟩
  · show ((B.goes c).bs.length : Int) + (B.goes c).ss.length < (B.goes c).cap
    rw [hgc.1]
    by_cases h1 : c.k = 1
    · have := z4 h1 hk'
      have hl := B.goes_len c
      omega
    · have := goes_len1 h1 (z1 h1)
      have := h.len
      omega
  · have hr := z5 h2 h5
    have hm : ∀ s : Int, ∀ y ∈ (B.goes c).side s, ∃ x ∈ B.side s, x.pr = y.pr := fun s y hy => by
      unfold Bk.goes at hy
      split at hy
      · refine ⟨y, ?_, rfl⟩
        unfold Bk.put Bk.num Bk.side at *
        by_cases e1 : (B.at_ c).1 = 1 <;> by_cases e2 : s = 1 <;> simp [e1, e2] at hy ⊢
        · exact List.mem_of_mem_eraseIdx hy
        · exact hy
        · exact hy
        · exact List.mem_of_mem_eraseIdx hy
      · exact ⟨y, hy, rfl⟩
    show headReach t.side t.kind t.o.pr ((B.goes c).side (3 - t.side)) = false
    rcases hside with e | e
    · rw [e] at hr ⊢
      exact head_sub hr (hm 2) h.s2 (.inl rfl)
    · rw [e] at hr ⊢
      exact head_sub hr (hm 1) h.s1 (.inr rfl)
theorem does_vl {B : Bk} {c : Cm} (h : B.Vl) (hw : c.wf) : (B.does c).1.Vl := by
  unfold Bk.does
  by_cases h0 : B.why c ≠ 0
  · rw [if_pos h0]; exact num_vl _ h
  rw [if_neg h0]
  have h0' : B.why c = 0 := Decidable.of_not_not h0
  obtain ⟨z1, _⟩ := rfs_zero h0'
  have hgv := goes_vl (c := c) h z1
  by_cases h2 : c.k ≠ 2
  · rw [if_pos h2]
    obtain ⟨hV, hlt⟩ := cmg_V h hw h0' h2
    have hgc := goes_cap B c
    exact comes_vl (top_vl (num_vl _ hgv) (by show (B.goes c).high ≤ _; rw [hgc.2.2]; omega)) hV (Int.le_refl _)
  · rw [if_neg h2]; exact hgv
end Go.Proofs.Ytcbppikkoelimaa
