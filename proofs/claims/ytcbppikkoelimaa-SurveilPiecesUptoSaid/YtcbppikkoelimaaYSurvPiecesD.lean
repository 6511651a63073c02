/- Texts that the row RSurvPieces stands on: SVSmall, SVAloneP, SVAloneL, SVPiecesP, SVPiecesL, VN, VT, VB, KBulk, SVRd, TRdT. -/
import Derived.Test.YtcbppikkoelimaaYSurvPiecesC
import Derived.Test.YtcbppikkoelimaaYSurvPiecesA
import Derived.Test.YtcbppikkoelimaaYSurvPiecesB
import Derived.SizedLaws
import Derived.Test.YtcbppikkoelimaaRows
/- Surveil: New, Count, Cases, and what the laws compare with. -/
namespace Go.Proofs.Ytcbppikkoelimaa
open Go.V
set_option linter.unusedVariables false
set_option linter.unusedSimpArgs false

abbrev AlL : List Lf := [.i .i64, .i .u32, .i .u64, .i .u64, .i .i64]
abbrev CsL : List Lf := [.i .i64, .i .u32, .i .u64, .i .u64, .i .i64, .b]
theorem Al.oks (x : Al) : V.oks AlL x.cells := ⟨rfl, rfl, rfl, rfl, rfl, trivial⟩
theorem Cs.oks (x : Cs) : V.oks CsL x.cells := ⟨rfl, rfl, rfl, rfl, rfl, trivial, trivial⟩
set_option maxRecDepth 10000 in
theorem alerts_ok (w : World) (A B : Option Addr) (len ca cb : Nat) (l : List Al) (hA : Rd w [] A (l.flatMap Al.cells)) (hB : Rd w [] B (l.flatMap Al.cells)) (hl : len = l.length) (hb : len ≤ 3518437208883) :
    Is Try.prog 10 [.slice A len ca, .slice B len cb] w (.bool true) := by
  refine Does.pure (Does.of (n := 26) Try.func10 rfl rfl rfl rfl ?_)
  refine .seq ((.region (.v (.assign rfl) (.nil ?_))))
  refine .seq (.seq ((.region (.v (.move rfl) (.v (.len rfl) (.v (.move rfl) (.v (.len rfl) (.v (.nei rfl rfl) (.nil ?_)))))))))
  refine .cond_dec rfl (fun g => absurd rfl g) (fun g => .skip ?_)
  refine .seq (.seq ((.region (.v (.assign rfl) (.nil ?_)))))
  refine .block (.loop (X := Nat) (fun i => [(0, .slice A len ca), (1, .slice B len cb), (5, .int .i64 i)]) (fun _ => []) (fun i => i ≤ len) (fun i => len - i) 0 (by omega) (.cons rfl (.cons rfl (.cons rfl (.nil _)))) (fun _ s => s) ?_)
  intro i hi
  refine .seq (.seq ((.region (.v (.move rfl) (.v (.move rfl) (.v (.len rfl) (.v (.lss rfl rfl) (.nil ?_))))))))
  refine .cond_dec rfl (fun g2 => .skip ?_) (fun g2 => .exit ?_)
  · have hil : i < l.length := by omega
    obtain ⟨b, o, rfl, hc⟩ := Rd.recs Al.cells 5 (fun _ => rfl) hA (by omega) (by omega)
    obtain ⟨b', o', rfl, hc'⟩ := Rd.recs Al.cells 5 (fun _ => rfl) hB (by omega) (by omega)
    have q := fun hs => recAt Al.cells 5 (fun _ => rfl) (z := (i : Int)) (hc hs) hil
    have q' := fun hs => recAt Al.cells 5 (fun _ => rfl) (z := (i : Int)) (hc' hs) hil
    generalize l[i] = x at q q'
    refine .seq (.block (.seq ((.drawS (by kernel_rfl) (by kernel_rfl) (.v (.move rfl) (.v (.move rfl) (.v (.indexAddr rfl rfl (by omega) (by omega)) (.v (.loadA (vs := Al.cells x) rfl (q _) rfl) (.v (.move rfl) (.v (.move rfl) (.v (.indexAddr rfl rfl (by omega) (by omega)) (.v (.loadA (vs := Al.cells x) rfl (q' _) rfl) (.v (.neA rfl rfl (Al.oks x) (Al.oks x)) (.nil ?_))))))))))))))
    refine .cond rfl (fun g3 => absurd g3 (by rw [(cellsEq_iff (Al.oks x) (Al.oks x)).2 rfl]; simp)) (fun _ => .skip ?_)
    refine .region (.v (.move rfl) (.v (.addi rfl rfl (by omega)) (.v (.assign rfl) (.nil ?_))))
    exact ⟨i + 1, by omega, by omega, .cons rfl (.cons rfl (.cons rfl (.nil _))), fun _ s => s⟩
  · refine .seq ((.region (.v (.assign rfl) (.nil ?_))))
    exact .ret ⟨[_], ⟨rfl, trivial⟩, rfl⟩

set_option maxRecDepth 10000 in
theorem cases_ok (w : World) (A B : Option Addr) (len ca cb : Nat) (l : List Cs) (hA : Rd w [] A (l.flatMap Cs.cells)) (hB : Rd w [] B (l.flatMap Cs.cells)) (hl : len = l.length) (hb : len ≤ 2932031007402) :
    Is Try.prog 12 [.slice A len ca, .slice B len cb] w (.bool true) := by
  refine Does.pure (Does.of (n := 26) Try.func12 rfl rfl rfl rfl ?_)
  refine .seq ((.region (.v (.assign rfl) (.nil ?_))))
  refine .seq (.seq ((.region (.v (.move rfl) (.v (.len rfl) (.v (.move rfl) (.v (.len rfl) (.v (.nei rfl rfl) (.nil ?_)))))))))
  refine .cond_dec rfl (fun g => absurd rfl g) (fun g => .skip ?_)
  refine .seq (.seq ((.region (.v (.assign rfl) (.nil ?_)))))
  refine .block (.loop (X := Nat) (fun i => [(0, .slice A len ca), (1, .slice B len cb), (5, .int .i64 i)]) (fun _ => []) (fun i => i ≤ len) (fun i => len - i) 0 (by omega) (.cons rfl (.cons rfl (.cons rfl (.nil _)))) (fun _ s => s) ?_)
  intro i hi
  refine .seq (.seq ((.region (.v (.move rfl) (.v (.move rfl) (.v (.len rfl) (.v (.lss rfl rfl) (.nil ?_))))))))
  refine .cond_dec rfl (fun g2 => .skip ?_) (fun g2 => .exit ?_)
  · have hil : i < l.length := by omega
    obtain ⟨b, o, rfl, hc⟩ := Rd.recs Cs.cells 6 (fun _ => rfl) hA (by omega) (by omega)
    obtain ⟨b', o', rfl, hc'⟩ := Rd.recs Cs.cells 6 (fun _ => rfl) hB (by omega) (by omega)
    have q := fun hs => recAt Cs.cells 6 (fun _ => rfl) (z := (i : Int)) (hc hs) hil
    have q' := fun hs => recAt Cs.cells 6 (fun _ => rfl) (z := (i : Int)) (hc' hs) hil
    generalize l[i] = x at q q'
    refine .seq (.block (.seq ((.drawS (by kernel_rfl) (by kernel_rfl) (.v (.move rfl) (.v (.move rfl) (.v (.indexAddr rfl rfl (by omega) (by omega)) (.v (.loadA (vs := Cs.cells x) rfl (q _) rfl) (.v (.move rfl) (.v (.move rfl) (.v (.indexAddr rfl rfl (by omega) (by omega)) (.v (.loadA (vs := Cs.cells x) rfl (q' _) rfl) (.v (.neA rfl rfl (Cs.oks x) (Cs.oks x)) (.nil ?_))))))))))))))
    refine .cond rfl (fun g3 => absurd g3 (by rw [(cellsEq_iff (Cs.oks x) (Cs.oks x)).2 rfl]; simp)) (fun _ => .skip ?_)
    refine .region (.v (.move rfl) (.v (.addi rfl rfl (by omega)) (.v (.assign rfl) (.nil ?_))))
    exact ⟨i + 1, by omega, by omega, .cons rfl (.cons rfl (.cons rfl (.nil _))), fun _ s => s⟩
  · refine .seq ((.region (.v (.assign rfl) (.nil ?_))))
    exact .ret ⟨[_], ⟨rfl, trivial⟩, rfl⟩

theorem csrows_length (l : List Cs) : (csrows l).length = l.length * 6 := flatMap_length _ 6 (fun _ => rfl) l
theorem alrows_length (l : List Al) : (alrows l).length = l.length * 5 := flatMap_length _ 5 (fun _ => rfl) l
theorem csrows_ones (l : List Cs) : ones (csrows l) = true := by
  simp only [ones, csrows, List.all_flatMap, List.all_eq_true]
  intro v _ x hx
  simp [Cs.cells] at hx
  rcases hx with rfl | rfl | rfl | rfl | rfl | rfl <;> rfl
theorem alrows_ones (l : List Al) : ones (alrows l) = true := by
  simp only [ones, alrows, List.all_flatMap, List.all_eq_true]
  intro v _ x hx
  simp [Al.cells] at hx
  rcases hx with rfl | rfl | rfl | rfl | rfl <;> rfl
set_option maxRecDepth 10000 in
theorem csclone_ok (w : World) (A : Option Addr) (len cap : Nat) (l : List Cs) (hx : Rd w [] A (csrows l)) (hl : len = l.length) (hb : len ≤ 2932031007402) :
    Does Try.prog 26 [.slice A len cap] [] w (fun v hs => CsOwn v l hs) := by
  refine Does.less (Does.of (n := 8) Try.func26 rfl rfl rfl rfl ?_)
  refine .seq ((.region (.v (.assign rfl) (.nil ?_))))
  refine .seq (.seq ((.region (.v (.move rfl) (.v (.eql_slice_nil rfl rfl) (.nil ?_))))))
  refine .cond rfl (fun h1 => ?_) (fun h1 => .skip ?_)
  · have hA : A = none := by simpa using h1
    subst hA
    have h0 : l.length = 0 := by
      have := congrArg List.length hx.empty
      rw [csrows_length] at this
      simp only [List.length_nil] at this; omega
    have hl0 : l = [] := List.eq_nil_of_length_eq_zero h0
    subst hl0
    refine .seq ((.region (.v (.assign rfl) (.nil ?_))))
    exact .ret ⟨[_], ⟨rfl, trivial⟩, [], fun _ s => s, OwnS.nil _ _⟩
  · refine .seq ((.region (.ef (.buildSlice (out := []) rfl (by decide) rfl rfl) ?_)))
    rintro _ _ ⟨b6, rfl, rfl⟩
    refine .v (.move rfl) ?_
    refine .ef (.append (c := 0) (k := len) (vs := []) (news := csrows l) (h := [(b6, .cells [] 48)]) (fr := []) rfl rfl ⟨rfl, .inr ⟨b6, 0, 0, [], rfl, rfl, by omega, by simp, by simp⟩⟩ (by exact List.Perm.refl _)
      (fun w' s => (hx.keep0 s).src (by rw [csrows_length, hl]) (by omega)) (by rw [csrows_length, hl]) (csrows_ones _) (by omega) (by omega)) ?_
    rintro v _ ⟨h', k', rfl⟩
    refine .v (.assign rfl) (.nil ?_)
    refine .ret ⟨[_], ⟨rfl, trivial⟩, h', fun _ s => by simpa using s, ?_⟩
    rw [Nat.zero_add, hl] at k'
    exact k'
set_option maxRecDepth 20000 in
theorem Cases_ok {w0 w : World} {own : List Nat} {HS : Hp} (s : Sat w0 own HS w) (p : WP) (wn : Wn) (n : Int) {W : Wt} {z : WZ} (hI : WI W z) (hsub : z.H p wn n ⊆ HS) (hb : W.cs.length ≤ 1000000000) :
    Does Try.prog 13 [.pointer (some ⟨p.b, 0, none⟩)] [] w (fun v hs => CsOwn v W.cs hs) := by
  obtain ⟨eo, co, ep, cp, ea, ca, vl, hl, vc, hc⟩ := z
  have oc := hI.c
  dsimp only at oc hsub
  obtain ⟨Ac, kc, rfl⟩ := OwnS.slice oc
  have r1 : Rd w [] (some ⟨p.b, 0, none⟩) (wcells wn n p.mo p.mp p.ma vl (.slice Ac W.cs.length kc)) := Rd.blk (T := 77) (hb := ⟨hsub (by simp)⟩) s
  have r2 : Rd w [] Ac (csrows W.cs) := OwnS.rd oc s (no := []) (fun y hy => hsub (by simp [hy])) (by simp)
  refine Does.less (Does.of (n := 8) Try.func13 rfl rfl rfl rfl ?_)
  refine .seq ((.region (.v (.assign rfl) (.nil ?_))))
  refine .seq ((.region (.v (.move rfl) (.v (.nilCheck rfl) (.v (.fieldAddr rfl) (.v (.load (v := .slice Ac W.cs.length kc) rfl (Rd.cell r1 (i := 10) rfl)) ?_))))))
  refine .ef (.call0 rfl rfl fun w s => csclone_ok w Ac W.cs.length kc W.cs (r2.keep0 s) rfl (by omega)) ?_
  rintro v _ ⟨h, k', rfl⟩
  refine .v (.assign rfl) (.nil ?_)
  exact .ret ⟨[_], ⟨rfl, trivial⟩, h, fun _ s => by simpa using s, k'⟩
set_option maxRecDepth 20000 in
theorem Count_ok {w0 w : World} {own : List Nat} {HS : Hp} (s : Sat w0 own HS w) (p : WP) (wn : Wn) (n : Int) {z : WZ} (hsub : z.H p wn n ⊆ HS) :
    Is Try.prog 14 [.pointer (some ⟨p.b, 0, none⟩)] w (.int .u64 n) := by
  have r1 : Rd w [] (some ⟨p.b, 0, none⟩) (wcells wn n p.mo p.mp p.ma z.vl z.vc) := Rd.blk (T := 77) (hb := ⟨hsub (by simp)⟩) s
  refine Does.pure (Does.of (n := 7) Try.func14 rfl rfl rfl rfl ?_)
  refine .seq ((.region (.v (.assign rfl) (.nil ?_))))
  refine .seq ((.region (.v (.move rfl) (.v (.nilCheck rfl) (.v (.fieldAddr rfl) (.v (.load (v := .int .u64 n) rfl (Rd.cell r1 (i := 5) rfl)) (.v (.assign rfl) (.nil ?_))))))))
  exact .ret ⟨[_], ⟨rfl, trivial⟩, rfl⟩
set_option maxRecDepth 20000 in
theorem within_ok (w : World) (n most : Int) : Is Try.prog 22 [.int .i64 n, .int .i64 most] w (.bool (decide (1 ≤ n ∧ n ≤ most))) := by
  refine Does.pure (Does.of (n := 12) Try.func22 rfl rfl rfl rfl ?_)
  refine .seq ((.region (.v (.assign rfl) (.nil ?_))))
  refine .seq ((.region (.v (.move rfl) (.v (.geq rfl rfl) (.v (.move rfl) (.and (b2 := decide (n ≤ most)) 7 10 3 3 rfl rfl (fun g1 => .v (.move rfl) (.v (.move rfl) (.v (.leq rfl rfl) (.nil ⟨rfl, rfl, rfl, rfl⟩)))) (.v (.assign rfl) (.nil ?_))))))))
  refine .ret ⟨[_], ⟨rfl, trivial⟩, vb ?_⟩
  simp
set_option maxRecDepth 20000 in
theorem Valid_ok (w : World) (wn : Wn) : Is Try.prog 8 [.agg ⟨wn.cells⟩] w (.bool (decide wn.Can)) := by
  refine Does.pure (Does.of (n := 53) Try.func8 rfl rfl rfl rfl ?_)
  refine .seq ((.region (.nw (.box (l := wn.cells) rfl rfl) fun b1 => (.v (.assign rfl) (.nil ?_)))))
  refine .seq ((.region (.v (.fieldAddr rfl) (.v (.load (v := .int .i64 wn.span) rfl (.one rfl)) (.v (.geq rfl rfl) (.v (.move rfl) (.and (b2 := decide (wn.span ≤ 1000)) 6 9 3 3 rfl rfl (fun g1 => .v (.fieldAddr rfl) (.v (.load (v := .int .i64 wn.span) rfl (.one rfl)) (.v (.leq rfl rfl) (.nil ⟨rfl, rfl, rfl, rfl⟩)))) (.v (.move rfl) (.and (b2 := decide (1 ≤ wn.lay)) 11 14 3 3 rfl rfl (fun g2 => .v (.fieldAddr rfl) (.v (.load (v := .int .i64 wn.lay) rfl (.one rfl)) (.v (.geq rfl rfl) (.nil ⟨rfl, rfl, rfl, rfl⟩)))) (.v (.move rfl) (.and (b2 := decide (wn.lay ≤ wn.span)) 16 21 5 5 rfl rfl (fun g3 => .v (.fieldAddr rfl) (.v (.load (v := .int .i64 wn.lay) rfl (.one rfl)) (.v (.fieldAddr rfl) (.v (.load (v := .int .i64 wn.span) rfl (.one rfl)) (.v (.leq rfl rfl) (.nil ⟨rfl, rfl, rfl, rfl⟩)))))) (.v (.move rfl) (.and (b2 := decide (1 ≤ wn.rat)) 23 26 3 3 rfl rfl (fun g4 => .v (.fieldAddr rfl) (.v (.load (v := .int .i64 wn.rat) rfl (.one rfl)) (.v (.geq rfl rfl) (.nil ⟨rfl, rfl, rfl, rfl⟩)))) (.v (.move rfl) (.and (b2 := decide (wn.rat ≤ 1000)) 28 31 3 3 rfl rfl (fun g5 => .v (.fieldAddr rfl) (.v (.load (v := .int .i64 wn.rat) rfl (.one rfl)) (.v (.leq rfl rfl) (.nil ⟨rfl, rfl, rfl, rfl⟩)))) (.v (.move rfl) (.and (b2 := decide (1 ≤ wn.lst)) 33 36 3 3 rfl rfl (fun g6 => .v (.fieldAddr rfl) (.v (.load (v := .int .i64 wn.lst) rfl (.one rfl)) (.v (.geq rfl rfl) (.nil ⟨rfl, rfl, rfl, rfl⟩)))) (.v (.move rfl) (.and (b2 := decide (wn.lst ≤ 1000)) 38 41 3 3 rfl rfl (fun g7 => .v (.fieldAddr rfl) (.v (.load (v := .int .i64 wn.lst) rfl (.one rfl)) (.v (.leq rfl rfl) (.nil ⟨rfl, rfl, rfl, rfl⟩)))) (.v (.move rfl) (.and (b2 := decide (1 ≤ wn.mov)) 43 46 3 3 rfl rfl (fun g8 => .v (.fieldAddr rfl) (.v (.load (v := .int .i64 wn.mov) rfl (.one rfl)) (.v (.geq rfl rfl) (.nil ⟨rfl, rfl, rfl, rfl⟩)))) (.v (.move rfl) (.and (b2 := decide (wn.mov ≤ 262144)) 48 51 3 3 rfl rfl (fun g9 => .v (.fieldAddr rfl) (.v (.load (v := .int .i64 wn.mov) rfl (.one rfl)) (.v (.leq rfl rfl) (.nil ⟨rfl, rfl, rfl, rfl⟩)))) (.v (.assign rfl) (.nil ?_)))))))))))))))))))))))))
  refine .ret ⟨[_], ⟨rfl, trivial⟩, vb ?_⟩
  simp only [Bool.and_eq_true, decide_eq_true_eq]
  unfold Wn.Can
  omega
set_option maxRecDepth 20000 in
theorem SNew_ok (w : World) (wn : Wn) : Does Try.prog 7 [.agg ⟨wn.cells⟩] [] w (fun v hs => (wn.Can ∧ ∃ p z, v = .tuple ⟨[.pointer (some ⟨p.b, 0, none⟩), .int .i64 0]⟩ ∧ hs = WZ.H p wn 0 z ∧ WI Wt.new z) ∨ (¬ wn.Can ∧ v = .tuple ⟨[.pointer none, .int .i64 1]⟩ ∧ hs = [])) := by
  refine Does.less (Does.of (n := 46) Try.func7 rfl rfl rfl rfl ?_)
  refine .seq ((.region (.nw (.box (l := wn.cells) rfl rfl) fun b1 => (.v (.assign rfl) (.v (.assign rfl) (.nil ?_))))))
  refine .seq ((.region (.v (.assign rfl) (.nil ?_))))
  refine .seq (.seq ((.region (.v (.move rfl) (.v (.fieldAddr rfl) (.v (.load (v := .int .i64 wn.span) rfl (.one rfl)) (.pc (v := .bool (decide (1 ≤ wn.span ∧ wn.span ≤ 1000))) rfl rfl (fun w s => within_ok w wn.span 1000) ?_)))))))
  refine .v (.not rfl) (.v (.move rfl) (.or (b2 := !decide (1 ≤ wn.lay ∧ wn.lay ≤ wn.span)) 10 17 7 7 rfl rfl (fun g1 => .v (.move rfl) (.v (.fieldAddr rfl) (.v (.load (v := .int .i64 wn.lay) rfl (.one rfl)) (.v (.fieldAddr rfl) (.v (.load (v := .int .i64 wn.span) rfl (.one rfl)) (.pc (v := .bool (decide (1 ≤ wn.lay ∧ wn.lay ≤ wn.span))) rfl rfl (fun w s => within_ok w wn.lay wn.span) (.v (.not rfl) (.nil ⟨rfl, rfl, rfl, rfl⟩)))))))) (.v (.move rfl) (.or (b2 := !decide (1 ≤ wn.rat ∧ wn.rat ≤ 1000)) 19 24 5 5 rfl rfl (fun g2 => .v (.move rfl) (.v (.fieldAddr rfl) (.v (.load (v := .int .i64 wn.rat) rfl (.one rfl)) (.pc (v := .bool (decide (1 ≤ wn.rat ∧ wn.rat ≤ 1000))) rfl rfl (fun w s => within_ok w wn.rat 1000) (.v (.not rfl) (.nil ⟨rfl, rfl, rfl, rfl⟩)))))) (.v (.move rfl) (.or (b2 := !decide (1 ≤ wn.lst ∧ wn.lst ≤ 1000)) 26 31 5 5 rfl rfl (fun g3 => .v (.move rfl) (.v (.fieldAddr rfl) (.v (.load (v := .int .i64 wn.lst) rfl (.one rfl)) (.pc (v := .bool (decide (1 ≤ wn.lst ∧ wn.lst ≤ 1000))) rfl rfl (fun w s => within_ok w wn.lst 1000) (.v (.not rfl) (.nil ⟨rfl, rfl, rfl, rfl⟩)))))) (.v (.move rfl) (.or (b2 := !decide (1 ≤ wn.mov ∧ wn.mov ≤ 262144)) 33 38 5 5 rfl rfl (fun g4 => .v (.move rfl) (.v (.fieldAddr rfl) (.v (.load (v := .int .i64 wn.mov) rfl (.one rfl)) (.pc (v := .bool (decide (1 ≤ wn.mov ∧ wn.mov ≤ 262144))) rfl rfl (fun w s => within_ok w wn.mov 262144) (.v (.not rfl) (.nil ⟨rfl, rfl, rfl, rfl⟩)))))) (.nil ?_)))))))))
  refine .cond rfl (fun h1 => ?_) (fun h1 => .skip ?_)
  · simp only [Bool.or_eq_true, Bool.not_eq_true', decide_eq_false_iff_not] at h1
    refine .seq ((.region (.v (.assign rfl) (.v (.assign rfl) (.nil ?_)))))
    exact .ret ⟨[_, _], ⟨rfl, rfl, trivial⟩, [], fun _ s => s.sub (List.nil_sublist _), .inr ⟨by unfold Wn.Can; omega, rfl, rfl⟩⟩
  · simp only [Bool.or_eq_false_iff, Bool.not_eq_false', decide_eq_true_eq] at h1
    refine .seq ((.region (.v (.loadA (vs := wn.cells) rfl .whole rfl) (.ef (.makeMap .u64) ?_))))
    rintro _ _ ⟨mo, rfl, rfl⟩
    refine .ef (.makeMap .u32) ?_
    rintro _ _ ⟨mp, rfl, rfl⟩
    refine .ef (.makeMap .u32) ?_
    rintro _ _ ⟨ma, rfl, rfl⟩
    refine .v (.build (out := wcells wn 0 mo mp ma (.slice none 0 0) (.slice none 0 0)) rfl rfl) (.nw (.box (l := wcells wn 0 mo mp ma (.slice none 0 0) (.slice none 0 0)) rfl rfl) fun b45 => (.v (.assign rfl) (.v (.assign rfl) (.nil ?_))))
    exact .ret ⟨[_, _], ⟨rfl, rfl, trivial⟩, WZ.H ⟨b45, mo, mp, ma⟩ wn 0 ⟨[], 0, [], 0, [], 0, .slice none 0 0, [], .slice none 0 0, []⟩, fun _ s => s.take, .inl ⟨by unfold Wn.Can; omega, ⟨b45, mo, mp, ma⟩, ⟨[], 0, [], 0, [], 0, .slice none 0 0, [], .slice none 0 0, []⟩, rfl, rfl, ⟨MOk.nil, fun _ => rfl, MOk.nil, fun _ => rfl, MOk.nil, fun _ => rfl, OwnS.nil _ _, OwnS.nil _ _⟩⟩⟩
end Go.Proofs.Ytcbppikkoelimaa

/- SurveilAlone, plain: what is found of a member hangs on its own orders alone. -/
namespace Go.Proofs.Ytcbppikkoelimaa
open Go.V
set_option linter.unusedVariables false
set_option linter.unusedSimpArgs false

structure Wt.Srt (W : Wt) : Prop where
  s : W.last.Pairwise fun a b => a.at_ ≤ b.at_
  n : ∀ x ∈ W.last, x.at_ ≤ W.n
theorem drop_sorted {s n : Int} : ∀ {l : List Sn}, (l.Pairwise fun a b => a.at_ ≤ b.at_) → l.dropWhile (fun x => decide (s ≤ n - x.at_)) = l.filter fun x => !decide (s ≤ n - x.at_)
  | [], _ => rfl
  | a :: l, h => by
    have h' := List.pairwise_cons.1 h
    rw [List.dropWhile_cons, List.filter_cons]
    by_cases ha : s ≤ n - a.at_
    · simp only [ha, decide_true, if_true, Bool.not_true, Bool.false_eq_true, if_false]
      exact drop_sorted h'.2
    · simp only [ha, decide_false, Bool.false_eq_true, if_false, Bool.not_false, if_true]
      congr 1
      symm
      rw [List.filter_eq_self]
      intro x hx
      have := h'.1 x hx
      simp; omega
theorem Wt.Srt.tick {W : Wt} (h : W.Srt) (w : Wn) : (W.tick w).Srt :=
  ⟨h.s.sublist (List.dropWhile_sublist _), fun x hx => by have := h.n x ((List.dropWhile_sublist _).subset hx); show x.at_ ≤ W.n + 1; omega⟩
theorem Wt.Srt.push {W : Wt} (h : W.Srt) {W' : Wt} {x : Sn} (hn : W'.n = W.n) (hl : W'.last = W.last ++ [x]) (hx : x.at_ = W.n) : W'.Srt := by
  refine ⟨?_, fun y hy => ?_⟩
  · rw [hl, List.pairwise_append]
    refine ⟨h.s, by simp, fun a ha b hb => ?_⟩
    have : b = x := by simpa using hb
    subst this
    rw [hx]; exact h.n a ha
  · rw [hn]
    rw [hl] at hy
    rcases List.mem_append.1 hy with hy | hy
    · exact h.n y hy
    · have : y = x := by simpa using hy
      subst this; omega
theorem Wt.Srt.same {W W' : Wt} (h : W.Srt) (hn : W'.n = W.n) (hl : W'.last = W.last) : W'.Srt := ⟨by rw [hl]; exact h.s, by rw [hl, hn]; exact h.n⟩
/-- does an event that is remembered concern a member? -/
def conc (m : Int) (x : Sn) : Bool := (x.tr && (decide (x.by_ = m) || decide (x.se = m))) || (x.fr && decide (x.cm = m))
def ownA (m : Int) (l : List Al) : List Al := l.filter fun a => decide (a.m = m) && decide (a.r ≠ 4)
theorem ownA_app (m : Int) (a b : List Al) : ownA m (a ++ b) = ownA m a ++ ownA m b := by simp [ownA]
/-- two watches that are one to a member -/
structure Rl (m : Int) (p q : Wt) : Prop where
  n : p.n = q.n
  K : ∀ id, (p.K id = none ∧ q.K id = none) ∨ ∃ k k', p.K id = some k ∧ q.K id = some k' ∧ k.m = k'.m ∧ k.s = k'.s ∧ (k.m = m → k.t = k'.t)
  o : (p.P m).o = (q.P m).o
  t : (p.P m).t = (q.P m).t
  last : p.last.filter (conc m) = q.last.filter (conc m)
  sp : p.Srt
  sq : q.Srt
/-- alike in what counts for a member -/
structure Alk (m : Int) (p p' : Wt) : Prop where
  n : p'.n = p.n
  K : p'.K = p.K
  o : (p'.P m).o = (p.P m).o
  t : (p'.P m).t = (p.P m).t
  last : p'.last = p.last
theorem Rl.left {m : Int} {p q p' : Wt} (h : Rl m p q) (a : Alk m p p') : Rl m p' q :=
  ⟨a.n.trans h.n, by rw [a.K]; exact h.K, a.o.trans h.o, a.t.trans h.t, by rw [a.last]; exact h.last, h.sp.same a.n a.last, h.sq⟩
theorem Rl.right {m : Int} {p q q' : Wt} (h : Rl m p q) (a : Alk m q q') : Rl m p q' :=
  ⟨h.n.trans a.n.symm, by rw [a.K]; exact h.K, h.o.trans a.o.symm, h.t.trans a.t.symm, by rw [a.last]; exact h.last, h.sp, h.sq.same a.n a.last⟩
theorem alk_al (w : Wn) (z : Wt × List Al) (r m' o n m : Int) : Alk m z.1 (Wt.al w z r m' o n).1 := by
  have h1 := Wt.al_eq w z r m' o n
  have h2 := Wt.al_P w z r m' o n m
  exact ⟨h1.1, h1.2.1, h2.1, h2.2, h1.2.2.2⟩
theorem own_al_other (w : Wn) (z : Wt × List Al) {r m' o n m : Int} (h : m' ≠ m ∨ r = 4) : ownA m (Wt.al w z r m' o n).2 = ownA m z.2 := by
  unfold Wt.al
  split
  · rfl
  · rw [ownA_app]
    have : ownA m [⟨r, m', z.1.n, o, n⟩] = [] := by
      unfold ownA
      rw [List.filter_eq_nil_iff]
      intro a ha
      have : a = ⟨r, m', z.1.n, o, n⟩ := by simpa using ha
      subst this
      rcases h with h | h <;> simp [h]
    rw [this, List.append_nil]
theorem own_al_same {m : Int} (w : Wn) {z z' : Wt × List Al} (h : ownA m z.2 = ownA m z'.2) (hn : z.1.n = z'.1.n) (r m' o n : Int) : ownA m (Wt.al w z r m' o n).2 = ownA m (Wt.al w z' r m' o n).2 := by
  unfold Wt.al
  split
  · exact h
  · rw [ownA_app, ownA_app, h, hn]
theorem Rl.who {m : Int} {p q : Wt} (h : Rl m p q) (id : Int) : p.who id = q.who id := by
  unfold Wt.who
  rcases h.K id with ⟨h1, h2⟩ | ⟨k, k', h1, h2, h3, -⟩
  · rw [h1, h2]
  · rw [h1, h2]; exact h3
theorem Rl.tick {m : Int} {p q : Wt} (h : Rl m p q) (w : Wn) : Rl m (p.tick w) (q.tick w) := by
  refine ⟨by show p.n + 1 = q.n + 1; rw [h.n], h.K, h.o, h.t, ?_, h.sp.tick w, h.sq.tick w⟩
  show (p.last.dropWhile _).filter _ = (q.last.dropWhile _).filter _
  rw [drop_sorted h.sp.s, drop_sorted h.sq.s, List.filter_filter, List.filter_filter]
  have e : ∀ l : List Sn, l.filter (fun a => conc m a && !decide (w.span ≤ p.n + 1 - a.at_)) = (l.filter (conc m)).filter fun a => !decide (w.span ≤ p.n + 1 - a.at_) := fun l => by
    rw [List.filter_filter]; exact List.filter_congr fun x _ => by rw [Bool.and_comm]
  rw [← h.n, e, e, h.last]
/-- a pair: watch and what was told -/
structure Rz (m : Int) (z z' : Wt × List Al) : Prop where
  r : Rl m z.1 z'.1
  o : ownA m z.2 = ownA m z'.2
theorem Rz.al_both {m : Int} {z z' : Wt × List Al} (h : Rz m z z') (w : Wn) (r m' o n : Int) : Rz m (Wt.al w z r m' o n) (Wt.al w z' r m' o n) :=
  ⟨(h.r.left (alk_al w z r m' o n m)).right (alk_al w z' r m' o n m), own_al_same w h.o h.r.n r m' o n⟩
theorem Rz.al_l {m : Int} {z z' : Wt × List Al} (h : Rz m z z') (w : Wn) {r m' o n : Int} (hm : m' ≠ m ∨ r = 4) : Rz m (Wt.al w z r m' o n) z' :=
  ⟨h.r.left (alk_al w z r m' o n m), by rw [own_al_other w z hm]; exact h.o⟩
theorem Rz.al_r {m : Int} {z z' : Wt × List Al} (h : Rz m z z') (w : Wn) {r m' o n : Int} (hm : m' ≠ m ∨ r = 4) : Rz m z (Wt.al w z' r m' o n) :=
  ⟨h.r.right (alk_al w z' r m' o n m), by rw [own_al_other w z' hm]; exact h.o⟩
theorem Rz.jump_l {m : Int} {z z' : Wt × List Al} (h : Rz m z z') (w : Wn) (pr m' id : Int) : Rz m (jump w z pr m' id) z' := by
  unfold jump
  split
  · exact h
  · split
    · exact h.al_l w (.inr rfl)
    · exact h
theorem Rz.jump_r {m : Int} {z z' : Wt × List Al} (h : Rz m z z') (w : Wn) (pr m' id : Int) : Rz m z (jump w z' pr m' id) := by
  unfold jump
  split
  · exact h
  · split
    · exact h.al_r w (.inr rfl)
    · exact h

theorem alk_chg (W : Wt) (m' m : Int) (f : Pf → Pf) (h : ∀ p, (f p).o = p.o ∧ (f p).t = p.t) : Alk m W (W.chg m' f) := by
  have h1 := W.chg_eq m' f
  refine ⟨h1.1, h1.2.1, ?_, ?_, h1.2.2.2.1⟩
  · rw [Wt.chg_P]; split
    · rename_i e; rw [(h _).1, e.1]
    · rfl
  · rw [Wt.chg_P]; split
    · rename_i e; rw [(h _).2, e.1]
    · rfl
theorem Alk.trans {m : Int} {a b c : Wt} (h : Alk m a b) (k : Alk m b c) : Alk m a c := ⟨k.n.trans h.n, k.K.trans h.K, k.o.trans h.o, k.t.trans h.t, k.last.trans h.last⟩
/-- what a trade does to profiles and orders -/
theorem trade0_P {m : Int} (hm : m ≠ 0) (W : Wt) (e : Ev) : ((W.trade0 e).P m).o = (W.P m).o ∧ ((W.trade0 e).P m).t = (W.P m).t + (if W.who e.id = m then 1 else 0) + (if W.who e.other = m then 1 else 0) := by
  unfold Wt.trade0
  have a1 := alk_chg ((((W.part e.id).part e.other).chg (W.who e.id) fun p => { p with t := p.t + 1 }).chg (W.who e.other) fun p => { p with t := p.t + 1 }) (W.buyer e) m (fun p => { p with b := (p.b + e.q) % 18446744073709551616 }) (fun _ => ⟨rfl, rfl⟩)
  have a2 := alk_chg (((((W.part e.id).part e.other).chg (W.who e.id) fun p => { p with t := p.t + 1 }).chg (W.who e.other) fun p => { p with t := p.t + 1 }).chg (W.buyer e) fun p => { p with b := (p.b + e.q) % 18446744073709551616 }) (W.seller e) m (fun p => { p with s := (p.s + e.q) % 18446744073709551616 }) (fun _ => ⟨rfl, rfl⟩)
  have a := a1.trans a2
  rw [a.o, a.t]
  have hP : ∀ x, ((W.part e.id).part e.other).P x = W.P x := fun _ => rfl
  simp only [Wt.chg_P, hP]
  by_cases h1 : W.who e.id = m <;> by_cases h2 : W.who e.other = m
  · subst h1; simp [hm, h2]
  · subst h1; simp [hm, h2, Ne.symm h2]
  · subst h2; simp [hm, h1, Ne.symm h1]
  · simp [h1, h2, Ne.symm h1, Ne.symm h2]
theorem trade0_eq (W : Wt) (e : Ev) : (W.trade0 e).n = W.n ∧ (W.trade0 e).K = ((W.part e.id).part e.other).K ∧ (W.trade0 e).A = W.A ∧ (W.trade0 e).last = W.last ∧ (W.trade0 e).cs = W.cs := by
  unfold Wt.trade0
  refine ⟨?_, ?_, ?_, ?_, ?_⟩
  · rw [(Wt.chg_eq _ _ _).1, (Wt.chg_eq _ _ _).1, (Wt.chg_eq _ _ _).1, (Wt.chg_eq _ _ _).1]; rfl
  · rw [(Wt.chg_eq _ _ _).2.1, (Wt.chg_eq _ _ _).2.1, (Wt.chg_eq _ _ _).2.1, (Wt.chg_eq _ _ _).2.1]
  · rw [(Wt.chg_eq _ _ _).2.2.1, (Wt.chg_eq _ _ _).2.2.1, (Wt.chg_eq _ _ _).2.2.1, (Wt.chg_eq _ _ _).2.2.1]; rfl
  · rw [(Wt.chg_eq _ _ _).2.2.2.1, (Wt.chg_eq _ _ _).2.2.2.1, (Wt.chg_eq _ _ _).2.2.2.1, (Wt.chg_eq _ _ _).2.2.2.1]; rfl
  · rw [(Wt.chg_eq _ _ _).2.2.2.2, (Wt.chg_eq _ _ _).2.2.2.2, (Wt.chg_eq _ _ _).2.2.2.2, (Wt.chg_eq _ _ _).2.2.2.2]; rfl
theorem part_K (W : Wt) (a id : Int) : (W.part a).K id = if id = a then (W.K a).map (fun k => { k with t := true }) else W.K id := rfl
abbrev RK (m : Int) (a b : Option Kn) : Prop := (a = none ∧ b = none) ∨ ∃ k k', a = some k ∧ b = some k' ∧ k.m = k'.m ∧ k.s = k'.s ∧ (k.m = m → k.t = k'.t)
theorem RK.both {m : Int} {a b : Option Kn} (h : RK m a b) : RK m (a.map fun k => { k with t := true }) (b.map fun k => { k with t := true }) := by
  rcases h with ⟨rfl, rfl⟩ | ⟨k, k', rfl, rfl, h1, h2, -⟩
  · exact .inl ⟨rfl, rfl⟩
  · exact .inr ⟨_, _, rfl, rfl, h1, h2, fun _ => rfl⟩
theorem RK.lone {m : Int} {a b : Option Kn} (h : RK m a b) (hm : ∀ k, a = some k → k.m ≠ m) : RK m (a.map fun k => { k with t := true }) b := by
  rcases h with ⟨rfl, rfl⟩ | ⟨k, k', rfl, rfl, h1, h2, -⟩
  · exact .inl ⟨rfl, rfl⟩
  · exact .inr ⟨_, _, rfl, rfl, h1, h2, fun e => absurd e (hm k rfl)⟩
theorem who_ne {W : Wt} {m id : Int} (h : W.who id ≠ m) : ∀ k, W.K id = some k → k.m ≠ m := by
  intro k hk
  unfold Wt.who at h
  rw [hk] at h; exact h
theorem Rl.trade {m : Int} (hm : m ≠ 0) {p q : Wt} (h : Rl m p q) (e : Ev) : Rl m (p.trade1 e) (q.trade1 e) := by
  have p0 := trade0_eq p e
  have q0 := trade0_eq q e
  have pP := trade0_P hm p e
  have qP := trade0_P hm q e
  have w1 := h.who e.id
  have w2 := h.who e.other
  have hb : p.buyer e = q.buyer e := by unfold Wt.buyer; rw [w1, w2]
  have hs : p.seller e = q.seller e := by unfold Wt.seller; rw [w1, w2]
  refine ⟨?_, fun id => ?_, ?_, ?_, ?_, h.sp.push p0.1 rfl rfl, h.sq.push q0.1 rfl rfl⟩
  · show (p.trade0 e).n = (q.trade0 e).n
    rw [p0.1, q0.1, h.n]
  · show RK m ((p.trade0 e).K id) ((q.trade0 e).K id)
    rw [p0.2.1, q0.2.1, part_K, part_K, part_K, part_K, part_K, part_K]
    have := h.K id
    have := h.K e.id
    have := h.K e.other
    split
    · split
      · exact RK.both (RK.both (h.K _))
      · exact RK.both (h.K _)
    · split
      · exact RK.both (h.K _)
      · exact h.K _
  · show ((p.trade0 e).P m).o = ((q.trade0 e).P m).o
    rw [pP.1, qP.1, h.o]
  · show ((p.trade0 e).P m).t = ((q.trade0 e).P m).t
    rw [pP.2, qP.2, h.t, w1, w2]
  · show (p.last ++ [_]).filter _ = (q.last ++ [_]).filter _
    rw [List.filter_append, List.filter_append, h.last, h.n, hb, hs]
theorem Rl.lone {m : Int} (hm : m ≠ 0) {p q : Wt} (h : Rl m p q) (e : Ev) (h1 : p.who e.id ≠ m) (h2 : p.who e.other ≠ m) : Rl m (p.trade1 e) q := by
  have p0 := trade0_eq p e
  have pP := trade0_P hm p e
  rw [if_neg h1, if_neg h2] at pP
  refine ⟨?_, fun id => ?_, ?_, ?_, ?_, h.sp.push p0.1 rfl rfl, h.sq⟩
  · show (p.trade0 e).n = _
    rw [p0.1, h.n]
  · show RK m ((p.trade0 e).K id) (q.K id)
    rw [p0.2.1, part_K, part_K, part_K]
    have k1 := who_ne h1
    have k2 := who_ne h2
    split
    · rename_i e1
      rw [e1]
      split
      · rename_i e2
        refine RK.lone (RK.lone (by rw [e2]; exact h.K _) k1) fun k hk => ?_
        cases hK : p.K e.id with
        | none => rw [hK] at hk; cases hk
        | some k0 =>
          rw [hK] at hk
          have := Option.some.inj hk
          subst this
          exact k1 k0 hK
      · exact RK.lone (h.K _) k2
    · split
      · rename_i e2; rw [e2]; exact RK.lone (h.K _) k1
      · exact h.K _
  · show ((p.trade0 e).P m).o = _
    rw [pP.1, h.o]
  · show ((p.trade0 e).P m).t = _
    rw [pP.2, h.t]; omega
  · show (p.last ++ [_]).filter _ = _
    rw [List.filter_append, h.last]
    have : ([⟨p.n, true, tickOf e.pr, p.buyer e, p.seller e, 0, 0, false⟩] : List Sn).filter (conc m) = [] := by
      rw [List.filter_eq_nil_iff]
      intro x hx
      have : x = ⟨p.n, true, tickOf e.pr, p.buyer e, p.seller e, 0, 0, false⟩ := by simpa using hx
      subst this
      unfold conc Wt.buyer Wt.seller
      by_cases hs : e.sd = 1 <;> simp [hs, h1, h2]
    rw [this, List.append_nil]
theorem layN_conc (m s : Int) (l : List Sn) : layN m s l = layN m s (l.filter (conc m)) := by
  unfold layN
  rw [List.filter_filter]
  congr 1
  refine List.filter_congr fun x _ => ?_
  unfold conc
  cases x.fr <;> cases x.tr <;> by_cases h : x.cm = m <;> simp [h]
theorem metB_conc (m s : Int) (l : List Sn) : metB m s l = metB m s (l.filter (conc m)) := by
  unfold metB
  rw [List.any_filter]
  congr 1
  funext x
  unfold conc
  by_cases hs : s = 1 <;> cases x.tr <;> simp [hs] <;> intro h <;> simp [h]
theorem Rz.ack {m : Int} (hm : m ≠ 0) {z z' : Wt × List Al} (h : Rz m z z') (w : Wn) (e : Ev) : Rz m (Wt.acks w z e) (Wt.acks w z' e) := by
  have hP : ∀ W : Wt, ((W.ack0 e).P m).t = (W.P m).t ∧ ((W.ack0 e).P m).o = (W.P m).o + if e.mb = m then 1 else 0 := fun W => by
    unfold Wt.ack0
    rw [Wt.chg_P]
    by_cases e1 : e.mb = m
    · subst e1; simp [hm]
    · simp [e1, Ne.symm e1]
  have hE : ∀ W : Wt, (W.ack0 e).n = W.n ∧ (W.ack0 e).K = (fun x => if x = e.id then some ⟨e.mb, e.sd, false⟩ else W.K x) ∧ (W.ack0 e).last = W.last := fun W => by
    unfold Wt.ack0
    have := Wt.chg_eq ({ W with K := fun x => if x = e.id then some ⟨e.mb, e.sd, false⟩ else W.K x, A := fun x => if x = e.mb then true else W.A x } : Wt) e.mb (fun p => { p with o := p.o + 1 })
    exact ⟨this.1, this.2.1, this.2.2.2.1⟩
  have h0 : Rz m (z.1.ack0 e, z.2) (z'.1.ack0 e, z'.2) := by
    refine ⟨⟨?_, fun id => ?_, ?_, ?_, ?_, h.r.sp.same (hE _).1 (hE _).2.2, h.r.sq.same (hE _).1 (hE _).2.2⟩, h.o⟩
    · show (z.1.ack0 e).n = (z'.1.ack0 e).n
      rw [(hE _).1, (hE _).1, h.r.n]
    · show RK m ((z.1.ack0 e).K id) ((z'.1.ack0 e).K id)
      rw [(hE _).2.1, (hE _).2.1]
      dsimp only
      split
      · exact .inr ⟨_, _, rfl, rfl, rfl, rfl, fun _ => rfl⟩
      · exact h.r.K id
    · show ((z.1.ack0 e).P m).o = ((z'.1.ack0 e).P m).o
      rw [(hP _).2, (hP _).2, h.r.o]
    · show ((z.1.ack0 e).P m).t = ((z'.1.ack0 e).P m).t
      rw [(hP _).1, (hP _).1, h.r.t]
    · show (z.1.ack0 e).last.filter _ = (z'.1.ack0 e).last.filter _
      rw [(hE _).2.2, (hE _).2.2, h.r.last]
  unfold Wt.acks
  by_cases e1 : e.mb = m
  · rw [e1]
    have o1 : ((z.1.ack0 e).P m).o = ((z'.1.ack0 e).P m).o := h0.r.o
    have t1 : ((z.1.ack0 e).P m).t = ((z'.1.ack0 e).P m).t := h0.r.t
    rw [← o1, ← t1]
    split
    · exact h0.al_both w _ _ _ _
    · exact h0
  · split
    · split
      · exact (h0.al_l w (.inl e1)).al_r w (.inl e1)
      · exact h0.al_l w (.inl e1)
    · split
      · exact h0.al_r w (.inl e1)
      · exact h0
theorem Rz.trade {m : Int} (hm : m ≠ 0) {z z' : Wt × List Al} (h : Rz m z z') (w : Wn) (e : Ev) : Rz m (Wt.trades w z e) (Wt.trades w z' e) := by
  unfold Wt.trades
  refine Rz.jump_l (Rz.jump_r ?_ w _ _ _) w _ _ _
  unfold Wt.wash
  have h0 : Rz m (z.1.trade1 e, z.2) (z'.1.trade1 e, z'.2) := ⟨h.r.trade hm e, h.o⟩
  rw [h.r.who e.id, h.r.who e.other]
  split
  · exact h0.al_both w _ _ _ _
  · exact h0
theorem Rz.lone {m : Int} (hm : m ≠ 0) {z z' : Wt × List Al} (h : Rz m z z') (w : Wn) (e : Ev) (h1 : z.1.who e.id ≠ m) (h2 : z.1.who e.other ≠ m) : Rz m (Wt.trades w z e) z' := by
  unfold Wt.trades
  refine Rz.jump_l ?_ w _ _ _
  unfold Wt.wash
  have h0 : Rz m (z.1.trade1 e, z.2) z' := ⟨h.r.lone hm e h1 h2, h.o⟩
  split
  · exact h0.al_l w (.inl h1)
  · exact h0
theorem Rl.fresh {m : Int} {p q : Wt} (h : Rl m p q) {k k' : Kn} (h1 : k.m = k'.m) (h2 : k.s = k'.s) : Rl m (p.fresh k) (q.fresh k') :=
  ⟨h.n, h.K, h.o, h.t, by show (p.last ++ [_]).filter _ = (q.last ++ [_]).filter _; rw [List.filter_append, List.filter_append, h.last, h.n, h1, h2], h.sp.push rfl rfl rfl, h.sq.push rfl rfl rfl⟩
theorem Rl.fresh_l {m : Int} {p q : Wt} (h : Rl m p q) {k : Kn} (h1 : k.m ≠ m) : Rl m (p.fresh k) q := by
  refine ⟨h.n, h.K, h.o, h.t, ?_, h.sp.push rfl rfl rfl, h.sq⟩
  show (p.last ++ [_]).filter _ = _
  rw [List.filter_append, h.last]
  simp [conc, h1]
theorem Rz.cancel {m : Int} {z z' : Wt × List Al} (h : Rz m z z') (w : Wn) (e : Ev) (h1 : z.1.who e.id = m) (hm : m ≠ 0) : Rz m (Wt.cancels w z e) (Wt.cancels w z' e) := by
  unfold Wt.cancels
  rcases h.r.K e.id with ⟨e1, e2⟩ | ⟨k, k', e1, e2, hm1, hs1, ht⟩
  · rw [e1, e2]; exact h
  · rw [e1, e2]
    dsimp only
    have hkm : k.m = m := by unfold Wt.who at h1; rw [e1] at h1; exact h1
    rw [← ht hkm]
    have hC : Rl m (z.1.chg k.m fun p => { p with c := p.c + 1 }) (z'.1.chg k'.m fun p => { p with c := p.c + 1 }) := (h.r.left (alk_chg _ _ m (fun p => { p with c := p.c + 1 }) (fun _ => ⟨rfl, rfl⟩))).right (alk_chg _ _ m (fun p => { p with c := p.c + 1 }) (fun _ => ⟨rfl, rfl⟩))
    split
    · exact ⟨hC, h.o⟩
    · have hF := hC.fresh hm1 hs1
      have e3 : ∀ W W' : Wt, Rl m W W' → layN k.m k.s W.last = layN k'.m k'.s W'.last := fun W W' hR => by
        rw [← hm1, ← hs1, hkm, layN_conc, hR.last, ← layN_conc]
      have e4 : ∀ W W' : Wt, Rl m W W' → metB k.m k.s W.last = metB k'.m k'.s W'.last := fun W W' hR => by
        rw [← hm1, ← hs1, hkm, metB_conc, hR.last, ← metB_conc]
      rw [e3 _ _ hF, e4 _ _ hF, ← hm1]
      have hF' : Rz m ((z.1.chg k.m fun p => { p with c := p.c + 1 }).fresh k, z.2) ((z'.1.chg k.m fun p => { p with c := p.c + 1 }).fresh k', z'.2) := ⟨by rw [hm1] at hF ⊢; exact hF, h.o⟩
      split
      · exact hF'.al_both w _ _ _ _
      · exact hF'
theorem Rz.cancel_l {m : Int} {z z' : Wt × List Al} (h : Rz m z z') (w : Wn) (e : Ev) (h1 : z.1.who e.id ≠ m) : Rz m (Wt.cancels w z e) z' := by
  unfold Wt.cancels
  have hk := who_ne h1
  split
  · exact h
  · rename_i k e1
    have hkm := hk k e1
    have hC : Rl m (z.1.chg k.m fun p => { p with c := p.c + 1 }) z'.1 := h.r.left (alk_chg _ _ m (fun p => { p with c := p.c + 1 }) (fun _ => ⟨rfl, rfl⟩))
    split
    · exact ⟨hC, h.o⟩
    · have hF : Rz m ((z.1.chg k.m fun p => { p with c := p.c + 1 }).fresh k, z.2) z' := ⟨hC.fresh_l hkm, h.o⟩
      split
      · exact hF.al_l w (.inl hkm)
      · exact hF
abbrev evNil : Ev := ⟨0, 5, 0, 0, 0, 0, 0, 0, 0, 0, 0, 0, 0⟩
def whoStep (f : Int → Int) (e : Ev) : Int → Int := if e.kind = 1 then (fun x => if x = e.id then e.mb else f x) else f
def othE (m : Int) (f : Int → Int) (e : Ev) : Ev := if (e.kind = 3 ∧ f e.id ≠ m ∧ f e.other ≠ m) ∨ (e.kind = 4 ∧ f e.id ≠ m) then evNil else e
def oth (m : Int) : (Int → Int) → List Ev → List Ev
  | _, [] => []
  | f, e :: l => othE m (whoStep f e) e :: oth m (whoStep f e) l
/-- whose orders are, behind an event -/
theorem who_al (w : Wn) (z : Wt × List Al) (r m o n id : Int) : (Wt.al w z r m o n).1.who id = z.1.who id := by unfold Wt.who; rw [(Wt.al_eq w z r m o n).2.1]
theorem who_part (W : Wt) (a id : Int) : (W.part a).who id = W.who id := by
  unfold Wt.who
  rw [part_K]
  by_cases e : id = a
  · rw [if_pos e, e]; cases W.K a <;> rfl
  · rw [if_neg e]
theorem who_chg (W : Wt) (m : Int) (f : Pf → Pf) (id : Int) : (W.chg m f).who id = W.who id := by unfold Wt.who; rw [(W.chg_eq m f).2.1]
theorem who_jump (w : Wn) (z : Wt × List Al) (p m i id : Int) : (jump w z p m i).1.who id = z.1.who id := by
  unfold jump
  split
  · rfl
  · split
    · exact who_al _ _ _ _ _ _ _
    · rfl
theorem who_trade1 (W : Wt) (e : Ev) (id : Int) : (W.trade1 e).who id = W.who id := by
  have : (W.trade1 e).who id = ((W.part e.id).part e.other).who id := by
    show (match (W.trade0 e).K id with | some k => k.m | none => 0) = _
    rw [(trade0_eq W e).2.1]; rfl
  rw [this, who_part, who_part]
theorem who_ev (w : Wn) (z : Wt × List Al) (e : Ev) (id : Int) : (Wt.ev w z e).1.who id = whoStep z.1.who e id := by
  unfold Wt.ev whoStep
  split
  · unfold Wt.acks
    have hE : ∀ W : Wt, (W.ack0 e).who id = if id = e.id then e.mb else W.who id := fun W => by
      unfold Wt.ack0
      rw [who_chg]
      unfold Wt.who
      dsimp only
      by_cases e1 : id = e.id
      · rw [if_pos e1, if_pos e1]
      · rw [if_neg e1, if_neg e1]
    split
    · rw [who_al]; exact hE _
    · exact hE _
  · split
    · unfold Wt.trades
      rw [who_jump]
      unfold Wt.wash
      split
      · rw [who_al]; exact who_trade1 _ _ _
      · exact who_trade1 _ _ _
    · split
      · unfold Wt.cancels
        split
        · rfl
        · split
          · exact who_chg _ _ _ _
          · split
            · rw [who_al]; exact who_chg _ _ _ _
            · exact who_chg _ _ _ _
      · rfl
theorem alone_run {m : Int} (hm : m ≠ 0) (w : Wn) : ∀ (l : List Ev) (z z' : Wt × List Al) (f : Int → Int), Rz m z z' → (∀ id, f id = z.1.who id) → ownA m (Wt.add w z l).2 = ownA m (Wt.add w z' (oth m f l)).2
  | [], z, z', f, h, _ => h.o
  | e :: l, z, z', f, h, hf => by
    have hf : f = z.1.who := funext hf
    subst hf
    show ownA m (Wt.add w (Wt.ev w z e) l).2 = ownA m (Wt.add w (Wt.ev w z' (othE m (whoStep z.1.who e) e)) (oth m (whoStep z.1.who e) l)).2
    refine alone_run hm w l _ _ _ ?_ (fun id => (who_ev w z e id).symm)
    have h0 : Rz m (z.1.tick w, z.2) (z'.1.tick w, z'.2) := ⟨h.r.tick w, h.o⟩
    have hE : Wt.ev w z' evNil = (z'.1.tick w, z'.2) := by unfold Wt.ev; simp
    by_cases k1 : e.kind = 1
    · have : othE m (whoStep z.1.who e) e = e := by unfold othE; rw [if_neg (by omega)]
      rw [this]
      unfold Wt.ev
      rw [if_pos k1, if_pos k1]
      exact h0.ack hm w e
    · have hws : whoStep z.1.who e = z.1.who := by unfold whoStep; rw [if_neg k1]
      rw [hws]
      have ht : ∀ id, (z.1.tick w).who id = z.1.who id := fun _ => rfl
      by_cases k3 : e.kind = 3
      · by_cases hc : z.1.who e.id ≠ m ∧ z.1.who e.other ≠ m
        · have : othE m z.1.who e = evNil := by unfold othE; rw [if_pos (.inl ⟨k3, hc⟩)]
          rw [this, hE]
          unfold Wt.ev
          rw [if_neg k1, if_pos k3]
          exact h0.lone hm w e hc.1 hc.2
        · have : othE m z.1.who e = e := by unfold othE; rw [if_neg (by rintro (hh | hh); exact hc hh.2; omega)]
          rw [this]
          unfold Wt.ev
          rw [if_neg k1, if_pos k3, if_neg k1, if_pos k3]
          exact h0.trade hm w e
      · by_cases k4 : e.kind = 4
        · by_cases hc : z.1.who e.id ≠ m
          · have : othE m z.1.who e = evNil := by unfold othE; rw [if_pos (.inr ⟨k4, hc⟩)]
            rw [this, hE]
            unfold Wt.ev
            rw [if_neg k1, if_neg k3]
            split
            · exact h0.cancel_l w e hc
            · exact h0
          · have hc' : z.1.who e.id = m := by simpa using hc
            have : othE m z.1.who e = e := by unfold othE; rw [if_neg (by rintro (hh | hh); exact k3 hh.1; exact hh.2 hc')]
            rw [this]
            unfold Wt.ev
            rw [if_neg k1, if_neg k3, if_neg k1, if_neg k3]
            split
            · exact h0.cancel w e hc' hm
            · exact h0
        · have : othE m z.1.who e = e := by unfold othE; rw [if_neg (by rintro (hh | hh); exact k3 hh.1; exact k4 hh.1)]
          rw [this]
          unfold Wt.ev
          rw [if_neg k1, if_neg k3, if_neg (fun hh => k4 hh.1), if_neg k1, if_neg k3, if_neg (fun hh => k4 hh.1)]
          exact h0
theorem alone {m : Int} (hm : m ≠ 0) (w : Wn) (l : List Ev) : ownA m (Wt.add w (Wt.new, []) l).2 = ownA m (Wt.add w (Wt.new, []) (oth m (fun _ => 0) l)).2 :=
  alone_run hm w l _ _ _ ⟨⟨rfl, fun _ => .inl ⟨rfl, rfl⟩, rfl, rfl, rfl, ⟨by simp [Wt.new], by simp [Wt.new]⟩, ⟨by simp [Wt.new], by simp [Wt.new]⟩⟩, rfl⟩ (fun _ => rfl)
end Go.Proofs.Ytcbppikkoelimaa

/- SurveilAlone: the law. -/
namespace Go.Proofs.Ytcbppikkoelimaa
open Go.V
set_option linter.unusedVariables false
set_option linter.unusedSimpArgs false

theorem SNew_yes (w : World) {wn : Wn} (h : wn.Can) : Does Try.prog 7 [.agg ⟨wn.cells⟩] [] w (fun v hs => ∃ p z, v = .tuple ⟨[.pointer (some ⟨WP.b p, 0, none⟩), .int .i64 0]⟩ ∧ hs = WZ.H p wn 0 z ∧ WI Wt.new z) :=
  (SNew_ok w wn).mono fun v hs h' => by
    rcases h' with ⟨-, h'⟩ | ⟨h', -⟩
    · exact h'
    · exact absurd h h'
theorem SNew_no (w : World) {wn : Wn} (h : ¬ wn.Can) : Is Try.prog 7 [.agg ⟨wn.cells⟩] w (.tuple ⟨[.pointer none, .int .i64 1]⟩) :=
  (SNew_ok w wn).mono fun v hs h' => by
    rcases h' with ⟨h', -⟩ | ⟨-, h'⟩
    · exact absurd h' h
    · exact h'
theorem Valid_yes (w : World) {wn : Wn} (h : wn.Can) : Is Try.prog 8 [.agg ⟨wn.cells⟩] w (.bool true) := by have := Valid_ok w wn; rwa [decide_eq_true h] at this
theorem Valid_no (w : World) {wn : Wn} (h : ¬ wn.Can) : Is Try.prog 8 [.agg ⟨wn.cells⟩] w (.bool false) := by have := Valid_ok w wn; rwa [decide_eq_false h] at this
theorem ownA_snoc (m : Int) (l : List Al) (x : Al) : ownA m (l ++ [x]) = ownA m l ++ if x.m = m ∧ x.r ≠ 4 then [x] else [] := by
  rw [ownA_app]
  congr 1
  unfold ownA
  by_cases h : x.m = m ∧ x.r ≠ 4
  · rw [if_pos h]; simp [h]
  · rw [if_neg h, List.filter_cons_of_neg (by simpa using fun h1 => fun h2 => h ⟨h1, h2⟩)]; rfl
structure OWS where
  i : Nat
  v : Value
  k : Hp
set_option maxRecDepth 20000 in
theorem own_ok (w : World) (A : Option Addr) (cap : Nat) (l : List Al) (m : Int) (hA : Rd w [] A (alrows l)) (hb : l.length ≤ 1000000000) :
    Does Try.prog 11 [.slice A l.length cap, .int .u32 m] [] w (fun v hs => AlOwn v (ownA m l) hs) := by
  refine Does.less (Does.of (n := 37) Try.func11 rfl rfl rfl rfl ?_)
  refine .seq ((.region (.v (.assign rfl) (.nil ?_))))
  refine .seq ((.region (.ef (.buildSlice (out := []) rfl (by decide) rfl rfl) ?_)))
  rintro _ _ ⟨b7, rfl, rfl⟩
  refine .v (.assign rfl) (.nil ?_)
  refine .seq (.seq ((.region (.v (.assign rfl) (.nil ?_)))))
  refine .block (.loop (X := OWS) (fun x => [(0, .slice A l.length cap), (1, .int .u32 m), (5, x.v), (6, .int .i64 x.i)]) (fun x => x.k) (fun x => x.i ≤ l.length ∧ AlOwn x.v (ownA m (l.take x.i)) x.k) (fun x => l.length - x.i) ⟨0, .slice (some ⟨b7, 0, none⟩) 0 0, [(b7, .cells [] 46)]⟩ ⟨Nat.zero_le _, (⟨rfl, .inr ⟨b7, 0, 0, [], rfl, rfl, Nat.le_refl _, by simp, by simp [alrows]⟩⟩ : AlOwn (.slice (some ⟨b7, 0, none⟩) 0 0) [] [(b7, .cells [] 46)])⟩ (.cons rfl (.cons rfl (.cons rfl (.cons rfl (.nil _))))) (fun _ s => s) ?_)
  rintro ⟨i, v, k⟩ ⟨hi, ho⟩
  dsimp only at hi ho ⊢
  refine .seq (.seq ((.region (.v (.move rfl) (.v (.move rfl) (.v (.len rfl) (.v (.lss rfl rfl) (.nil ?_))))))))
  refine .cond_dec rfl (fun h1 => .skip ?_) (fun h1 => .exit ?_)
  · have hil : i < l.length := by omega
    obtain ⟨b, o, rfl, hat⟩ := Rd.recs Al.cells 5 (fun _ => rfl) hA (by omega) (by omega)
    have hx := fun hs => recAt Al.cells 5 (fun _ => rfl) (z := (i : Int)) (hat hs) hil
    have hxm := fun hs => fldAt Al.cells 5 (fun _ => rfl) (z := (i : Int)) (hat hs) hil 1 rfl
    have hxr := fun hs => fldAt Al.cells 5 (fun _ => rfl) (z := (i : Int)) (hat hs) hil 0 rfl
    have hsn := ownA_snoc m (l.take i) l[i]
    rw [← take_snoc hil] at hsn
    have hle : (ownA m (l.take i)).length ≤ i := by
      have := List.length_filter_le (fun a : Al => decide (a.m = m) && decide (a.r ≠ 4)) (l.take i)
      rw [List.length_take] at this
      unfold ownA; omega
    generalize l[i] = x at hx hxm hxr hsn
    refine .mid (X := Value × Hp) (fun z => [(0, .slice (some ⟨b, o, none⟩) l.length cap), (1, .int .u32 m), (5, z.1), (6, .int .i64 i)]) (fun z => z.2) (fun z => AlOwn z.1 (ownA m (l.take (i + 1))) z.2) (.block (.seq ((.region (.v (.move rfl) (.v (.move rfl) (.v (.indexAddr rfl rfl (by omega) (by omega)) (.v (.fieldAddr rfl) (.v (.load (v := .int .u32 x.m) rfl (hxm _)) (.v (.move rfl) (.v (.eqi rfl rfl) (.v (.move rfl) (.and (b2 := decide (x.r ≠ 4)) 21 27 6 6 rfl rfl (fun g1 => .v (.move rfl) (.v (.move rfl) (.v (.indexAddr rfl rfl (by omega) (by omega)) (.v (.fieldAddr rfl) (.v (.load (v := .int .i64 x.r) rfl (hxr _)) (.v (.nei rfl rfl) (.nil ⟨rfl, rfl, rfl, rfl⟩))))))) (.nil ?_)))))))))))))) ?_
    · refine .cond rfl (fun h2 => ?_) (fun h2 => .skip ?_)
      · rw [Bool.and_eq_true, decide_eq_true_eq, decide_eq_true_eq] at h2
        rw [if_pos h2] at hsn
        refine .region (.v (.move rfl) (.v (.move rfl) (.v (.move rfl) (.v (.indexAddr rfl rfl (by omega) (by omega)) (.v (.loadA (vs := x.cells) rfl (hx _) rfl) (.push (vs := alrows (ownA m (l.take i))) (c := (ownA m (l.take i)).length) (oc := x.cells) rfl rfl ho rfl rfl rfl (by omega) (by omega) ?_))))))
        intro bq v' k' ho'
        refine .v (.assign rfl) (.nil ?_)
        refine ⟨(v', k'), ?_, .cons rfl (.cons rfl (.cons rfl (.cons rfl (.nil _)))), fun _ s => s.take⟩
        show OwnS _ 5 _ (ownA m (l.take (i + 1))).length (alrows (ownA m (l.take (i + 1)))) _
        rw [hsn, List.length_append, alrows_app]; exact ho'
      · have h2 : ¬ (x.m = m ∧ x.r ≠ 4) := fun hh => by rw [decide_eq_true hh.1, decide_eq_true hh.2] at h2; cases h2
        rw [if_neg h2, List.append_nil] at hsn
        rw [hsn]
        exact ⟨(v, k), ho, .cons rfl (.cons rfl (.cons rfl (.cons rfl (.nil _)))), fun _ s => s⟩
    · rintro ⟨v', k'⟩ ho'
      dsimp only at ho' ⊢
      refine .region (.v (.move rfl) (.v (.addi rfl rfl (by omega)) (.v (.assign rfl) (.nil ?_))))
      exact ⟨⟨i + 1, v', k'⟩, ⟨hil, ho'⟩, by show l.length - (i + 1) < _; omega, .cons rfl (.cons rfl (.cons rfl (.cons rfl (.nil _)))), fun _ s => s⟩
  · have hil : i = l.length := by omega
    subst hil
    rw [List.take_length] at ho
    refine .seq ((.region (.v (.move rfl) (.v (.assign rfl) (.nil ?_)))))
    exact .ret ⟨[_], ⟨rfl, trivial⟩, k, fun _ s => s, ho⟩
/-! ### the other ones' events -/
def whoF (l : List Ev) : Int → Int := l.foldl whoStep (fun _ => 0)
theorem oth_snoc (m : Int) : ∀ (a : List Ev) (f : Int → Int) (e : Ev), oth m f (a ++ [e]) = oth m f a ++ [othE m (whoStep (a.foldl whoStep f) e) e]
  | [], f, e => rfl
  | x :: a, f, e => by
    show othE m (whoStep f x) x :: oth m (whoStep f x) (a ++ [e]) = _
    rw [oth_snoc m a (whoStep f x) e]; rfl
theorem oth_length (m : Int) : ∀ (a : List Ev) (f : Int → Int), (oth m f a).length = a.length
  | [], f => rfl
  | x :: a, f => by show (oth m (whoStep f x) a).length + 1 = _; rw [oth_length m a]; rfl
def othUp (m : Int) (l : List Ev) (i : Nat) : List Ev := oth m (fun _ => 0) (l.take i) ++ l.drop i
theorem othUp_zero (m : Int) (l : List Ev) : othUp m l 0 = l := rfl
theorem othUp_full (m : Int) (l : List Ev) : othUp m l l.length = oth m (fun _ => 0) l := by
  unfold othUp; rw [List.take_length, List.drop_length, List.append_nil]
theorem othUp_length (m : Int) (l : List Ev) (i : Nat) : (othUp m l i).length = l.length := by
  unfold othUp; rw [List.length_append, oth_length, ← List.length_append, List.take_append_drop]
theorem othUp_succ (m : Int) {l : List Ev} {i : Nat} (h : i < l.length) : othUp m l (i + 1) = (othUp m l i).set i (othE m (whoF (l.take (i + 1))) l[i]) := by
  have hl : (oth m (fun _ => 0) (l.take i)).length = i := by rw [oth_length, List.length_take]; omega
  unfold othUp
  rw [take_snoc h, oth_snoc, List.drop_eq_getElem_cons h, List.set_append, if_neg (by omega), hl, Nat.sub_self, List.set_cons_zero, List.append_assoc]
  unfold whoF
  rw [List.foldl_append]; rfl
theorem othUp_same (m : Int) {l : List Ev} {i : Nat} (h : i < l.length) : (othUp m l i).set i l[i] = othUp m l i := by
  have hl : (oth m (fun _ => 0) (l.take i)).length = i := by rw [oth_length, List.length_take]; omega
  unfold othUp
  rw [List.drop_eq_getElem_cons h, List.set_append, if_neg (by omega), hl, Nat.sub_self, List.set_cons_zero]
theorem whoF_snoc {l : List Ev} {i : Nat} (h : i < l.length) : whoF (l.take (i + 1)) = whoStep (whoF (l.take i)) l[i] := by
  unfold whoF; rw [take_snoc h, List.foldl_append]; rfl
structure ALS where
  i : Nat
  es : List ME
  c : Nat
  lo : List Value
set_option maxRecDepth 20000 in
set_option maxHeartbeats 8000000 in
theorem SurveilAlone_ok (w : World) (wn : Wn) (A : Option Addr) (cap : Nat) (l : List Ev) (m : Int) (hA : Rd w [] A (erows l)) (hb : l.length ≤ 1200000) :
    Is Try.prog 3 [.agg ⟨wn.cells⟩, .slice A l.length cap, .int .u32 m] w (.bool true) := by
  refine Does.pure (Does.of (n := 144) Try.func3 rfl rfl rfl rfl ?_)
  refine .seq ((.region (.nw (.box (l := wn.cells) rfl rfl) fun b3 => (.v (.assign rfl) (.nil ?_)))))
  by_cases hc : wn.Can
  case neg =>
    refine .seq ((.region (.v (.loadA (vs := wn.cells) rfl .whole rfl) (.pc rfl rfl (fun w s => SNew_no w hc) ?_))))
    refine .v (.move rfl) (.v (.extract rfl rfl) (.v (.extract rfl rfl) (.v (.assign rfl) (.v (.assign rfl) (.nil ?_)))))
    refine .seq ((.region (.v (.loadA (vs := wn.cells) rfl .whole rfl) (.pc rfl rfl (fun w s => SNew_no w hc) ?_))))
    refine .v (.move rfl) (.v (.extract rfl rfl) (.v (.extract rfl rfl) (.v (.assign rfl) (.v (.assign rfl) (.nil ?_)))))
    refine .seq (.seq ((.region (.v (.move rfl) (.v (.move rfl) (.v (.nei rfl rfl) (.v (.move rfl) (.or (b2 := false) 31 36 5 5 rfl rfl (fun g1 => .v (.move rfl) (.v (.eql_ptr_nil rfl rfl) (.v (.move rfl) (.v (.eql_ptr_nil rfl rfl) (.v (.neb rfl rfl) (.nil ⟨rfl, rfl, rfl, rfl⟩)))))) (.v (.move rfl) (.or (b2 := false) 38 43 5 5 rfl rfl (fun g2 => .v (.move rfl) (.v (.neq_ptr_nil rfl rfl) (.v (.loadA (vs := wn.cells) rfl .whole rfl) (.pc rfl rfl (fun w s => Valid_no w hc) (.v (.neb rfl rfl) (.nil ⟨rfl, rfl, rfl, rfl⟩)))))) (.nil ?_)))))))))))
    refine .cond_false rfl (.skip ?_)
    refine .seq (.seq ((.region (.v (.move rfl) (.v (.eql_ptr_nil rfl rfl) (.v (.move rfl) (.or (b2 := true) 47 49 2 2 rfl rfl (fun g3 => .v (.move rfl) (.v (.eql_ptr_nil rfl rfl) (.nil ⟨rfl, rfl, rfl, rfl⟩))) (.v (.move rfl) (.or (b2 := true) 51 53 2 2 rfl rfl (fun g4 => absurd g4 (by simp)) (.nil ?_))))))))))
    refine .cond_true rfl ?_
    refine .seq ((.region (.v (.assign rfl) (.nil ?_))))
    exact .ret ⟨[_], ⟨rfl, trivial⟩, rfl⟩
  refine .seq ((.region (.v (.loadA (vs := wn.cells) rfl .whole rfl) ?_)))
  refine .ef (.call0 rfl rfl fun w s => SNew_yes w hc) ?_
  rintro _ _ ⟨_, ⟨p, zp, rfl, rfl, hIp⟩, rfl⟩
  refine .v (.move rfl) (.v (.extract rfl rfl) (.v (.extract rfl rfl) (.v (.assign rfl) (.v (.assign rfl) (.nil ?_)))))
  refine .seq ((.region (.v (.loadA (vs := wn.cells) rfl .whole rfl) ?_)))
  refine .ef (.call0 rfl rfl fun w s => SNew_yes w hc) ?_
  rintro _ _ ⟨_, ⟨q, zq, rfl, rfl, hIq⟩, rfl⟩
  refine .v (.move rfl) (.v (.extract rfl rfl) (.v (.extract rfl rfl) (.v (.assign rfl) (.v (.assign rfl) (.nil ?_)))))
  refine .seq (.seq ((.region (.v (.move rfl) (.v (.move rfl) (.v (.nei rfl rfl) (.v (.move rfl) (.or (b2 := false) 31 36 5 5 rfl rfl (fun g1 => .v (.move rfl) (.v (.eql_ptr_nil rfl rfl) (.v (.move rfl) (.v (.eql_ptr_nil rfl rfl) (.v (.neb rfl rfl) (.nil ⟨rfl, rfl, rfl, rfl⟩)))))) (.v (.move rfl) (.or (b2 := false) 38 43 5 5 rfl rfl (fun g2 => .v (.move rfl) (.v (.neq_ptr_nil rfl rfl) (.v (.loadA (vs := wn.cells) rfl .whole rfl) (.pc rfl rfl (fun w s => Valid_yes w hc) (.v (.neb rfl rfl) (.nil ⟨rfl, rfl, rfl, rfl⟩)))))) (.nil ?_)))))))))))
  refine .cond_false rfl (.skip ?_)
  refine .seq (.seq ((.region (.v (.move rfl) (.v (.eql_ptr_nil rfl rfl) (.v (.move rfl) (.or (b2 := false) 47 49 2 2 rfl rfl (fun g3 => .v (.move rfl) (.v (.eql_ptr_nil rfl rfl) (.nil ⟨rfl, rfl, rfl, rfl⟩))) (.v (.move rfl) (.or (b2 := decide (m = 0)) 51 53 2 2 rfl rfl (fun g4 => .v (.move rfl) (.v (.eqi rfl rfl) (.nil ⟨rfl, rfl, rfl, rfl⟩))) (.nil ?_))))))))))
  refine .cond rfl (fun h2 => ?_) (fun h2 => .skip ?_)
  · refine .seq ((.region (.v (.assign rfl) (.nil ?_))))
    exact .ret ⟨[_], ⟨rfl, trivial⟩, rfl⟩
  have hm : m ≠ 0 := by simpa using h2
  refine .seq ((.region (.ef (.makeMap .u64) ?_)))
  rintro _ _ ⟨mw, rfl, rfl⟩
  refine .v (.assign rfl) (.nil ?_)
  refine .seq ((.region (.ef (.buildSlice (out := []) rfl (by decide) rfl rfl) ?_)))
  rintro _ _ ⟨b56, rfl, rfl⟩
  refine .v (.move rfl) ?_
  refine .ef (.append (c := 0) (k := l.length) (vs := []) (news := erows l) (h := [(b56, .cells [] 34)]) rfl rfl ⟨rfl, .inr ⟨b56, 0, 0, [], rfl, rfl, by omega, by simp, by simp⟩⟩ TakeI.out (fun w' s => (hA.keep0 s).src (erows_length l) (by omega)) (erows_length l) (erows_ones _) (by omega) (by omega)) ?_
  rintro vo _ ⟨ho, oo, rfl⟩
  rw [Nat.zero_add, List.nil_append] at oo
  refine .v (.assign rfl) (.nil ?_)
  refine .keep (M64 mw [] 0 :: (WZ.H p wn 0 zp ++ (WZ.H q wn 0 zq ++ ho))) ?_
  refine .seq (.seq ((.region (.v (.assign rfl) (.nil ?_)))))
  obtain ⟨Ao, ko, rfl⟩ := OwnS.slice oo
  refine .block (.loop (X := ALS × Hp) (fun x => [(1, .slice A l.length cap), (2, .int .u32 m), (7, .pointer (some ⟨p.b, 0, none⟩)), (9, .pointer (some ⟨q.b, 0, none⟩)), (11, .map (some mw)), (12, .slice Ao l.length ko), (13, .int .i64 x.1.i)]) (fun x => M64 mw x.1.es x.1.c :: (WZ.H p wn 0 zp ++ (WZ.H q wn 0 zq ++ x.2))) (fun x => x.1.i ≤ l.length ∧ MOk x.1.es x.1.c ∧ (∀ id, (mget id x.1.es).getD (.int .u32 0) = .int .u32 (whoF (l.take x.1.i) id)) ∧ OwnS 34 13 (.slice Ao l.length ko) l.length (erows (othUp m l x.1.i)) x.2) (fun x => l.length - x.1.i) (⟨0, [], 0, []⟩, ho) ⟨Nat.zero_le _, MOk.nil, fun _ => rfl, oo⟩ (.cons rfl (.cons rfl (.cons rfl (.cons rfl (.cons rfl (.cons rfl (.cons rfl (.nil _)))))))) (fun _ s => s) ?_)
  rintro ⟨⟨i, es, c, _⟩, ho⟩ ⟨hi, hmo, hwho, oo⟩
  dsimp only at hi hmo hwho oo ⊢
  refine .seq (.seq ((.region (.v (.move rfl) (.v (.move rfl) (.v (.len rfl) (.v (.lss rfl rfl) (.nil ?_))))))))
  refine .cond_dec rfl (fun h3 => .skip ?_) (fun h3 => .exit ?_)
  · have hil : i < l.length := by omega
    obtain ⟨be, oe, rfl, hat⟩ := Rd.recs Ev.cells 13 (fun _ => rfl) hA (by omega) (by omega)
    have hk := fun hs => fldAt Ev.cells 13 (fun _ => rfl) (z := (i : Int)) (hat hs) hil 1 rfl
    have hid := fun hs => fldAt Ev.cells 13 (fun _ => rfl) (z := (i : Int)) (hat hs) hil 2 rfl
    have hot := fun hs => fldAt Ev.cells 13 (fun _ => rfl) (z := (i : Int)) (hat hs) hil 3 rfl
    have hmb := fun hs => fldAt Ev.cells 13 (fun _ => rfl) (z := (i : Int)) (hat hs) hil 5 rfl
    have hws := whoF_snoc hil
    have hou := othUp_succ m hil
    have hsame := othUp_same m hil
    have holen := othUp_length m l i
    generalize l[i] = e at hk hid hot hmb hws hou hsame
    obtain ⟨bo, oo_, lo, rfl, -, rfl, -, hlo, -⟩ := OwnS.some_ oo (by omega)
    have hcapo := (OwnS.cap_ oo).2
    refine .mid (X := Hp) (fun _ => [(1, .slice (some ⟨be, oe, none⟩) l.length cap), (2, .int .u32 m), (7, .pointer (some ⟨p.b, 0, none⟩)), (9, .pointer (some ⟨q.b, 0, none⟩)), (11, .map (some mw)), (12, .slice (some ⟨bo, oo_, none⟩) l.length ko), (13, .int .i64 i)]) (fun x => x) (fun x => ∃ es c ho, x = M64 mw es c :: (WZ.H p wn 0 zp ++ (WZ.H q wn 0 zq ++ ho)) ∧ MOk es c ∧ (∀ id, (mget id es).getD (.int .u32 0) = .int .u32 (whoF (l.take (i + 1)) id)) ∧ OwnS 34 13 (.slice (some ⟨bo, oo_, none⟩) l.length ko) l.length (erows (othUp m l (i + 1))) ho) (.block ?_) ?_
    · refine .mid (X := List ME × Nat) (fun _ => [(1, .slice (some ⟨be, oe, none⟩) l.length cap), (2, .int .u32 m), (7, .pointer (some ⟨p.b, 0, none⟩)), (9, .pointer (some ⟨q.b, 0, none⟩)), (11, .map (some mw)), (12, .slice (some ⟨bo, oo_, none⟩) l.length ko), (13, .int .i64 i)]) (fun x => M64 mw x.1 x.2 :: (WZ.H p wn 0 zp ++ (WZ.H q wn 0 zq ++ [(bo, Ch.cells lo 34)]))) (fun x => MOk x.1 x.2 ∧ ∀ id, (mget id x.1).getD (.int .u32 0) = .int .u32 (whoF (l.take (i + 1)) id)) (.seq ((.region (.v (.move rfl) (.v (.move rfl) (.v (.indexAddr rfl rfl (by omega) (by omega)) (.v (.fieldAddr rfl) (.v (.load (v := .int .i64 e.kind) rfl (hk _)) (.v (.eqi rfl rfl) (.nil ?_)))))))))) ?_
      · rw [hws]
        unfold whoStep
        refine .cond_dec rfl (fun h4 => ?_) (fun h4 => .skip ?_)
        · rw [if_pos h4]
          refine (.drawQ 11 [0, 1, 2, 3, 4, 5, 6, 7, 8, 9, 10, 11] [] (List.nil_subset _) (by kernel_rfl) (by kernel_rfl) ?_)
          refine .v (fun _ f => .move rfl) (.v (fun _ f => .move rfl) (.v (fun _ f => .move rfl) (.v (fun _ f => .indexAddr rfl rfl (by omega) (by omega)) (.v (fun _ f => .fieldAddr rfl) (.v (fun hs' f => .load (v := .int .u64 e.id) rfl (hid hs')) (.v (fun _ f => .move rfl) (.v (fun _ f => .move rfl) (.v (fun _ f => .indexAddr rfl rfl (by omega) (by omega)) (.v (fun _ f => .fieldAddr rfl) (.v (fun hs' f => .load (v := .int .u32 e.mb) rfl (hmb hs')) ?_))))))))))
          refine .st (.mapUpdate (es := es) (c := c) rfl rfl rfl) (.nil ?_)
          refine ⟨((mset e.id (.int .u32 e.mb) es c).1, (mset e.id (.int .u32 e.mb) es c).2), ⟨hmo.set _ _, fun id => ?_⟩, .cons rfl (.cons rfl (.cons rfl (.cons rfl (.cons rfl (.cons rfl (.cons rfl (.nil _))))))), fun _ s => s⟩
          dsimp only
          rw [mget_set]
          by_cases e1 : id = e.id
          · rw [if_pos e1, if_pos e1]; rfl
          · rw [if_neg e1, if_neg e1]; exact hwho id
        · rw [if_neg h4]
          exact ⟨(es, c), ⟨hmo, hwho⟩, .cons rfl (.cons rfl (.cons rfl (.cons rfl (.cons rfl (.cons rfl (.cons rfl (.nil _))))))), fun _ s => s⟩
      · clear hmo hwho es c
        rintro ⟨es, c⟩ ⟨hmo, hwho⟩
        dsimp only at hmo hwho ⊢
        generalize whoF (l.take (i + 1)) = F at hwho hou
        refine .seq ((.drawK [M64 mw es c] (by intro y hy; simp at hy; subst hy; simp) (by kernel_rfl) (by kernel_rfl) ?_))
        refine .v (fun _ f => .move rfl) (.v (fun _ f => .move rfl) (.v (fun _ f => .move rfl) (.v (fun _ f => .indexAddr rfl rfl (by omega) (by omega)) (.v (fun _ f => .fieldAddr rfl) (.v (fun hs' f => .load (v := .int .u64 e.id) rfl (hid hs')) (.v (fun _ f => .lookupE (es := es) (c := c) (v := .int .u32 (F e.id)) rfl rfl (hb := .sub f) (hwho _)) ?_))))))
        refine .v (fun _ f => .move rfl) (.v (fun _ f => .move rfl) (.v (fun _ f => .move rfl) (.v (fun _ f => .indexAddr rfl rfl (by omega) (by omega)) (.v (fun _ f => .fieldAddr rfl) (.v (fun hs' f => .load (v := .int .u64 e.other) rfl (hot hs')) (.v (fun _ f => .lookupE (es := es) (c := c) (v := .int .u32 (F e.other)) rfl rfl (hb := .sub f) (hwho _)) (.v (fun _ f => .assign rfl) (.v (fun _ f => .assign rfl) (.nil ?_)))))))))
        refine .seq ((.region (.v (.move rfl) (.v (.move rfl) (.v (.indexAddr rfl rfl (by omega) (by omega)) (.v (.fieldAddr rfl) (.v (.load (v := .int .i64 e.kind) rfl (hk _)) (.v (.eqi rfl rfl) (.v (.move rfl) (.and (b2 := decide (F e.id ≠ m)) 102 105 3 3 rfl rfl (fun g5 => .v (.move rfl) (.v (.move rfl) (.v (.nei rfl rfl) (.nil ⟨rfl, rfl, rfl, rfl⟩)))) (.v (.move rfl) (.and (b2 := decide (F e.other ≠ m)) 107 110 3 3 rfl rfl (fun g6 => .v (.move rfl) (.v (.move rfl) (.v (.nei rfl rfl) (.nil ⟨rfl, rfl, rfl, rfl⟩)))) (.v (.move rfl) (.or (b2 := decide (e.kind = 4) && decide (F e.id ≠ m)) 112 123 11 8 rfl rfl (fun g7 => .v (.move rfl) (.v (.move rfl) (.v (.indexAddr rfl rfl (by omega) (by omega)) (.v (.fieldAddr rfl) (.v (.load (v := .int .i64 e.kind) rfl (hk _)) (.v (.eqi rfl rfl) (.v (.move rfl) (.and (b2 := decide (F e.id ≠ m)) 119 122 3 3 rfl rfl (fun g8 => .v (.move rfl) (.v (.move rfl) (.v (.nei rfl rfl) (.nil ⟨rfl, rfl, rfl, rfl⟩)))) (.nil ⟨rfl, rfl, rfl, rfl⟩))))))))) (.nil ?_)))))))))))))))
        have oo' : OwnS 34 13 (.slice (some ⟨bo, oo_, none⟩) l.length ko) (othUp m l i).length ((othUp m l i).flatMap Ev.cells) [(bo, .cells lo 34)] := by rw [holen]; exact oo
        refine .cond rfl (fun h5 => ?_) (fun h5 => .skip ?_)
        · have h5' : (e.kind = 3 ∧ F e.id ≠ m ∧ F e.other ≠ m) ∨ (e.kind = 4 ∧ F e.id ≠ m) := by
            simp only [Bool.or_eq_true, Bool.and_eq_true, decide_eq_true_eq] at h5
            rcases h5 with h5 | h5
            · exact .inl ⟨h5.1.1, h5.1.2, h5.2⟩
            · exact .inr h5
          have hoe : othE m F e = evNil := by unfold othE; rw [if_pos h5']
          rw [hoe] at hou
          have o2 := OwnS.setR Ev.cells (fun _ => rfl) oo' (i := i) (by omega) evNil
          rw [← hou] at o2
          rw [othUp_length] at o2
          refine .region (.v (.move rfl) (.v (.move rfl) (.v (.build (out := evNil.cells) rfl rfl) (.v (.indexAddr rfl rfl (by omega) (by omega)) (.st (.storeA (b := bo) (l := lo) (vs := evNil.cells) rfl rfl rfl rfl (by show _ + 13 ≤ _; omega)) (.nil ?_))))))
          rw [Int.toNat_natCast]
          exact ⟨_, ⟨es, c, [(bo, .cells (splice lo (oo_ + i * 13) evNil.cells) 34)], rfl, hmo, hwho, o2⟩, .cons rfl (.cons rfl (.cons rfl (.cons rfl (.cons rfl (.cons rfl (.cons rfl (.nil _))))))), fun _ s => s.take⟩
        · have h5' : ¬ ((e.kind = 3 ∧ F e.id ≠ m ∧ F e.other ≠ m) ∨ (e.kind = 4 ∧ F e.id ≠ m)) := fun hh => by
            have : ((decide (e.kind = 3) && decide (F e.id ≠ m)) && decide (F e.other ≠ m) || decide (e.kind = 4) && decide (F e.id ≠ m)) = true := by
              simp only [Bool.or_eq_true, Bool.and_eq_true, decide_eq_true_eq]
              rcases hh with hh | hh
              · exact .inl ⟨⟨hh.1, hh.2.1⟩, hh.2.2⟩
              · exact .inr hh
            rw [this] at h5; cases h5
          have hoe : othE m F e = e := by unfold othE; rw [if_neg h5']
          rw [hoe, hsame] at hou
          rw [← hou] at oo
          exact ⟨_, ⟨es, c, [(bo, .cells lo 34)], rfl, hmo, hwho, oo⟩, .cons rfl (.cons rfl (.cons rfl (.cons rfl (.cons rfl (.cons rfl (.cons rfl (.nil _))))))), fun _ s => s⟩
    · rintro _ ⟨es', c', ho', rfl, hmo', hwho', oo'⟩
      refine .region (.v (.move rfl) (.v (.addi rfl rfl (by omega)) (.v (.assign rfl) (.nil ?_))))
      exact ⟨(⟨i + 1, es', c', []⟩, ho'), ⟨hil, hmo', hwho', oo'⟩, by show l.length - (i + 1) < _; omega, .cons rfl (.cons rfl (.cons rfl (.cons rfl (.cons rfl (.cons rfl (.cons rfl (.nil _))))))), fun _ s => s⟩
  · have hil : i = l.length := by omega
    subst hil
    rw [othUp_full] at oo
    have hlo : (oth m (fun _ => 0) l).length = l.length := oth_length _ _ _
    have ha := alone hm wn l
    have hb1 := (Wt.Bd.add (w := wn) l (z := (Wt.new, [])) Wt.Bd.new).2.2
    have hb2 := (Wt.Bd.add (w := wn) (oth m (fun _ => 0) l) (z := (Wt.new, [])) Wt.Bd.new).2.2
    rw [hlo] at hb2
    refine .seq ((.region (.v (.move rfl) (.ef (.buildSlice (out := []) rfl (by decide) rfl rfl) ?_))))
    rintro _ _ ⟨b130, rfl, rfl⟩
    refine .v (.move rfl) ?_
    refine .ef (.append (c := 0) (k := l.length) (vs := []) (news := erows l) (h := [(b130, .cells [] 34)]) rfl rfl ⟨rfl, .inr ⟨b130, 0, 0, [], rfl, rfl, by omega, by simp, by simp⟩⟩ TakeI.out (fun w' s => (hA.keep0 s).src (erows_length l) (by omega)) (erows_length l) (erows_ones _) (by omega) (by omega)) ?_
    rintro vl _ ⟨hl, ol, rfl⟩
    rw [Nat.zero_add, List.nil_append] at ol
    obtain ⟨Al1, kl1, rfl⟩ := OwnS.slice ol
    refine .ef (.callT (WZ.H p wn 0 zp) rfl rfl fun w s => add_ok w p wn hc hIp Wt.Bd.new l Al1 kl1 (OwnS.rd ol s (fun y hy => by simp [hy]) (Sat.apart (a := hl) (b := WZ.H p wn 0 zp) s)) (by show (0 : Int) + _ ≤ _; omega)) ?_
    rintro v1 _ ⟨_, ⟨zp', k1, rfl, -, o1⟩, rfl⟩
    refine .v (.move rfl) (.v (.move rfl) ?_)
    have hadd := fun w r => add_ok w q wn hc hIq Wt.Bd.new (oth m (fun _ => 0) l) Ao ko r (by rw [hlo]; show (0 : Int) + _ ≤ _; omega)
    rw [hlo] at hadd
    refine .ef (.callT (WZ.H q wn 0 zq) rfl rfl fun w s => hadd w (OwnS.rd oo s (fun y hy => by simp [hy]) (Sat.apart (a := ho) (b := WZ.H q wn 0 zq) s))) ?_
    rintro v2 _ ⟨_, ⟨zq', k2, rfl, -, o2⟩, rfl⟩
    refine .v (.assign rfl) (.v (.assign rfl) (.nil ?_))
    generalize (Wt.add wn (Wt.new, []) l).2 = X at o1 ha hb1
    generalize (Wt.add wn (Wt.new, []) (oth m (fun _ => 0) l)).2 = Y at o2 ha hb2
    obtain ⟨X1, x1, rfl⟩ := OwnS.slice o1
    obtain ⟨Y1, y1, rfl⟩ := OwnS.slice o2
    simp only [List.length_nil, Nat.zero_add] at hb1 hb2
    refine .seq ((.region (.v (.move rfl) (.v (.move rfl) ?_))))
    refine .ef (.call0 rfl rfl fun w s => own_ok w X1 x1 X m (OwnS.rd o1 s (no := []) (fun y hy => by simp [hy]) (by simp)) (by omega)) ?_
    rintro vX _ ⟨hX, oX, rfl⟩
    refine .v (.move rfl) (.v (.move rfl) ?_)
    refine .ef (.call0 rfl rfl fun w s => own_ok w Y1 y1 Y m (OwnS.rd o2 s (no := []) (fun y hy => by simp [hy]) (by simp)) (by omega)) ?_
    rintro vY _ ⟨hY, oY, rfl⟩
    rw [← ha] at oY
    have hle := List.length_filter_le (fun a : Al => decide (a.m = m) && decide (a.r ≠ 4)) X
    obtain ⟨X2, x2, rfl⟩ := OwnS.slice oX
    obtain ⟨Y2, y2, rfl⟩ := OwnS.slice oY
    refine .pc (v := .bool true) rfl rfl (fun w s => alerts_ok w X2 Y2 (ownA m X).length x2 y2 (ownA m X) (OwnS.rd oX s (no := []) (fun y hy => by simp [hy]) (by simp)) (OwnS.rd oY s (no := []) (fun y hy => by simp [hy]) (by simp)) rfl (by unfold ownA; omega)) ?_
    refine .v (.assign rfl) (.nil ?_)
    exact .ret ⟨[_], ⟨rfl, trivial⟩, rfl⟩
end Go.Proofs.Ytcbppikkoelimaa

/- SurveilPieces, plain: the cases' counts add up to the alerts, each alert lies in one. -/
namespace Go.Proofs.Ytcbppikkoelimaa
open Go.V
set_option linter.unusedVariables false
set_option linter.unusedSimpArgs false

def inCs (c : Cs) (a : Al) : Bool := ((decide (a.r = c.r) && decide (a.m = c.m)) && decide (c.f ≤ a.at_)) && decide (a.at_ ≤ c.l)
def cntA (c : Cs) (l : List Al) : Nat := (l.filter (inCs c)).length
theorem cntA_snoc (c : Cs) (l : List Al) (a : Al) : cntA c (l ++ [a]) = cntA c l + if inCs c a = true then 1 else 0 := by
  unfold cntA
  rw [List.filter_append, List.length_append]
  congr 1
  by_cases h : inCs c a = true <;> simp [h]
structure PcI (z : Wt × List Al) : Prop where
  op : ∀ c ∈ z.1.cs, c.op = true
  at_ : ∀ a ∈ z.2, a.at_ ≤ z.1.n
  in_ : ∀ a ∈ z.2, ∃ c ∈ z.1.cs, c.r = a.r ∧ c.m = a.m ∧ a.at_ ≤ c.l
  le : ∀ c ∈ z.1.cs, c.f ≤ c.l ∧ c.l ≤ z.1.n
  dis : ∀ i j, (hi : i < z.1.cs.length) → (hj : j < z.1.cs.length) → i < j → z.1.cs[i].r = z.1.cs[j].r → z.1.cs[i].m = z.1.cs[j].m → z.1.cs[i].l < z.1.cs[j].f
  cnt : ∀ c ∈ z.1.cs, (cntA c z.2 : Int) = c.n
  sum : (z.1.cs.map Cs.n).sum = (z.2.length : Int)
theorem PcI.mono {z z' : Wt × List Al} (h : PcI z) (ho : z'.2 = z.2) (hc : z'.1.cs = z.1.cs) (hn : z.1.n ≤ z'.1.n) : PcI z' := by
  obtain ⟨W, out⟩ := z
  obtain ⟨W', out'⟩ := z'
  dsimp only at ho hc hn
  subst ho
  obtain ⟨n, K, P, A, last, cs⟩ := W
  obtain ⟨n', K', P', A', last', cs'⟩ := W'
  dsimp only at hc hn
  subst hc
  exact ⟨h.op, fun a ha => Int.le_trans (h.at_ a ha) hn, h.in_, fun c hc => ⟨(h.le c hc).1, Int.le_trans (h.le c hc).2 hn⟩, h.dis, h.cnt, h.sum⟩
theorem sum_set : ∀ (l : List Cs) (i : Nat) (c : Cs) (h : i < l.length), ((l.set i c).map Cs.n).sum = (l.map Cs.n).sum - l[i].n + c.n
  | a :: l, 0, c, h => by simp; omega
  | a :: l, i + 1, c, h => by
    have := sum_set l i c (by simpa using h)
    simp only [List.set_cons_succ, List.map_cons, List.sum_cons, List.getElem_cons_succ]
    omega
theorem PcI.al {z : Wt × List Al} (h : PcI z) {w : Wn} (hw : 1 ≤ w.span) (r m o n : Int) : PcI (Wt.al w z r m o n) := by
  unfold Wt.al
  split
  · exact h
  · have hcs : ((z.1.chg m fun p => { p with a := p.a + 1 })).cs = z.1.cs := (Wt.chg_eq _ _ _).2.2.2.2
    have hn : ((z.1.chg m fun p => { p with a := p.a + 1 })).n = z.1.n := (Wt.chg_eq _ _ _).1
    generalize z.1.chg m (fun p => { p with a := p.a + 1 }) = W' at hcs hn
    obtain ⟨W, out⟩ := z
    obtain ⟨op, at_, in_, le, dis, cnt, sum⟩ := h
    dsimp only at op at_ in_ le dis cnt sum hcs hn ⊢
    generalize hl : W.cs = l at op in_ le dis cnt sum
    generalize hN : W.n = N at at_ le
    -- who is of the rule and member lies ahead of the last one
    rcases clast_spec r m l with ⟨c1, c2⟩ | ⟨i, c1, hi, c2, c3⟩
    · -- none
      rw [cput_new c1]
      have hnone : ∀ a ∈ out, ¬ (a.r = r ∧ a.m = m) := fun a ha hh => by
        obtain ⟨c, hc, h1, h2, -⟩ := in_ a ha
        exact c2 c hc ⟨h1.trans hh.1, h2.trans hh.2⟩
      refine ⟨fun c hc => ?_, fun a ha => ?_, fun a ha => ?_, fun c hc => ?_, fun i j hi hj hij e1 e2 => ?_, fun c hc => ?_, ?_⟩
      · rcases List.mem_append.1 hc with hc | hc
        · exact op c hc
        · have : c = ⟨r, m, N, N, 1, true⟩ := by simpa using hc
          subst this; rfl
      · show a.at_ ≤ W'.n
        rw [hn, hN]
        rcases List.mem_append.1 ha with ha | ha
        · exact at_ a ha
        · have : a = ⟨r, m, N, o, n⟩ := by simpa using ha
          subst this; exact Int.le_refl _
      · rcases List.mem_append.1 ha with ha | ha
        · obtain ⟨c, hc, hh⟩ := in_ a ha
          exact ⟨c, List.mem_append_left _ hc, hh⟩
        · have : a = ⟨r, m, N, o, n⟩ := by simpa using ha
          subst this
          exact ⟨_, List.mem_append_right _ (List.mem_singleton.2 rfl), rfl, rfl, Int.le_refl _⟩
      · show _ ∧ _ ≤ W'.n
        rw [hn, hN]
        rcases List.mem_append.1 hc with hc | hc
        · exact le c hc
        · have : c = ⟨r, m, N, N, 1, true⟩ := by simpa using hc
          subst this; exact ⟨Int.le_refl _, Int.le_refl _⟩
      · dsimp only at hi hj e1 e2 ⊢
        rw [List.length_append, List.length_singleton] at hi hj
        have hil : i < l.length := by omega
        rw [List.getElem_append_left hil] at e1 e2 ⊢
        by_cases hjl : j < l.length
        · rw [List.getElem_append_left hjl] at e1 e2 ⊢
          exact dis i j hil hjl hij e1 e2
        · have : j = l.length := by omega
          subst this
          simp only [List.getElem_append_right (Nat.le_refl _), Nat.sub_self, List.getElem_cons_zero] at e1 e2
          exact absurd ⟨e1, e2⟩ (c2 _ (List.getElem_mem hil))
      · dsimp only at hc ⊢
        rw [cntA_snoc]
        rcases List.mem_append.1 hc with hc | hc
        · have hne : ¬ inCs c ⟨r, m, N, o, n⟩ = true := by
            have := c2 c hc
            unfold inCs
            simp only [Bool.and_eq_true, decide_eq_true_eq]
            rintro ⟨⟨⟨h1, h2⟩, -⟩, -⟩
            exact this ⟨h1.symm, h2.symm⟩
          rw [if_neg hne]
          exact cnt c hc
        · have : c = ⟨r, m, N, N, 1, true⟩ := by simpa using hc
          subst this
          have h0 : cntA ⟨r, m, N, N, 1, true⟩ out = 0 := by
            unfold cntA
            rw [List.length_eq_zero_iff, List.filter_eq_nil_iff]
            intro a ha hh
            unfold inCs at hh
            simp only [Bool.and_eq_true, decide_eq_true_eq] at hh
            exact hnone a ha ⟨hh.1.1.1, hh.1.1.2⟩
          rw [h0, if_pos (by unfold inCs; simp)]
          rfl
      · dsimp only
        rw [List.map_append, List.sum_append, sum, List.length_append]
        simp
    · have hall : ∀ c ∈ l, c.r = r → c.m = m → c.l ≤ l[i].l := fun c hc e1 e2 => by
        obtain ⟨j, hj, rfl⟩ := List.mem_iff_getElem.1 hc
        by_cases hij : i < j
        · exact absurd ⟨e1, e2⟩ (c3 j hj hij)
        · by_cases e : j = i
          · subst e; exact Int.le_refl _
          · have := dis j i hj hi (by omega) (e1.trans c2.1.symm) (e2.trans c2.2.symm)
            have := (le _ (List.getElem_mem hi)).1
            omega
      have hat : ∀ a ∈ out, a.r = r → a.m = m → a.at_ ≤ l[i].l := fun a ha e1 e2 => by
        obtain ⟨c, hc, h1, h2, h3⟩ := in_ a ha
        exact Int.le_trans h3 (hall c hc (h1.trans e1) (h2.trans e2))
      have hile := le _ (List.getElem_mem hi)
      rw [cput_old c1 hi]
      by_cases hx : l[i].op = true ∧ N - l[i].l ≤ w.span
      · rw [if_pos hx]
        refine ⟨fun c hc => ?_, fun a ha => ?_, fun a ha => ?_, fun c hc => ?_, fun j k hj hk hjk e1 e2 => ?_, fun c hc => ?_, ?_⟩
        · rcases List.mem_or_eq_of_mem_set hc with hc | rfl
          · exact op c hc
          · exact hx.1
        · show a.at_ ≤ W'.n
          rw [hn, hN]
          rcases List.mem_append.1 ha with ha | ha
          · exact at_ a ha
          · have : a = ⟨r, m, N, o, n⟩ := by simpa using ha
            subst this; exact Int.le_refl _
        · have hnew : ({ l[i] with l := N, n := l[i].n + 1 } : Cs) ∈ l.set i { l[i] with l := N, n := l[i].n + 1 } := List.mem_set hi _
          rcases List.mem_append.1 ha with ha | ha
          · obtain ⟨c, hc, h1, h2, h3⟩ := in_ a ha
            by_cases e : c.r = r ∧ c.m = m
            · exact ⟨_, hnew, c2.1.trans (e.1.symm.trans h1), c2.2.trans (e.2.symm.trans h2), by have := hat a ha (h1.symm.trans e.1) (h2.symm.trans e.2); show a.at_ ≤ N; omega⟩
            · refine ⟨c, ?_, h1, h2, h3⟩
              obtain ⟨j, hj, rfl⟩ := List.mem_iff_getElem.1 hc
              have hji : i ≠ j := fun e' => by subst e'; exact e c2
              exact List.mem_iff_getElem.2 ⟨j, by rw [List.length_set]; exact hj, by rw [List.getElem_set_ne hji]⟩
          · have : a = ⟨r, m, N, o, n⟩ := by simpa using ha
            subst this
            exact ⟨_, hnew, c2.1, c2.2, Int.le_refl _⟩
        · show _ ∧ _ ≤ W'.n
          rw [hn, hN]
          rcases List.mem_or_eq_of_mem_set hc with hc | rfl
          · exact le c hc
          · exact ⟨by show l[i].f ≤ N; omega, Int.le_refl _⟩
        · dsimp only at hj hk e1 e2 ⊢
          rw [List.length_set] at hj hk
          rw [List.getElem_set] at e1 e2 ⊢
          rw [List.getElem_set] at e1 e2 ⊢
          by_cases hij : i = j
          · subst hij
            have hik : ¬ i = k := by omega
            simp only [if_true, if_neg hik] at e1 e2 ⊢
            exact absurd ⟨e1.symm.trans c2.1, e2.symm.trans c2.2⟩ (c3 k hk hjk)
          · by_cases hik : i = k
            · subst hik
              simp only [if_true, if_neg hij] at e1 e2 ⊢
              exact dis j i hj hi hjk e1 e2
            · simp only [if_neg hij, if_neg hik] at e1 e2 ⊢
              exact dis j k hj hk hjk e1 e2
        · dsimp only at hc ⊢
          rw [cntA_snoc]
          obtain ⟨j, hj, rfl⟩ := List.mem_iff_getElem.1 hc
          rw [List.length_set] at hj
          rw [List.getElem_set]
          by_cases hij : i = j
          · subst hij
            simp only [if_true]
            have e0 : cntA { l[i] with l := N, n := l[i].n + 1 } out = cntA l[i] out := by
              unfold cntA
              congr 1
              refine List.filter_congr fun a ha => ?_
              unfold inCs
              dsimp only
              by_cases e1 : a.r = l[i].r <;> by_cases e2 : a.m = l[i].m <;> simp [e1, e2]
              have := hat a ha (e1.trans c2.1) (e2.trans c2.2)
              rw [decide_eq_true (show a.at_ ≤ N by omega), decide_eq_true this]
            rw [e0, if_pos (by unfold inCs; simp [c2.1, c2.2]; omega)]
            have := cnt _ (List.getElem_mem hi)
            show ((cntA l[i] out + 1 : Nat) : Int) = l[i].n + 1
            omega
          · rw [if_neg hij]
            have hne : ¬ inCs l[j] ⟨r, m, N, o, n⟩ = true := by
              unfold inCs
              simp only [Bool.and_eq_true, decide_eq_true_eq]
              rintro ⟨⟨⟨h1, h2⟩, -⟩, h4⟩
              by_cases hlt : i < j
              · exact c3 j hj hlt ⟨h1.symm, h2.symm⟩
              · have := dis j i hj hi (by omega) (h1.symm.trans c2.1.symm) (h2.symm.trans c2.2.symm)
                omega
            rw [if_neg hne]
            exact cnt _ (List.getElem_mem hj)
        · dsimp only
          rw [sum_set l i _ hi, sum, List.length_append]
          simp; omega
      · rw [if_neg hx]
        have hlt : l[i].l < N := by
          have := op _ (List.getElem_mem hi)
          by_cases hh : N - l[i].l ≤ w.span
          · exact absurd ⟨this, hh⟩ hx
          · omega
        refine ⟨fun c hc => ?_, fun a ha => ?_, fun a ha => ?_, fun c hc => ?_, fun j k hj hk hjk e1 e2 => ?_, fun c hc => ?_, ?_⟩
        · rcases List.mem_append.1 hc with hc | hc
          · exact op c hc
          · have : c = ⟨r, m, N, N, 1, true⟩ := by simpa using hc
            subst this; rfl
        · show a.at_ ≤ W'.n
          rw [hn, hN]
          rcases List.mem_append.1 ha with ha | ha
          · exact at_ a ha
          · have : a = ⟨r, m, N, o, n⟩ := by simpa using ha
            subst this; exact Int.le_refl _
        · rcases List.mem_append.1 ha with ha | ha
          · obtain ⟨c, hc, hh⟩ := in_ a ha
            exact ⟨c, List.mem_append_left _ hc, hh⟩
          · have : a = ⟨r, m, N, o, n⟩ := by simpa using ha
            subst this
            exact ⟨_, List.mem_append_right _ (List.mem_singleton.2 rfl), rfl, rfl, Int.le_refl _⟩
        · show _ ∧ _ ≤ W'.n
          rw [hn, hN]
          rcases List.mem_append.1 hc with hc | hc
          · exact le c hc
          · have : c = ⟨r, m, N, N, 1, true⟩ := by simpa using hc
            subst this; exact ⟨Int.le_refl _, Int.le_refl _⟩
        · dsimp only at hj hk e1 e2 ⊢
          rw [List.length_append, List.length_singleton] at hj hk
          have hjl : j < l.length := by omega
          rw [List.getElem_append_left hjl] at e1 e2 ⊢
          by_cases hkl : k < l.length
          · rw [List.getElem_append_left hkl] at e1 e2 ⊢
            exact dis j k hjl hkl hjk e1 e2
          · have : k = l.length := by omega
            subst this
            simp only [List.getElem_append_right (Nat.le_refl _), Nat.sub_self, List.getElem_cons_zero] at e1 e2 ⊢
            have := hall _ (List.getElem_mem hjl) e1 e2
            omega
        · dsimp only at hc ⊢
          rw [cntA_snoc]
          rcases List.mem_append.1 hc with hc | hc
          · have hne : ¬ inCs c ⟨r, m, N, o, n⟩ = true := by
              unfold inCs
              simp only [Bool.and_eq_true, decide_eq_true_eq]
              rintro ⟨⟨⟨h1, h2⟩, -⟩, h4⟩
              have := hall c hc h1.symm h2.symm
              omega
            rw [if_neg hne]
            exact cnt c hc
          · have : c = ⟨r, m, N, N, 1, true⟩ := by simpa using hc
            subst this
            have h0 : cntA ⟨r, m, N, N, 1, true⟩ out = 0 := by
              unfold cntA
              rw [List.length_eq_zero_iff, List.filter_eq_nil_iff]
              intro a ha hh
              unfold inCs at hh
              simp only [Bool.and_eq_true, decide_eq_true_eq] at hh
              have := hat a ha hh.1.1.1 hh.1.1.2
              have := hh.1.2
              omega
            rw [h0, if_pos (by unfold inCs; simp)]
            rfl
        · dsimp only
          rw [List.map_append, List.sum_append, sum, List.length_append]
          simp
theorem PcI.ev {z : Wt × List Al} (h : PcI z) {w : Wn} (hw : 1 ≤ w.span) (e : Ev) : PcI (Wt.ev w z e) := by
  have h0 : PcI (z.1.tick w, z.2) := h.mono rfl rfl (by show z.1.n ≤ z.1.n + 1; omega)
  unfold Wt.ev
  split
  · have hE : ∀ W : Wt, (W.ack0 e).n = W.n ∧ (W.ack0 e).cs = W.cs := fun W => by
      unfold Wt.ack0
      have := Wt.chg_eq ({ W with K := fun x => if x = e.id then some ⟨e.mb, e.sd, false⟩ else W.K x, A := fun x => if x = e.mb then true else W.A x } : Wt) e.mb (fun p => { p with o := p.o + 1 })
      exact ⟨this.1, this.2.2.2.2⟩
    have h1 : PcI ((z.1.tick w).ack0 e, z.2) := h0.mono rfl (hE _).2 (Int.le_of_eq (hE _).1.symm)
    unfold Wt.acks
    split
    · exact h1.al hw _ _ _ _
    · exact h1
  · split
    · have hE : ∀ W : Wt, (W.trade1 e).n = W.n ∧ (W.trade1 e).cs = W.cs := fun W => by
        unfold Wt.trade1 Wt.trade0
        dsimp only
        constructor
        · rw [(Wt.chg_eq _ _ _).1, (Wt.chg_eq _ _ _).1, (Wt.chg_eq _ _ _).1, (Wt.chg_eq _ _ _).1]; rfl
        · rw [(Wt.chg_eq _ _ _).2.2.2.2, (Wt.chg_eq _ _ _).2.2.2.2, (Wt.chg_eq _ _ _).2.2.2.2, (Wt.chg_eq _ _ _).2.2.2.2]; rfl
      have h1 : PcI ((z.1.tick w).trade1 e, z.2) := h0.mono rfl (hE _).2 (Int.le_of_eq (hE _).1.symm)
      have h2 : PcI ((z.1.tick w).wash w z.2 e) := by
        unfold Wt.wash
        split
        · exact h1.al hw _ _ _ _
        · exact h1
      unfold Wt.trades jump
      dsimp only
      split
      · exact h2
      · split
        · exact h2.al hw _ _ _ _
        · exact h2
    · split
      · unfold Wt.cancels
        dsimp only
        split
        · exact h0
        · rename_i k _
          have hc := Wt.chg_eq (z.1.tick w) k.m (fun p => { p with c := p.c + 1 })
          have h1 : PcI ((z.1.tick w).chg k.m (fun p => { p with c := p.c + 1 }), z.2) := h0.mono rfl hc.2.2.2.2 (Int.le_of_eq hc.1.symm)
          split
          · exact h1
          · have h2 : PcI (((z.1.tick w).chg k.m (fun p => { p with c := p.c + 1 })).fresh k, z.2) := h1.mono rfl rfl (Int.le_refl _)
            split
            · exact h2.al hw _ _ _ _
            · exact h2
      · exact h0
theorem PcI.add {w : Wn} (hw : 1 ≤ w.span) : ∀ (l : List Ev) {z : Wt × List Al}, PcI z → PcI (Wt.add w z l)
  | [], _, h => h
  | e :: l, _, h => PcI.add hw l (h.ev hw e)
theorem PcI.new : PcI (Wt.new, []) := ⟨by simp [Wt.new], by simp, by simp, by simp [Wt.new], fun i j hi => absurd hi (by simp [Wt.new]), by simp [Wt.new], by simp [Wt.new]⟩
end Go.Proofs.Ytcbppikkoelimaa

/- SurveilPieces: the law. -/
namespace Go.Proofs.Ytcbppikkoelimaa
open Go.V
set_option linter.unusedVariables false
set_option linter.unusedSimpArgs false

theorem al_app (w : Wn) (out : List Al) (z : Wt × List Al) (r m o n : Int) : Wt.al w (z.1, out ++ z.2) r m o n = ((Wt.al w z r m o n).1, out ++ (Wt.al w z r m o n).2) := by
  unfold Wt.al; split <;> simp [List.append_assoc]
theorem jump_app (w : Wn) (out : List Al) (z : Wt × List Al) (p m id : Int) : jump w (z.1, out ++ z.2) p m id = ((jump w z p m id).1, out ++ (jump w z p m id).2) := by
  unfold jump
  dsimp only
  split
  · rfl
  · split
    · exact al_app w out z _ _ _ _
    · rfl
theorem wash_app (w : Wn) (W : Wt) (out o : List Al) (e : Ev) : Wt.wash w W (out ++ o) e = ((Wt.wash w W o e).1, out ++ (Wt.wash w W o e).2) := by
  unfold Wt.wash
  split
  · exact al_app w out (W.trade1 e, o) _ _ _ _
  · rfl
theorem ev_app (w : Wn) (out : List Al) (z : Wt × List Al) (e : Ev) : Wt.ev w (z.1, out ++ z.2) e = ((Wt.ev w z e).1, out ++ (Wt.ev w z e).2) := by
  unfold Wt.ev
  dsimp only
  split
  · unfold Wt.acks
    dsimp only
    split
    · exact al_app w out (_, z.2) _ _ _ _
    · rfl
  · split
    · unfold Wt.trades
      dsimp only
      rw [wash_app]
      exact jump_app w out _ _ _ _
    · split
      · unfold Wt.cancels
        dsimp only
        split
        · rfl
        · split
          · rfl
          · split
            · exact al_app w out (_, z.2) _ _ _ _
            · rfl
      · rfl
theorem add_app2 (w : Wn) (out : List Al) : ∀ (l : List Ev) (z : Wt × List Al), Wt.add w (z.1, out ++ z.2) l = ((Wt.add w z l).1, out ++ (Wt.add w z l).2)
  | [], z => rfl
  | e :: l, z => by
    show Wt.add w (Wt.ev w (z.1, out ++ z.2) e) l = _
    rw [ev_app]
    exact add_app2 w out l (Wt.ev w z e)
theorem add_out (w : Wn) (z : Wt × List Al) (l : List Ev) : Wt.add w z l = ((Wt.add w (z.1, []) l).1, z.2 ++ (Wt.add w (z.1, []) l).2) := by
  have := add_app2 w z.2 l (z.1, [])
  rw [List.append_nil] at this
  exact this
def PR (wn : Wn) (l : List Ev) (k : Nat) : Wt × List Al := Wt.add wn (Wt.new, []) (l.take k)
theorem PR_cut (wn : Wn) (l : List Ev) {a b : Nat} (h : a ≤ b) : PR wn l b = ((Wt.add wn ((PR wn l a).1, []) ((l.drop a).take (b - a))).1, (PR wn l a).2 ++ (Wt.add wn ((PR wn l a).1, []) ((l.drop a).take (b - a))).2) := by
  obtain ⟨k, rfl⟩ := Nat.exists_eq_add_of_le h
  rw [Nat.add_sub_cancel_left]
  unfold PR
  rw [List.take_add, Wt.add_app]
  exact add_out _ _ _
theorem PR_bd (wn : Wn) (l : List Ev) {k : Nat} (h : k ≤ l.length) : (PR wn l k).1.Bd 0 ∧ (PR wn l k).1.n = k ∧ (PR wn l k).2.length ≤ 2 * k := by
  have := Wt.Bd.add (w := wn) (l.take k) (z := (Wt.new, [])) Wt.Bd.new
  rw [List.length_take, Nat.min_eq_left h] at this
  obtain ⟨h1, h2, h3⟩ := this
  refine ⟨h1, by rw [PR, h2]; show (0 : Int) + _ = _; omega, by unfold PR; simpa using h3⟩
theorem rd_piece {w : World} {no : List Nat} {A : Option Addr} {cap : Nat} {l : List Ev} {a c : Nat} (h : Rd w no A (erows l)) (hc : l.length ≤ cap) : Rd w no (cutA A cap a 13) (erows ((l.drop a).take (c - a))) := by
  have h1 := Rd.take (Rd.cut h (k := a) (cap := cap) (m := 13) (by rw [erows_length]; omega)) ((c - a) * 13)
  unfold erows at h1 ⊢
  rw [rows_take Ev.cells 13 (fun _ => rfl), rows_drop Ev.cells 13 (fun _ => rfl)]
  exact h1
theorem sumN_nonneg : ∀ (l : List Cs), (∀ c ∈ l, 0 ≤ c.n) → 0 ≤ (l.map Cs.n).sum
  | [], _ => by simp
  | c :: l, h => by
    have h1 := h c List.mem_cons_self
    have h2 := sumN_nonneg l fun c hc => h c (List.mem_cons_of_mem _ hc)
    simp only [List.map_cons, List.sum_cons]; omega
theorem sumN_take (l : List Cs) (h : ∀ c ∈ l, 0 ≤ c.n) (i : Nat) : 0 ≤ ((l.take i).map Cs.n).sum ∧ ((l.take i).map Cs.n).sum ≤ (l.map Cs.n).sum := by
  have h1 := sumN_nonneg (l.take i) fun c hc => h c (List.mem_of_mem_take hc)
  have h2 := sumN_nonneg (l.drop i) fun c hc => h c (List.mem_of_mem_drop hc)
  have h3 : (l.map Cs.n).sum = ((l.take i).map Cs.n).sum + ((l.drop i).map Cs.n).sum := by
    rw [← List.sum_append, ← List.map_append, List.take_append_drop]
  omega
theorem sumN_snoc (l : List Cs) {i : Nat} (h : i < l.length) : ((l.take (i + 1)).map Cs.n).sum = ((l.take i).map Cs.n).sum + l[i].n := by
  rw [take_snoc h, List.map_append, List.sum_append]; simp
theorem cntA_take (c : Cs) (l : List Al) {j : Nat} (h : j < l.length) : cntA c (l.take (j + 1)) = cntA c (l.take j) + if inCs c l[j] = true then 1 else 0 := by
  rw [take_snoc h, cntA_snoc]
theorem cntA_le (c : Cs) (l : List Al) : cntA c l ≤ l.length := List.length_filter_le _ _
local macro "hpsub" : tactic => `(tactic| (intro y hy; first | exact List.mem_append_left _ hy | exact List.mem_append_right _ (List.mem_append_left _ hy) | exact List.mem_append_right _ (List.mem_append_right _ (List.mem_append_left _ hy)) | exact List.mem_append_right _ (List.mem_append_right _ (List.mem_append_right _ (List.mem_append_left _ hy))) | exact List.mem_append_right _ (List.mem_append_right _ (List.mem_append_right _ (List.mem_append_right _ (List.mem_append_left _ hy)))) | exact List.mem_append_right _ (List.mem_append_right _ (List.mem_append_right _ (List.mem_append_right _ (List.mem_append_right _ (List.mem_append_left _ hy)))))))
structure PLS where
  i : Nat
  fr : Nat
  z : WZ
  v : Value
  k : Hp
set_option maxRecDepth 20000 in
set_option maxHeartbeats 16000000 in
theorem SurveilPieces_ok (w : World) (wn : Wn) (A : Option Addr) (cap : Nat) (l : List Ev) (Az : Option Addr) (capz : Nat) (zs : List Int) (hA : Rd w [] A (erows l)) (hcap : l.length ≤ cap) (hz : Rd w [] Az (ints .i64 zs)) (hb : l.length ≤ 1200000) (hbz : zs.length ≤ 1200000) :
    Is Try.prog 4 [.agg ⟨wn.cells⟩, .slice A l.length cap, .slice Az zs.length capz] w (.bool true) := by
  refine Does.pure (Does.of (n := 216) Try.func4 rfl rfl rfl rfl ?_)
  refine .seq ((.region (.nw (.box (l := wn.cells) rfl rfl) fun b3 => (.v (.assign rfl) (.nil ?_)))))
  by_cases hc : wn.Can
  case neg =>
    refine .seq ((.region (.v (.loadA (vs := wn.cells) rfl .whole rfl) (.pc rfl rfl (fun w s => SNew_no w hc) ?_))))
    refine .v (.move rfl) (.v (.extract rfl rfl) (.v (.extract rfl rfl) (.v (.assign rfl) (.v (.assign rfl) (.nil ?_)))))
    refine .seq ((.region (.v (.loadA (vs := wn.cells) rfl .whole rfl) (.pc rfl rfl (fun w s => SNew_no w hc) ?_))))
    refine .v (.move rfl) (.v (.extract rfl rfl) (.v (.extract rfl rfl) (.v (.assign rfl) (.v (.assign rfl) (.nil ?_)))))
    refine .seq (.seq ((.region (.v (.move rfl) (.v (.move rfl) (.v (.nei rfl rfl) (.v (.move rfl) (.or (b2 := false) 33 38 5 5 rfl rfl (fun g1 => .v (.move rfl) (.v (.eql_ptr_nil rfl rfl) (.v (.move rfl) (.v (.eql_ptr_nil rfl rfl) (.v (.neb rfl rfl) (.nil ⟨rfl, rfl, rfl, rfl⟩)))))) (.v (.move rfl) (.or (b2 := false) 40 45 5 5 rfl rfl (fun g2 => .v (.move rfl) (.v (.neq_ptr_nil rfl rfl) (.v (.loadA (vs := wn.cells) rfl .whole rfl) (.pc rfl rfl (fun w s => Valid_no w hc) (.v (.neb rfl rfl) (.nil ⟨rfl, rfl, rfl, rfl⟩)))))) (.nil ?_)))))))))))
    refine .cond_false rfl (.skip ?_)
    refine .seq (.seq ((.region (.v (.move rfl) (.v (.eql_ptr_nil rfl rfl) (.v (.move rfl) (.or (b2 := true) 49 51 2 2 rfl rfl (fun g3 => .v (.move rfl) (.v (.eql_ptr_nil rfl rfl) (.nil ⟨rfl, rfl, rfl, rfl⟩))) (.nil ?_))))))))
    refine .cond_true rfl ?_
    refine .seq ((.region (.v (.move rfl) (.v (.eqi rfl rfl) (.v (.assign rfl) (.nil ?_))))))
    exact .ret ⟨[_], ⟨rfl, trivial⟩, rfl⟩
  refine .seq ((.region (.v (.loadA (vs := wn.cells) rfl .whole rfl) ?_)))
  refine .ef (.call0 rfl rfl fun w s => SNew_yes w hc) ?_
  rintro _ _ ⟨_, ⟨p, zp, rfl, rfl, hIp⟩, rfl⟩
  refine .v (.move rfl) (.v (.extract rfl rfl) (.v (.extract rfl rfl) (.v (.assign rfl) (.v (.assign rfl) (.nil ?_)))))
  refine .seq ((.region (.v (.loadA (vs := wn.cells) rfl .whole rfl) ?_)))
  refine .ef (.call0 rfl rfl fun w s => SNew_yes w hc) ?_
  rintro _ _ ⟨_, ⟨q, zq, rfl, rfl, hIq⟩, rfl⟩
  refine .v (.move rfl) (.v (.extract rfl rfl) (.v (.extract rfl rfl) (.v (.assign rfl) (.v (.assign rfl) (.nil ?_)))))
  refine .seq (.seq ((.region (.v (.move rfl) (.v (.move rfl) (.v (.nei rfl rfl) (.v (.move rfl) (.or (b2 := false) 33 38 5 5 rfl rfl (fun g1 => .v (.move rfl) (.v (.eql_ptr_nil rfl rfl) (.v (.move rfl) (.v (.eql_ptr_nil rfl rfl) (.v (.neb rfl rfl) (.nil ⟨rfl, rfl, rfl, rfl⟩)))))) (.v (.move rfl) (.or (b2 := false) 40 45 5 5 rfl rfl (fun g2 => .v (.move rfl) (.v (.neq_ptr_nil rfl rfl) (.v (.loadA (vs := wn.cells) rfl .whole rfl) (.pc rfl rfl (fun w s => Valid_yes w hc) (.v (.neb rfl rfl) (.nil ⟨rfl, rfl, rfl, rfl⟩)))))) (.nil ?_)))))))))))
  refine .cond_false rfl (.skip ?_)
  refine .seq (.seq ((.region (.v (.move rfl) (.v (.eql_ptr_nil rfl rfl) (.v (.move rfl) (.or (b2 := false) 49 51 2 2 rfl rfl (fun g3 => .v (.move rfl) (.v (.eql_ptr_nil rfl rfl) (.nil ⟨rfl, rfl, rfl, rfl⟩))) (.nil ?_))))))))
  refine .cond_false rfl (.skip ?_)
  -- all at once
  refine .seq ((.region (.v (.move rfl) (.ef (.buildSlice (out := []) rfl (by decide) rfl rfl) ?_))))
  rintro _ _ ⟨b56, rfl, rfl⟩
  refine .v (.move rfl) ?_
  refine .ef (.append (c := 0) (k := l.length) (vs := []) (news := erows l) (h := [(b56, .cells [] 34)]) rfl rfl ⟨rfl, .inr ⟨b56, 0, 0, [], rfl, rfl, by omega, by simp, by simp⟩⟩ TakeI.out (fun w' s => (hA.keep0 s).src (erows_length l) (by omega)) (erows_length l) (erows_ones _) (by omega) (by omega)) ?_
  rintro vl _ ⟨hl, ol, rfl⟩
  rw [Nat.zero_add, List.nil_append] at ol
  obtain ⟨Al1, kl1, rfl⟩ := OwnS.slice ol
  have hall : Wt.add wn (Wt.new, []) l = PR wn l l.length := by unfold PR; rw [List.take_length]
  have haddp : ∀ (w : World) (Al : Option Addr) (kl : Nat), Rd w (bl (WZ.H p wn 0 zp)) Al (erows l) → Does Try.prog 9 [.pointer (some ⟨p.b, 0, none⟩), .slice Al l.length kl] (WZ.H p wn 0 zp) w (StepP p wn l.length (PR wn l l.length)) := by
    intro w Al kl r
    have := add_ok w p wn hc hIp Wt.Bd.new l Al kl r (by show (0 : Int) + _ ≤ _; omega)
    rw [hall, show Wt.new.n + (l.length : Int) = l.length by show (0 : Int) + _ = _; omega] at this
    exact this
  refine .ef (.callT (WZ.H p wn 0 zp) rfl rfl fun w s => haddp w Al1 kl1 (OwnS.rd ol s (fun y hy => by simp [hy]) (Sat.apart (a := hl) (b := WZ.H p wn 0 zp) s))) ?_
  rintro v1 _ ⟨_, ⟨zp', k1, rfl, hIp', o1⟩, rfl⟩
  refine .v (.assign rfl) (.nil ?_)
  clear haddp
  obtain ⟨hBl, hnl, hll⟩ := PR_bd wn l (Nat.le_refl l.length)
  have hpc : PcI (PR wn l l.length) := PcI.add hc.1.1 _ PcI.new
  refine .seq ((.region (.ef (.buildSlice (out := []) rfl (by decide) rfl rfl) ?_)))
  rintro _ _ ⟨b60, rfl, rfl⟩
  refine .v (.assign rfl) (.nil ?_)
  refine .keep (WZ.H q wn ((0 : Nat) : Int) zq ++ ([(b60, Ch.cells [] 46)] ++ (WZ.H p wn (l.length : Int) zp' ++ k1))) ?_
  refine .seq ((.region (.v (.assign rfl) (.nil ?_))))
  refine .seq (.seq ((.region (.v (.assign rfl) (.nil ?_)))))
  obtain ⟨A1, c1, rfl⟩ := OwnS.slice o1
  refine .block (.loop (X := PLS) (fun x => [(1, .slice A l.length cap), (2, .slice Az zs.length capz), (7, .pointer (some ⟨p.b, 0, none⟩)), (9, .pointer (some ⟨q.b, 0, none⟩)), (11, .slice A1 (PR wn l l.length).2.length c1), (12, x.v), (13, .int .i64 x.fr), (14, .int .i64 x.i)]) (fun x => WZ.H q wn x.fr x.z ++ (x.k ++ (WZ.H p wn (l.length : Int) zp' ++ k1))) (fun x => (x.i ≤ zs.length ∧ x.fr ≤ l.length) ∧ WI (PR wn l x.fr).1 x.z ∧ AlOwn x.v (PR wn l x.fr).2 x.k) (fun x => zs.length - x.i) ⟨0, 0, zq, .slice (some ⟨b60, 0, none⟩) 0 0, [(b60, Ch.cells [] 46)]⟩ ⟨⟨Nat.zero_le _, Nat.zero_le _⟩, hIq, ⟨rfl, .inr ⟨b60, 0, 0, [], rfl, rfl, Nat.le_refl 0, Nat.le_refl 0, rfl⟩⟩⟩ (.cons rfl (.cons rfl (.cons rfl (.cons rfl (.cons rfl (.cons rfl (.cons rfl (.cons rfl (.nil _))))))))) (fun _ s => s) ?_)
  rintro ⟨i, fr, z, v, k⟩ ⟨⟨hi, hfr⟩, hI, ho⟩
  dsimp only at hi hfr hI ho ⊢
  obtain ⟨hB, hn, hol⟩ := PR_bd wn l hfr
  obtain ⟨Ao, ko, rfl⟩ := OwnS.slice ho
  -- a piece
  have hadd : ∀ (c : Nat), fr ≤ c → c ≤ l.length → ∀ (w : World) (Al : Option Addr) (kl : Nat), Rd w (bl (WZ.H q wn fr z)) Al (erows ((l.drop fr).take (c - fr))) → Does Try.prog 9 [.pointer (some ⟨q.b, 0, none⟩), .slice Al (c - fr) kl] (WZ.H q wn fr z) w (StepP q wn c (Wt.add wn ((PR wn l fr).1, []) ((l.drop fr).take (c - fr)))) := by
    intro c h1 h2 w Al kl r
    have hpl : ((l.drop fr).take (c - fr)).length = c - fr := by rw [List.length_take, List.length_drop]; omega
    have := add_ok w q wn hc hI hB ((l.drop fr).take (c - fr)) Al kl (by rw [hn]; exact r) (by rw [hn, hpl]; omega)
    rw [hn, hpl, show ((fr : Int) + ((c - fr : Nat) : Int)) = (c : Int) by omega] at this
    exact this
  have hpl : ∀ c : Nat, c ≤ l.length → (erows ((l.drop fr).take (c - fr))).length = (c - fr) * 13 := fun c h2 => by
    rw [erows_length, List.length_take, List.length_drop, Nat.min_eq_left (by omega)]
  refine .seq (.seq ((.region (.v (.move rfl) (.v (.move rfl) (.v (.len rfl) (.v (.lss rfl rfl) (.nil ?_))))))))
  refine .cond_dec rfl (fun h3 => .skip ?_) (fun h3 => .exit ?_)
  · have hil : i < zs.length := by omega
    obtain ⟨bz, oz, rfl, hat⟩ : ∃ b o, Az = some ⟨b, o, none⟩ ∧ ∀ hs, At w [] hs ⟨b, o + (i : Int).toNat, none⟩ [.int .i64 zs[i]] := by
      obtain ⟨b, o, e, _⟩ := hz.base (by simp [ints]; omega)
      subst e
      exact ⟨b, o, rfl, fun hs => Rd.cell hz (i := i) (by simp [ints, List.getElem?_eq_getElem hil])⟩
    generalize zs[i] = y at hat
    refine .mid (X := PLS) (fun x => [(1, .slice A l.length cap), (2, .slice (some ⟨bz, oz, none⟩) zs.length capz), (7, .pointer (some ⟨p.b, 0, none⟩)), (9, .pointer (some ⟨q.b, 0, none⟩)), (11, .slice A1 (PR wn l l.length).2.length c1), (12, x.v), (13, .int .i64 x.fr), (14, .int .i64 i)]) (fun x => WZ.H q wn x.fr x.z ++ (x.k ++ (WZ.H p wn (l.length : Int) zp' ++ k1))) (fun x => x.fr ≤ l.length ∧ WI (PR wn l x.fr).1 x.z ∧ AlOwn x.v (PR wn l x.fr).2 x.k) (.block (.seq ((.region (.v (.move rfl) (.v (.move rfl) (.v (.indexAddr1 rfl rfl (by omega) (by omega)) (.v (.load (v := .int .i64 y) rfl (hat _)) (.v (.move rfl) (.v (.gtr rfl rfl) (.v (.move rfl) (.and (b2 := decide (y < l.length)) 73 80 7 7 rfl rfl (fun g4 => .v (.move rfl) (.v (.move rfl) (.v (.indexAddr1 rfl rfl (by omega) (by omega)) (.v (.load (v := .int .i64 y) rfl (hat _)) (.v (.move rfl) (.v (.len rfl) (.v (.lss rfl rfl) (.nil ⟨rfl, rfl, rfl, rfl⟩)))))))) (.nil ?_))))))))))))) ?_
    · refine .cond rfl (fun h4 => ?_) (fun h4 => .skip ?_)
      · simp only [Bool.and_eq_true, decide_eq_true_eq] at h4
        obtain ⟨c, rfl⟩ : ∃ c : Nat, y = c := ⟨y.toNat, by omega⟩
        have hc1 : fr ≤ c := by omega
        have hc2 : c ≤ l.length := by omega
        refine .seq ((.region (.v (.move rfl) (.v (.move rfl) (.ef (.buildSlice (out := []) rfl (by decide) rfl rfl) ?_)))))
        rintro _ _ ⟨b84, rfl, rfl⟩
        refine .v (.move rfl) (.v (.move rfl) (.v (.move rfl) (.v (.move rfl) (.v (.indexAddr1 rfl rfl (by omega) (by omega)) (.v (.load (v := .int .i64 c) rfl (hat _)) (.v (.slLoHi rfl rfl rfl (by omega) (by omega) (by omega)) ?_))))))
        refine .ef (.append (c := 0) (k := c - fr) (vs := []) (news := erows ((l.drop fr).take (c - fr))) (h := [(b84, .cells [] 34)]) rfl rfl ⟨rfl, .inr ⟨b84, 0, 0, [], rfl, rfl, by omega, by simp, by simp⟩⟩ TakeI.out (fun w' s => (rd_piece (hA.keep0 s) hcap).src (hpl c hc2) (by omega)) (hpl c hc2) (erows_ones _) (by omega) (by omega)) ?_
        rintro vl _ ⟨hl', ol', rfl⟩
        rw [Nat.zero_add, List.nil_append] at ol'
        obtain ⟨Al2, kl2, rfl⟩ := OwnS.slice ol'
        refine .ef (.callT (WZ.H q wn fr z) rfl rfl fun w s => hadd c hc1 hc2 w Al2 kl2 (OwnS.rd ol' s (fun y hy => by simp [hy]) (Sat.apart (a := hl') (b := WZ.H q wn fr z) s))) ?_
        rintro v2 _ ⟨_, ⟨z', k2, rfl, hI', o2⟩, rfl⟩
        have hcut := PR_cut wn l hc1
        generalize Wt.add wn ((PR wn l fr).1, []) ((l.drop fr).take (c - fr)) = R at hI' o2 hcut
        have hR2 : R.2.length ≤ 2400000 := by
          have := (PR_bd wn l hc2).2.2
          rw [hcut, List.length_append] at this
          omega
        refine .ef (.append (c := (PR wn l fr).2.length) (k := R.2.length) (vs := alrows (PR wn l fr).2) (news := alrows R.2) (h := k) rfl rfl ho TakeI.out (fun w' s => OwnS.src o2 s (fun y hy => by simp [hy]) (by omega)) (alrows_length _) (alrows_ones _) (by omega) (by omega)) ?_
        rintro v3 _ ⟨k3, o3, rfl⟩
        refine .v (.assign rfl) (.nil ?_)
        refine .region (.v (.move rfl) (.v (.move rfl) (.v (.indexAddr1 rfl rfl (by omega) (by omega)) (.v (.load (v := .int .i64 c) rfl (hat _)) (.v (.assign rfl) (.nil ?_))))))
        refine ⟨⟨0, c, z', v3, k3⟩, ⟨hc2, by rw [hcut]; exact hI', ?_⟩, .cons rfl (.cons rfl (.cons rfl (.cons rfl (.cons rfl (.cons rfl (.cons rfl (.cons rfl (.nil _)))))))), fun _ s => s.take⟩
        show OwnS _ _ _ _ _ _
        rw [hcut]
        have e1 : alrows ((PR wn l fr).2 ++ R.2) = alrows (PR wn l fr).2 ++ alrows R.2 := by unfold alrows; rw [List.flatMap_append]
        show OwnS _ _ _ ((PR wn l fr).2 ++ R.2).length (alrows ((PR wn l fr).2 ++ R.2)) _
        rw [e1, List.length_append]
        exact o3
      · exact ⟨⟨0, fr, z, _, k⟩, ⟨hfr, hI, ho⟩, .cons rfl (.cons rfl (.cons rfl (.cons rfl (.cons rfl (.cons rfl (.cons rfl (.cons rfl (.nil _)))))))), fun _ s => s⟩
    · rintro ⟨_, fr', z', v', k'⟩ ⟨hfr', hI', ho'⟩
      dsimp only at hfr' hI' ho' ⊢
      refine .region (.v (.move rfl) (.v (.addi rfl rfl (by omega)) (.v (.assign rfl) (.nil ?_))))
      exact ⟨⟨i + 1, fr', z', v', k'⟩, ⟨⟨hil, hfr'⟩, hI', ho'⟩, by show zs.length - (i + 1) < _; omega, .cons rfl (.cons rfl (.cons rfl (.cons rfl (.cons rfl (.cons rfl (.cons rfl (.cons rfl (.nil _)))))))), fun _ s => s⟩
  -- the rest
  have hc1 : fr ≤ l.length := hfr
  refine .seq ((.region (.v (.move rfl) (.v (.move rfl) (.ef (.buildSlice (out := []) rfl (by decide) rfl rfl) ?_)))))
  rintro _ _ ⟨b84, rfl, rfl⟩
  refine .v (.move rfl) (.v (.move rfl) (.v (.slLo rfl rfl (by omega) (by omega)) ?_))
  refine .ef (.append (c := 0) (k := l.length - fr) (vs := []) (news := erows ((l.drop fr).take (l.length - fr))) (h := [(b84, .cells [] 34)]) rfl rfl ⟨rfl, .inr ⟨b84, 0, 0, [], rfl, rfl, by omega, by simp, by simp⟩⟩ TakeI.out (fun w' s => (rd_piece (hA.keep0 s) hcap).src (hpl l.length (Nat.le_refl _)) (by omega)) (hpl l.length (Nat.le_refl _)) (erows_ones _) (by omega) (by omega)) ?_
  rintro vl _ ⟨hl', ol', rfl⟩
  rw [Nat.zero_add, List.nil_append] at ol'
  obtain ⟨Al2, kl2, rfl⟩ := OwnS.slice ol'
  refine .ef (.callT (WZ.H q wn fr z) rfl rfl fun w s => hadd l.length hc1 (Nat.le_refl _) w Al2 kl2 (OwnS.rd ol' s (fun y hy => by simp [hy]) (Sat.apart (a := hl') (b := WZ.H q wn fr z) s))) ?_
  rintro v2 _ ⟨_, ⟨z', k2, rfl, hI', o2⟩, rfl⟩
  have hcut := PR_cut wn l hc1
  generalize Wt.add wn ((PR wn l fr).1, []) ((l.drop fr).take (l.length - fr)) = R at hI' o2 hcut
  have hR2 : R.2.length ≤ 2400000 := by
    rw [hcut, List.length_append] at hll
    omega
  refine .ef (.append (c := (PR wn l fr).2.length) (k := R.2.length) (vs := alrows (PR wn l fr).2) (news := alrows R.2) (h := k) rfl rfl ho TakeI.out (fun w' s => OwnS.src o2 s (fun y hy => by simp [hy]) (by omega)) (alrows_length _) (alrows_ones _) (by omega) (by omega)) ?_
  rintro v3 _ ⟨k3, o3, rfl⟩
  refine .v (.assign rfl) (.nil ?_)
  have o3' : AlOwn v3 (PR wn l l.length).2 k3 := by
    rw [hcut]
    have e1 : alrows ((PR wn l fr).2 ++ R.2) = alrows (PR wn l fr).2 ++ alrows R.2 := by unfold alrows; rw [List.flatMap_append]
    show OwnS _ _ _ ((PR wn l fr).2 ++ R.2).length (alrows ((PR wn l fr).2 ++ R.2)) _
    rw [e1, List.length_append]
    exact o3
  have hI2 : WI (PR wn l l.length).1 z' := by rw [hcut]; exact hI'
  clear hcut hI' o2 o3 hadd hpl hI ho hB hn hol hR2
  generalize hX : PR wn l l.length = X at *
  obtain ⟨B1, d1, rfl⟩ := OwnS.slice o3'
  have hcl : X.1.cs.length ≤ 10000000 := by have := hBl.k; omega
  refine .keep (WZ.H q wn (l.length : Int) z' ++ (k3 ++ (WZ.H p wn (l.length : Int) zp' ++ k1))) ?_
  refine .seq (.seq ((.region (.v (.move rfl) (.v (.move rfl) (.pc (v := .bool true) rfl rfl (fun w s => alerts_ok w A1 B1 X.2.length c1 d1 X.2 (OwnS.rd o1 s (no := []) (fun y hy => by simp [hy]) (by simp)) (OwnS.rd o3' s (no := []) (fun y hy => by simp [hy]) (by simp)) rfl (by omega)) ?_))))))
  refine .v (.not rfl) (.v (.move rfl) (.v (.move rfl) (.ef (.call0 rfl rfl fun w s => Cases_ok s p wn (l.length : Int) hIp' (by hpsub) (by omega)) ?_)))
  rintro vc1 _ ⟨hc1', oc1, rfl⟩
  refine .v (.move rfl) (.ef (.call0 rfl rfl fun w s => Cases_ok s q wn (l.length : Int) hI2 (by hpsub) (by omega)) ?_)
  rintro vc2 _ ⟨hc2', oc2, rfl⟩
  obtain ⟨C1, cc1, rfl⟩ := OwnS.slice oc1
  obtain ⟨C2, cc2, rfl⟩ := OwnS.slice oc2
  refine .pc (v := .bool true) rfl rfl (fun w s => cases_ok w C1 C2 X.1.cs.length cc1 cc2 X.1.cs (OwnS.rd oc1 s (no := []) (fun y hy => by simp [hy]) (by simp)) (OwnS.rd oc2 s (no := []) (fun y hy => by simp [hy]) (by simp)) rfl (by omega)) ?_
  refine .v (.not rfl) (.v (.pickF rfl rfl rfl) (.v (.move rfl) (.v (.move rfl) (.pc (v := .int .u64 (l.length : Int)) rfl rfl (fun w s => Count_ok s p wn (l.length : Int) (z := zp') (by hpsub)) ?_))))
  refine .v (.move rfl) (.v (.len rfl) (.v (.convE (l.length : Int) rfl (wrap_u64_in (by omega))) (.v (.no (.nei rfl rfl) (by simp)) (.v (.pickF rfl rfl rfl) (.nil ?_)))))
  refine .cond_false rfl (.skip ?_)
  refine .seq ((.region (.v (.move rfl) (.ef (.call0 rfl rfl fun w s => Cases_ok s p wn (l.length : Int) hIp' (by hpsub) (by omega)) ?_))))
  rintro vc _ ⟨hc', oc, rfl⟩
  refine .v (.assign rfl) (.nil ?_)
  refine .keep (hc' ++ k1) ?_
  refine .seq ((.region (.v (.assign rfl) (.nil ?_))))
  refine .seq (.seq ((.region (.v (.assign rfl) (.nil ?_)))))
  obtain ⟨Cc, ccc, rfl⟩ := OwnS.slice oc
  have hcn : ∀ c ∈ X.1.cs, 0 ≤ c.n := fun c hc => by have := hpc.cnt c hc; omega
  refine .block (.loop (X := Nat) (fun i => [(11, .slice A1 X.2.length c1), (15, .slice Cc X.1.cs.length ccc), (16, .int .i64 ((X.1.cs.take i).map Cs.n).sum), (17, .int .i64 i)]) (fun _ => hc' ++ k1) (fun i => i ≤ X.1.cs.length) (fun i => X.1.cs.length - i) 0 (Nat.zero_le _) (.cons rfl (.cons rfl (.cons rfl (.cons rfl (.nil _))))) (fun _ s => s) ?_)
  rintro i hi
  have hsi := sumN_take X.1.cs hcn i
  have hst := hpc.sum
  refine .seq (.seq ((.region (.v (.move rfl) (.v (.move rfl) (.v (.len rfl) (.v (.lss rfl rfl) (.nil ?_))))))))
  refine .cond_dec rfl (fun h6 => .skip ?_) (fun h6 => .exit ?_)
  · have hil : i < X.1.cs.length := by omega
    refine .seq (.block (.seq ((.region (.v (.assign rfl) (.nil ?_))))))
    refine .seq (.seq ((.region (.v (.assign rfl) (.nil ?_)))))
    obtain ⟨bc, oc_, lc, rfl, -, rfl, -, -, -⟩ := OwnS.some_ oc (by omega)
    have qc := fun hs' hsub k v hv => fldAt Cs.cells 6 (fun _ => rfl) (l := X.1.cs) (i := i) (z := (i : Int)) (OwnS.at0 (w0 := w) (own := []) (hs := hs') oc hsub) hil k (v := v) hv
    have hmem : X.1.cs[i] ∈ X.1.cs := List.getElem_mem hil
    have hcnt := hpc.cnt _ hmem
    have hop := hpc.op _ hmem
    have hsn := sumN_snoc X.1.cs hil
    have hsi' := sumN_take X.1.cs hcn (i + 1)
    generalize X.1.cs[i] = C at qc hcnt hop hsn
    refine .block (.loop (X := Nat) (fun j => [(11, .slice A1 X.2.length c1), (15, .slice (some ⟨bc, oc_, none⟩) X.1.cs.length ccc), (16, .int .i64 ((X.1.cs.take i).map Cs.n).sum), (17, .int .i64 i), (18, .int .i64 (cntA C (X.2.take j) : Nat)), (19, .int .i64 j)]) (fun _ => [(bc, .cells lc 48)] ++ k1) (fun j => j ≤ X.2.length) (fun j => X.2.length - j) 0 (Nat.zero_le _) (.cons rfl (.cons rfl (.cons rfl (.cons rfl (.cons rfl (.cons rfl (.nil _))))))) (fun _ s => s) ?_)
    rintro j hj
    refine .seq (.seq ((.region (.v (.move rfl) (.v (.move rfl) (.v (.len rfl) (.v (.lss rfl rfl) (.nil ?_))))))))
    refine .cond_dec rfl (fun h7 => .skip ?_) (fun h7 => .exit ?_)
    · have hjl : j < X.2.length := by omega
      obtain ⟨ba, oa_, la, rfl, -, rfl, -, -, -⟩ := OwnS.some_ o1 (by omega)
      have qa := fun hs' hsub k v hv => fldAt Al.cells 5 (fun _ => rfl) (l := X.2) (i := j) (z := (j : Int)) (OwnS.at0 (w0 := w) (own := []) (hs := hs') o1 hsub) hjl k (v := v) hv
      have hct := cntA_take C X.2 hjl
      have hcl2 := cntA_le C (X.2.take j)
      rw [List.length_take] at hcl2
      generalize X.2[j] = a at qa hct
      refine .mid (X := Unit) (fun _ => [(11, .slice (some ⟨ba, oa_, none⟩) X.2.length c1), (15, .slice (some ⟨bc, oc_, none⟩) X.1.cs.length ccc), (16, .int .i64 ((X.1.cs.take i).map Cs.n).sum), (17, .int .i64 i), (18, .int .i64 (cntA C (X.2.take (j + 1)) : Nat)), (19, .int .i64 j)]) (fun _ => [(bc, .cells lc 48)] ++ [(ba, .cells la 46)]) (fun _ => True) (.block (.seq ((.drawK [(bc, .cells lc 48), (ba, .cells la 46)] (by intro y hy; simp at hy ⊢; exact hy) (by kernel_rfl) (by kernel_rfl) ?_)))) ?_
      · refine .v (fun _ f => .move rfl) (.v (fun _ f => .move rfl) (.v (fun _ f => .indexAddr rfl rfl (by omega) (by omega)) (.v (fun _ f => .fieldAddr rfl) (.v (fun hs' f => .load (v := .int .i64 a.r) rfl (qa hs' (fun y hy => f (by simp at hy; subst hy; simp)) 0 _ rfl)) (.v (fun _ f => .move rfl) (.v (fun _ f => .move rfl) (.v (fun _ f => .indexAddr rfl rfl (by omega) (by omega)) (.v (fun _ f => .fieldAddr rfl) (.v (fun hs' f => .load (v := .int .i64 C.r) rfl (qc hs' (fun y hy => f (by simp at hy; subst hy; simp)) 0 _ rfl)) (.v (fun _ f => .eqi rfl rfl) (.v (fun _ f => .move rfl) (.and (b2 := decide (a.m = C.m)) 153 164 11 11 rfl rfl (fun g7 => .v (fun _ f => .move rfl) (.v (fun _ f => .move rfl) (.v (fun _ f => .indexAddr rfl rfl (by omega) (by omega)) (.v (fun _ f => .fieldAddr rfl) (.v (fun hs' f => .load (v := .int .u32 a.m) rfl (qa hs' (fun y hy => f (by simp at hy; subst hy; simp)) 1 _ rfl)) (.v (fun _ f => .move rfl) (.v (fun _ f => .move rfl) (.v (fun _ f => .indexAddr rfl rfl (by omega) (by omega)) (.v (fun _ f => .fieldAddr rfl) (.v (fun hs' f => .load (v := .int .u32 C.m) rfl (qc hs' (fun y hy => f (by simp at hy; subst hy; simp)) 1 _ rfl)) (.v (fun _ f => .eqi rfl rfl) (.nil ⟨rfl, rfl, rfl, rfl⟩)))))))))))) (.v (fun _ f => .move rfl) (.and (b2 := decide (C.f ≤ a.at_)) 166 177 11 11 rfl rfl (fun g8 => .v (fun _ f => .move rfl) (.v (fun _ f => .move rfl) (.v (fun _ f => .indexAddr rfl rfl (by omega) (by omega)) (.v (fun _ f => .fieldAddr rfl) (.v (fun hs' f => .load (v := .int .u64 a.at_) rfl (qa hs' (fun y hy => f (by simp at hy; subst hy; simp)) 2 _ rfl)) (.v (fun _ f => .move rfl) (.v (fun _ f => .move rfl) (.v (fun _ f => .indexAddr rfl rfl (by omega) (by omega)) (.v (fun _ f => .fieldAddr rfl) (.v (fun hs' f => .load (v := .int .u64 C.f) rfl (qc hs' (fun y hy => f (by simp at hy; subst hy; simp)) 2 _ rfl)) (.v (fun _ f => .geq rfl rfl) (.nil ⟨rfl, rfl, rfl, rfl⟩)))))))))))) (.v (fun _ f => .move rfl) (.and (b2 := decide (a.at_ ≤ C.l)) 179 190 11 11 rfl rfl (fun g9 => .v (fun _ f => .move rfl) (.v (fun _ f => .move rfl) (.v (fun _ f => .indexAddr rfl rfl (by omega) (by omega)) (.v (fun _ f => .fieldAddr rfl) (.v (fun hs' f => .load (v := .int .u64 a.at_) rfl (qa hs' (fun y hy => f (by simp at hy; subst hy; simp)) 2 _ rfl)) (.v (fun _ f => .move rfl) (.v (fun _ f => .move rfl) (.v (fun _ f => .indexAddr rfl rfl (by omega) (by omega)) (.v (fun _ f => .fieldAddr rfl) (.v (fun hs' f => .load (v := .int .u64 C.l) rfl (qc hs' (fun y hy => f (by simp at hy; subst hy; simp)) 3 _ rfl)) (.v (fun _ f => .leq rfl rfl) (.nil ⟨rfl, rfl, rfl, rfl⟩)))))))))))) (.nil ?_)))))))))))))))))
        refine .cond rfl (fun h8 => ?_) (fun h8 => .skip ?_)
        · have h8' : inCs C a = true := h8
          rw [if_pos h8'] at hct
          refine .region (.v (.move rfl) (.v (.addi rfl rfl (by omega)) (.v (.assign rfl) (.nil ?_))))
          rw [hct]
          exact ⟨(), trivial, .cons rfl (.cons rfl (.cons rfl (.cons rfl (.cons rfl (.cons rfl (.nil _)))))), fun _ s => s⟩
        · have h8' : ¬ inCs C a = true := by
            intro hh
            have : inCs C a = false := h8
            rw [this] at hh; cases hh
          rw [if_neg h8', Nat.add_zero] at hct
          rw [hct]
          exact ⟨(), trivial, .cons rfl (.cons rfl (.cons rfl (.cons rfl (.cons rfl (.cons rfl (.nil _)))))), fun _ s => s⟩
      · rintro _ -
        refine .region (.v (.move rfl) (.v (.addi rfl rfl (by omega)) (.v (.assign rfl) (.nil ?_))))
        exact ⟨j + 1, by omega, by omega, .cons rfl (.cons rfl (.cons rfl (.cons rfl (.cons rfl (.cons rfl (.nil _)))))), fun _ s => s⟩
    · have hjl : j = X.2.length := by omega
      subst hjl
      rw [List.take_length, hcnt]
      refine .seq (.seq ((.region (.v (.move rfl) (.v (.move rfl) (.v (.move rfl) (.v (.indexAddr rfl rfl (by omega) (by omega)) (.v (.fieldAddr rfl) (.v (.load (v := .int .i64 C.n) rfl (qc _ (by intro y hy; simp at hy; subst hy; simp) 4 _ rfl)) (.v (.no (.nei rfl rfl) (by simp)) (.v (.move rfl) (.v (.move rfl) (.v (.move rfl) (.v (.indexAddr rfl rfl (by omega) (by omega)) (.v (.fieldAddr rfl) (.v (.load (v := .bool true) rfl (qc _ (by intro y hy; simp at hy; subst hy; simp) 5 _ (by show some (Value.bool C.op) = _; rw [hop]))) (.v (.not rfl) (.v (.pickF rfl rfl rfl) (.nil ?_)))))))))))))))))))
      refine .cond_false rfl (.skip ?_)
      rw [hsn] at hsi'
      refine .region (.v (.move rfl) (.v (.move rfl) (.v (.addi rfl rfl (by omega)) (.v (.assign rfl) (.nil ?_)))))
      refine .region (.v (.move rfl) (.v (.addi rfl rfl (by omega)) (.v (.assign rfl) (.nil ?_))))
      exact ⟨i + 1, by show i + 1 ≤ _; omega, by omega, .cons rfl (.cons rfl (.cons (by rw [hsn]; rfl) (.cons rfl (.nil _)))), fun _ s => s⟩
  · have hil : i = X.1.cs.length := by omega
    subst hil
    rw [List.take_length, hst]
    refine .seq ((.region (.v (.move rfl) (.v (.move rfl) (.v (.len rfl) (.v (.eqi rfl rfl) (.v (.assign rfl) (.nil ?_))))))))
    exact .ret ⟨[_], ⟨rfl, trivial⟩, vb (by simp)⟩
end Go.Proofs.Ytcbppikkoelimaa

/- VN: slices of anything that come in: the cells of each element, and what each is read as. -/
namespace Go
namespace V
open Go.RowKit Go.ChangeShapes Go.WideShapes Go.ChangeAt
set_option linter.unusedVariables false

/-- these cells are read as 'd' -/
def TC {H : Type} (enc : TypeId × Value → H) (P : Program) (w : World) (base : Nat) (spare : Nat → Bool) (held : Bool) (t : TypeId) (cs : List Value) (d : DataW H) : Prop :=
  ∃ fuel p, DataW.trod enc P w base spare held fuel t cs = some (d, p)
section
variable {H : Type} {enc : TypeId × Value → H} {P : Program} {w : World} {base : Nat} {spare : Nat → Bool} {held : Bool}
theorem TC.of {t : TypeId} {v : Value} {cs : List Value} {d : DataW H} {p : List MemPlace} (h : DataW.Trod enc P w base spare held t v d p) (hc : v.cells = ⟨cs⟩) : TC enc P w base spare held t cs d := by
  obtain ⟨fuel, hf⟩ := h
  rw [hc] at hf
  exact ⟨fuel, p, hf⟩
theorem TC.int {t : TypeId} {k : IntKind} {cs : List Value} {d : DataW H} (ht : P.underlying t = some (.int k)) (h : TC enc P w base spare held t cs d) : ∃ n, cs = [.int k n] ∧ (Lit.int k n).wf = true := by
  obtain ⟨fuel, p, hf⟩ := h
  obtain ⟨n, h1, _, h2⟩ := DataW.trod_int ht hf
  exact ⟨n, h1, h2⟩
theorem TC.bool {t : TypeId} {cs : List Value} {d : DataW H} (ht : P.underlying t = some .bool) (h : TC enc P w base spare held t cs d) : ∃ b, cs = [.bool b] := by
  obtain ⟨fuel, p, hf⟩ := h
  obtain ⟨b, h1, _⟩ := DataW.trod_bool ht hf
  exact ⟨b, h1⟩
theorem TC.plain {t : TypeId} {cs : List Value} {d : DataW H} {ls : List Lf} (hl : leaves P 8 t = some ls) (hs : P.cellsOf t = ls.length) (h : TC enc P w base spare held t cs d) : okw ls cs := by
  obtain ⟨fuel, p, hf⟩ := h
  exact trod_plain 8 t ls fuel cs _ hl hs hf
/-- a struct's fields -/
theorem TC.struct {t : TypeId} {fs : Array Field} {cs : List Value} {d : DataW H} (ht : P.underlying t = some (.struct fs)) (h : TC enc P w base spare held t cs d) :
    ∃ ds, d = .agg ds ∧ ds.length = fs.size ∧ cs.length = P.cellsOf t ∧ ∀ (i : Nat) (f : Field) (di : DataW H), fs[i]? = some f → ds[i]? = some di → TC enc P w base spare held f.type ((cs.drop f.offset).take (P.cellsOf f.type)) di := by
  obtain ⟨fuel, p, hf⟩ := h
  obtain ⟨xs, n, _, hx, hl, hn, hf⟩ := DataW.trod_struct ht hf
  simp only [Prod.mk.injEq] at hx
  refine ⟨xs.map (·.1), hx.1, by simpa using hn, hl, fun i f di h1 h2 => ?_⟩
  have := hf i f h1
  rw [List.getElem?_map] at h2
  cases h3 : xs[i]? with
  | none => rw [h3] at h2; cases h2
  | some x =>
    rw [h3] at h2 this
    simp at h2
    exact ⟨n, x.2, by rw [this, ← h2]⟩
/-- a slice's elements -/
theorem TC.slice {t e m : Nat} {cs : List Value} {d : DataW H} (ht : P.underlying t = some (.slice e)) (hm : P.cellsOf e = m) (h0 : 0 < m) (h : TC enc P w base spare held t cs d) :
    ∃ A len cap, ∃ (css : List (List Value)) (ds : List (DataW H)), cs = [.slice A len cap] ∧ css.length = len ∧ ds.length = len ∧ (∀ c ∈ css, c.length = m) ∧ (∀ (i : Nat) (c : List Value), css[i]? = some c → ∀ (j : Nat) (v : Value), c[j]? = some v → ∃ b o, A = some ⟨b, o, none⟩ ∧ w.cell? ⟨b, o + (i * m + j), none⟩ = some v) ∧
      (d = .nil ∧ len = 0 ∨ ∃ sp, d = .slice ds sp) ∧ ∀ (i : Nat) (c : List Value) (di : DataW H), css[i]? = some c → ds[i]? = some di → TC enc P w base spare held e c di := by
  obtain ⟨fuel, p, hf⟩ := h
  rcases DataW.trod_slice ht hf with ⟨rfl, hx⟩ | ⟨a, len, cap, elems, rest, n, _, rfl, hx, hb, hl, hc, hn, he, _⟩
  · simp only [Prod.mk.injEq] at hx
    exact ⟨none, 0, 0, [], [], rfl, rfl, rfl, by simp, by simp, .inl ⟨hx.1, rfl⟩, by simp⟩
  · simp only [Prod.mk.injEq] at hx
    rw [hm] at he
    have each : ∀ i, i < len → ∃ c x, w.cells? base (a.add (i * m)) m = some c ∧ DataW.trod enc P w base spare held n e c = some x ∧ elems[i]? = some x := by
      intro i hi
      have := he i hi
      rw [List.getElem?_eq_getElem (by omega)] at this
      obtain ⟨c, h1, h2⟩ := Option.bind_eq_some_iff.1 this
      exact ⟨c, _, h1, h2, List.getElem?_eq_getElem (by omega)⟩
    have hcs : ∃ css : List (List Value), css.length = len ∧ ∀ i c, css[i]? = some c → ∃ x, w.cells? base (a.add (i * m)) m = some c ∧ DataW.trod enc P w base spare held n e c = some x ∧ elems[i]? = some x := by
      have key : ∀ k, k ≤ len → ∃ css : List (List Value), css.length = k ∧ ∀ i c, css[i]? = some c → ∃ x, w.cells? base (a.add (i * m)) m = some c ∧ DataW.trod enc P w base spare held n e c = some x ∧ elems[i]? = some x := by
        intro k
        induction k with
        | zero => intro _; exact ⟨[], rfl, by simp⟩
        | succ k ih =>
          intro hk
          obtain ⟨css, h1, h2⟩ := ih (by omega)
          obtain ⟨c, x, h3⟩ := each k (by omega)
          refine ⟨css ++ [c], by simp [h1], fun i c' hc' => ?_⟩
          by_cases hi : i < k
          · rw [List.getElem?_append_left (by omega)] at hc'
            exact h2 i c' hc'
          · rw [List.getElem?_append_right (by omega)] at hc'
            have hik : i = k := by
              have := (List.getElem?_eq_some_iff.1 hc').1
              simp at this; omega
            subst hik
            simp [h1] at hc'
            subst hc'
            exact ⟨x, h3⟩
      exact key len (Nat.le_refl _)
    obtain ⟨css, h1, h2⟩ := hcs
    refine ⟨some a, len, cap, css, elems.map (·.1), rfl, h1, by simpa using hn, fun c hc => ?_, fun i c hc j v hv => ?_, .inr ⟨_, hx.1⟩, fun i c di hc hdi => ?_⟩
    · obtain ⟨i, hi⟩ := List.mem_iff_getElem?.1 hc
      obtain ⟨x, h3, _⟩ := h2 i c hi
      exact (World.cells?_some h3).2.1
    · obtain ⟨x, h3, _⟩ := h2 i c hc
      obtain ⟨g1, g2, g3⟩ := World.cells?_some h3
      have hj := (List.getElem?_eq_some_iff.1 hv).1
      have hcell := g3 j (by omega)
      rw [hv] at hcell
      obtain ⟨b, o, sp⟩ := a
      have hsp : sp = none := by
        have hlt : 0 < css.length := by
          have := (List.getElem?_eq_some_iff.1 hc).1
          omega
        obtain ⟨x0, k3, _⟩ := h2 0 css[0] (List.getElem?_eq_getElem hlt)
        obtain ⟨_, k2, k4⟩ := World.cells?_some k3
        have := k4 0 h0
        rw [List.getElem?_eq_getElem (by omega)] at this
        simpa [Addr.add] using World.cell?_spot this
      subst hsp
      refine ⟨b, o, rfl, ?_⟩
      rw [add_none, add_none, Nat.add_assoc] at hcell
      exact hcell
    · obtain ⟨x, h3, h4, h5⟩ := h2 i c hc
      rw [List.getElem?_map, h5] at hdi
      simp at hdi
      exact ⟨n, x.2, by rw [h4, ← hdi]⟩
end
/-- one for each number below n -/
theorem list_of {α : Type} {Q : Nat → α → Prop} (n : Nat) (h : ∀ i, i < n → ∃ x, Q i x) : ∃ l : List α, l.length = n ∧ ∀ (i : Nat) (x : α), l[i]? = some x → Q i x := by
  induction n with
  | zero => exact ⟨[], rfl, by simp⟩
  | succ n ih =>
    obtain ⟨l, h1, h2⟩ := ih fun i hi => h i (by omega)
    obtain ⟨x, hx⟩ := h n (by omega)
    refine ⟨l ++ [x], by simp [h1], fun i y hy => ?_⟩
    by_cases hi : i < n
    · rw [List.getElem?_append_left (by omega)] at hy
      exact h2 i y hy
    · rw [List.getElem?_append_right (by omega)] at hy
      have hlt := (List.getElem?_eq_some_iff.1 hy).1
      simp at hlt
      have : i = n := by omega
      subst this
      simp [h1] at hy
      subst hy
      exact hx
section
variable {H : Type} {enc : TypeId × Value → H} {P : Program} {w : World} {base : Nat} {spare : Nat → Bool} {held : Bool}
/-- bytes -/
theorem TC.bytes {t e : Nat} {cs : List Value} {d : DataW H} (ht : P.underlying t = some (.slice e)) (he : P.underlying e = some (.int .u8)) (hm : P.cellsOf e = 1) (h : TC enc P w base spare held t cs d) :
    ∃ A c ys, cs = [.slice A (List.length ys) c] ∧ Rd w [] A (byts ys) ∧ (d = .nil ∧ ys = [] ∨ ∃ ds sp, d = .slice ds sp ∧ ds.length = ys.length) := by
  obtain ⟨A, len, cap, css, ds, h1, h2, h3, h4, h5, h6, h7⟩ := h.slice ht hm (by omega)
  obtain ⟨ys, hy1, hy2⟩ := list_of (Q := fun i (y : BitVec 8) => css[i]? = some [.int .u8 y.toNat]) len (fun i hi => by
    have hc := List.getElem?_eq_getElem (show i < css.length by omega)
    have hd := List.getElem?_eq_getElem (show i < ds.length by omega)
    obtain ⟨n, hn, hw⟩ := (h7 i _ _ hc hd).int he
    have := wf_u8 hw
    refine ⟨BitVec.ofNat 8 n.toNat, ?_⟩
    rw [hc, hn]
    simp
    omega)
  refine ⟨A, cap, ys, by rw [h1, hy1], fun j v hv => ?_, ?_⟩
  · have hj : j < ys.length := by have := (List.getElem?_eq_some_iff.1 hv).1; simpa [byts_length] using this
    rw [byts_get hj] at hv
    have h8 := hy2 j _ (List.getElem?_eq_getElem hj)
    obtain ⟨b, o, e1, e2⟩ := h5 j _ h8 0 v (by simpa using hv)
    exact ⟨b, o, e1, by simp, by simpa using e2⟩
  · rcases h6 with ⟨e1, e2⟩ | ⟨sp, e1⟩
    · exact .inl ⟨e1, List.eq_nil_of_length_eq_zero (by omega)⟩
    · exact .inr ⟨ds, sp, e1, by omega⟩
end
end V
end Go

/- VT: lists of plain records that come in; what their lengths are held to. -/
namespace Go
namespace V
open Go.RowKit Go.ChangeShapes Go.WideShapes Go.ChangeAt
set_option linter.unusedVariables false

theorem flatten_get {m : Nat} : ∀ (rs : List (List Value)), (∀ r ∈ rs, r.length = m) → ∀ (k : Nat) (v : Value), rs.flatten[k]? = some v → ∃ i j r, rs[i]? = some r ∧ r[j]? = some v ∧ k = i * m + j
  | [], _, k, v, h => by simp at h
  | r :: rs, hm, k, v, h => by
    rw [List.flatten_cons] at h
    by_cases hk : k < r.length
    · rw [List.getElem?_append_left hk] at h
      exact ⟨0, k, r, rfl, h, by simp⟩
    · rw [List.getElem?_append_right (by omega)] at h
      obtain ⟨i, j, r', h1, h2, h3⟩ := flatten_get rs (fun r hr => hm r (List.mem_cons_of_mem _ hr)) _ v h
      have := hm r List.mem_cons_self
      exact ⟨i + 1, j, r', by simpa using h1, h2, by rw [Nat.succ_mul]; omega⟩
theorem map_of {α β : Type} {f : α → β} {Q : α → Prop} : ∀ (rs : List β), (∀ r ∈ rs, ∃ x, r = f x ∧ Q x) → ∃ l : List α, rs = l.map f ∧ ∀ x ∈ l, Q x
  | [], _ => ⟨[], rfl, by simp⟩
  | r :: rs, h => by
    obtain ⟨x, h1, h2⟩ := h r List.mem_cons_self
    obtain ⟨l, h3, h4⟩ := map_of rs fun r hr => h r (List.mem_cons_of_mem _ hr)
    exact ⟨x :: l, by simp [h1, h3], fun y hy => by rcases List.mem_cons.1 hy with rfl | hy; exact h2; exact h4 y hy⟩
theorem okw_length : ∀ {ls : List Lf} {cs : List Value}, okw ls cs → cs.length = ls.length
  | [], [], _ => rfl
  | l :: ls, c :: cs, h => by have := okw_length h.2; simp [this]
  | [], _ :: _, h => h.elim
  | _ :: _, [], h => h.elim
section
variable {H : Type} {enc : TypeId × Value → H} {P : Program} {w : World} {base : Nat} {spare : Nat → Bool} {held : Bool}
/-- a slice of plain records -/
theorem TC.recs {t e : Nat} {ls : List Lf} {cs : List Value} {d : DataW H} (ht : P.underlying t = some (.slice e)) (hl : leaves P 8 e = some ls) (hs : P.cellsOf e = ls.length) (h0 : 0 < ls.length) (h : TC enc P w base spare held t cs d) :
    ∃ A cap, ∃ rs : List (List Value), cs = [.slice A rs.length cap] ∧ (∀ r ∈ rs, okw ls r) ∧ Rd w [] A rs.flatten ∧ (d = .nil ∧ rs = [] ∨ ∃ ds sp, d = .slice ds sp ∧ ds.length = rs.length) := by
  obtain ⟨A, len, cap, css, ds, h1, h2, h3, h4, h5, h6, h7⟩ := h.slice ht hs h0
  refine ⟨A, cap, css, by rw [h1, h2], fun r hr => ?_, fun k v hv => ?_, ?_⟩
  · obtain ⟨i, hi, rfl⟩ := List.mem_iff_getElem.1 hr
    exact (h7 i _ _ (List.getElem?_eq_getElem hi) (List.getElem?_eq_getElem (by omega))).plain hl hs
  · obtain ⟨i, j, r, e1, e2, rfl⟩ := flatten_get css h4 k v hv
    obtain ⟨b, o, e3, e4⟩ := h5 i r e1 j v e2
    exact ⟨b, o, e3, by simp, e4⟩
  · rcases h6 with ⟨e1, e2⟩ | ⟨sp, e1⟩
    · exact .inl ⟨e1, List.eq_nil_of_length_eq_zero (by omega)⟩
    · exact .inr ⟨ds, sp, e1, by omega⟩
/-- the weights of a struct's parts -/
theorem sized_agg {ts : List TypeId} {ds : List (DataW H)} (h : (DataW.weightsEach P ts ds).all (· ≤ reachBytes) = true) {j : Nat} {t : TypeId} {fs : Array Field} {parts : List (DataW H)} (ht : ts[j]? = some t) (hd : ds[j]? = some (.agg parts)) (hu : P.underlying t = some (.struct fs)) :
    (DataW.weightsEach P (fs.toList.map (·.type)) parts).all (· ≤ reachBytes) = true := by
  rw [List.all_eq_true]
  intro x hx
  exact List.all_eq_true.1 h _ (DataW.weights_mem_each ht hd x (by simp only [DataW.weights, hu]; exact hx))
theorem sized_len {ts : List TypeId} {ds : List (DataW H)} (h : (DataW.weightsEach P ts ds).all (· ≤ reachBytes) = true) {j n : Nat} {t e : TypeId} {d : DataW H} (ht : ts[j]? = some t) (hd : ds[j]? = some d) (hu : P.underlying t = some (.slice e))
    (hk : d = .nil ∧ n = 0 ∨ ∃ es sp, d = .slice es sp ∧ es.length = n) : n * P.bytesOf e ≤ reachBytes := by
  rcases hk with ⟨_, rfl⟩ | ⟨es, sp, rfl, rfl⟩
  · simp
  · have := sized_slice h ht hd hu
    have h2 : es.length * P.bytesOf e ≤ (es.length + sp.length) * P.bytesOf e := Nat.mul_le_mul_right _ (by omega)
    omega
end
end V
end Go

/- VB: slices that come in: they have room for what they hold. -/
namespace Go
namespace V
open Go.RowKit Go.ChangeShapes Go.WideShapes
set_option linter.unusedVariables false
set_option linter.unusedSimpArgs false
section
variable {P : Program} {H : Type} {enc : TypeId × Value → H} {w : World} {base : Nat} {spare : Nat → Bool} {held : Bool}
theorem TC.cap {t e len cap : Nat} {A : Option Addr} {d : DataW H} (ht : P.underlying t = some (.slice e)) (h : TC enc P w base spare held t [.slice A len cap] d) : len ≤ cap := by
  obtain ⟨fuel, p, hf⟩ := h
  rcases DataW.trod_slice ht hf with ⟨e1, hx⟩ | ⟨a, len', cap', elems, rest, n, _, e1, hx, hb, hl, hc, hn, he, _⟩
  · simp at e1; omega
  · simp at e1
    obtain ⟨rfl, rfl, rfl⟩ := e1
    omega
/-- a slice of plain records, with its room -/
theorem TC.recsK {t e : Nat} {ls : List Lf} {cs : List Value} {d : DataW H} (ht : P.underlying t = some (.slice e)) (hl : leaves P 8 e = some ls) (hs : P.cellsOf e = ls.length) (h0 : 0 < ls.length) (h : TC enc P w base spare held t cs d) :
    ∃ A cap, ∃ rs : List (List Value), cs = [.slice A rs.length cap] ∧ (∀ r ∈ rs, okw ls r) ∧ Rd w [] A rs.flatten ∧ rs.length ≤ cap ∧ (d = .nil ∧ rs = [] ∨ ∃ ds sp, d = .slice ds sp ∧ ds.length = rs.length) := by
  obtain ⟨A, cap, rs, rfl, h2, h3, h4⟩ := h.recs ht hl hs h0
  exact ⟨A, cap, rs, rfl, h2, h3, TC.cap ht h, h4⟩
end
theorem okw_i {k : IntKind} {ls : List Lf} {cs : List Value} (h : okw (.i k :: ls) cs) : ∃ a cs', cs = .int k a :: cs' ∧ (Lit.int k a).wf = true ∧ okw ls cs' := by
  match cs, h with
  | .int _ a :: cs', ⟨⟨h1, w1⟩, h2⟩ => subst h1; exact ⟨a, cs', rfl, w1, h2⟩
theorem okw_b {ls : List Lf} {cs : List Value} (h : okw (.b :: ls) cs) : ∃ a cs', cs = .bool a :: cs' ∧ okw ls cs' := by
  match cs, h with
  | .bool a :: cs', ⟨h1, h2⟩ => exact ⟨a, cs', rfl, h2⟩
theorem okw_nil {cs : List Value} (h : okw [] cs) : cs = [] := by
  match cs, h with
  | [], _ => rfl
end V
end Go

/- How many values arguments hold; slices of records as they come in. -/
namespace Go.Proofs.Ytcbppikkoelimaa
open Go.V Go.ChangeShapes Go.WideShapes Go.ChangeAt
set_option linter.unusedVariables false
set_option linter.unusedSimpArgs false

theorem bulk_pos {H : Type} (d : DataW H) : 1 ≤ Rows.uptoBulk d := by
  cases d with
  | lit l => cases l <;> simp [Rows.uptoBulk]
  | _ => simp [Rows.uptoBulk]
theorem bulk_len {H : Type} : ∀ (ds : List (DataW H)), ds.length ≤ Rows.uptoBulkAll ds
  | [] => by simp
  | d :: ds => by
    have h1 := bulk_pos d
    have h2 := bulk_len ds
    simp only [Rows.uptoBulkAll, List.length_cons]
    omega
theorem bulk_get {H : Type} : ∀ {ds : List (DataW H)} {i : Nat} {d : DataW H}, ds[i]? = some d → Rows.uptoBulk d ≤ Rows.uptoBulkAll ds
  | d' :: ds, 0, d, h => by simp at h; subst h; simp [Rows.uptoBulkAll]
  | d' :: ds, i + 1, d, h => by
    have := bulk_get (ds := ds) (i := i) (by simpa using h)
    simp only [Rows.uptoBulkAll]
    omega
  | [], i, d, h => by simp at h
theorem bulk_sum {H α : Type} (f : α → Nat) : ∀ {ds : List (DataW H)} {l : List α}, l.length = ds.length → (∀ (i : Nat) (x : α) (d : DataW H), l[i]? = some x → ds[i]? = some d → f x ≤ Rows.uptoBulk d) → (l.map f).sum ≤ Rows.uptoBulkAll ds
  | [], [], _, _ => by simp
  | d :: ds, x :: l, h, k => by
    have h1 := k 0 x d rfl rfl
    have h2 := bulk_sum f (ds := ds) (l := l) (by simpa using h) (fun i x d hx hd => k (i + 1) x d (by simpa using hx) (by simpa using hd))
    simp only [List.map_cons, List.sum_cons, Rows.uptoBulkAll]
    omega
  | [], _ :: _, h, _ => by simp at h
  | _ :: _, [], h, _ => by simp at h
section
variable {P : Program} {H : Type} {enc : TypeId × Value → H} {w : World} {base : Nat} {spare : Nat → Bool} {held : Bool}
/-- plain records -/
theorem TC.list {α : Type} (f : α → List Value) (Q : α → Prop) {t e : Nat} {ls : List Lf} {cs : List Value} {d : DataW H} (ht : P.underlying t = some (.slice e)) (hl : leaves P 8 e = some ls) (hs : P.cellsOf e = ls.length) (h0 : 0 < ls.length)
    (hf : ∀ r, okw ls r → ∃ x, r = f x ∧ Q x) (h : TC enc P w base spare held t cs d) :
    ∃ A cap, ∃ l : List α, cs = [.slice A l.length cap] ∧ (∀ x ∈ l, Q x) ∧ Rd w [] A (l.flatMap f) ∧ l.length ≤ cap ∧ l.length ≤ Rows.uptoBulk d := by
  obtain ⟨A, cap, rs, rfl, h2, h3, h5, h4⟩ := TC.recsK ht hl hs h0 h
  obtain ⟨l, rfl, hl⟩ := map_of (f := f) (Q := Q) rs fun r hr => hf r (h2 r hr)
  refine ⟨A, cap, l, by rw [List.length_map], hl, by rw [List.flatMap_def]; exact h3, by simpa using h5, ?_⟩
  rcases h4 with ⟨e1, e2⟩ | ⟨ds, sp, rfl, e2⟩
  · have : l = [] := by simpa using e2
    subst this; simp
  · have := bulk_len ds
    simp only [Rows.uptoBulk]
    rw [List.length_map] at e2
    omega
/-- records of whatever -/
theorem TC.listN {α : Type} (f : α → List Value) (Q : α → DataW H → Prop) {t e m : Nat} {cs : List Value} {d : DataW H} (ht : P.underlying t = some (.slice e)) (hm : P.cellsOf e = m) (h0 : 0 < m)
    (hf : ∀ c di, TC enc P w base spare held e c di → ∃ x, c = f x ∧ Q x di) (h : TC enc P w base spare held t cs d) :
    ∃ A cap, ∃ l : List α, cs = [.slice A l.length cap] ∧ Rd w [] A (l.flatMap f) ∧ l.length ≤ cap ∧ l.length ≤ Rows.uptoBulk d ∧ (∀ x ∈ l, ∃ di, Q x di ∧ Rows.uptoBulk di ≤ Rows.uptoBulk d) ∧
      ∀ g : α → Nat, (∀ x di, Q x di → g x ≤ Rows.uptoBulk di) → (l.map g).sum ≤ Rows.uptoBulk d := by
  obtain ⟨A, len, cap, css, ds, rfl, h2, h3, h4, h5, h6, h7⟩ := TC.slice ht hm h0 h
  have hcap := TC.cap ht h
  obtain ⟨l, hl1, hl2⟩ := list_of (Q := fun i (x : α) => css[i]? = some (f x) ∧ ∃ di, ds[i]? = some di ∧ Q x di) len (fun i hi => by
    have hc := List.getElem?_eq_getElem (show i < css.length by omega)
    have hd := List.getElem?_eq_getElem (show i < ds.length by omega)
    obtain ⟨x, e1, e2⟩ := hf _ _ (h7 i _ _ hc hd)
    exact ⟨x, by rw [hc, e1], _, hd, e2⟩)
  have hcss : css = l.map f := by
    apply List.ext_getElem?
    intro i
    by_cases hi : i < len
    · have hx := List.getElem?_eq_getElem (show i < l.length by omega)
      rw [(hl2 i _ hx).1, List.getElem?_map, hx]; rfl
    · rw [List.getElem?_eq_none (by omega), List.getElem?_eq_none (by simp; omega)]
  have hb : ∀ di ∈ ds, Rows.uptoBulk di ≤ Rows.uptoBulk d := by
    intro di hdi
    rcases h6 with ⟨_, e2⟩ | ⟨sp, rfl⟩
    · have : ds = [] := List.eq_nil_of_length_eq_zero (by omega)
      subst this; cases hdi
    · obtain ⟨i, hi, rfl⟩ := List.mem_iff_getElem.1 hdi
      have := bulk_get (List.getElem?_eq_getElem hi)
      simp only [Rows.uptoBulk]
      omega
  refine ⟨A, cap, l, by rw [hl1], fun k v hv => ?_, by omega, ?_, fun x hx => ?_, fun g hg => ?_⟩
  · rw [List.flatMap_def, ← hcss] at hv
    obtain ⟨i, j, r, e1, e2, rfl⟩ := flatten_get css h4 k v hv
    obtain ⟨b, o, e3, e4⟩ := h5 i r e1 j v e2
    exact ⟨b, o, e3, by simp, e4⟩
  · rcases h6 with ⟨_, e2⟩ | ⟨sp, rfl⟩
    · have := bulk_pos d; omega
    · have := bulk_len ds
      simp only [Rows.uptoBulk]
      omega
  · obtain ⟨i, hi, rfl⟩ := List.mem_iff_getElem.1 hx
    obtain ⟨-, di, hdi, hq⟩ := hl2 i _ (List.getElem?_eq_getElem hi)
    exact ⟨di, hq, hb _ (List.mem_of_getElem? hdi)⟩
  · rcases h6 with ⟨_, e2⟩ | ⟨sp, rfl⟩
    · have : l = [] := List.eq_nil_of_length_eq_zero (by omega)
      subst this; simp
    · have := bulk_sum g (ds := ds) (l := l) (by omega) (fun i x di hx hdi => by
        obtain ⟨-, di', hdi', hq⟩ := hl2 i x hx
        rw [hdi] at hdi'; cases hdi'
        exact hg x di hq)
      simp only [Rows.uptoBulk]
      omega
end
end Go.Proofs.Ytcbppikkoelimaa

/- A watch's settings and what was said, as they come in. -/
namespace Go.Proofs.Ytcbppikkoelimaa
open Go.V Go.ChangeShapes Go.WideShapes Go.ChangeAt
set_option linter.unusedVariables false
set_option linter.unusedSimpArgs false

theorem okw_wn {cs : List Value} (h : okw [.i .i64, .i .i64, .i .i64, .i .i64, .i .i64] cs) : ∃ v : Wn, cs = v.cells := by
  match cs, h with
  | [.int _ a, .int _ b, .int _ c, .int _ d, .int _ e], ⟨⟨h1, _⟩, ⟨h2, _⟩, ⟨h3, _⟩, ⟨h4, _⟩, ⟨h5, _⟩, _⟩ =>
    subst h1; subst h2; subst h3; subst h4; subst h5; exact ⟨⟨a, b, c, d, e⟩, rfl⟩
abbrev SVL : List Lf := [.i .u64, .i .i64, .i .u64, .i .u64, .i .u64, .i .u32, .i .i64, .i .i64, .i .i64, .i .u64, .i .u64, .i .i64, .i .i64]
theorem okw_sev {cs : List Value} (h : okw SVL cs) : ∃ v : Ev, cs = v.cells ∧ True := by
  obtain ⟨a, cs, rfl, w1, h⟩ := okw_i h
  obtain ⟨b, cs, rfl, w2, h⟩ := okw_i h
  obtain ⟨c, cs, rfl, w3, h⟩ := okw_i h
  obtain ⟨d, cs, rfl, w4, h⟩ := okw_i h
  obtain ⟨e, cs, rfl, w5, h⟩ := okw_i h
  obtain ⟨f, cs, rfl, w6, h⟩ := okw_i h
  obtain ⟨g, cs, rfl, w7, h⟩ := okw_i h
  obtain ⟨i, cs, rfl, w8, h⟩ := okw_i h
  obtain ⟨j, cs, rfl, w9, h⟩ := okw_i h
  obtain ⟨k, cs, rfl, w10, h⟩ := okw_i h
  obtain ⟨l, cs, rfl, w11, h⟩ := okw_i h
  obtain ⟨m, cs, rfl, w12, h⟩ := okw_i h
  obtain ⟨n, cs, rfl, w13, h⟩ := okw_i h
  have := okw_nil h
  subst this
  exact ⟨⟨a, b, c, d, e, f, g, i, j, k, l, m, n⟩, rfl, trivial⟩
section
variable {H : Type} {enc : TypeId × Value → H} {w : World} {base : Nat} {spare : Nat → Bool} {held : Bool}
set_option maxRecDepth 20000 in
theorem read_evs {cs : List Value} {d : DataW H} (h : TC enc Try.prog w base spare held 24 cs d) :
    ∃ A cap, ∃ l : List Ev, cs = [.slice A l.length cap] ∧ Rd w [] A (erows l) ∧ l.length ≤ Rows.uptoBulk d := by
  have hz2 : Try.prog.cellsOf 24 = 1 := by kernel_rfl
  obtain ⟨A, cap, l, g, -, r, k, n⟩ := TC.list Ev.cells (fun _ => True) (ls := SVL) (e := 34) (by kernel_rfl) (by kernel_rfl) (by kernel_rfl) (by decide) (fun r hr => okw_sev hr) h
  exact ⟨A, cap, l, by simpa [hz2] using g, r, n⟩
set_option maxRecDepth 20000 in
theorem read_evsC {cs : List Value} {d : DataW H} (h : TC enc Try.prog w base spare held 24 cs d) :
    ∃ A cap, ∃ l : List Ev, cs = [.slice A l.length cap] ∧ Rd w [] A (erows l) ∧ l.length ≤ cap ∧ l.length ≤ Rows.uptoBulk d := by
  have hz2 : Try.prog.cellsOf 24 = 1 := by kernel_rfl
  obtain ⟨A, cap, l, g, -, r, k, n⟩ := TC.list Ev.cells (fun _ => True) (ls := SVL) (e := 34) (by kernel_rfl) (by kernel_rfl) (by kernel_rfl) (by decide) (fun r hr => okw_sev hr) h
  exact ⟨A, cap, l, by simpa [hz2] using g, r, k, n⟩
end
end Go.Proofs.Ytcbppikkoelimaa

/- Slices of whole numbers as they come in. -/
namespace Go.Proofs.Ytcbppikkoelimaa
open Go.V Go.ChangeShapes Go.WideShapes Go.ChangeAt
set_option linter.unusedVariables false
set_option linter.unusedSimpArgs false

theorem wfi64 {n : Int} (h : (Lit.int .i64 n).wf = true) : -9223372036854775808 ≤ n ∧ n ≤ 9223372036854775807 := by
  simpa [Lit.wf, IntKind.min, IntKind.max, IntKind.signed, IntKind.bits] using h
theorem read_ints {H : Type} {enc : TypeId × Value → H} {W : World} {base : Nat} {spare : Nat → Bool} {held : Bool} {a0 : Option Addr} {len cap : Nat} {d : DataW H} {p : List MemPlace}
    (h : DataW.Trod enc Try.prog W base spare held 40 (.slice a0 len cap) d p) : ∃ zs : List Int, Rd W [] a0 (ints .i64 zs) ∧ len = zs.length ∧ len ≤ Rows.uptoBulk d ∧ ∀ n ∈ zs, (Lit.int .i64 n).wf = true := by
  obtain ⟨zs, h1, h2, h3, h4⟩ := open_slice_ints Try.underlying40 Try.underlying3 (by kernel_rfl) h
  refine ⟨zs, h1, h2, ?_, h3⟩
  rcases h4 with rfl | ⟨es, sp, rfl, rfl⟩
  · omega
  · have := bulk_len es
    simp only [Rows.uptoBulk]
    omega
end Go.Proofs.Ytcbppikkoelimaa
