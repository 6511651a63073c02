/- Texts that the row RFeedDepths stands on: FDepthsL, VN, VT, VB, KBulk, QRead, QReadC, FRdCm. -/
import Derived.Test.YtinmhhonpflojaaYFeedDepthsE
import Derived.Test.YtinmhhonpflojaaYFeedDepthsB
import Derived.SizedLaws
import Derived.Test.YtinmhhonpflojaaRows
import Derived.Test.YtinmhhonpflojaaYFeedDepthsC
/- FeedDepths: the law's walk. -/
namespace Go.Proofs.Ytinmhhonpflojaa
open Go.V
set_option linter.unusedVariables false
set_option linter.unusedSimpArgs false

theorem tds_at {l : List Dt} {i : Nat} (h : i < l.length) : tds (l.drop i) = if l[i].k = 2 then (l[i].d, l[i].p, l[i].q) :: tds (l.drop (i + 1)) else tds (l.drop (i + 1)) := by
  rw [List.drop_eq_getElem_cons h]
  unfold tds
  by_cases h2 : l[i].k = 2
  · rw [if_pos h2, List.filter_cons_of_pos (by simpa using h2)]; rfl
  · rw [if_neg h2, List.filter_cons_of_neg (by simpa using h2)]
abbrev Sw (s p b : Nat) (vD vP : Value) (hD hP : Hp) (ps : List PicD) : Hp := ShB s p b vD vP :: (hD ++ (hP ++ picH ps))
set_option maxRecDepth 20000 in
set_option maxHeartbeats 4000000 in
theorem FeedDepths_ok (w : World) (one more cc cm : Int) (A : Option Addr) (len cap : Nat) (l : List Cm) (hl : len = l.length) (hA : Rd w [] A (crows l)) (hb : len ≤ 600000) (hw : ∀ c ∈ l, c.wf) :
    Is Try.prog 8 [.int .i64 one, .int .i64 more, .agg ⟨[.int .i64 cc, .int .i64 cm]⟩, .slice A len cap] w (.bool true) := by
  refine Does.pure (Does.of (n := 298) Try.func8 rfl rfl rfl rfl ?_)
  refine .seq ((.region (.nw (.box rfl rfl) fun b6 => (.v (.assign rfl) (.nil ?_)))))
  refine .seq (.seq ((.region (.pc rfl rfl (fun w s => lives_ok w) (.v (.not rfl) (.nil ?_))))))
  refine .cond rfl (fun h => absurd h (by decide)) (fun _ => .skip ?_)
  refine .mid (X := Int) (fun x => [(0, .int .i64 one), (1, .int .i64 x), (3, .slice A len cap), (6, .pointer (some ⟨b6, 0, none⟩))]) (fun x => [(b6, .cells [.int .i64 cc, .int .i64 cm] 77)]) (fun x => 0 ≤ x ∧ x ≤ 64) (.seq ((.region (.v (.move rfl) (.v (.lss rfl rfl) (.v (.move rfl) (.or 22 24 2 2 rfl rfl (fun g1 => .v (.move rfl) (.v (.gtr rfl rfl) (.nil ⟨rfl, rfl, rfl, rfl⟩))) (.nil ?_)))))))) ?_
  · refine .cond rfl (fun h2 => ?_) (fun h2 => .skip ?_)
    · refine .region (.v (.assign rfl) (.nil ?_))
      exact ⟨0, by omega, .cons rfl (.cons rfl (.cons rfl (.cons rfl (.nil _)))), fun _ s => s⟩
    · rw [Bool.or_eq_false_iff] at h2
      have h3 := of_decide_eq_false h2.1
      have h4 := of_decide_eq_false h2.2
      exact ⟨more, by omega, .cons rfl (.cons rfl (.cons rfl (.cons rfl (.nil _)))), fun _ s => s⟩
  rintro more hm
  refine .seq ((.region (.v (.move rfl) (.v (.loadA (vs := [.int .i64 cc, .int .i64 cm]) rfl .whole rfl) (.v (.move rfl) ?_)))))
  by_cases hok : (1 ≤ one ∧ one ≤ 64) ∧ Cfg cc cm
  case neg =>
    refine .pc rfl rfl (fun w s => shown_no w one cc cm A len cap hok) ?_
    refine .v (.move rfl) (.v (.extract rfl rfl) (.v (.extract rfl rfl) (.v (.assign rfl) (.v (.assign rfl) (.nil ?_)))))
    refine .seq (.seq ((.region (.v (.move rfl) (.v (.not rfl) (.v (.move rfl) (.or (b2 := true) 35 37 2 2 rfl rfl (fun g2 => .v (.move rfl) (.v (.eql_ptr_nil rfl rfl) (.nil ⟨rfl, rfl, rfl, rfl⟩))) (.nil ?_))))))))
    refine .cond rfl (fun h3 => ?_) (fun h3 => absurd h3 (by simp))
    refine .seq ((.region (.v (.move rfl) (.v (.assign rfl) (.nil ?_)))))
    exact .ret ⟨[_], ⟨rfl, trivial⟩, rfl⟩
  obtain ⟨hone, hc⟩ := hok
  obtain ⟨dp, rfl⟩ : ∃ dp : Nat, one = dp := ⟨one.toNat, by omega⟩
  refine .ef (.call0 rfl rfl fun w' s => shown_yes w' dp cc cm A len cap l hl (hA.keep0 s) hb hw (by omega) hc) ?_
  rintro _ _ ⟨_, ⟨s1, p1, c1, vD1, hD1, ps1, vP1, hP1, rfl, rfl, o1, r1, n1⟩, rfl⟩
  refine .v (.move rfl) (.v (.extract rfl rfl) (.v (.extract rfl rfl) (.v (.assign rfl) (.v (.assign rfl) (.nil ?_)))))
  refine .seq (.seq ((.region (.v (.move rfl) (.v (.not rfl) (.v (.move rfl) (.or (b2 := false) 35 37 2 2 rfl rfl (fun g2 => .v (.move rfl) (.v (.eql_ptr_nil rfl rfl) (.nil ⟨rfl, rfl, rfl, rfl⟩))) (.nil ?_))))))))
  refine .cond rfl (fun h => absurd h (by simp)) (fun _ => .skip ?_)
  refine .mid (X := Nat) (fun x => [(0, .int .i64 dp), (1, .int .i64 x), (3, .slice A len cap), (6, .pointer (some ⟨b6, 0, none⟩)), (9, .pointer (some ⟨s1, 0, none⟩))]) (fun x => Sw s1 p1 c1 vD1 vP1 hD1 hP1 ps1 ++ [(b6, .cells [.int .i64 cc, .int .i64 cm] 77)]) (fun x => dp + x ≤ 64) (.seq ((.region (.v (.move rfl) (.v (.move rfl) (.v (.addi rfl rfl (by omega)) (.v (.gtr rfl rfl) (.nil ?_)))))))) ?_
  · refine .cond_dec rfl (fun h4 => ?_) (fun h4 => .skip ?_)
    · refine .region (.v (.move rfl) (.v (.subi rfl rfl (by omega)) (.v (.assign rfl) (.nil ?_))))
      exact ⟨64 - dp, by omega, .cons rfl (.cons (congrArg some (by congr 1; omega)) (.cons rfl (.cons rfl (.cons rfl (.nil _))))), fun _ s => s⟩
    · exact ⟨more.toNat, by omega, .cons rfl (.cons (congrArg some (by congr 1; omega)) (.cons rfl (.cons rfl (.cons rfl (.nil _))))), fun _ s => s⟩
  clear hm more
  rintro em hem
  refine .seq ((.region (.v (.move rfl) (.v (.move rfl) (.v (.addi rfl rfl (by omega)) (.v (.loadA (vs := [.int .i64 cc, .int .i64 cm]) rfl .whole rfl) (.v (.move rfl) ?_)))))))
  refine .ef (.call0 rfl rfl fun w' s => shown_yes w' (dp + em) cc cm A len cap l hl (hA.keep0 s) hb hw (by omega) hc) ?_
  rintro _ _ ⟨_, ⟨s2, p2, c2, vD2, hD2, ps2, vP2, hP2, rfl, rfl, o2, r2, n2⟩, rfl⟩
  refine .v (.move rfl) (.v (.extract rfl rfl) (.v (.extract rfl rfl) (.v (.assign rfl) (.v (.assign rfl) (.nil ?_)))))
  refine .keep (Sw s2 p2 c2 vD2 vP2 hD2 hP2 ps2 ++ Sw s1 p1 c1 vD1 vP1 hD1 hP1 ps1) ?_
  obtain ⟨oD1, oP1, oO1⟩ := o1
  obtain ⟨oD2, oP2, oO2⟩ := o2
  obtain ⟨AD1, kD1, rfl⟩ := OwnS.slice oD1
  obtain ⟨AP1, kP1, rfl⟩ := OwnS.slice oP1
  obtain ⟨AD2, kD2, rfl⟩ := OwnS.slice oD2
  obtain ⟨AP2, kP2, rfl⟩ := OwnS.slice oP2
  obtain ⟨-, f1, g1⟩ := run_facts dp cc cm l l.length (Nat.le_refl _)
  obtain ⟨-, f2, g2⟩ := run_facts (dp + em) cc cm l l.length (Nat.le_refl _)
  have htd := run_trades dp (dp + em) cc cm l l.length (Nat.le_refl _)
  rw [List.take_length] at f1 g1 f2 g2 htd
  rw [← r1] at f1 g1
  rw [← r2] at f2 g2
  rw [List.length_map] at f1 f2
  generalize (Sh.run dp cc cm l).dt = d1 at oD1 n1 htd
  generalize (Sh.run (dp + em) cc cm l).dt = d2 at oD2 n2 htd
  clear r1 r2
  refine .seq (.seq ((.drawK [ShB s2 p2 c2 (.slice AD2 d2.length kD2) (.slice AP2 ps2.length kP2), ShB s1 p1 c1 (.slice AD1 d1.length kD1) (.slice AP1 ps1.length kP1)] (by intro y hy; simp at hy; rcases hy with rfl | rfl <;> simp) (by kernel_rfl) (by kernel_rfl) ?_)))
  refine .v (fun _ f => .move rfl) (.v (fun _ f => .not rfl) (.v (fun _ f => .move rfl) (.or (b2 := false) 57 59 2 2 rfl rfl (fun g3 => .v (fun _ f => .move rfl) (.v (fun _ f => .eql_ptr_nil rfl rfl) (.nil ⟨rfl, rfl, rfl, rfl⟩))) (.v (fun _ f => .move rfl) (.or 61 72 11 11 rfl rfl (fun g4 => .v (fun _ f => .move rfl) (.v (fun _ f => .nilCheck rfl) (.v (fun _ f => .fieldAddr rfl) (.v (fun _ f => .load (v := .slice AP1 ps1.length kP1) rfl (.one (hb := .sub f) rfl)) (.v (fun _ f => .len rfl) (.v (fun _ f => .move rfl) (.v (fun _ f => .nilCheck rfl) (.v (fun _ f => .fieldAddr rfl) (.v (fun _ f => .load (v := .slice AP2 ps2.length kP2) rfl (.one (hb := .sub f) rfl)) (.v (fun _ f => .len rfl) (.v (fun _ f => .nei rfl rfl) (.nil ⟨rfl, rfl, rfl, rfl⟩)))))))))))) (.nil ?_))))))
  refine .cond rfl (fun h5 => absurd h5 (by rw [f1, f2]; simp)) (fun _ => .skip ?_)
  refine .seq (.seq ((.region (.v (.assign rfl) (.nil ?_)))))
  refine .block (.loop (X := Nat) (fun i => [(0, .int .i64 dp), (9, .pointer (some ⟨s1, 0, none⟩)), (11, .pointer (some ⟨s2, 0, none⟩)), (13, .int .i64 i)]) (fun _ => Sw s2 p2 c2 (.slice AD2 d2.length kD2) (.slice AP2 ps2.length kP2) hD2 hP2 ps2 ++ Sw s1 p1 c1 (.slice AD1 d1.length kD1) (.slice AP1 ps1.length kP1) hD1 hP1 ps1) (fun i => i ≤ l.length + 1) (fun i => l.length + 1 - i) 0 (Nat.zero_le _) (.cons rfl (.cons rfl (.cons rfl (.cons rfl (.nil _))))) (fun _ s => s) ?_)
  intro i hi
  refine .seq (.seq ((.region (.v (.move rfl) (.v (.move rfl) (.v (.nilCheck rfl) (.v (.fieldAddr rfl) (.v (.load (v := .slice AP1 ps1.length kP1) rfl (.one rfl)) (.v (.len rfl) (.v (.lss rfl rfl) (.nil ?_)))))))))))
  refine .cond_dec rfl (fun h6 => .skip ?_) (fun h6 => .exit ?_)
  · have h1l : i < ps1.length := by omega
    have h2l : i < ps2.length := by omega
    obtain ⟨q1, hq1⟩ := g1 i (by omega)
    obtain ⟨q2, hq2⟩ := g2 i (by omega)
    have hV := bks_vl hc hw i (by omega)
    generalize bks cc cm (l.take i) = B at hq1 hq2 hV
    rw [List.getElem?_map, List.getElem?_eq_getElem h1l] at hq1
    rw [List.getElem?_map, List.getElem?_eq_getElem h2l] at hq2
    have hxe := Option.some.inj hq1
    have hye := Option.some.inj hq2
    clear hq1 hq2
    obtain ⟨t1, z1, m1, rfl, -, rfl, -, -, -⟩ := OwnS.some_ oP1 (by omega)
    obtain ⟨t2, z2, m2, rfl, -, rfl, -, -, -⟩ := OwnS.some_ oP2 (by omega)
    have hx := fun hs' hsub => recAt PicD.cells 3 (fun _ => rfl) (z := (i : Int)) (OwnS.at0 (w0 := w) (own := []) (hs := hs') oP1 hsub) h1l
    have hy := fun hs' hsub => recAt PicD.cells 3 (fun _ => rfl) (z := (i : Int)) (OwnS.at0 (w0 := w) (own := []) (hs := hs') oP2 hsub) h2l
    have hxo := oO1 _ (List.getElem_mem h1l)
    have hyo := oO2 _ (List.getElem_mem h2l)
    have hxs : ps1[i].hB ++ ps1[i].hS ⊆ picH ps1 := fun y hy => List.mem_flatMap.2 ⟨_, List.getElem_mem h1l, hy⟩
    have hys : ps2[i].hB ++ ps2[i].hS ⊆ picH ps2 := fun y hy => List.mem_flatMap.2 ⟨_, List.getElem_mem h2l, hy⟩
    generalize ps1[i] = x at hx hxo hxs hxe
    generalize ps2[i] = y at hy hyo hys hye
    obtain ⟨pc1, vB1, vS1, hB1, hS1⟩ := x
    obtain ⟨pc2, vB2, vS2, hB2, hS2⟩ := y
    dsimp only at hxe hye hxs hys
    subst hxe
    subst hye
    obtain ⟨x1, x2⟩ := hxo
    obtain ⟨y1, y2⟩ := hyo
    dsimp only [pcB] at x1 x2 y1 y2
    obtain ⟨G1, e1, rfl⟩ := lown_sl x1
    obtain ⟨G2, e2, rfl⟩ := lown_sl x2
    obtain ⟨H1, e3, rfl⟩ := lown_sl y1
    obtain ⟨H2, e4, rfl⟩ := lown_sl y2
    have hcx : (PicD.mk (pcB q1 dp B) (.slice G1 (lvs dp B.bs).length e1) (.slice G2 (lvs dp B.ss).length e2) hB1 hS1).cells = (pcells q1 (.slice G1 (lvs dp B.bs).length e1) (.slice G2 (lvs dp B.ss).length e2)) := rfl
    have hcy : (PicD.mk (pcB q2 (dp + em) B) (.slice H1 (lvs (dp + em) B.bs).length e3) (.slice H2 (lvs (dp + em) B.ss).length e4) hB2 hS2).cells = (pcells q2 (.slice H1 (lvs (dp + em) B.bs).length e3) (.slice H2 (lvs (dp + em) B.ss).length e4)) := rfl
    rw [hcx] at hx
    rw [hcy] at hy
    obtain ⟨⟨a1, a2⟩, a3, a4⟩ := lvs_pre hV dp em
    have hle1 : (lvs dp B.bs).length ≤ (lvs (dp + em) B.bs).length := by have := congrArg List.length a1; rw [List.length_take] at this; omega
    have hle2 : (lvs dp B.ss).length ≤ (lvs (dp + em) B.ss).length := by have := congrArg List.length a3; rw [List.length_take] at this; omega
    have hk1 := (OwnS.cap_ y1).2
    have hk2 := (OwnS.cap_ y2).2
    have hl1 := (lvs_le hV dp).1
    have hl2 := (lvs_le hV dp).2
    have rt1 : ∀ w' : World, Rd w' [] H1 (lrows (lvs (dp + em) B.bs)) → Rd w' [] H1 ((lvs dp B.bs).flatMap Lv.cells) := fun w' h => by
      have := h.take ((lvs dp B.bs).length * 3)
      unfold lrows at this
      rw [← V.rows_take Lv.cells 3 (fun _ => rfl), ← a1] at this
      exact this
    have rt2 : ∀ w' : World, Rd w' [] H2 (lrows (lvs (dp + em) B.ss)) → Rd w' [] H2 ((lvs dp B.ss).flatMap Lv.cells) := fun w' h => by
      have := h.take ((lvs dp B.ss).length * 3)
      unfold lrows at this
      rw [← V.rows_take Lv.cells 3 (fun _ => rfl), ← a3] at this
      exact this
    refine .seq (.block (.mid (X := Nat × Nat) (fun z => [(0, .int .i64 dp), (9, .pointer (some ⟨s1, 0, none⟩)), (11, .pointer (some ⟨s2, 0, none⟩)), (13, .int .i64 i), (14, .pointer (some ⟨z.1, 0, none⟩)), (15, .pointer (some ⟨z.2, 0, none⟩))])
      (fun z => (z.1, .cells (pcells q1 (.slice G1 (lvs dp B.bs).length e1) (.slice G2 (lvs dp B.ss).length e2)) 40) :: (z.2, .cells (pcells q2 (.slice H1 (lvs (dp + em) B.bs).length e3) (.slice H2 (lvs (dp + em) B.ss).length e4)) 40) :: (Sw s2 p2 c2 (.slice AD2 d2.length kD2) (.slice (some ⟨t2, z2, none⟩) ps2.length kP2) hD2 [(t2, Ch.cells m2 40)] ps2 ++ Sw s1 p1 c1 (.slice AD1 d1.length kD1) (.slice (some ⟨t1, z1, none⟩) ps1.length kP1) hD1 [(t1, Ch.cells m1 40)] ps1)) (fun _ => True)
      (.drawX [0, 1, 2, 3, 4, 5, 6, 7, 8, 9, 10, 11, 12, 13] (Sw s2 p2 c2 (.slice AD2 d2.length kD2) (.slice (some ⟨t2, z2, none⟩) ps2.length kP2) hD2 [(t2, Ch.cells m2 40)] ps2 ++ Sw s1 p1 c1 (.slice AD1 d1.length kD1) (.slice (some ⟨t1, z1, none⟩) ps1.length kP1) hD1 [(t1, Ch.cells m1 40)] ps1) (fun _ h => h) (by kernel_rfl) (by kernel_rfl) ?_) ?_))
    · refine .v (fun _ f => .move rfl) (.v (fun _ f => .nilCheck rfl) (.v (fun _ f => .fieldAddr rfl) (.v (fun _ f => .load (v := .slice (some ⟨t1, z1, none⟩) ps1.length kP1) rfl (.one (hb := .sub f) rfl)) (.v (fun _ f => .move rfl) (.v (fun _ f => .indexAddr rfl rfl (by omega) (by omega)) (.v (fun hs' f => .loadA (vs := (pcells q1 (.slice G1 (lvs dp B.bs).length e1) (.slice G2 (lvs dp B.ss).length e2))) rfl (hx hs' (fun y hy => f (by simp at hy; subst hy; simp))) rfl) (.v (fun _ f => .move rfl) (.v (fun _ f => .nilCheck rfl) (.v (fun _ f => .fieldAddr rfl) (.v (fun _ f => .load (v := .slice (some ⟨t2, z2, none⟩) ps2.length kP2) rfl (.one (hb := .sub f) rfl)) (.v (fun _ f => .move rfl) (.v (fun _ f => .indexAddr rfl rfl (by omega) (by omega)) (.v (fun hs' f => .loadA (vs := (pcells q2 (.slice H1 (lvs (dp + em) B.bs).length e3) (.slice H2 (lvs (dp + em) B.ss).length e4))) rfl (hy hs' (fun y hy => f (by simp at hy; subst hy; simp))) rfl) (.nil ?_))))))))))))))
      refine .two 14 15 (by kernel_rfl) (.nw rfl .alloc fun b14 => ?_) (.nw rfl .alloc fun b15 => ?_)
      · refine .run [15, 16, 17] (fun y hy => List.mem_cons_of_mem _ hy) (by kernel_rfl) (.nw .alloc fun b15 => (.st (.sw (vs := (pcells q1 (.slice G1 (lvs dp B.bs).length e1) (.slice G2 (lvs dp B.ss).length e2))) rfl rfl) (fun _ y hy => List.mem_cons_of_mem _ (List.mem_cons_of_mem _ hy)) (.st (.sw (vs := (pcells q2 (.slice H1 (lvs (dp + em) B.bs).length e3) (.slice H2 (lvs (dp + em) B.ss).length e4))) rfl rfl) (fun _ y hy => List.mem_cons_of_mem _ (List.mem_cons_of_mem _ hy)) (.nil ?_))))
        exact ⟨(b14, b15), trivial, .cons rfl (.cons rfl (.cons rfl (.cons rfl (.cons rfl (.cons rfl (.nil _)))))), fun _ s => s.perm (List.Perm.swap _ _ _)⟩
      · refine .run [14, 16, 17] (fun y hy => List.mem_cons_of_mem _ hy) (by kernel_rfl) (.nw .alloc fun b14 => (.st (.sw (vs := (pcells q1 (.slice G1 (lvs dp B.bs).length e1) (.slice G2 (lvs dp B.ss).length e2))) rfl rfl) (fun _ y hy => List.mem_cons_of_mem _ (List.mem_cons_of_mem _ hy)) (.st (.sw (vs := (pcells q2 (.slice H1 (lvs (dp + em) B.bs).length e3) (.slice H2 (lvs (dp + em) B.ss).length e4))) rfl rfl) (fun _ y hy => List.mem_cons_of_mem _ (List.mem_cons_of_mem _ hy)) (.nil ?_))))
        exact ⟨(b14, b15), trivial, .cons rfl (.cons rfl (.cons rfl (.cons rfl (.cons rfl (.cons rfl (.nil _)))))), fun _ s => s⟩
    · rintro ⟨b14, b15⟩ -
      dsimp only
      refine .seq (.seq ((.drawK _ (fun _ h => h) (by kernel_rfl) (by kernel_rfl) ?_)))
      refine .v (fun _ f => .fieldAddr rfl) (.v (fun _ f => .load (v := .slice G1 (lvs dp B.bs).length e1) rfl (.one (hb := .sub f) rfl)) (.v (fun _ f => .len rfl) (.v (fun _ f => .fieldAddr rfl) (.v (fun _ f => .load (v := .slice H1 (lvs (dp + em) B.bs).length e3) rfl (.one (hb := .sub f) rfl)) (.v (fun _ f => .len rfl) (.v (fun _ f => .gtr rfl rfl) (.v (fun _ f => .move rfl) (.or 104 111 7 7 rfl rfl (fun g5 => .v (fun _ f => .fieldAddr rfl) (.v (fun _ f => .load (v := .slice G2 (lvs dp B.ss).length e2) rfl (.one (hb := .sub f) rfl)) (.v (fun _ f => .len rfl) (.v (fun _ f => .fieldAddr rfl) (.v (fun _ f => .load (v := .slice H2 (lvs (dp + em) B.ss).length e4) rfl (.one (hb := .sub f) rfl)) (.v (fun _ f => .len rfl) (.v (fun _ f => .gtr rfl rfl) (.nil ⟨rfl, rfl, rfl, rfl⟩)))))))) (.v (fun _ f => .move rfl) ?_)))))))))
      refine .or (b2 := false) 113 123 10 10 rfl rfl (fun g6 => .v (fun _ f => .fieldAddr rfl) (.v (fun _ f => .load (v := .slice G1 (lvs dp B.bs).length e1) rfl (.one (hb := .sub f) rfl)) (.v (fun _ f => .fieldAddr rfl) (.v (fun _ f => .load (v := .slice H1 (lvs (dp + em) B.bs).length e3) rfl (.one (hb := .sub f) rfl)) (.v (fun _ f => .fieldAddr rfl) (.v (fun _ f => .load (v := .slice G1 (lvs dp B.bs).length e1) rfl (.one (hb := .sub f) rfl)) (.v (fun _ f => .len rfl) (.v (fun _ f => .slHi rfl rfl (by omega) (by omega)) (.pc (v := .bool true) rfl rfl (fun w' s => sameLevels_ok w' G1 H1 _ _ _ (lvs dp B.bs) (OwnS.rd x1 s (no := []) (fun y hy => by have := hxs (List.mem_append_left _ hy); simp [this]) (by simp)) (rt1 w' (OwnS.rd y1 s (no := []) (fun y hy => by have := hys (List.mem_append_left _ hy); simp [this]) (by simp))) rfl (by omega)) (.v (fun _ f => .not rfl) (.nil ⟨rfl, rfl, rfl, rfl⟩))))))))))) (.v (fun _ f => .move rfl) ?_)
      refine .or (b2 := false) 125 135 10 10 rfl rfl (fun g7 => .v (fun _ f => .fieldAddr rfl) (.v (fun _ f => .load (v := .slice G2 (lvs dp B.ss).length e2) rfl (.one (hb := .sub f) rfl)) (.v (fun _ f => .fieldAddr rfl) (.v (fun _ f => .load (v := .slice H2 (lvs (dp + em) B.ss).length e4) rfl (.one (hb := .sub f) rfl)) (.v (fun _ f => .fieldAddr rfl) (.v (fun _ f => .load (v := .slice G2 (lvs dp B.ss).length e2) rfl (.one (hb := .sub f) rfl)) (.v (fun _ f => .len rfl) (.v (fun _ f => .slHi rfl rfl (by omega) (by omega)) (.pc (v := .bool true) rfl rfl (fun w' s => sameLevels_ok w' G2 H2 _ _ _ (lvs dp B.ss) (OwnS.rd x2 s (no := []) (fun y hy => by have := hxs (List.mem_append_right _ hy); simp [this]) (by simp)) (rt2 w' (OwnS.rd y2 s (no := []) (fun y hy => by have := hys (List.mem_append_right _ hy); simp [this]) (by simp))) rfl (by omega)) (.v (fun _ f => .not rfl) (.nil ⟨rfl, rfl, rfl, rfl⟩))))))))))) (.nil ?_)
      refine .cond rfl (fun g => absurd g (by simp; omega)) (fun _ => .skip ?_)
      refine .seq ((.region (.v (.fieldAddr rfl) (.v (.load (v := .slice G1 (lvs dp B.bs).length e1) rfl (.one rfl)) (.v (.len rfl) (.v (.move rfl) (.v (.lss rfl rfl) (.v (.move rfl) (.and 142 149 7 7 rfl rfl (fun g8 => .v (.fieldAddr rfl) (.v (.load (v := .slice H1 (lvs (dp + em) B.bs).length e3) rfl (.one rfl)) (.v (.len rfl) (.v (.fieldAddr rfl) (.v (.load (v := .slice G1 (lvs dp B.bs).length e1) rfl (.one rfl)) (.v (.len rfl) (.v (.gtr rfl rfl) (.nil ⟨rfl, rfl, rfl, rfl⟩)))))))) (.v (.move rfl) (.or 151 165 14 7 rfl rfl (fun g9 => .v (.fieldAddr rfl) (.v (.load (v := .slice G2 (lvs dp B.ss).length e2) rfl (.one rfl)) (.v (.len rfl) (.v (.move rfl) (.v (.lss rfl rfl) (.v (.move rfl) (.and 157 164 7 7 rfl rfl (fun g10 => .v (.fieldAddr rfl) (.v (.load (v := .slice H2 (lvs (dp + em) B.ss).length e4) rfl (.one rfl)) (.v (.len rfl) (.v (.fieldAddr rfl) (.v (.load (v := .slice G2 (lvs dp B.ss).length e2) rfl (.one rfl)) (.v (.len rfl) (.v (.gtr rfl rfl) (.nil ⟨rfl, rfl, rfl, rfl⟩)))))))) (.nil ⟨rfl, rfl, rfl, rfl⟩)))))))) (.nil ?_))))))))))))
      refine .cond rfl (fun g => absurd g (by
        simp only [Bool.or_eq_true, Bool.and_eq_true, decide_eq_true_eq]
        rintro (⟨u1, u2⟩ | ⟨u1, u2⟩)
        · have := a2 (by omega); omega
        · have := a4 (by omega); omega)) (fun _ => .skip ?_)
      refine .region (.v (.move rfl) (.v (.addi rfl rfl (by omega)) (.v (.assign rfl) (.nil ?_))))
      exact ⟨i + 1, by omega, by omega, .cons rfl (.cons rfl (.cons rfl (.cons rfl (.nil _)))), fun _ s => s.sub (.cons _ (List.sublist_cons_self _ _))⟩
  · clear hi h6
    refine .seq ((.region (.v (.assign rfl) (.nil ?_))))
    refine .seq (.seq ((.region (.v (.assign rfl) (.nil ?_)))))
    refine .block (.loop (X := Nat × Nat) (fun x => [(9, .pointer (some ⟨s1, 0, none⟩)), (11, .pointer (some ⟨s2, 0, none⟩)), (16, .int .i64 x.2), (17, .int .i64 x.1)]) (fun _ => Sw s2 p2 c2 (.slice AD2 d2.length kD2) (.slice AP2 ps2.length kP2) hD2 hP2 ps2 ++ Sw s1 p1 c1 (.slice AD1 d1.length kD1) (.slice AP1 ps1.length kP1) hD1 hP1 ps1) (fun x => x.1 ≤ d1.length ∧ x.2 ≤ d2.length ∧ tds (d1.drop x.1) = tds (d2.drop x.2)) (fun x => d1.length - x.1) (0, 0) ⟨Nat.zero_le _, Nat.zero_le _, htd⟩ (.cons rfl (.cons rfl (.cons rfl (.cons rfl (.nil _))))) (fun _ s => s) ?_)
    rintro ⟨j, k⟩ ⟨hj, hk, ht⟩
    dsimp only at hj hk ht ⊢
    have hbd1 : d1.length ≤ 4000000000000 := by omega
    have hbd2 : d2.length ≤ 4000000000000 := by omega
    refine .seq (.seq ((.region (.v (.move rfl) (.v (.move rfl) (.v (.nilCheck rfl) (.v (.fieldAddr rfl) (.v (.load (v := .slice AD1 d1.length kD1) rfl (.one rfl)) (.v (.len rfl) (.v (.lss rfl rfl) (.nil ?_)))))))))))
    refine .cond_dec rfl (fun h9 => .skip ?_) (fun h9 => .exit ?_)
    · have hjl : j < d1.length := by omega
      obtain ⟨t1, z1, y1, rfl, -, rfl, -, -, -⟩ := OwnS.some_ oD1 (by omega)
      have hfl := fun hs' hsub q (v : Value) (hv : (d1[j].cells)[q]? = some v) => fldAt Dt.cells 6 (fun _ => rfl) (z := (j : Int)) (OwnS.at0 (w0 := w) (own := []) (hs := hs') oD1 hsub) hjl q hv
      have htj := tds_at hjl
      generalize d1[j] = x at hfl htj
      refine .seq (.block (.seq (.seq ((.region (.v (.move rfl) (.v (.nilCheck rfl) (.v (.fieldAddr rfl) (.v (.load (v := .slice (some ⟨t1, z1, none⟩) d1.length kD1) rfl (.one rfl)) (.v (.move rfl) (.v (.indexAddr rfl rfl (by omega) (by omega)) (.v (.fieldAddr rfl) (.v (.load (v := .int .i64 x.k) rfl (hfl _ (fun y hy => by simp at hy; subst hy; simp) 1 _ rfl)) (.v (.nei rfl rfl) (.nil ?_)))))))))))))))
      refine .cond_dec rfl (fun h10 => .exit ?_) (fun h10 => .skip ?_)
      · rw [if_neg h10] at htj
        refine .region (.v (.move rfl) (.v (.addi rfl rfl (by omega)) (.v (.assign rfl) (.nil ?_))))
        exact ⟨(j + 1, k), ⟨by dsimp only; omega, hk, by dsimp only; rw [← htj]; exact ht⟩, by dsimp only; omega, .cons rfl (.cons rfl (.cons rfl (.cons rfl (.nil _)))), fun _ s => s⟩
      · rw [if_pos (Decidable.of_not_not h10)] at htj
        refine .seq (.block (.loop (X := Nat) (fun k => [(9, .pointer (some ⟨s1, 0, none⟩)), (11, .pointer (some ⟨s2, 0, none⟩)), (16, .int .i64 k), (17, .int .i64 j)]) (fun _ => Sw s2 p2 c2 (.slice AD2 d2.length kD2) (.slice AP2 ps2.length kP2) hD2 hP2 ps2 ++ Sw s1 p1 c1 (.slice (some ⟨t1, z1, none⟩) d1.length kD1) (.slice AP1 ps1.length kP1) [(t1, Ch.cells y1 24)] hP1 ps1) (fun k => k ≤ d2.length ∧ tds (d1.drop j) = tds (d2.drop k)) (fun k => d2.length - k) k ⟨hk, ht⟩ (.cons rfl (.cons rfl (.cons rfl (.cons rfl (.nil _))))) (fun _ s => s) ?_))
        clear hk ht
        rintro k ⟨hk, ht⟩
        by_cases hkl : k < d2.length
        case neg =>
          exfalso
          rw [List.drop_eq_nil_of_le (Nat.le_of_not_lt hkl), htj] at ht
          cases ht
        obtain ⟨t2, z2, y2, rfl, -, rfl, -, -, -⟩ := OwnS.some_ oD2 (by omega)
        have hfm := fun hs' hsub q (v : Value) (hv : (d2[k].cells)[q]? = some v) => fldAt Dt.cells 6 (fun _ => rfl) (z := (k : Int)) (OwnS.at0 (w0 := w) (own := []) (hs := hs') oD2 hsub) hkl q hv
        have htk := tds_at hkl
        generalize d2[k] = y at hfm htk
        refine .seq (.seq ((.region (.v (.move rfl) (.v (.move rfl) (.v (.nilCheck rfl) (.v (.fieldAddr rfl) (.v (.load (v := .slice (some ⟨t2, z2, none⟩) d2.length kD2) rfl (.one rfl)) (.v (.len rfl) (.v (.lss rfl rfl) (.v (.move rfl) (.and 192 201 9 9 rfl rfl (fun g11 => .v (.move rfl) (.v (.nilCheck rfl) (.v (.fieldAddr rfl) (.v (.load (v := .slice (some ⟨t2, z2, none⟩) d2.length kD2) rfl (.one rfl)) (.v (.move rfl) (.v (.indexAddr rfl rfl (by omega) (by omega)) (.v (.fieldAddr rfl) (.v (.load (v := .int .i64 y.k) rfl (hfm _ (fun y hy => by simp at hy; subst hy; simp) 1 _ rfl)) (.v (.nei rfl rfl) (.nil ⟨rfl, rfl, rfl, rfl⟩)))))))))) (.nil ?_)))))))))))))
        refine .cond rfl (fun g => .skip ?_) (fun g => .exit ?_)
        · simp only [Bool.and_eq_true, decide_eq_true_eq] at g
          rw [if_neg g.2] at htk
          refine .block ((.region (.v (.move rfl) (.v (.addi rfl rfl (by omega)) (.v (.assign rfl) (.nil ?_))))))
          exact ⟨k + 1, ⟨by omega, by rw [← htk]; exact ht⟩, by omega, (.cons rfl (.cons rfl (.cons rfl (.cons rfl (.nil _))))), fun _ s => s⟩
        · have hy2 : y.k = 2 := by
            by_cases h : y.k = 2
            · exact h
            · exfalso; rw [decide_eq_true (show (k : Int) < (d2.length : Nat) by omega), decide_eq_true h] at g; cases g
          rw [if_pos hy2, ht.symm, htj] at htk
          obtain ⟨e1, e2⟩ := List.cons.inj htk
          simp only [Prod.mk.injEq] at e1
          obtain ⟨e3, e4, e5⟩ := e1
          refine .seq (.seq ((.drawK _ (fun _ h => h) (by kernel_rfl) (by kernel_rfl) ?_)))
          refine .v (fun _ f => .move rfl) (.v (fun _ f => .move rfl) (.v (fun _ f => .nilCheck rfl) (.v (fun _ f => .fieldAddr rfl) (.v (fun _ f => .load (v := .slice (some ⟨t2, z2, none⟩) d2.length kD2) rfl (.one (hb := .sub f) rfl)) (.v (fun _ f => .len rfl) (.v (fun _ f => .eqi rfl rfl) (.v (fun _ f => .move rfl) (.or 212 229 17 17 rfl rfl (fun g12 => .v (fun _ f => .move rfl) (.v (fun _ f => .nilCheck rfl) (.v (fun _ f => .fieldAddr rfl) (.v (fun _ f => .load (v := .slice (some ⟨t1, z1, none⟩) d1.length kD1) rfl (.one (hb := .sub f) rfl)) (.v (fun _ f => .move rfl) (.v (fun _ f => .indexAddr rfl rfl (by omega) (by omega)) (.v (fun _ f => .fieldAddr rfl) (.v (fun hs' f => .load (v := .int .i64 x.d) rfl (hfl hs' (fun y hy => f (by simp at hy; subst hy; simp)) 2 _ rfl)) (.v (fun _ f => .move rfl) (.v (fun _ f => .nilCheck rfl) (.v (fun _ f => .fieldAddr rfl) (.v (fun _ f => .load (v := .slice (some ⟨t2, z2, none⟩) d2.length kD2) rfl (.one (hb := .sub f) rfl)) (.v (fun _ f => .move rfl) (.v (fun _ f => .indexAddr rfl rfl (by omega) (by omega)) (.v (fun _ f => .fieldAddr rfl) (.v (fun hs' f => .load (v := .int .i64 y.d) rfl (hfm hs' (fun y hy => f (by simp at hy; subst hy; simp)) 2 _ rfl)) (.v (fun _ f => .nei rfl rfl) (.nil ⟨rfl, rfl, rfl, rfl⟩)))))))))))))))))) (.v (fun _ f => .move rfl) (.or 231 248 17 17 rfl rfl (fun g13 => .v (fun _ f => .move rfl) (.v (fun _ f => .nilCheck rfl) (.v (fun _ f => .fieldAddr rfl) (.v (fun _ f => .load (v := .slice (some ⟨t1, z1, none⟩) d1.length kD1) rfl (.one (hb := .sub f) rfl)) (.v (fun _ f => .move rfl) (.v (fun _ f => .indexAddr rfl rfl (by omega) (by omega)) (.v (fun _ f => .fieldAddr rfl) (.v (fun hs' f => .load (v := .int .i64 x.p) rfl (hfl hs' (fun y hy => f (by simp at hy; subst hy; simp)) 3 _ rfl)) (.v (fun _ f => .move rfl) (.v (fun _ f => .nilCheck rfl) (.v (fun _ f => .fieldAddr rfl) (.v (fun _ f => .load (v := .slice (some ⟨t2, z2, none⟩) d2.length kD2) rfl (.one (hb := .sub f) rfl)) (.v (fun _ f => .move rfl) (.v (fun _ f => .indexAddr rfl rfl (by omega) (by omega)) (.v (fun _ f => .fieldAddr rfl) (.v (fun hs' f => .load (v := .int .i64 y.p) rfl (hfm hs' (fun y hy => f (by simp at hy; subst hy; simp)) 3 _ rfl)) (.v (fun _ f => .nei rfl rfl) (.nil ⟨rfl, rfl, rfl, rfl⟩)))))))))))))))))) (.v (fun _ f => .move rfl) (.or 250 267 17 17 rfl rfl (fun g14 => .v (fun _ f => .move rfl) (.v (fun _ f => .nilCheck rfl) (.v (fun _ f => .fieldAddr rfl) (.v (fun _ f => .load (v := .slice (some ⟨t1, z1, none⟩) d1.length kD1) rfl (.one (hb := .sub f) rfl)) (.v (fun _ f => .move rfl) (.v (fun _ f => .indexAddr rfl rfl (by omega) (by omega)) (.v (fun _ f => .fieldAddr rfl) (.v (fun hs' f => .load (v := .int .u64 x.q) rfl (hfl hs' (fun y hy => f (by simp at hy; subst hy; simp)) 4 _ rfl)) (.v (fun _ f => .move rfl) (.v (fun _ f => .nilCheck rfl) (.v (fun _ f => .fieldAddr rfl) (.v (fun _ f => .load (v := .slice (some ⟨t2, z2, none⟩) d2.length kD2) rfl (.one (hb := .sub f) rfl)) (.v (fun _ f => .move rfl) (.v (fun _ f => .indexAddr rfl rfl (by omega) (by omega)) (.v (fun _ f => .fieldAddr rfl) (.v (fun hs' f => .load (v := .int .u64 y.q) rfl (hfm hs' (fun y hy => f (by simp at hy; subst hy; simp)) 4 _ rfl)) (.v (fun _ f => .nei rfl rfl) (.nil ⟨rfl, rfl, rfl, rfl⟩)))))))))))))))))) (.nil ?_)))))))))))))
          rw [e3, e4, e5]
          refine .cond rfl (fun g => absurd g (by simp; omega)) (fun _ => .skip ?_)
          refine .region (.v (.move rfl) (.v (.addi rfl rfl (by omega)) (.v (.assign rfl) (.nil ?_))))
          refine .region (.v (.move rfl) (.v (.addi rfl rfl (by omega)) (.v (.assign rfl) (.nil ?_))))
          exact ⟨(j + 1, k + 1), ⟨by dsimp only; omega, by dsimp only; omega, e2⟩, by dsimp only; omega, (.cons rfl (.cons rfl (.cons rfl (.cons rfl (.nil _))))), fun _ s => s⟩
    · have hje : j = d1.length := by omega
      rw [hje, List.drop_eq_nil_of_le (Nat.le_refl _)] at ht
      refine .seq (.block (.loop (X := Nat) (fun k => [(11, .pointer (some ⟨s2, 0, none⟩)), (16, .int .i64 k)]) (fun _ => Sw s2 p2 c2 (.slice AD2 d2.length kD2) (.slice AP2 ps2.length kP2) hD2 hP2 ps2 ++ Sw s1 p1 c1 (.slice AD1 d1.length kD1) (.slice AP1 ps1.length kP1) hD1 hP1 ps1) (fun k => k ≤ d2.length ∧ tds [] = tds (d2.drop k)) (fun k => d2.length - k) k ⟨hk, ht⟩ (.cons rfl (.cons rfl (.nil _))) (fun _ s => s) ?_))
      clear hk ht
      rintro k ⟨hk, ht⟩
      by_cases hkl : k < d2.length
      case neg =>
        refine .seq (.seq ((.region (.v (.move rfl) (.v (.move rfl) (.v (.nilCheck rfl) (.v (.fieldAddr rfl) (.v (.load (v := .slice AD2 d2.length kD2) rfl (.one rfl)) (.v (.len rfl) (.v (.lss rfl rfl) (.v (.move rfl) (.and (b2 := false) 278 287 9 9 rfl rfl (fun g11 => absurd (of_decide_eq_true g11) (by omega)) (.nil ?_)))))))))))))
        refine .cond rfl (fun g => absurd g (by simp)) (fun _ => .exit ?_)
        have hke : k = d2.length := by omega
        refine .seq ((.region (.v (.move rfl) (.v (.move rfl) (.v (.nilCheck rfl) (.v (.fieldAddr rfl) (.v (.load (v := .slice AD2 d2.length kD2) rfl (.one rfl)) (.v (.len rfl) (.v (.eqi rfl rfl) (.v (.assign rfl) (.nil ?_)))))))))))
        exact .ret ⟨[_], ⟨rfl, trivial⟩, by rw [hke]; simp [tup]⟩
      obtain ⟨t2, z2, y2, rfl, -, rfl, -, -, -⟩ := OwnS.some_ oD2 (by omega)
      have hfm := fun hs' hsub q (v : Value) (hv : (d2[k].cells)[q]? = some v) => fldAt Dt.cells 6 (fun _ => rfl) (z := (k : Int)) (OwnS.at0 (w0 := w) (own := []) (hs := hs') oD2 hsub) hkl q hv
      have htk := tds_at hkl
      generalize d2[k] = y at hfm htk
      refine .seq (.seq ((.region (.v (.move rfl) (.v (.move rfl) (.v (.nilCheck rfl) (.v (.fieldAddr rfl) (.v (.load (v := .slice (some ⟨t2, z2, none⟩) d2.length kD2) rfl (.one rfl)) (.v (.len rfl) (.v (.lss rfl rfl) (.v (.move rfl) (.and 278 287 9 9 rfl rfl (fun g11 => .v (.move rfl) (.v (.nilCheck rfl) (.v (.fieldAddr rfl) (.v (.load (v := .slice (some ⟨t2, z2, none⟩) d2.length kD2) rfl (.one rfl)) (.v (.move rfl) (.v (.indexAddr rfl rfl (by omega) (by omega)) (.v (.fieldAddr rfl) (.v (.load (v := .int .i64 y.k) rfl (hfm _ (fun y hy => by simp at hy; subst hy; simp) 1 _ rfl)) (.v (.nei rfl rfl) (.nil ⟨rfl, rfl, rfl, rfl⟩)))))))))) (.nil ?_)))))))))))))
      refine .cond rfl (fun g => .skip ?_) (fun g => ?_)
      · simp only [Bool.and_eq_true, decide_eq_true_eq] at g
        rw [if_neg g.2] at htk
        refine .block ((.region (.v (.move rfl) (.v (.addi rfl rfl (by omega)) (.v (.assign rfl) (.nil ?_))))))
        exact ⟨k + 1, ⟨by omega, by rw [← htk]; exact ht⟩, by omega, (.cons rfl (.cons rfl (.nil _))), fun _ s => s⟩
      · exfalso
        have hy2 : y.k = 2 := by
          by_cases h : y.k = 2
          · exact h
          · exfalso; rw [decide_eq_true (show (k : Int) < (d2.length : Nat) by omega), decide_eq_true h] at g; cases g
        rw [if_pos hy2, ← ht] at htk
        cases htk
end Go.Proofs.Ytinmhhonpflojaa

/- VN: slices of anything that come in: the cells of each element, and what each is read as. -/
namespace Go
namespace V
open Go.RowKit Go.ChangeShapes Go.WideShapes Go.ChangeAt
set_option linter.unusedVariables false

/-- these cells are read as 'd' -/
def TC {H : Type} (enc : TypeId × Value → H) (P : Program) (w : World) (base : Nat) (spare : Nat → Bool) (held : Bool) (t : TypeId) (cs : List Value) (d : DataW H) : Prop :=
  ∃ fuel p, DataW.trod enc P w base spare held fuel t cs = some (d, p)
section
variable {H : Type} {enc : TypeId × Value → H} {P : Program} {w : World} {base : Nat} {spare : Nat → Bool} {held : Bool}
theorem TC.of {t : TypeId} {v : Value} {cs : List Value} {d : DataW H} {p : List MemPlace} (h : DataW.Trod enc P w base spare held t v d p) (hc : v.cells = ⟨cs⟩) : TC enc P w base spare held t cs d := by
  obtain ⟨fuel, hf⟩ := h
  rw [hc] at hf
  exact ⟨fuel, p, hf⟩
theorem TC.int {t : TypeId} {k : IntKind} {cs : List Value} {d : DataW H} (ht : P.underlying t = some (.int k)) (h : TC enc P w base spare held t cs d) : ∃ n, cs = [.int k n] ∧ (Lit.int k n).wf = true := by
  obtain ⟨fuel, p, hf⟩ := h
  obtain ⟨n, h1, _, h2⟩ := DataW.trod_int ht hf
  exact ⟨n, h1, h2⟩
theorem TC.bool {t : TypeId} {cs : List Value} {d : DataW H} (ht : P.underlying t = some .bool) (h : TC enc P w base spare held t cs d) : ∃ b, cs = [.bool b] := by
  obtain ⟨fuel, p, hf⟩ := h
  obtain ⟨b, h1, _⟩ := DataW.trod_bool ht hf
  exact ⟨b, h1⟩
theorem TC.plain {t : TypeId} {cs : List Value} {d : DataW H} {ls : List Lf} (hl : leaves P 8 t = some ls) (hs : P.cellsOf t = ls.length) (h : TC enc P w base spare held t cs d) : okw ls cs := by
  obtain ⟨fuel, p, hf⟩ := h
  exact trod_plain 8 t ls fuel cs _ hl hs hf
/-- a struct's fields -/
theorem TC.struct {t : TypeId} {fs : Array Field} {cs : List Value} {d : DataW H} (ht : P.underlying t = some (.struct fs)) (h : TC enc P w base spare held t cs d) :
    ∃ ds, d = .agg ds ∧ ds.length = fs.size ∧ cs.length = P.cellsOf t ∧ ∀ (i : Nat) (f : Field) (di : DataW H), fs[i]? = some f → ds[i]? = some di → TC enc P w base spare held f.type ((cs.drop f.offset).take (P.cellsOf f.type)) di := by
  obtain ⟨fuel, p, hf⟩ := h
  obtain ⟨xs, n, _, hx, hl, hn, hf⟩ := DataW.trod_struct ht hf
  simp only [Prod.mk.injEq] at hx
  refine ⟨xs.map (·.1), hx.1, by simpa using hn, hl, fun i f di h1 h2 => ?_⟩
  have := hf i f h1
  rw [List.getElem?_map] at h2
  cases h3 : xs[i]? with
  | none => rw [h3] at h2; cases h2
  | some x =>
    rw [h3] at h2 this
    simp at h2
    exact ⟨n, x.2, by rw [this, ← h2]⟩
/-- a slice's elements -/
theorem TC.slice {t e m : Nat} {cs : List Value} {d : DataW H} (ht : P.underlying t = some (.slice e)) (hm : P.cellsOf e = m) (h0 : 0 < m) (h : TC enc P w base spare held t cs d) :
    ∃ A len cap, ∃ (css : List (List Value)) (ds : List (DataW H)), cs = [.slice A len cap] ∧ css.length = len ∧ ds.length = len ∧ (∀ c ∈ css, c.length = m) ∧ (∀ (i : Nat) (c : List Value), css[i]? = some c → ∀ (j : Nat) (v : Value), c[j]? = some v → ∃ b o, A = some ⟨b, o, none⟩ ∧ w.cell? ⟨b, o + (i * m + j), none⟩ = some v) ∧
      (d = .nil ∧ len = 0 ∨ ∃ sp, d = .slice ds sp) ∧ ∀ (i : Nat) (c : List Value) (di : DataW H), css[i]? = some c → ds[i]? = some di → TC enc P w base spare held e c di := by
  obtain ⟨fuel, p, hf⟩ := h
  rcases DataW.trod_slice ht hf with ⟨rfl, hx⟩ | ⟨a, len, cap, elems, rest, n, _, rfl, hx, hb, hl, hc, hn, he, _⟩
  · simp only [Prod.mk.injEq] at hx
    exact ⟨none, 0, 0, [], [], rfl, rfl, rfl, by simp, by simp, .inl ⟨hx.1, rfl⟩, by simp⟩
  · simp only [Prod.mk.injEq] at hx
    rw [hm] at he
    have each : ∀ i, i < len → ∃ c x, w.cells? base (a.add (i * m)) m = some c ∧ DataW.trod enc P w base spare held n e c = some x ∧ elems[i]? = some x := by
      intro i hi
      have := he i hi
      rw [List.getElem?_eq_getElem (by omega)] at this
      obtain ⟨c, h1, h2⟩ := Option.bind_eq_some_iff.1 this
      exact ⟨c, _, h1, h2, List.getElem?_eq_getElem (by omega)⟩
    have hcs : ∃ css : List (List Value), css.length = len ∧ ∀ i c, css[i]? = some c → ∃ x, w.cells? base (a.add (i * m)) m = some c ∧ DataW.trod enc P w base spare held n e c = some x ∧ elems[i]? = some x := by
      have key : ∀ k, k ≤ len → ∃ css : List (List Value), css.length = k ∧ ∀ i c, css[i]? = some c → ∃ x, w.cells? base (a.add (i * m)) m = some c ∧ DataW.trod enc P w base spare held n e c = some x ∧ elems[i]? = some x := by
        intro k
        induction k with
        | zero => intro _; exact ⟨[], rfl, by simp⟩
        | succ k ih =>
          intro hk
          obtain ⟨css, h1, h2⟩ := ih (by omega)
          obtain ⟨c, x, h3⟩ := each k (by omega)
          refine ⟨css ++ [c], by simp [h1], fun i c' hc' => ?_⟩
          by_cases hi : i < k
          · rw [List.getElem?_append_left (by omega)] at hc'
            exact h2 i c' hc'
          · rw [List.getElem?_append_right (by omega)] at hc'
            have hik : i = k := by
              have := (List.getElem?_eq_some_iff.1 hc').1
              simp at this; omega
            subst hik
            simp [h1] at hc'
            subst hc'
            exact ⟨x, h3⟩
      exact key len (Nat.le_refl _)
    obtain ⟨css, h1, h2⟩ := hcs
    refine ⟨some a, len, cap, css, elems.map (·.1), rfl, h1, by simpa using hn, fun c hc => ?_, fun i c hc j v hv => ?_, .inr ⟨_, hx.1⟩, fun i c di hc hdi => ?_⟩
    · obtain ⟨i, hi⟩ := List.mem_iff_getElem?.1 hc
      obtain ⟨x, h3, _⟩ := h2 i c hi
      exact (World.cells?_some h3).2.1
    · obtain ⟨x, h3, _⟩ := h2 i c hc
      obtain ⟨g1, g2, g3⟩ := World.cells?_some h3
      have hj := (List.getElem?_eq_some_iff.1 hv).1
      have hcell := g3 j (by omega)
      rw [hv] at hcell
      obtain ⟨b, o, sp⟩ := a
      have hsp : sp = none := by
        have hlt : 0 < css.length := by
          have := (List.getElem?_eq_some_iff.1 hc).1
          omega
        obtain ⟨x0, k3, _⟩ := h2 0 css[0] (List.getElem?_eq_getElem hlt)
        obtain ⟨_, k2, k4⟩ := World.cells?_some k3
        have := k4 0 h0
        rw [List.getElem?_eq_getElem (by omega)] at this
        simpa [Addr.add] using World.cell?_spot this
      subst hsp
      refine ⟨b, o, rfl, ?_⟩
      rw [add_none, add_none, Nat.add_assoc] at hcell
      exact hcell
    · obtain ⟨x, h3, h4, h5⟩ := h2 i c hc
      rw [List.getElem?_map, h5] at hdi
      simp at hdi
      exact ⟨n, x.2, by rw [h4, ← hdi]⟩
end
/-- one for each number below n -/
theorem list_of {α : Type} {Q : Nat → α → Prop} (n : Nat) (h : ∀ i, i < n → ∃ x, Q i x) : ∃ l : List α, l.length = n ∧ ∀ (i : Nat) (x : α), l[i]? = some x → Q i x := by
  induction n with
  | zero => exact ⟨[], rfl, by simp⟩
  | succ n ih =>
    obtain ⟨l, h1, h2⟩ := ih fun i hi => h i (by omega)
    obtain ⟨x, hx⟩ := h n (by omega)
    refine ⟨l ++ [x], by simp [h1], fun i y hy => ?_⟩
    by_cases hi : i < n
    · rw [List.getElem?_append_left (by omega)] at hy
      exact h2 i y hy
    · rw [List.getElem?_append_right (by omega)] at hy
      have hlt := (List.getElem?_eq_some_iff.1 hy).1
      simp at hlt
      have : i = n := by omega
      subst this
      simp [h1] at hy
      subst hy
      exact hx
section
variable {H : Type} {enc : TypeId × Value → H} {P : Program} {w : World} {base : Nat} {spare : Nat → Bool} {held : Bool}
/-- bytes -/
theorem TC.bytes {t e : Nat} {cs : List Value} {d : DataW H} (ht : P.underlying t = some (.slice e)) (he : P.underlying e = some (.int .u8)) (hm : P.cellsOf e = 1) (h : TC enc P w base spare held t cs d) :
    ∃ A c ys, cs = [.slice A (List.length ys) c] ∧ Rd w [] A (byts ys) ∧ (d = .nil ∧ ys = [] ∨ ∃ ds sp, d = .slice ds sp ∧ ds.length = ys.length) := by
  obtain ⟨A, len, cap, css, ds, h1, h2, h3, h4, h5, h6, h7⟩ := h.slice ht hm (by omega)
  obtain ⟨ys, hy1, hy2⟩ := list_of (Q := fun i (y : BitVec 8) => css[i]? = some [.int .u8 y.toNat]) len (fun i hi => by
    have hc := List.getElem?_eq_getElem (show i < css.length by omega)
    have hd := List.getElem?_eq_getElem (show i < ds.length by omega)
    obtain ⟨n, hn, hw⟩ := (h7 i _ _ hc hd).int he
    have := wf_u8 hw
    refine ⟨BitVec.ofNat 8 n.toNat, ?_⟩
    rw [hc, hn]
    simp
    omega)
  refine ⟨A, cap, ys, by rw [h1, hy1], fun j v hv => ?_, ?_⟩
  · have hj : j < ys.length := by have := (List.getElem?_eq_some_iff.1 hv).1; simpa [byts_length] using this
    rw [byts_get hj] at hv
    have h8 := hy2 j _ (List.getElem?_eq_getElem hj)
    obtain ⟨b, o, e1, e2⟩ := h5 j _ h8 0 v (by simpa using hv)
    exact ⟨b, o, e1, by simp, by simpa using e2⟩
  · rcases h6 with ⟨e1, e2⟩ | ⟨sp, e1⟩
    · exact .inl ⟨e1, List.eq_nil_of_length_eq_zero (by omega)⟩
    · exact .inr ⟨ds, sp, e1, by omega⟩
end
end V
end Go

/- VT: lists of plain records that come in; what their lengths are held to. -/
namespace Go
namespace V
open Go.RowKit Go.ChangeShapes Go.WideShapes Go.ChangeAt
set_option linter.unusedVariables false

theorem flatten_get {m : Nat} : ∀ (rs : List (List Value)), (∀ r ∈ rs, r.length = m) → ∀ (k : Nat) (v : Value), rs.flatten[k]? = some v → ∃ i j r, rs[i]? = some r ∧ r[j]? = some v ∧ k = i * m + j
  | [], _, k, v, h => by simp at h
  | r :: rs, hm, k, v, h => by
    rw [List.flatten_cons] at h
    by_cases hk : k < r.length
    · rw [List.getElem?_append_left hk] at h
      exact ⟨0, k, r, rfl, h, by simp⟩
    · rw [List.getElem?_append_right (by omega)] at h
      obtain ⟨i, j, r', h1, h2, h3⟩ := flatten_get rs (fun r hr => hm r (List.mem_cons_of_mem _ hr)) _ v h
      have := hm r List.mem_cons_self
      exact ⟨i + 1, j, r', by simpa using h1, h2, by rw [Nat.succ_mul]; omega⟩
theorem map_of {α β : Type} {f : α → β} {Q : α → Prop} : ∀ (rs : List β), (∀ r ∈ rs, ∃ x, r = f x ∧ Q x) → ∃ l : List α, rs = l.map f ∧ ∀ x ∈ l, Q x
  | [], _ => ⟨[], rfl, by simp⟩
  | r :: rs, h => by
    obtain ⟨x, h1, h2⟩ := h r List.mem_cons_self
    obtain ⟨l, h3, h4⟩ := map_of rs fun r hr => h r (List.mem_cons_of_mem _ hr)
    exact ⟨x :: l, by simp [h1, h3], fun y hy => by rcases List.mem_cons.1 hy with rfl | hy; exact h2; exact h4 y hy⟩
theorem okw_length : ∀ {ls : List Lf} {cs : List Value}, okw ls cs → cs.length = ls.length
  | [], [], _ => rfl
  | l :: ls, c :: cs, h => by have := okw_length h.2; simp [this]
  | [], _ :: _, h => h.elim
  | _ :: _, [], h => h.elim
section
variable {H : Type} {enc : TypeId × Value → H} {P : Program} {w : World} {base : Nat} {spare : Nat → Bool} {held : Bool}
/-- a slice of plain records -/
theorem TC.recs {t e : Nat} {ls : List Lf} {cs : List Value} {d : DataW H} (ht : P.underlying t = some (.slice e)) (hl : leaves P 8 e = some ls) (hs : P.cellsOf e = ls.length) (h0 : 0 < ls.length) (h : TC enc P w base spare held t cs d) :
    ∃ A cap, ∃ rs : List (List Value), cs = [.slice A rs.length cap] ∧ (∀ r ∈ rs, okw ls r) ∧ Rd w [] A rs.flatten ∧ (d = .nil ∧ rs = [] ∨ ∃ ds sp, d = .slice ds sp ∧ ds.length = rs.length) := by
  obtain ⟨A, len, cap, css, ds, h1, h2, h3, h4, h5, h6, h7⟩ := h.slice ht hs h0
  refine ⟨A, cap, css, by rw [h1, h2], fun r hr => ?_, fun k v hv => ?_, ?_⟩
  · obtain ⟨i, hi, rfl⟩ := List.mem_iff_getElem.1 hr
    exact (h7 i _ _ (List.getElem?_eq_getElem hi) (List.getElem?_eq_getElem (by omega))).plain hl hs
  · obtain ⟨i, j, r, e1, e2, rfl⟩ := flatten_get css h4 k v hv
    obtain ⟨b, o, e3, e4⟩ := h5 i r e1 j v e2
    exact ⟨b, o, e3, by simp, e4⟩
  · rcases h6 with ⟨e1, e2⟩ | ⟨sp, e1⟩
    · exact .inl ⟨e1, List.eq_nil_of_length_eq_zero (by omega)⟩
    · exact .inr ⟨ds, sp, e1, by omega⟩
/-- the weights of a struct's parts -/
theorem sized_agg {ts : List TypeId} {ds : List (DataW H)} (h : (DataW.weightsEach P ts ds).all (· ≤ reachBytes) = true) {j : Nat} {t : TypeId} {fs : Array Field} {parts : List (DataW H)} (ht : ts[j]? = some t) (hd : ds[j]? = some (.agg parts)) (hu : P.underlying t = some (.struct fs)) :
    (DataW.weightsEach P (fs.toList.map (·.type)) parts).all (· ≤ reachBytes) = true := by
  rw [List.all_eq_true]
  intro x hx
  exact List.all_eq_true.1 h _ (DataW.weights_mem_each ht hd x (by simp only [DataW.weights, hu]; exact hx))
theorem sized_len {ts : List TypeId} {ds : List (DataW H)} (h : (DataW.weightsEach P ts ds).all (· ≤ reachBytes) = true) {j n : Nat} {t e : TypeId} {d : DataW H} (ht : ts[j]? = some t) (hd : ds[j]? = some d) (hu : P.underlying t = some (.slice e))
    (hk : d = .nil ∧ n = 0 ∨ ∃ es sp, d = .slice es sp ∧ es.length = n) : n * P.bytesOf e ≤ reachBytes := by
  rcases hk with ⟨_, rfl⟩ | ⟨es, sp, rfl, rfl⟩
  · simp
  · have := sized_slice h ht hd hu
    have h2 : es.length * P.bytesOf e ≤ (es.length + sp.length) * P.bytesOf e := Nat.mul_le_mul_right _ (by omega)
    omega
end
end V
end Go

/- VB: slices that come in: they have room for what they hold. -/
namespace Go
namespace V
open Go.RowKit Go.ChangeShapes Go.WideShapes
set_option linter.unusedVariables false
set_option linter.unusedSimpArgs false
section
variable {P : Program} {H : Type} {enc : TypeId × Value → H} {w : World} {base : Nat} {spare : Nat → Bool} {held : Bool}
theorem TC.cap {t e len cap : Nat} {A : Option Addr} {d : DataW H} (ht : P.underlying t = some (.slice e)) (h : TC enc P w base spare held t [.slice A len cap] d) : len ≤ cap := by
  obtain ⟨fuel, p, hf⟩ := h
  rcases DataW.trod_slice ht hf with ⟨e1, hx⟩ | ⟨a, len', cap', elems, rest, n, _, e1, hx, hb, hl, hc, hn, he, _⟩
  · simp at e1; omega
  · simp at e1
    obtain ⟨rfl, rfl, rfl⟩ := e1
    omega
/-- a slice of plain records, with its room -/
theorem TC.recsK {t e : Nat} {ls : List Lf} {cs : List Value} {d : DataW H} (ht : P.underlying t = some (.slice e)) (hl : leaves P 8 e = some ls) (hs : P.cellsOf e = ls.length) (h0 : 0 < ls.length) (h : TC enc P w base spare held t cs d) :
    ∃ A cap, ∃ rs : List (List Value), cs = [.slice A rs.length cap] ∧ (∀ r ∈ rs, okw ls r) ∧ Rd w [] A rs.flatten ∧ rs.length ≤ cap ∧ (d = .nil ∧ rs = [] ∨ ∃ ds sp, d = .slice ds sp ∧ ds.length = rs.length) := by
  obtain ⟨A, cap, rs, rfl, h2, h3, h4⟩ := h.recs ht hl hs h0
  exact ⟨A, cap, rs, rfl, h2, h3, TC.cap ht h, h4⟩
end
theorem okw_i {k : IntKind} {ls : List Lf} {cs : List Value} (h : okw (.i k :: ls) cs) : ∃ a cs', cs = .int k a :: cs' ∧ (Lit.int k a).wf = true ∧ okw ls cs' := by
  match cs, h with
  | .int _ a :: cs', ⟨⟨h1, w1⟩, h2⟩ => subst h1; exact ⟨a, cs', rfl, w1, h2⟩
theorem okw_b {ls : List Lf} {cs : List Value} (h : okw (.b :: ls) cs) : ∃ a cs', cs = .bool a :: cs' ∧ okw ls cs' := by
  match cs, h with
  | .bool a :: cs', ⟨h1, h2⟩ => exact ⟨a, cs', rfl, h2⟩
theorem okw_nil {cs : List Value} (h : okw [] cs) : cs = [] := by
  match cs, h with
  | [], _ => rfl
end V
end Go

/- How many values arguments hold; slices of records as they come in. -/
namespace Go.Proofs.Ytinmhhonpflojaa
open Go.V Go.ChangeShapes Go.WideShapes Go.ChangeAt
set_option linter.unusedVariables false
set_option linter.unusedSimpArgs false

theorem bulk_pos {H : Type} (d : DataW H) : 1 ≤ Rows.uptoBulk d := by
  cases d with
  | lit l => cases l <;> simp [Rows.uptoBulk]
  | _ => simp [Rows.uptoBulk]
theorem bulk_len {H : Type} : ∀ (ds : List (DataW H)), ds.length ≤ Rows.uptoBulkAll ds
  | [] => by simp
  | d :: ds => by
    have h1 := bulk_pos d
    have h2 := bulk_len ds
    simp only [Rows.uptoBulkAll, List.length_cons]
    omega
theorem bulk_get {H : Type} : ∀ {ds : List (DataW H)} {i : Nat} {d : DataW H}, ds[i]? = some d → Rows.uptoBulk d ≤ Rows.uptoBulkAll ds
  | d' :: ds, 0, d, h => by simp at h; subst h; simp [Rows.uptoBulkAll]
  | d' :: ds, i + 1, d, h => by
    have := bulk_get (ds := ds) (i := i) (by simpa using h)
    simp only [Rows.uptoBulkAll]
    omega
  | [], i, d, h => by simp at h
theorem bulk_sum {H α : Type} (f : α → Nat) : ∀ {ds : List (DataW H)} {l : List α}, l.length = ds.length → (∀ (i : Nat) (x : α) (d : DataW H), l[i]? = some x → ds[i]? = some d → f x ≤ Rows.uptoBulk d) → (l.map f).sum ≤ Rows.uptoBulkAll ds
  | [], [], _, _ => by simp
  | d :: ds, x :: l, h, k => by
    have h1 := k 0 x d rfl rfl
    have h2 := bulk_sum f (ds := ds) (l := l) (by simpa using h) (fun i x d hx hd => k (i + 1) x d (by simpa using hx) (by simpa using hd))
    simp only [List.map_cons, List.sum_cons, Rows.uptoBulkAll]
    omega
  | [], _ :: _, h, _ => by simp at h
  | _ :: _, [], h, _ => by simp at h
section
variable {P : Program} {H : Type} {enc : TypeId × Value → H} {w : World} {base : Nat} {spare : Nat → Bool} {held : Bool}
/-- plain records -/
theorem TC.list {α : Type} (f : α → List Value) (Q : α → Prop) {t e : Nat} {ls : List Lf} {cs : List Value} {d : DataW H} (ht : P.underlying t = some (.slice e)) (hl : leaves P 8 e = some ls) (hs : P.cellsOf e = ls.length) (h0 : 0 < ls.length)
    (hf : ∀ r, okw ls r → ∃ x, r = f x ∧ Q x) (h : TC enc P w base spare held t cs d) :
    ∃ A cap, ∃ l : List α, cs = [.slice A l.length cap] ∧ (∀ x ∈ l, Q x) ∧ Rd w [] A (l.flatMap f) ∧ l.length ≤ cap ∧ l.length ≤ Rows.uptoBulk d := by
  obtain ⟨A, cap, rs, rfl, h2, h3, h5, h4⟩ := TC.recsK ht hl hs h0 h
  obtain ⟨l, rfl, hl⟩ := map_of (f := f) (Q := Q) rs fun r hr => hf r (h2 r hr)
  refine ⟨A, cap, l, by rw [List.length_map], hl, by rw [List.flatMap_def]; exact h3, by simpa using h5, ?_⟩
  rcases h4 with ⟨e1, e2⟩ | ⟨ds, sp, rfl, e2⟩
  · have : l = [] := by simpa using e2
    subst this; simp
  · have := bulk_len ds
    simp only [Rows.uptoBulk]
    rw [List.length_map] at e2
    omega
/-- records of whatever -/
theorem TC.listN {α : Type} (f : α → List Value) (Q : α → DataW H → Prop) {t e m : Nat} {cs : List Value} {d : DataW H} (ht : P.underlying t = some (.slice e)) (hm : P.cellsOf e = m) (h0 : 0 < m)
    (hf : ∀ c di, TC enc P w base spare held e c di → ∃ x, c = f x ∧ Q x di) (h : TC enc P w base spare held t cs d) :
    ∃ A cap, ∃ l : List α, cs = [.slice A l.length cap] ∧ Rd w [] A (l.flatMap f) ∧ l.length ≤ cap ∧ l.length ≤ Rows.uptoBulk d ∧ (∀ x ∈ l, ∃ di, Q x di ∧ Rows.uptoBulk di ≤ Rows.uptoBulk d) ∧
      ∀ g : α → Nat, (∀ x di, Q x di → g x ≤ Rows.uptoBulk di) → (l.map g).sum ≤ Rows.uptoBulk d := by
  obtain ⟨A, len, cap, css, ds, rfl, h2, h3, h4, h5, h6, h7⟩ := TC.slice ht hm h0 h
  have hcap := TC.cap ht h
  obtain ⟨l, hl1, hl2⟩ := list_of (Q := fun i (x : α) => css[i]? = some (f x) ∧ ∃ di, ds[i]? = some di ∧ Q x di) len (fun i hi => by
    have hc := List.getElem?_eq_getElem (show i < css.length by omega)
    have hd := List.getElem?_eq_getElem (show i < ds.length by omega)
    obtain ⟨x, e1, e2⟩ := hf _ _ (h7 i _ _ hc hd)
    exact ⟨x, by rw [hc, e1], _, hd, e2⟩)
  have hcss : css = l.map f := by
    apply List.ext_getElem?
    intro i
    by_cases hi : i < len
    · have hx := List.getElem?_eq_getElem (show i < l.length by omega)
      rw [(hl2 i _ hx).1, List.getElem?_map, hx]; rfl
    · rw [List.getElem?_eq_none (by omega), List.getElem?_eq_none (by simp; omega)]
  have hb : ∀ di ∈ ds, Rows.uptoBulk di ≤ Rows.uptoBulk d := by
    intro di hdi
    rcases h6 with ⟨_, e2⟩ | ⟨sp, rfl⟩
    · have : ds = [] := List.eq_nil_of_length_eq_zero (by omega)
      subst this; cases hdi
    · obtain ⟨i, hi, rfl⟩ := List.mem_iff_getElem.1 hdi
      have := bulk_get (List.getElem?_eq_getElem hi)
      simp only [Rows.uptoBulk]
      omega
  refine ⟨A, cap, l, by rw [hl1], fun k v hv => ?_, by omega, ?_, fun x hx => ?_, fun g hg => ?_⟩
  · rw [List.flatMap_def, ← hcss] at hv
    obtain ⟨i, j, r, e1, e2, rfl⟩ := flatten_get css h4 k v hv
    obtain ⟨b, o, e3, e4⟩ := h5 i r e1 j v e2
    exact ⟨b, o, e3, by simp, e4⟩
  · rcases h6 with ⟨_, e2⟩ | ⟨sp, rfl⟩
    · have := bulk_pos d; omega
    · have := bulk_len ds
      simp only [Rows.uptoBulk]
      omega
  · obtain ⟨i, hi, rfl⟩ := List.mem_iff_getElem.1 hx
    obtain ⟨-, di, hdi, hq⟩ := hl2 i _ (List.getElem?_eq_getElem hi)
    exact ⟨di, hq, hb _ (List.mem_of_getElem? hdi)⟩
  · rcases h6 with ⟨_, e2⟩ | ⟨sp, rfl⟩
    · have : l = [] := List.eq_nil_of_length_eq_zero (by omega)
      subst this; simp
    · have := bulk_sum g (ds := ds) (l := l) (by omega) (fun i x di hx hdi => by
        obtain ⟨-, di', hdi', hq⟩ := hl2 i x hx
        rw [hdi] at hdi'; cases hdi'
        exact hg x di hq)
      simp only [Rows.uptoBulk]
      omega
end
end Go.Proofs.Ytinmhhonpflojaa

/- Commands and books as they come in. -/
namespace Go.Proofs.Ytinmhhonpflojaa
open Go.V Go.ChangeShapes Go.WideShapes Go.ChangeAt
set_option linter.unusedVariables false
set_option linter.unusedSimpArgs false

def I64 (x : Int) : Prop := -9223372036854775808 ≤ x ∧ x ≤ 9223372036854775807
def U32 (x : Int) : Prop := 0 ≤ x ∧ x ≤ 4294967295
theorem wf_i64 {n : Int} (h : (Lit.int .i64 n).wf = true) : I64 n := by
  simp [Lit.wf, IntKind.min, IntKind.max, IntKind.bits, IntKind.signed] at h; unfold I64; omega
theorem wf_u64 {n : Int} (h : (Lit.int .u64 n).wf = true) : U n := by
  simp [Lit.wf, IntKind.min, IntKind.max, IntKind.bits, IntKind.signed] at h; unfold U; omega
theorem wf_u32 {n : Int} (h : (Lit.int .u32 n).wf = true) : U32 n := by
  simp [Lit.wf, IntKind.min, IntKind.max, IntKind.bits, IntKind.signed] at h; unfold U32; omega
/-- an order's fields are in their kinds -/
def Ord.ok (o : Ord) : Prop := U o.id ∧ U32 o.mb ∧ I64 o.ty ∧ I64 o.pr ∧ U o.v ∧ U o.hd ∧ U o.pk
theorem Ord.ok.wf {o : Ord} (h : o.ok) : o.wf := ⟨h.1, h.2.2.2.2.1, h.2.2.2.2.2.1, h.2.2.2.2.2.2⟩
theorem okw_ord {cs : List Value} (h : okw OL cs) : ∃ o : Ord, cs = o.cells ∧ o.ok := by
  match cs, h with
  | [.int _ a, .int _ b, .int _ c, .int _ d, .int _ e, .int _ f, .int _ g], ⟨⟨h1, w1⟩, ⟨h2, w2⟩, ⟨h3, w3⟩, ⟨h4, w4⟩, ⟨h5, w5⟩, ⟨h6, w6⟩, ⟨h7, w7⟩, _⟩ =>
    subst h1; subst h2; subst h3; subst h4; subst h5; subst h6; subst h7
    exact ⟨⟨a, b, c, d, e, f, g⟩, rfl, wf_u64 w1, wf_u32 w2, wf_i64 w3, wf_i64 w4, wf_u64 w5, wf_u64 w6, wf_u64 w7⟩
abbrev CL : List Lf := [.i .i64, .i .u64, .i .u64, .i .u32, .i .i64, .i .i64, .i .i64, .i .u64, .i .u64]
def Cmd (k id tg mb sd ty pr q pk : Int) : Prop := I64 k ∧ U id ∧ U tg ∧ U32 mb ∧ I64 sd ∧ I64 ty ∧ I64 pr ∧ U q ∧ U pk
theorem okw_cmd {cs : List Value} (h : okw CL cs) : ∃ k id tg mb sd ty pr q pk, cs = ccells k id tg mb sd ty pr q pk ∧ Cmd k id tg mb sd ty pr q pk := by
  match cs, h with
  | [.int _ a, .int _ b, .int _ c, .int _ d, .int _ e, .int _ f, .int _ g, .int _ i, .int _ j], ⟨⟨h1, w1⟩, ⟨h2, w2⟩, ⟨h3, w3⟩, ⟨h4, w4⟩, ⟨h5, w5⟩, ⟨h6, w6⟩, ⟨h7, w7⟩, ⟨h8, w8⟩, ⟨h9, w9⟩, _⟩ =>
    subst h1; subst h2; subst h3; subst h4; subst h5; subst h6; subst h7; subst h8; subst h9
    exact ⟨a, b, c, d, e, f, g, i, j, rfl, wf_i64 w1, wf_u64 w2, wf_u64 w3, wf_u32 w4, wf_i64 w5, wf_i64 w6, wf_i64 w7, wf_u64 w8, wf_u64 w9⟩
/-- a side, as it comes in -/
def Len {H : Type} (d : DataW H) (n : Nat) : Prop := d = .nil ∧ n = 0 ∨ ∃ es sp, d = .slice es sp ∧ es.length = n
section
variable {H : Type} {enc : TypeId × Value → H} {w : World} {base : Nat} {spare : Nat → Bool} {held : Bool}
theorem TC.side {cs : List Value} {d : DataW H} (h : TC enc Try.prog w base spare held 122 cs d) :
    ∃ A c, ∃ l : List Ord, cs = [.slice A l.length c] ∧ Rd w [] A (rows l) ∧ (∀ o ∈ l, o.ok) ∧ Len d l.length := by
  obtain ⟨A, c, rs, h1, h2, h3, h4⟩ := h.recs (e := 134) (ls := OL) (by kernel_rfl) (by kernel_rfl) (by kernel_rfl) (by decide)
  obtain ⟨l, rfl, hl⟩ := map_of (f := Ord.cells) (Q := Ord.ok) rs fun r hr => okw_ord (h2 r hr)
  refine ⟨A, c, l, by rw [h1, List.length_map], by rw [rows, List.flatMap_def]; exact h3, hl, ?_⟩
  rcases h4 with ⟨e1, e2⟩ | ⟨ds, sp, e1, e2⟩
  · exact .inl ⟨e1, by simpa using e2⟩
  · exact .inr ⟨ds, sp, e1, by simpa using e2⟩
set_option maxRecDepth 20000 in
theorem read_book {cs : List Value} {d : DataW H} (h : TC enc Try.prog w base spare held 124 cs d) :
    ∃ cap meet A1 c1 A2 c2 high seq, ∃ bs ss : List Ord, cs = bcells cap meet (.slice A1 bs.length c1) (.slice A2 ss.length c2) high seq ∧ I64 cap ∧ I64 meet ∧ U high ∧ U seq ∧ Rd w [] A1 (rows bs) ∧ Rd w [] A2 (rows ss) ∧ (∀ o ∈ bs ++ ss, o.ok) ∧
      ∃ dc d1 d2 dh dq, d = .agg [dc, d1, d2, dh, dq] ∧ Len d1 bs.length ∧ Len d2 ss.length := by
  obtain ⟨ds, rfl, hn, hl, hf⟩ := h.struct Try.underlying124
  match ds, hn with
  | [dc, d1, d2, dh, dq], _ =>
  match cs, hl with
  | [x0, x1, x2, x3, x4, x5], _ =>
  have f0 := (hf 0 _ dc rfl rfl).plain (ls := [.i .i64, .i .i64]) (by kernel_rfl) (by kernel_rfl)
  obtain ⟨A1, c1, bs, e1, r1, o1, n1⟩ := TC.side (hf 1 _ d1 rfl rfl)
  obtain ⟨A2, c2, ss, e2, r2, o2, n2⟩ := TC.side (hf 2 _ d2 rfl rfl)
  obtain ⟨high, e3, w3⟩ := (hf 3 _ dh rfl rfl).int (k := .u64) (by kernel_rfl)
  obtain ⟨seq, e4, w4⟩ := (hf 4 _ dq rfl rfl).int (k := .u64) (by kernel_rfl)
  have z2 : Try.prog.cellsOf 77 = 2 := by kernel_rfl
  have z1 : Try.prog.cellsOf 122 = 1 := by kernel_rfl
  have zu : Try.prog.cellsOf 22 = 1 := by kernel_rfl
  have g0 : okw [.i .i64, .i .i64] [x0, x1] := by simpa [z2] using f0
  have g1 : x2 = .slice A1 bs.length c1 := by simpa [z1] using e1
  have g2 : x3 = .slice A2 ss.length c2 := by simpa [z1] using e2
  have g3 : x4 = .int .u64 high := by simpa [zu] using e3
  have g4 : x5 = .int .u64 seq := by simpa [zu] using e4
  match x0, x1, g0 with
  | .int _ cap, .int _ meet, ⟨⟨p1, w1⟩, ⟨p2, w2⟩, _⟩ =>
    subst p1; subst p2; subst g1; subst g2; subst g3; subst g4
    exact ⟨cap, meet, A1, c1, A2, c2, high, seq, bs, ss, rfl, wf_i64 w1, wf_i64 w2, wf_u64 w3, wf_u64 w4, r1, r2, fun o ho => by rcases List.mem_append.1 ho with ho | ho; exact o1 o ho; exact o2 o ho, dc, d1, d2, dh, dq, rfl, n1, n2⟩
end
end Go.Proofs.Ytinmhhonpflojaa

/- Lists of commands, as they come in. -/
namespace Go.Proofs.Ytinmhhonpflojaa
open Go.V Go.ChangeShapes Go.WideShapes Go.ChangeAt
set_option linter.unusedVariables false

def Cm.ok (c : Cm) : Prop := Cmd c.k c.id c.tg c.mb c.sd c.ty c.pr c.q c.pk
theorem Cm.ok.wf {c : Cm} (h : c.ok) : c.wf := ⟨h.2.1, h.2.2.2.2.2.2.2.1, h.2.2.2.2.2.2.2.2⟩
theorem okw_cm {cs : List Value} (h : okw CL cs) : ∃ c : Cm, cs = c.cells ∧ c.ok := by
  obtain ⟨k, id, tg, mb, sd, ty, pr, q, pk, rfl, hc⟩ := okw_cmd h
  exact ⟨⟨k, id, tg, mb, sd, ty, pr, q, pk⟩, rfl, hc⟩
theorem okw_cfg {cs : List Value} (h : okw [.i .i64, .i .i64] cs) : ∃ a b, cs = [.int .i64 a, .int .i64 b] ∧ I64 a ∧ I64 b := by
  match cs, h with
  | [.int _ a, .int _ b], ⟨⟨h1, w1⟩, ⟨h2, w2⟩, _⟩ => subst h1; subst h2; exact ⟨a, b, rfl, wf_i64 w1, wf_i64 w2⟩
section
variable {H : Type} {enc : TypeId × Value → H} {w : World} {base : Nat} {spare : Nat → Bool} {held : Bool}
theorem TC.cmds {cs : List Value} {d : DataW H} (h : TC enc Try.prog w base spare held 78 cs d) :
    ∃ A c, ∃ l : List Cm, cs = [.slice A l.length c] ∧ Rd w [] A (crows l) ∧ (∀ o ∈ l, o.ok) ∧ Len d l.length := by
  obtain ⟨A, c, rs, h1, h2, h3, h4⟩ := h.recs (e := 85) (ls := CL) (by kernel_rfl) (by kernel_rfl) (by kernel_rfl) (by decide)
  obtain ⟨l, rfl, hl⟩ := map_of (f := Cm.cells) (Q := Cm.ok) rs fun r hr => okw_cm (h2 r hr)
  refine ⟨A, c, l, by rw [h1, List.length_map], by rw [crows, List.flatMap_def]; exact h3, hl, ?_⟩
  rcases h4 with ⟨e1, e2⟩ | ⟨ds, sp, e1, e2⟩
  · exact .inl ⟨e1, by simpa using e2⟩
  · exact .inr ⟨ds, sp, e1, by simpa using e2⟩
end
end Go.Proofs.Ytinmhhonpflojaa

/- Commands as they come in, with their bound by bulk. -/
namespace Go.Proofs.Ytinmhhonpflojaa
open Go.V Go.ChangeShapes Go.WideShapes Go.ChangeAt
set_option linter.unusedVariables false
set_option linter.unusedSimpArgs false
theorem sum_two {α : Type} : ∀ l : List α, (l.map fun _ => 2).sum = 2 * l.length
  | [] => rfl
  | a :: l => by rw [List.map_cons, List.sum_cons, sum_two l, List.length_cons]; omega
theorem read_cmdsU {H : Type} {enc : TypeId × Value → H} {w : World} {base : Nat} {spare : Nat → Bool} {held : Bool} {cs : List Value} {d : DataW H} (h : TC enc Try.prog w base spare held 78 cs d) :
    ∃ A c, ∃ l : List Cm, cs = [.slice A l.length c] ∧ Rd w [] A (crows l) ∧ (∀ o ∈ l, o.ok) ∧ 2 * l.length ≤ Rows.uptoBulk d := by
  obtain ⟨A, cap, l, h1, h2, h3, h4, h5, h6⟩ := TC.listN Cm.cells (fun x di => x.ok ∧ 2 ≤ Rows.uptoBulk di) (m := CL.length) Try.underlying78 (by kernel_rfl) (by decide) (fun c di hc => by
    obtain ⟨es, he1, he2, -, he3⟩ := hc.struct Try.underlying85
    obtain ⟨x, hx, ho⟩ := okw_cm (hc.plain (ls := CL) (by kernel_rfl) (by kernel_rfl))
    have hb := bulk_len es
    have hl : es.length = 9 := he2
    exact ⟨x, hx, ho, by rw [he1]; simp only [Rows.uptoBulk]; omega⟩) h
  refine ⟨A, cap, l, h1, by unfold crows; exact h2, fun o ho => by obtain ⟨_, ⟨hq, _⟩, _⟩ := h5 o ho; exact hq, ?_⟩
  have := h6 (fun _ => 2) (fun x di hq => hq.2)
  rw [sum_two] at this
  exact this
end Go.Proofs.Ytinmhhonpflojaa
