/- rules.Valid: the walk. -/
import Derived.Test.YtmfobfamdaajmaaQValid
import Derived.Test.YtmfobfamdaajmaaVR
namespace Go.Proofs.Ytmfobfamdaajmaa
open Go.V
set_option linter.unusedVariables false
set_option linter.unusedSimpArgs false

def ah (bs ss : List Ord) : Nat → List Ord
  | 0 => []
  | 1 => bs
  | _ => bs ++ ss
theorem side_facts (bs ss : List Ord) (A1 A2 : Option Addr) (c1 c2 : Nat) (high : Int) (w : World) (h1 : Rd w [] A1 (rows bs)) (h2 : Rd w [] A2 (rows ss)) (hb1 : bs.length ≤ 2513169434843) (hb2 : ss.length ≤ 2513169434843) (s : Nat) (hs : s < 2) :
    ∃ (L : List Ord) (A : Option Addr) (c : Nat), ([.slice A1 bs.length c1, .slice A2 ss.length c2] : List Value)[s]? = some (.slice A L.length c) ∧ Rd w [] A (rows L) ∧ L.length ≤ 2513169434843 ∧ (∀ o ∈ L, o ∈ bs ++ ss) ∧
      (∀ (i : Nat) (hi : i < L.length), (∃ x ∈ ah bs ss s ++ L.take i, x.id = L[i].id) → ¬ Dist (bs ++ ss)) ∧ (∀ (i : Nat) (hi : i < L.length), 0 < i → bet ((s : Int) + 1) L[i].pr L[i - 1].pr = true → ¬ (Srt 1 bs ∧ Srt 2 ss)) ∧
      ah bs ss (s + 1) = ah bs ss s ++ L ∧ (SideOk high ((s : Int) + 1) (ah bs ss s) L L.length → (s = 0 → Srt 1 bs) ∧ (s = 1 → Srt 2 ss)) := by
  match s, hs with
  | 0, _ =>
    refine ⟨bs, A1, c1, rfl, h1, hb1, fun o ho => by simp [ho], fun i hi h => ?_, fun i hi h0 hb k => ?_, by simp [ah], fun k => ⟨fun _ i hi h0 => ?_, fun h => by cases h⟩⟩
    · have := not_dist hi h ss
      simpa [ah] using this
    · have := k.1 i hi h0
      simp at hb
      rw [hb] at this; cases this
    · have := (k i hi hi).2.2 h0
      simpa using this
  | 1, _ =>
    refine ⟨ss, A2, c2, rfl, h2, hb2, fun o ho => by simp [ho], fun i hi h => ?_, fun i hi h0 hb k => ?_, rfl, fun k => ⟨fun h => (nomatch h), fun _ i hi h0 => ?_⟩⟩
    · have := not_dist hi h []
      simpa [ah] using this
    · have := k.2 i hi h0
      simp at hb
      rw [hb] at this; cases this
    · have := (k i hi hi).2.2 h0
      simpa using this
set_option maxRecDepth 10000 in
theorem Valid_ok (w : World) (cap meet high seq : Int) (A1 A2 : Option Addr) (c1 c2 : Nat) (bs ss : List Ord) (h1 : Rd w [] A1 (rows bs)) (h2 : Rd w [] A2 (rows ss)) (hw : ∀ o ∈ bs ++ ss, o.wf)
    (hb1 : bs.length ≤ 2513169434843) (hb2 : ss.length ≤ 2513169434843) :
    Is Try.prog 16 [.agg ⟨bcells cap meet (.slice A1 bs.length c1) (.slice A2 ss.length c2) high seq⟩] w (.int .i64 (vld cap meet high bs ss)) := by
  refine Does.pure (Does.of (n := 109) Try.func16 rfl rfl rfl rfl ?_)
  refine .seq ((.region (.nw (.box rfl rfl) fun b1 => (.v (.assign rfl) (.nil ?_)))))
  refine .seq (.seq ((.region (.v (.fieldAddr rfl) (.v (.loadA (vs := [.int .i64 cap, .int .i64 meet]) rfl (.chunk fun j v hv => ?_) rfl) (.pc rfl rfl (fun w s => configured_ok w cap meet) (.v (.not rfl) (.v (.move rfl) (.or 12 19 7 7 rfl rfl (fun g1 => .v (.fieldAddr rfl) (.v (.load rfl (.one rfl)) (.v (.len rfl) (.v (.fieldAddr rfl) (.v (.fieldAddr rfl) (.v (.load rfl (.one rfl)) (.v (.gtr rfl rfl) (.nil ⟨rfl, rfl, rfl, rfl⟩)))))))) (.v (.move rfl) (.or 21 32 11 11 rfl rfl (fun g2 => .v (.fieldAddr rfl) (.v (.load rfl (.one rfl)) (.v (.len rfl) (.v (.fieldAddr rfl) (.v (.fieldAddr rfl) (.v (.load rfl (.one rfl)) (.v (.fieldAddr rfl) (.v (.load rfl (.one rfl)) (.v (.len rfl) (.v (.subi rfl rfl (by simp only [Bool.and_eq_true, Bool.or_eq_true, Bool.not_eq_true', Bool.and_eq_false_iff, Bool.or_eq_false_iff, Bool.not_eq_false', decide_eq_true_eq, decide_eq_false_iff_not, Bool.false_eq_true, false_iff] at g2; omega)) (.v (.gtr rfl rfl) (.nil ⟨rfl, rfl, rfl, rfl⟩)))))))))))) (.nil ?_))))))))))))
  · match j, hv with
    | 0, hv => exact hv
    | 1, hv => exact hv
    | _ + 2, hv => cases hv
  refine .cond rfl (fun g => ?_) (fun g => .skip ?_) <;> simp only [Bool.and_eq_true, Bool.or_eq_true, Bool.not_eq_true', Bool.and_eq_false_iff, Bool.or_eq_false_iff, Bool.not_eq_false', decide_eq_true_eq, decide_eq_false_iff_not, Bool.false_eq_true, false_iff] at g
  · refine .seq ((.region (.v (.assign rfl) (.nil ?_))))
    exact .ret ⟨[_], ⟨rfl, trivial⟩, by rw [vld, if_neg (fun k : Vld cap meet high bs ss => by have := k.1; have := k.2.1; have := k.2.2.1; have := k.2.2.2.1; omega)]; rfl⟩
  have q1 : 1 ≤ cap ∧ cap ≤ 4096 ∧ 0 ≤ meet ∧ meet ≤ 3 := by omega
  refine .seq ((.region (.ef (.makeMap .u64) ?_)))
  rintro _ _ ⟨bm, rfl, rfl⟩
  refine .v (.assign rfl) (.nil ?_)
  refine .seq (.seq ((.region (.v (.fieldAddr rfl) (.v (.load (v := .slice A1 bs.length c1) rfl (.one rfl)) (.v (.fieldAddr rfl) (.v (.load (v := .slice A2 ss.length c2) rfl (.one rfl)) (.ef (.buildSlice (out := [.slice A1 bs.length c1, .slice A2 ss.length c2]) rfl (by decide) rfl rfl) ?_))))))))
  rintro _ _ ⟨b2, rfl, rfl⟩
  refine .v (.len rfl) (.v (.move rfl) (.nil ?_))
  refine .block (.loop (X := Nat) (fun s => [(1, .pointer (some ⟨b1, 0, none⟩)), (3, .map (some bm)), (39, .slice (some ⟨b2, 0, none⟩) 2 2), (40, .int .i64 2), (41, .int .i64 s)])
    (fun s => [(b2, .cells [.slice A1 bs.length c1, .slice A2 ss.length c2] 28), (bm, .obj (mapOf .u64 (seenFrom 0 (ah bs ss s)) (ah bs ss s).length)), (b1, .cells (bcells cap meet (.slice A1 bs.length c1) (.slice A2 ss.length c2) high seq) 30)])
    (fun s => s ≤ 2 ∧ Dist (ah bs ss s) ∧ (∀ o ∈ ah bs ss s, o.rests high) ∧ (0 < s → Srt 1 bs) ∧ (1 < s → Srt 2 ss)) (fun s => 2 - s) 0 ⟨by omega, fun i hi => by simp [ah] at hi, fun o ho => by simp [ah] at ho, fun h => by omega, fun h => by omega⟩
    (.cons rfl (.cons rfl (.cons rfl (.cons rfl (.cons rfl (.nil _)))))) (fun _ s => s) ?_)
  rintro s ⟨hs, hD, hR, hS1, hS2⟩
  refine .seq ((.region (.v (.lss rfl rfl) (.nil ?_))))
  refine .seq (.cond_dec rfl (fun g1 => .skip ?_) (fun g1 => .exit ?_))
  · obtain ⟨L, A, c, hcell, hL, hbL, hmem, hbadD, hbadS, hnext, hgood⟩ := side_facts bs ss A1 A2 c1 c2 high w h1 h2 hb1 hb2 s (by omega)
    refine .seq (.block (.seq ((.region (.v (.move rfl) (.v (.indexAddr1 rfl rfl (by omega) (by omega)) (.v (.load (v := .slice A L.length c) rfl (.one (by rw [Nat.zero_add, Int.toNat_natCast]; exact hcell))) (.v (.assign rfl) (.v (.assign rfl) (.nil ?_))))))))))
    refine .seq ((.region (.v (.move rfl) (.v (.len rfl) (.v (.move rfl) (.nil ?_))))))
    refine .block (.loop (X := Nat) (fun i => [(1, .pointer (some ⟨b1, 0, none⟩)), (3, .map (some bm)), (4, .int .i64 s), (5, .slice A L.length c), (39, .slice (some ⟨b2, 0, none⟩) 2 2), (40, .int .i64 2), (41, .int .i64 s), (46, .slice A L.length c), (47, .int .i64 L.length), (48, .int .i64 i)])
      (fun i => [(b2, .cells [.slice A1 bs.length c1, .slice A2 ss.length c2] 28), (bm, .obj (mapOf .u64 (seenFrom 0 (ah bs ss s ++ L.take i)) (ah bs ss s ++ L.take i).length)), (b1, .cells (bcells cap meet (.slice A1 bs.length c1) (.slice A2 ss.length c2) high seq) 30)]) (fun i => i ≤ L.length ∧ SideOk high ((s : Int) + 1) (ah bs ss s) L i) (fun i => L.length - i) 0 ⟨by omega, fun i _ hi => by omega⟩
      (.cons rfl (.cons rfl (.cons rfl (.cons rfl (.cons rfl (.cons rfl (.cons rfl (.cons rfl (.cons rfl (.cons rfl (.nil _))))))))))) (fun _ s => by simpa using s) ?_)
    rintro i ⟨hi, hI⟩
    refine .seq ((.region (.v (.lss rfl rfl) (.nil ?_))))
    refine .seq (.cond_dec rfl (fun g2 => .skip ?_) (fun g2 => .exit ?_))
    · have hil : i < L.length := by omega
      obtain ⟨b, o, rfl, -, hc⟩ := Rd.ord hL (by omega)
      obtain ⟨u1, u2, u3, u4⟩ := hw L[i] (hmem _ (List.getElem_mem hil))
      refine .seq (.block (.seq ((.region (.v (.move rfl) (.v (.indexAddr rfl rfl (by omega) (by omega)) (.v (.loadA (vs := L[i].cells) rfl (.old (fun j v hv => ?_) (by simp [bl])) rfl) (.nw .alloc fun b7 => (.v (.assign rfl) (.st (.sw rfl rfl) (.nil ?_)))))))))))
      · rw [add_none, Int.toNat_natCast]; exact hc i hil j v (List.getElem?_eq_some_iff.1 hv).1 hv
      refine .seq (.seq ((.drawK [(b7, .cells L[i].cells 53), (b2, .cells [.slice A1 bs.length c1, .slice A2 ss.length c2] 28), (bm, .obj (mapOf .u64 (seenFrom 0 (ah bs ss s ++ L.take i)) (ah bs ss s ++ L.take i).length)), (b1, .cells (bcells cap meet (.slice A1 bs.length c1) (.slice A2 ss.length c2) high seq) 30)] (fun _ h => h) (by kernel_rfl) (by kernel_rfl) (.v (fun _ f => .loadA rfl (.whole (hb := .sub f)) rfl) (.v (fun _ f => .fieldAddr rfl) (.v (fun _ f => .load (v := .int .u64 high) rfl (.one (hb := .sub f) rfl)) (.pc (v := .bool (decide (L[i].rests high))) rfl rfl (fun w _ => canRest_ok w _ _ _ _ _ _ _ high u1 u2 u3 u4) (.v (fun _ f => .not rfl) (.v (fun _ f => .move rfl) (.or 58 62 4 4 rfl rfl (fun _ => .v (fun _ f => .move rfl) (.v (fun _ f => .fieldAddr rfl) (.v (fun _ f => .load (v := .int .u64 L[i].id) rfl (.one (hb := .sub f) rfl)) (.v (v := .bool (decide (∃ x ∈ ah bs ss s ++ L.take i, x.id = L[i].id))) (fun _ f => .lookupE (es := seenFrom 0 (ah bs ss s ++ L.take i)) (hb := .sub f) rfl rfl (mget_seen _ _)) (.nil ⟨rfl, rfl, rfl, rfl⟩))))) (.v (fun _ f => .move rfl) (.or 64 79 15 4 rfl rfl (fun _ => .v (fun _ f => .move rfl) (.v (fun _ f => .gtr rfl rfl) (.v (fun _ f => .move rfl) (.and 67 78 11 11 rfl rfl (fun g5 => .v (fun _ f => .move rfl) (.v (fun _ f => .addi rfl rfl (by omega)) (.v (fun _ f => .fieldAddr rfl) (.v (fun _ f => .load (v := .int .i64 L[i].pr) rfl (.one (hb := .sub f) rfl)) (.v (fun _ f => .move rfl) (.v (fun _ f => .move rfl) (.v (fun _ f => .subi rfl rfl (by omega)) (.v (fun _ f => .indexAddr rfl rfl (by have := of_decide_eq_true g5; omega) (by omega)) (.v (fun _ f => .fieldAddr rfl) (.v (fun _ f => .load (v := .int .i64 L[i - 1].pr) rfl (.old1 (by rw [show ((i : Int) - 1).toNat = i - 1 from by omega]; exact hc (i - 1) (by omega) 3 (.int .i64 L[i - 1].pr) (by omega) rfl) (by simp [bl]))) (.pc (v := .bool (bet ((s : Int) + 1) L[i].pr L[i - 1].pr)) rfl rfl (fun w _ => better_ok w _ _ _) (.nil ⟨rfl, rfl, rfl, rfl⟩)))))))))))) (.nil ⟨rfl, rfl, rfl, rfl⟩))))) (.nil ?_)))))))))))))
      refine .cond rfl (fun g3 => ?_) (fun g3 => .skip ?_) <;> simp only [Bool.and_eq_true, Bool.or_eq_true, Bool.not_eq_true', Bool.and_eq_false_iff, Bool.or_eq_false_iff, Bool.not_eq_false', decide_eq_true_eq, decide_eq_false_iff_not, Bool.false_eq_true, false_iff] at g3
      · refine .seq ((.region (.v (.assign rfl) (.nil ?_))))
        refine .ret ⟨[_], ⟨rfl, trivial⟩, ?_⟩
        rw [vld, if_neg (fun k : Vld cap meet high bs ss => ?_)]; rfl
        rcases g3 with (g3 | g3) | g3
        · exact g3 (k.2.2.2.2.1 _ (hmem _ (List.getElem_mem hil)))
        · exact hbadD i hil g3 k.2.2.2.2.2.1
        · exact hbadS i hil (by omega) g3.2 ⟨k.2.2.2.2.2.2.1, k.2.2.2.2.2.2.2.1⟩
      · have hns : ¬ ∃ x ∈ ah bs ss s ++ L.take i, x.id = L[i].id := g3.1.2
        refine .region (.v (.move rfl) (.v (.fieldAddr rfl) (.v (.load (v := .int .u64 L[i].id) rfl (.one rfl)) (.st (.mapUpdate (k := L[i].id) rfl rfl rfl) (.nil ?_)))))
        refine .region (.v (.addi rfl rfl (by omega)) (.v (.move rfl) (.nil ?_)))
        refine ⟨i + 1, ⟨by omega, fun m hm hmi => ?_⟩, by omega, .cons rfl (.cons rfl (.cons rfl (.cons rfl (.cons rfl (.cons rfl (.cons rfl (.cons rfl (.cons rfl (.cons rfl (.nil _)))))))))), fun _ s => ?_⟩
        · by_cases e : m = i
          · subst e
            refine ⟨by simpa using g3.1.1, hns, fun h0 => ?_⟩
            cases hbb : bet ((s : Int) + 1) L[m].pr L[m - 1].pr with
            | false => rfl
            | true => rcases g3.2 with g4 | g4
                      · omega
                      · rw [hbb] at g4; cases g4
          · exact hI m hm (by omega)
        · rw [mset_seen _ _ hns, List.append_assoc, ← List.take_succ_eq_append_getElem hil] at s
          exact s.sub (List.sublist_cons_self _ _)
    · obtain rfl : i = L.length := by omega
      refine .region (.v (.addi rfl rfl (by omega)) (.v (.move rfl) (.nil ?_)))
      have hg := hgood hI
      refine ⟨s + 1, ⟨by omega, by rw [hnext]; exact dist_of hD hI, fun o ho => ?_, fun h0 => ?_, fun h0 => ?_⟩, by omega, .cons rfl (.cons rfl (.cons rfl (.cons rfl (.cons rfl (.nil _))))), fun _ s => ?_⟩
      · rw [hnext] at ho
        rcases List.mem_append.1 ho with ho | ho
        · exact hR o ho
        · obtain ⟨m, hm, rfl⟩ := List.mem_iff_getElem.1 ho
          exact (hI m hm hm).1
      · by_cases e : s = 0
        · exact hg.1 e
        · exact hS1 (by omega)
      · exact hg.2 (by omega)
      · rw [List.take_length, ← hnext] at s
        exact s
  · obtain rfl : s = 2 := by omega
    have hfin : ∀ x : Bool, crossB bs ss = x → vld cap meet high bs ss = if x then 120 else 0 := by
      intro x hx
      cases x with
      | true => rw [vld, if_neg (fun k : Vld cap meet high bs ss => by rw [k.2.2.2.2.2.2.2.2] at hx; cases hx)]; rfl
      | false => rw [vld, if_pos ⟨q1, by omega, by omega, by omega, hR, hD, hS1 (by omega), hS2 (by omega), hx⟩]; rfl
    by_cases hboth : 0 < bs.length ∧ 0 < ss.length
    · obtain ⟨b, o, rfl, -, hc⟩ := Rd.ord h1 hboth.1
      obtain ⟨b', o', rfl, -, hc'⟩ := Rd.ord h2 hboth.2
      have hcr : crossB bs ss = decide ((ss[0]'hboth.2).pr ≤ (bs[0]'hboth.1).pr) := by
        match bs, ss, hboth with
        | _ :: _, _ :: _, _ => rfl
      refine .seq (.seq ((.drawS (by kernel_rfl) (by kernel_rfl) (.v (.fieldAddr rfl) (.v (.load (v := .slice (some ⟨b, o, none⟩) bs.length c1) rfl (.one rfl)) (.v (.len rfl) (.v (.gtr rfl rfl) (.v (.move rfl) (.and 90 94 4 4 rfl rfl (fun _ => .v (.fieldAddr rfl) (.v (.load (v := .slice (some ⟨b', o', none⟩) ss.length c2) rfl (.one rfl)) (.v (.len rfl) (.v (.gtr rfl rfl) (.nil ⟨rfl, rfl, rfl⟩))))) (.v (.move rfl) (.and 96 107 11 11 rfl rfl (fun _ => .v (.fieldAddr rfl) (.v (.load (v := .slice (some ⟨b, o, none⟩) bs.length c1) rfl (.one rfl)) (.v (.indexAddr rfl rfl (by omega) (by omega)) (.v (.fieldAddr rfl) (.v (.load (v := .int .i64 (bs[0]'hboth.1).pr) rfl (.old1 (hc 0 hboth.1 3 (.int .i64 (bs[0]'hboth.1).pr) (by omega) rfl) (by simp [bl]))) (.v (.fieldAddr rfl) (.v (.load (v := .slice (some ⟨b', o', none⟩) ss.length c2) rfl (.one rfl)) (.v (.indexAddr rfl rfl (by omega) (by omega)) (.v (.fieldAddr rfl) (.v (.load (v := .int .i64 (ss[0]'hboth.2).pr) rfl (.old1 (hc' 0 hboth.2 3 (.int .i64 (ss[0]'hboth.2).pr) (by omega) rfl) (by simp [bl]))) (.v (.geq rfl rfl) (.nil ⟨rfl, rfl, rfl⟩)))))))))))) (.nil ?_))))))))))))
      refine .cond rfl (fun g5 => ?_) (fun g5 => .skip ?_) <;> simp only [Bool.and_eq_true, Bool.or_eq_true, Bool.not_eq_true', Bool.and_eq_false_iff, Bool.or_eq_false_iff, Bool.not_eq_false', decide_eq_true_eq, decide_eq_false_iff_not, Bool.false_eq_true, false_iff] at g5
      · refine .seq ((.region (.v (.assign rfl) (.nil ?_))))
        exact .ret ⟨[_], ⟨rfl, trivial⟩, by rw [hfin true (by rw [hcr]; exact decide_eq_true g5.2)]; rfl⟩
      · refine .seq ((.region (.v (.assign rfl) (.nil ?_))))
        exact .ret ⟨[_], ⟨rfl, trivial⟩, by rw [hfin false (by rw [hcr]; exact decide_eq_false (fun k => by rcases g5 with (g5 | g5) | g5 <;> omega))]; rfl⟩
    · have hcr : crossB bs ss = false := by
        match bs, ss, hboth with
        | [], _, _ => rfl
        | _ :: _, [], _ => rfl
        | _ :: _, _ :: _, h => exact absurd ⟨by simp, by simp⟩ h
      refine .seq (.seq ((.drawS (by kernel_rfl) (by kernel_rfl) (.v (.fieldAddr rfl) (.v (.load (v := .slice A1 bs.length c1) rfl (.one rfl)) (.v (.len rfl) (.v (.gtr rfl rfl) (.v (.move rfl) (.and 90 94 4 4 rfl rfl (fun _ => .v (.fieldAddr rfl) (.v (.load (v := .slice A2 ss.length c2) rfl (.one rfl)) (.v (.len rfl) (.v (.gtr rfl rfl) (.nil ⟨rfl, rfl, rfl⟩))))) (.v (.move rfl) (.and (b2 := false) 96 107 11 11 rfl rfl (fun g => absurd g (by simp only [Bool.and_eq_true, Bool.or_eq_true, Bool.not_eq_true', Bool.and_eq_false_iff, Bool.or_eq_false_iff, Bool.not_eq_false', decide_eq_true_eq, decide_eq_false_iff_not, Bool.false_eq_true, false_iff]; omega)) (.nil ?_))))))))))))
      refine .cond rfl (fun g5 => absurd g5 (by simp)) (fun _ => .skip ?_)
      refine .seq ((.region (.v (.assign rfl) (.nil ?_))))
      exact .ret ⟨[_], ⟨rfl, trivial⟩, by rw [hfin false hcr]; rfl⟩
end Go.Proofs.Ytmfobfamdaajmaa
