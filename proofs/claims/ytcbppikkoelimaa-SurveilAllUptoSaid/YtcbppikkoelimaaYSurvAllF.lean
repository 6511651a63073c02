/- Texts that the row RSurvAll stands on: SVSeen, SVAloneP, SVAloneL, SVPiecesP, SVPiecesL, SVAllL, VN, VT, VB, KBulk, SVRd, SVRdAc. -/
import Derived.Test.YtcbppikkoelimaaYSurvAllE
import Derived.Test.YtcbppikkoelimaaYSurvAllC
import Derived.Test.YtcbppikkoelimaaYSurvAllD
import Derived.Test.YtcbppikkoelimaaYSurvAllA
import Derived.SizedLaws
import Derived.Test.YtcbppikkoelimaaRows
/- SurveilAll: what is seen of both is the same. -/
namespace Go.Proofs.Ytcbppikkoelimaa
open Go.V
set_option linter.unusedVariables false
set_option linter.unusedSimpArgs false
set_option maxRecDepth 20000

abbrev PfL : List Lf := [.i .i64, .i .i64, .i .i64, .i .u64, .i .u64, .i .i64]
theorem Pf.oks (x : Pf) : V.oks PfL x.cells := ⟨rfl, rfl, rfl, rfl, rfl, rfl, trivial⟩
theorem eqPf (x : Pf) : cellsEq x.cells x.cells = true := (cellsEq_iff (Pf.oks x) (Pf.oks x)).2 rfl
structure SeX where
  i : Nat
  l : List Value
structure SeC where
  i : Nat
  l : List Cs
  h : Hp
structure SeL where
  i : Nat
  z : List Int
  v : Value
  h : Hp
set_option maxHeartbeats 4000000 in
theorem seen_ok (w : World) (p : WP) (wn : Wn) (b : Nat) {W : Wt} {z : WZ} {D : DW} {zd : DZ} (hI : WI W z) (hD : DI D zd) (hc : W.cs = D.cs) (hP : ∀ m, W.P m = D.prof m) (hn : W.n = D.L.length) (hm : wmem z.ea = D.members) (he : z.ea.length ≤ 1000000000000) (hO : D.Ok) (hk : D.cs.length ≤ 1000000000) :
    Does Try.prog 21 [.pointer (some ⟨p.b, 0, none⟩), .pointer (some ⟨b, 0, none⟩)] (z.H p wn W.n ++ zd.H b wn) w (fun v hs => v = .bool true ∧ hs = z.H p wn W.n ++ zd.H b wn) := by
  obtain ⟨vL, hL, vO, hO', vA, hA, vC, hC⟩ := zd
  obtain ⟨oL, oO, oA, oC⟩ := hD
  obtain ⟨bL, bO, bA, bC, -⟩ := hO
  dsimp only at oL oO oA oC ⊢
  obtain ⟨AL, cL, rfl⟩ := OwnS.slice oL
  obtain ⟨AA, cA, rfl⟩ := OwnS.slice oA
  obtain ⟨AC, cC, rfl⟩ := OwnS.slice oC
  have hmlen : D.members.length ≤ 1000000000 := by have := membersTo_len _ D.L rfl; show (membersTo D.L).length ≤ _; omega
  refine Does.less (Does.of (n := 119) Try.func21 rfl rfl rfl rfl ?_)
  refine .seq ((.region (.v (.assign rfl) (.nil ?_))))
  refine .seq ((.region (.v (.move rfl) ?_)))
  refine .ef (.call0 rfl rfl fun w s => Cases_ok s p wn W.n hI (fun y hy => List.mem_append_left _ hy) (by rw [hc]; omega)) ?_
  rintro vx _ ⟨hx, ox, rfl⟩
  refine .v (.move rfl) ?_
  refine .ef (.call0 rfl rfl fun w s => Cases_ok s p wn W.n hI (fun y hy => List.mem_append_right _ (List.mem_append_left _ hy)) (by rw [hc]; omega)) ?_
  rintro vy _ ⟨hy, oy, rfl⟩
  refine .v (.move rfl) ?_
  refine .ef (.callT (z.H p wn W.n) rfl rfl fun w s => wmembers_ok w p wn W.n hI he) ?_
  rintro vl _ ⟨_, ⟨hl, ol, rfl⟩, rfl⟩
  refine .v (.move rfl) ?_
  refine .ef (.callT (z.H p wn W.n) rfl rfl fun w s => wmembers_ok w p wn W.n hI he) ?_
  rintro vm _ ⟨_, ⟨hm', om, rfl⟩, rfl⟩
  refine .v (.assign rfl) (.v (.assign rfl) (.v (.assign rfl) (.v (.assign rfl) (.nil ?_))))
  rw [hc] at ox oy
  rw [hm] at ol om
  refine .keep (z.H p wn W.n ++ (DZ.H b wn ⟨.slice AL D.L.length cL, hL, vO, hO', .slice AA D.al.length cA, hA, .slice AC D.cs.length cC, hC⟩ ++ (hx ++ (hy ++ (hl ++ hm'))))) ?_
  refine .seq ((.region (.v (.move rfl) ?_)))
  refine .ef (.call0 rfl rfl fun w s => dmembers_ok w b wn vO (.slice AA D.al.length cA) (.slice AC D.cs.length cC) AL cL D (Rd.blk (T := 110) (hb := ⟨by simp⟩) s) (OwnS.rd oL s (no := []) (fun y hy => by simp [hy]) (by simp)) bL) ?_
  rintro vw _ ⟨hw', ow, rfl⟩
  refine .v (.assign rfl) (.nil ?_)
  obtain ⟨Ax, cx, rfl⟩ := OwnS.slice ox
  obtain ⟨Ay, cy, rfl⟩ := OwnS.slice oy
  obtain ⟨Al_, cl, rfl⟩ := OwnS.slice ol
  obtain ⟨Am, cm, rfl⟩ := OwnS.slice om
  obtain ⟨Aw, cw, rfl⟩ := OwnS.slice ow
  generalize hM : D.members = M at ol om ow hmlen ⊢
  have HD : ∀ (hx hl : Hp), [Db b wn (.slice AL D.L.length cL) vO (.slice AA D.al.length cA) (.slice AC D.cs.length cC)] ⊆ z.H p wn W.n ++ (DZ.H b wn ⟨.slice AL D.L.length cL, hL, vO, hO', .slice AA D.al.length cA, hA, .slice AC D.cs.length cC, hC⟩ ++ (hx ++ (hy ++ (hl ++ (hm' ++ hw'))))) := by
    intro hx hl y hy; simp only [List.mem_singleton] at hy; subst hy; simp
  refine .keep (z.H p wn W.n ++ (DZ.H b wn ⟨.slice AL D.L.length cL, hL, vO, hO', .slice AA D.al.length cA, hA, .slice AC D.cs.length cC, hC⟩ ++ (hx ++ (hy ++ (hl ++ (hm' ++ hw')))))) ?_
  refine .seq (.seq ((.drawP [0, 1, 2, 3, 4, 5, 6, 7, 8, 9, 10, 11, 12, 13, 14, 15, 16, 17, 18, 19, 20, 21, 22, 23, 24, 25, 26, 27, 28, 29, 31, 32, 33, 34, 35, 36, 30, 37, 38] [Db b wn (.slice AL D.L.length cL) vO (.slice AA D.al.length cA) (.slice AC D.cs.length cC)] (HD hx hl) (by kernel_rfl) (by kernel_rfl) ?_)))
  refine .v (fun _ f => .move rfl) (.v (fun _ f => .move rfl) (.v (fun _ f => .nilCheck rfl) (.v (fun _ f => .fieldAddr rfl) (.v (fun _ f => .load (v := .slice AC D.cs.length cC) rfl (.one (hb := .sub f) rfl)) (.pc (v := .bool true) rfl rfl (fun w s => cases_ok w Ax AC D.cs.length cx cC D.cs (OwnS.rd ox s (no := []) (fun y hy => by simp [hy]) (by simp)) (OwnS.rd oC s (no := []) (fun y hy => by simp [hy]) (by simp)) rfl (by omega)) (.v (fun _ f => .not rfl) (.v (fun _ f => .move rfl) ?_)))))))
  refine .v (fun _ f => .move rfl) (.v (fun _ f => .move rfl) (.v (fun _ f => .nilCheck rfl) (.v (fun _ f => .fieldAddr rfl) (.v (fun _ f => .load (v := .slice AC D.cs.length cC) rfl (.one (hb := .sub f) rfl)) (.pc (v := .bool true) rfl rfl (fun w s => cases_ok w Ay AC D.cs.length cy cC D.cs (OwnS.rd oy s (no := []) (fun y hy => by simp [hy]) (by simp)) (OwnS.rd oC s (no := []) (fun y hy => by simp [hy]) (by simp)) rfl (by omega)) (.v (fun _ f => .not rfl) (.v (fun _ f => .pickF rfl rfl rfl) (.v (fun _ f => .move rfl) ?_))))))))
  refine .v (fun _ f => .move rfl) (.v (fun _ f => .move rfl) (.pc (v := .bool true) rfl rfl (fun w s => membs_ok w Al_ Aw M.length cl cw M (OwnS.rd ol s (no := []) (fun y hy => by simp [hy]) (by simp)) (OwnS.rd ow s (no := []) (fun y hy => by simp [hy]) (by simp)) rfl (by omega)) (.v (fun _ f => .not rfl) (.v (fun _ f => .pickF rfl rfl rfl) (.v (fun _ f => .move rfl) ?_)))))
  refine .v (fun _ f => .move rfl) (.v (fun _ f => .move rfl) (.pc (v := .bool true) rfl rfl (fun w s => membs_ok w Am Aw M.length cm cw M (OwnS.rd om s (no := []) (fun y hy => by simp [hy]) (by simp)) (OwnS.rd ow s (no := []) (fun y hy => by simp [hy]) (by simp)) rfl (by omega)) (.v (fun _ f => .not rfl) (.v (fun _ f => .pickF rfl rfl rfl) (.v (fun _ f => .move rfl) ?_)))))
  refine .v (fun _ f => .move rfl) (.v (fun _ f => .move rfl) (.v (fun _ f => .nilCheck rfl) (.v (fun _ f => .fieldAddr rfl) (.v (fun _ f => .load (v := .slice AL D.L.length cL) rfl (.one (hb := .sub f) rfl)) (.v (fun _ f => .len rfl) (.v (fun _ f => .convE (D.L.length : Int) rfl (wrap_u64_in (by omega))) (.pc (v := .int .u64 W.n) rfl rfl (fun w s => Count_ok s p wn W.n (fun y hy => List.mem_append_left _ hy)) (.v (fun _ f => .no (.nei rfl rfl) (by omega)) (.v (fun _ f => .pickF rfl rfl rfl) (.nil ?_))))))))))
  refine .cond_false rfl (.skip ?_)
  refine .mid (X := Hp) (fun _ => [(0, .pointer (some ⟨p.b, 0, none⟩)), (1, .pointer (some ⟨b, 0, none⟩)), (5, .slice Ax D.cs.length cx), (6, .slice Ay D.cs.length cy), (8, .slice Am M.length cm), (9, .slice Aw M.length cw)]) (fun h => z.H p wn W.n ++ (DZ.H b wn ⟨.slice AL D.L.length cL, hL, vO, hO', .slice AA D.al.length cA, hA, .slice AC D.cs.length cC, hC⟩ ++ (hx ++ (hy ++ (h ++ (hm' ++ hw')))))) (fun _ => True) (.seq ((.region (.v (.assign rfl) (.nil ?_))))) ?_
  · refine .block (.loop (X := SeL) (fun x => [(0, .pointer (some ⟨p.b, 0, none⟩)), (1, .pointer (some ⟨b, 0, none⟩)), (5, .slice Ax D.cs.length cx), (6, .slice Ay D.cs.length cy), (8, .slice Am M.length cm), (9, .slice Aw M.length cw), (7, .slice Al_ M.length cl), (10, .int .i64 x.i)]) (fun x => z.H p wn W.n ++ (DZ.H b wn ⟨.slice AL D.L.length cL, hL, vO, hO', .slice AA D.al.length cA, hA, .slice AC D.cs.length cC, hC⟩ ++ (hx ++ (hy ++ (x.h ++ (hm' ++ hw')))))) (fun x => x.i ≤ M.length ∧ x.z.length = M.length ∧ OwnS 25 1 (.slice Al_ M.length cl) M.length (ints .u32 x.z) x.h) (fun x => M.length - x.i) ⟨0, M, .slice none 0 0, hl⟩ ⟨Nat.zero_le _, rfl, ol⟩ (.cons rfl (.cons rfl (.cons rfl (.cons rfl (.cons rfl (.cons rfl (.cons rfl (.cons rfl (.nil _))))))))) (fun _ s => s) ?_)
    clear ol
    rintro ⟨i, zl, _, h⟩ ⟨hi, hz, ol⟩
    dsimp only at hi hz ol ⊢
    refine .seq (.seq ((.region (.v (.move rfl) (.v (.move rfl) (.v (.len rfl) (.v (.lss rfl rfl) (.nil ?_))))))))
    refine .cond_dec rfl (fun h2 => .skip ?_) (fun h2 => .exit ?_)
    case refine_2 => exact ⟨h, trivial, .cons rfl (.cons rfl (.cons rfl (.cons rfl (.cons rfl (.cons rfl (.nil _)))))), fun _ s => s⟩
    have hil : i < M.length := by omega
    obtain ⟨bw, ow', lw, rfl, -, rfl, -, -, -⟩ := OwnS.some_ ow (by omega)
    obtain ⟨bl, ol', ll, rfl, -, rfl, hlc, hll, -⟩ := OwnS.some_ ol (by omega)
    refine .seq (.block (.seq (.seq ((.drawP [0, 1, 2, 3, 4, 6, 7, 8, 9, 10, 5, 11, 12] [(bw, Ch.cells lw 25)] (by intro y hy; simp only [List.mem_singleton] at hy; subst hy; simp) (by kernel_rfl) (by kernel_rfl) ?_)))))
    refine .v (fun _ f => .move rfl) (.v (fun _ f => .move rfl) (.v (fun _ f => .move rfl) (.v (fun _ f => .indexN i rfl rfl hil) (.v (fun hs' f => .load (v := .int .u32 M[i]) rfl (ow.at1 f (ints_at hil))) (.v (fun _ f => .move rfl) (.v (fun _ f => .move rfl) (.v (fun _ f => .move rfl) (.v (fun _ f => .indexN i rfl rfl hil) (.v (fun hs' f => .load (v := .int .u32 M[i]) rfl (ow.at1 f (ints_at hil))) ?_)))))))))
    refine .ef (.lend (v := .agg ⟨(D.prof M[i]).cells⟩) (pre := z.H p wn W.n) rfl rfl (List.Perm.refl _) (fun w s => by have := wprofile_ok w p wn W.n hI M[i]; rw [hP] at this; exact this)) (fun _ _ ⟨_, e⟩ f => by subst e; exact f) ?_
    rintro _ _ ⟨rfl, rfl⟩
    refine .pc (v := .agg ⟨(D.prof M[i]).cells⟩) rfl rfl (fun w s => dprofile_ok w b wn vO (.slice AC D.cs.length cC) AL AA cL cA D M[i] (Rd.blk (T := 110) (hb := ⟨by simp⟩) s) (OwnS.rd oL s (no := []) (fun y hy => by simp [hy]) (by simp)) (OwnS.rd oA s (no := []) (fun y hy => by simp [hy]) (by simp)) bL bA) (.v (fun _ f => .neA rfl rfl (Pf.oks _) (Pf.oks _)) (.nil ?_))
    refine .cond rfl (fun h => absurd h (by rw [eqPf]; simp)) (fun _ => .skip ?_)
    refine .keep ((bl, Ch.cells ll 25) :: (z.H p wn W.n ++ (DZ.H b wn ⟨.slice AL D.L.length cL, hL, vO, hO', .slice AA D.al.length cA, hA, .slice AC D.cs.length cC, hC⟩ ++ (hx ++ (hy ++ (hm' ++ [(bw, Ch.cells lw 25)])))))) ?_
    refine .region (.v (.move rfl) (.v (.move rfl) (.v (.indexN i rfl rfl hil) (.st (.store (b := bl) (l := ll) rfl rfl rfl (by omega)) (.nil ?_)))))
    have o2 := OwnS.setAt (v := .int .u32 9) ol (i := i) (by omega)
    rw [show (ints .u32 zl).set i (.int .u32 9) = ints .u32 (zl.set i 9) by simp [ints, List.map_set]] at o2
    generalize ll.set (ol' + i) (.int .u32 9) = ll' at o2 ⊢
    refine .region (.v (.move rfl) (.v (.addE ((i + 1 : Nat) : Int) rfl rfl (by omega) (by omega)) (.v (.assign rfl) (.nil ?_))))
    exact ⟨⟨i + 1, zl.set i 9, .slice none 0 0, [(bl, Ch.cells ll' 25)]⟩, ⟨hil, by rw [List.length_set]; exact hz, o2⟩, by show M.length - (i + 1) < M.length - i; omega, .cons rfl (.cons rfl (.cons rfl (.cons rfl (.cons rfl (.cons rfl (.cons rfl (.cons rfl (.nil _)))))))), fun _ s => s.take⟩
  clear ol
  rintro hl -
  try dsimp only
  refine .mid (X := Hp) (fun _ => [(0, .pointer (some ⟨p.b, 0, none⟩)), (1, .pointer (some ⟨b, 0, none⟩)), (6, .slice Ay D.cs.length cy), (8, .slice Am M.length cm), (9, .slice Aw M.length cw)]) (fun h => z.H p wn W.n ++ (DZ.H b wn ⟨.slice AL D.L.length cL, hL, vO, hO', .slice AA D.al.length cA, hA, .slice AC D.cs.length cC, hC⟩ ++ (h ++ (hy ++ (hl ++ (hm' ++ hw')))))) (fun _ => True) (.seq ((.region (.v (.assign rfl) (.nil ?_))))) ?_
  · refine .block (.loop (X := SeC) (fun x => [(0, .pointer (some ⟨p.b, 0, none⟩)), (1, .pointer (some ⟨b, 0, none⟩)), (5, .slice Ax D.cs.length cx), (6, .slice Ay D.cs.length cy), (8, .slice Am M.length cm), (9, .slice Aw M.length cw), (11, .int .i64 x.i)]) (fun x => z.H p wn W.n ++ (DZ.H b wn ⟨.slice AL D.L.length cL, hL, vO, hO', .slice AA D.al.length cA, hA, .slice AC D.cs.length cC, hC⟩ ++ (x.h ++ (hy ++ (hl ++ (hm' ++ hw')))))) (fun x => x.i ≤ D.cs.length ∧ x.l.length = D.cs.length ∧ OwnS 48 6 (.slice Ax D.cs.length cx) x.l.length (csrows x.l) x.h) (fun x => D.cs.length - x.i) ⟨0, D.cs, hx⟩ ⟨Nat.zero_le _, rfl, ox⟩ (.cons rfl (.cons rfl (.cons rfl (.cons rfl (.cons rfl (.cons rfl (.cons rfl (.nil _)))))))) (fun _ s => s) ?_)
    clear ox
    rintro ⟨i, cs', h⟩ ⟨hi, hz, ox⟩
    dsimp only at hi hz ox ⊢
    refine .seq (.seq ((.region (.v (.move rfl) (.v (.move rfl) (.v (.len rfl) (.v (.lss rfl rfl) (.nil ?_))))))))
    refine .cond_dec rfl (fun h2 => .skip ?_) (fun h2 => .exit ?_)
    case refine_2 => exact ⟨h, trivial, .cons rfl (.cons rfl (.cons rfl (.cons rfl (.cons rfl (.nil _))))), fun _ s => s⟩
    have hil : i < cs'.length := by omega
    obtain ⟨bx, ox', lx, rfl, -, rfl, hlc, hlx, -⟩ := OwnS.some_ ox (by omega)
    have o2 := OwnS.setR Cs.cells (fun _ => rfl) ox hil (⟨9, 0, 0, 0, 0, false⟩ : Cs)
    refine .keep ((bx, Ch.cells lx 48) :: (z.H p wn W.n ++ (DZ.H b wn ⟨.slice AL D.L.length cL, hL, vO, hO', .slice AA D.al.length cA, hA, .slice AC D.cs.length cC, hC⟩ ++ (hy ++ (hl ++ (hm' ++ hw')))))) ?_
    refine .seq (.block ((.region (.v (.move rfl) (.v (.move rfl) (.v (.build (out := (⟨9, 0, 0, 0, 0, false⟩ : Cs).cells) rfl rfl) (.v (.indexAddr rfl rfl (by omega) (by omega)) (.st (.storeA (b := bx) (l := lx) rfl rfl rfl rfl (by rw [Int.toNat_natCast]; show ox' + i * 6 + 6 ≤ lx.length; omega)) (.nil ?_)))))))))
    rw [Int.toNat_natCast]
    generalize V.splice lx (ox' + i * 6) (⟨9, 0, 0, 0, 0, false⟩ : Cs).cells = lx' at o2 ⊢
    refine .region (.v (.move rfl) (.v (.addE ((i + 1 : Nat) : Int) rfl rfl (by omega) (by omega)) (.v (.assign rfl) (.nil ?_))))
    exact ⟨⟨i + 1, cs'.set i ⟨9, 0, 0, 0, 0, false⟩, [(bx, Ch.cells lx' 48)]⟩, ⟨by show i + 1 ≤ _; omega, by rw [List.length_set]; exact hz, o2⟩, by show D.cs.length - (i + 1) < D.cs.length - i; omega, .cons rfl (.cons rfl (.cons rfl (.cons rfl (.cons rfl (.cons rfl (.cons rfl (.nil _))))))), fun _ s => s.take⟩
  clear ox
  rintro hx -
  try dsimp only
  refine .seq ((.drawP [0, 1, 2, 3, 4, 5, 6, 7, 8, 9, 10, 11, 12, 14, 15, 16, 17, 13, 18, 19, 20, 21, 23, 22, 24, 25, 26] [Db b wn (.slice AL D.L.length cL) vO (.slice AA D.al.length cA) (.slice AC D.cs.length cC)] (HD hx hl) (by kernel_rfl) (by kernel_rfl) ?_))
  refine .v (fun _ f => .move rfl) (.v (fun _ f => .move rfl) (.v (fun _ f => .nilCheck rfl) (.v (fun _ f => .fieldAddr rfl) (.v (fun _ f => .load (v := .slice AC D.cs.length cC) rfl (.one (hb := .sub f) rfl)) (.pc (v := .bool true) rfl rfl (fun w s => cases_ok w Ay AC D.cs.length cy cC D.cs (OwnS.rd oy s (no := []) (fun y hy => by simp [hy]) (by simp)) (OwnS.rd oC s (no := []) (fun y hy => by simp [hy]) (by simp)) rfl (by omega)) (.v (fun _ f => .move rfl) ?_))))))
  refine .v (fun _ f => .move rfl) (.v (fun _ f => .move rfl) (.pc (v := .bool true) rfl rfl (fun w s => membs_ok w Am Aw M.length cm cw M (OwnS.rd om s (no := []) (fun y hy => by simp [hy]) (by simp)) (OwnS.rd ow s (no := []) (fun y hy => by simp [hy]) (by simp)) rfl (by omega)) (.v (fun _ f => .pickT rfl rfl rfl) (.v (fun _ f => .move rfl) ?_))))
  refine .v (fun _ f => .move rfl) (.v (fun _ f => .move rfl) (.v (fun _ f => .nilCheck rfl) (.v (fun _ f => .fieldAddr rfl) (.v (fun _ f => .load (v := .slice AC D.cs.length cC) rfl (.one (hb := .sub f) rfl)) ?_))))
  refine .ef (.call0 rfl rfl fun w s => Cases_ok s p wn W.n hI (fun y hy => List.mem_append_left _ hy) (by rw [hc]; omega)) (fun _ _ ⟨_, _, e⟩ f => by subst e; exact fun y hy => List.mem_append_right _ (f hy)) ?_
  rintro v9 _ ⟨h9, o9, rfl⟩
  rw [hc] at o9
  obtain ⟨A9, c9, rfl⟩ := OwnS.slice o9
  refine .pc (v := .bool true) rfl rfl (fun w s => cases_ok w A9 AC D.cs.length c9 cC D.cs (OwnS.rd o9 s (no := []) (fun y hy => by simp [hy]) (by simp)) (OwnS.rd oC s (no := []) (fun y hy => by simp [hy]) (by simp)) rfl (by omega)) (.v (fun _ f => .pickT rfl rfl rfl) (.v (fun _ f => .move rfl) (.v (fun _ f => .move rfl) (.v (fun _ f => .build (out := pf0.cells) rfl rfl) ?_))))
  refine .ef (.lend (v := .agg ⟨pf0.cells⟩) (pre := z.H p wn W.n) rfl rfl TakeI.out (fun w s => by have := wprofile_ok w p wn W.n hI 0; rw [hP] at this; exact this)) (fun _ _ ⟨_, e⟩ f => by subst e; exact f) ?_
  rintro _ _ ⟨rfl, rfl⟩
  refine .v (fun _ f => .eqA rfl rfl (Pf.oks _) (Pf.oks _)) (.v (fun _ f => .pickT rfl rfl rfl) (.v (fun _ f => .assign rfl) (.nil ?_)))
  exact .ret ⟨[_], ⟨rfl, trivial⟩, z.H p wn W.n ++ DZ.H b wn ⟨.slice AL D.L.length cL, hL, vO, hO', .slice AA D.al.length cA, hA, .slice AC D.cs.length cC, hC⟩, fun _ s => s.take, by rw [eqPf]; rfl, rfl⟩
end Go.Proofs.Ytcbppikkoelimaa

/- SurveilAlone, plain: what is found of a member hangs on its own orders alone. -/
namespace Go.Proofs.Ytcbppikkoelimaa
open Go.V
set_option linter.unusedVariables false
set_option linter.unusedSimpArgs false

structure Wt.Srt (W : Wt) : Prop where
  s : W.last.Pairwise fun a b => a.at_ ≤ b.at_
  n : ∀ x ∈ W.last, x.at_ ≤ W.n
theorem drop_sorted {s n : Int} : ∀ {l : List Sn}, (l.Pairwise fun a b => a.at_ ≤ b.at_) → l.dropWhile (fun x => decide (s ≤ n - x.at_)) = l.filter fun x => !decide (s ≤ n - x.at_)
  | [], _ => rfl
  | a :: l, h => by
    have h' := List.pairwise_cons.1 h
    rw [List.dropWhile_cons, List.filter_cons]
    by_cases ha : s ≤ n - a.at_
    · simp only [ha, decide_true, if_true, Bool.not_true, Bool.false_eq_true, if_false]
      exact drop_sorted h'.2
    · simp only [ha, decide_false, Bool.false_eq_true, if_false, Bool.not_false, if_true]
      congr 1
      symm
      rw [List.filter_eq_self]
      intro x hx
      have := h'.1 x hx
      simp; omega
theorem Wt.Srt.tick {W : Wt} (h : W.Srt) (w : Wn) : (W.tick w).Srt :=
  ⟨h.s.sublist (List.dropWhile_sublist _), fun x hx => by have := h.n x ((List.dropWhile_sublist _).subset hx); show x.at_ ≤ W.n + 1; omega⟩
theorem Wt.Srt.push {W : Wt} (h : W.Srt) {W' : Wt} {x : Sn} (hn : W'.n = W.n) (hl : W'.last = W.last ++ [x]) (hx : x.at_ = W.n) : W'.Srt := by
  refine ⟨?_, fun y hy => ?_⟩
  · rw [hl, List.pairwise_append]
    refine ⟨h.s, by simp, fun a ha b hb => ?_⟩
    have : b = x := by simpa using hb
    subst this
    rw [hx]; exact h.n a ha
  · rw [hn]
    rw [hl] at hy
    rcases List.mem_append.1 hy with hy | hy
    · exact h.n y hy
    · have : y = x := by simpa using hy
      subst this; omega
theorem Wt.Srt.same {W W' : Wt} (h : W.Srt) (hn : W'.n = W.n) (hl : W'.last = W.last) : W'.Srt := ⟨by rw [hl]; exact h.s, by rw [hl, hn]; exact h.n⟩
/-- does an event that is remembered concern a member? -/
def conc (m : Int) (x : Sn) : Bool := (x.tr && (decide (x.by_ = m) || decide (x.se = m))) || (x.fr && decide (x.cm = m))
def ownA (m : Int) (l : List Al) : List Al := l.filter fun a => decide (a.m = m) && decide (a.r ≠ 4)
theorem ownA_app (m : Int) (a b : List Al) : ownA m (a ++ b) = ownA m a ++ ownA m b := by simp [ownA]
/-- two watches that are one to a member -/
structure Rl (m : Int) (p q : Wt) : Prop where
  n : p.n = q.n
  K : ∀ id, (p.K id = none ∧ q.K id = none) ∨ ∃ k k', p.K id = some k ∧ q.K id = some k' ∧ k.m = k'.m ∧ k.s = k'.s ∧ (k.m = m → k.t = k'.t)
  o : (p.P m).o = (q.P m).o
  t : (p.P m).t = (q.P m).t
  last : p.last.filter (conc m) = q.last.filter (conc m)
  sp : p.Srt
  sq : q.Srt
/-- alike in what counts for a member -/
structure Alk (m : Int) (p p' : Wt) : Prop where
  n : p'.n = p.n
  K : p'.K = p.K
  o : (p'.P m).o = (p.P m).o
  t : (p'.P m).t = (p.P m).t
  last : p'.last = p.last
theorem Rl.left {m : Int} {p q p' : Wt} (h : Rl m p q) (a : Alk m p p') : Rl m p' q :=
  ⟨a.n.trans h.n, by rw [a.K]; exact h.K, a.o.trans h.o, a.t.trans h.t, by rw [a.last]; exact h.last, h.sp.same a.n a.last, h.sq⟩
theorem Rl.right {m : Int} {p q q' : Wt} (h : Rl m p q) (a : Alk m q q') : Rl m p q' :=
  ⟨h.n.trans a.n.symm, by rw [a.K]; exact h.K, h.o.trans a.o.symm, h.t.trans a.t.symm, by rw [a.last]; exact h.last, h.sp, h.sq.same a.n a.last⟩
theorem alk_al (w : Wn) (z : Wt × List Al) (r m' o n m : Int) : Alk m z.1 (Wt.al w z r m' o n).1 := by
  have h1 := Wt.al_eq w z r m' o n
  have h2 := Wt.al_P w z r m' o n m
  exact ⟨h1.1, h1.2.1, h2.1, h2.2, h1.2.2.2⟩
theorem own_al_other (w : Wn) (z : Wt × List Al) {r m' o n m : Int} (h : m' ≠ m ∨ r = 4) : ownA m (Wt.al w z r m' o n).2 = ownA m z.2 := by
  unfold Wt.al
  split
  · rfl
  · rw [ownA_app]
    have : ownA m [⟨r, m', z.1.n, o, n⟩] = [] := by
      unfold ownA
      rw [List.filter_eq_nil_iff]
      intro a ha
      have : a = ⟨r, m', z.1.n, o, n⟩ := by simpa using ha
      subst this
      rcases h with h | h <;> simp [h]
    rw [this, List.append_nil]
theorem own_al_same {m : Int} (w : Wn) {z z' : Wt × List Al} (h : ownA m z.2 = ownA m z'.2) (hn : z.1.n = z'.1.n) (r m' o n : Int) : ownA m (Wt.al w z r m' o n).2 = ownA m (Wt.al w z' r m' o n).2 := by
  unfold Wt.al
  split
  · exact h
  · rw [ownA_app, ownA_app, h, hn]
theorem Rl.who {m : Int} {p q : Wt} (h : Rl m p q) (id : Int) : p.who id = q.who id := by
  unfold Wt.who
  rcases h.K id with ⟨h1, h2⟩ | ⟨k, k', h1, h2, h3, -⟩
  · rw [h1, h2]
  · rw [h1, h2]; exact h3
theorem Rl.tick {m : Int} {p q : Wt} (h : Rl m p q) (w : Wn) : Rl m (p.tick w) (q.tick w) := by
  refine ⟨by show p.n + 1 = q.n + 1; rw [h.n], h.K, h.o, h.t, ?_, h.sp.tick w, h.sq.tick w⟩
  show (p.last.dropWhile _).filter _ = (q.last.dropWhile _).filter _
  rw [drop_sorted h.sp.s, drop_sorted h.sq.s, List.filter_filter, List.filter_filter]
  have e : ∀ l : List Sn, l.filter (fun a => conc m a && !decide (w.span ≤ p.n + 1 - a.at_)) = (l.filter (conc m)).filter fun a => !decide (w.span ≤ p.n + 1 - a.at_) := fun l => by
    rw [List.filter_filter]; exact List.filter_congr fun x _ => by rw [Bool.and_comm]
  rw [← h.n, e, e, h.last]
/-- a pair: watch and what was told -/
structure Rz (m : Int) (z z' : Wt × List Al) : Prop where
  r : Rl m z.1 z'.1
  o : ownA m z.2 = ownA m z'.2
theorem Rz.al_both {m : Int} {z z' : Wt × List Al} (h : Rz m z z') (w : Wn) (r m' o n : Int) : Rz m (Wt.al w z r m' o n) (Wt.al w z' r m' o n) :=
  ⟨(h.r.left (alk_al w z r m' o n m)).right (alk_al w z' r m' o n m), own_al_same w h.o h.r.n r m' o n⟩
theorem Rz.al_l {m : Int} {z z' : Wt × List Al} (h : Rz m z z') (w : Wn) {r m' o n : Int} (hm : m' ≠ m ∨ r = 4) : Rz m (Wt.al w z r m' o n) z' :=
  ⟨h.r.left (alk_al w z r m' o n m), by rw [own_al_other w z hm]; exact h.o⟩
theorem Rz.al_r {m : Int} {z z' : Wt × List Al} (h : Rz m z z') (w : Wn) {r m' o n : Int} (hm : m' ≠ m ∨ r = 4) : Rz m z (Wt.al w z' r m' o n) :=
  ⟨h.r.right (alk_al w z' r m' o n m), by rw [own_al_other w z' hm]; exact h.o⟩
theorem Rz.jump_l {m : Int} {z z' : Wt × List Al} (h : Rz m z z') (w : Wn) (pr m' id : Int) : Rz m (jump w z pr m' id) z' := by
  unfold jump
  split
  · exact h
  · split
    · exact h.al_l w (.inr rfl)
    · exact h
theorem Rz.jump_r {m : Int} {z z' : Wt × List Al} (h : Rz m z z') (w : Wn) (pr m' id : Int) : Rz m z (jump w z' pr m' id) := by
  unfold jump
  split
  · exact h
  · split
    · exact h.al_r w (.inr rfl)
    · exact h

theorem alk_chg (W : Wt) (m' m : Int) (f : Pf → Pf) (h : ∀ p, (f p).o = p.o ∧ (f p).t = p.t) : Alk m W (W.chg m' f) := by
  have h1 := W.chg_eq m' f
  refine ⟨h1.1, h1.2.1, ?_, ?_, h1.2.2.2.1⟩
  · rw [Wt.chg_P]; split
    · rename_i e; rw [(h _).1, e.1]
    · rfl
  · rw [Wt.chg_P]; split
    · rename_i e; rw [(h _).2, e.1]
    · rfl
theorem Alk.trans {m : Int} {a b c : Wt} (h : Alk m a b) (k : Alk m b c) : Alk m a c := ⟨k.n.trans h.n, k.K.trans h.K, k.o.trans h.o, k.t.trans h.t, k.last.trans h.last⟩
/-- what a trade does to profiles and orders -/
theorem trade0_P {m : Int} (hm : m ≠ 0) (W : Wt) (e : Ev) : ((W.trade0 e).P m).o = (W.P m).o ∧ ((W.trade0 e).P m).t = (W.P m).t + (if W.who e.id = m then 1 else 0) + (if W.who e.other = m then 1 else 0) := by
  unfold Wt.trade0
  have a1 := alk_chg ((((W.part e.id).part e.other).chg (W.who e.id) fun p => { p with t := p.t + 1 }).chg (W.who e.other) fun p => { p with t := p.t + 1 }) (W.buyer e) m (fun p => { p with b := (p.b + e.q) % 18446744073709551616 }) (fun _ => ⟨rfl, rfl⟩)
  have a2 := alk_chg (((((W.part e.id).part e.other).chg (W.who e.id) fun p => { p with t := p.t + 1 }).chg (W.who e.other) fun p => { p with t := p.t + 1 }).chg (W.buyer e) fun p => { p with b := (p.b + e.q) % 18446744073709551616 }) (W.seller e) m (fun p => { p with s := (p.s + e.q) % 18446744073709551616 }) (fun _ => ⟨rfl, rfl⟩)
  have a := a1.trans a2
  rw [a.o, a.t]
  have hP : ∀ x, ((W.part e.id).part e.other).P x = W.P x := fun _ => rfl
  simp only [Wt.chg_P, hP]
  by_cases h1 : W.who e.id = m <;> by_cases h2 : W.who e.other = m
  · subst h1; simp [hm, h2]
  · subst h1; simp [hm, h2, Ne.symm h2]
  · subst h2; simp [hm, h1, Ne.symm h1]
  · simp [h1, h2, Ne.symm h1, Ne.symm h2]
theorem trade0_eq (W : Wt) (e : Ev) : (W.trade0 e).n = W.n ∧ (W.trade0 e).K = ((W.part e.id).part e.other).K ∧ (W.trade0 e).A = W.A ∧ (W.trade0 e).last = W.last ∧ (W.trade0 e).cs = W.cs := by
  unfold Wt.trade0
  refine ⟨?_, ?_, ?_, ?_, ?_⟩
  · rw [(Wt.chg_eq _ _ _).1, (Wt.chg_eq _ _ _).1, (Wt.chg_eq _ _ _).1, (Wt.chg_eq _ _ _).1]; rfl
  · rw [(Wt.chg_eq _ _ _).2.1, (Wt.chg_eq _ _ _).2.1, (Wt.chg_eq _ _ _).2.1, (Wt.chg_eq _ _ _).2.1]
  · rw [(Wt.chg_eq _ _ _).2.2.1, (Wt.chg_eq _ _ _).2.2.1, (Wt.chg_eq _ _ _).2.2.1, (Wt.chg_eq _ _ _).2.2.1]; rfl
  · rw [(Wt.chg_eq _ _ _).2.2.2.1, (Wt.chg_eq _ _ _).2.2.2.1, (Wt.chg_eq _ _ _).2.2.2.1, (Wt.chg_eq _ _ _).2.2.2.1]; rfl
  · rw [(Wt.chg_eq _ _ _).2.2.2.2, (Wt.chg_eq _ _ _).2.2.2.2, (Wt.chg_eq _ _ _).2.2.2.2, (Wt.chg_eq _ _ _).2.2.2.2]; rfl
theorem part_K (W : Wt) (a id : Int) : (W.part a).K id = if id = a then (W.K a).map (fun k => { k with t := true }) else W.K id := rfl
abbrev RK (m : Int) (a b : Option Kn) : Prop := (a = none ∧ b = none) ∨ ∃ k k', a = some k ∧ b = some k' ∧ k.m = k'.m ∧ k.s = k'.s ∧ (k.m = m → k.t = k'.t)
theorem RK.both {m : Int} {a b : Option Kn} (h : RK m a b) : RK m (a.map fun k => { k with t := true }) (b.map fun k => { k with t := true }) := by
  rcases h with ⟨rfl, rfl⟩ | ⟨k, k', rfl, rfl, h1, h2, -⟩
  · exact .inl ⟨rfl, rfl⟩
  · exact .inr ⟨_, _, rfl, rfl, h1, h2, fun _ => rfl⟩
theorem RK.lone {m : Int} {a b : Option Kn} (h : RK m a b) (hm : ∀ k, a = some k → k.m ≠ m) : RK m (a.map fun k => { k with t := true }) b := by
  rcases h with ⟨rfl, rfl⟩ | ⟨k, k', rfl, rfl, h1, h2, -⟩
  · exact .inl ⟨rfl, rfl⟩
  · exact .inr ⟨_, _, rfl, rfl, h1, h2, fun e => absurd e (hm k rfl)⟩
theorem who_ne {W : Wt} {m id : Int} (h : W.who id ≠ m) : ∀ k, W.K id = some k → k.m ≠ m := by
  intro k hk
  unfold Wt.who at h
  rw [hk] at h; exact h
theorem Rl.trade {m : Int} (hm : m ≠ 0) {p q : Wt} (h : Rl m p q) (e : Ev) : Rl m (p.trade1 e) (q.trade1 e) := by
  have p0 := trade0_eq p e
  have q0 := trade0_eq q e
  have pP := trade0_P hm p e
  have qP := trade0_P hm q e
  have w1 := h.who e.id
  have w2 := h.who e.other
  have hb : p.buyer e = q.buyer e := by unfold Wt.buyer; rw [w1, w2]
  have hs : p.seller e = q.seller e := by unfold Wt.seller; rw [w1, w2]
  refine ⟨?_, fun id => ?_, ?_, ?_, ?_, h.sp.push p0.1 rfl rfl, h.sq.push q0.1 rfl rfl⟩
  · show (p.trade0 e).n = (q.trade0 e).n
    rw [p0.1, q0.1, h.n]
  · show RK m ((p.trade0 e).K id) ((q.trade0 e).K id)
    rw [p0.2.1, q0.2.1, part_K, part_K, part_K, part_K, part_K, part_K]
    have := h.K id
    have := h.K e.id
    have := h.K e.other
    split
    · split
      · exact RK.both (RK.both (h.K _))
      · exact RK.both (h.K _)
    · split
      · exact RK.both (h.K _)
      · exact h.K _
  · show ((p.trade0 e).P m).o = ((q.trade0 e).P m).o
    rw [pP.1, qP.1, h.o]
  · show ((p.trade0 e).P m).t = ((q.trade0 e).P m).t
    rw [pP.2, qP.2, h.t, w1, w2]
  · show (p.last ++ [_]).filter _ = (q.last ++ [_]).filter _
    rw [List.filter_append, List.filter_append, h.last, h.n, hb, hs]
theorem Rl.lone {m : Int} (hm : m ≠ 0) {p q : Wt} (h : Rl m p q) (e : Ev) (h1 : p.who e.id ≠ m) (h2 : p.who e.other ≠ m) : Rl m (p.trade1 e) q := by
  have p0 := trade0_eq p e
  have pP := trade0_P hm p e
  rw [if_neg h1, if_neg h2] at pP
  refine ⟨?_, fun id => ?_, ?_, ?_, ?_, h.sp.push p0.1 rfl rfl, h.sq⟩
  · show (p.trade0 e).n = _
    rw [p0.1, h.n]
  · show RK m ((p.trade0 e).K id) (q.K id)
    rw [p0.2.1, part_K, part_K, part_K]
    have k1 := who_ne h1
    have k2 := who_ne h2
    split
    · rename_i e1
      rw [e1]
      split
      · rename_i e2
        refine RK.lone (RK.lone (by rw [e2]; exact h.K _) k1) fun k hk => ?_
        cases hK : p.K e.id with
        | none => rw [hK] at hk; cases hk
        | some k0 =>
          rw [hK] at hk
          have := Option.some.inj hk
          subst this
          exact k1 k0 hK
      · exact RK.lone (h.K _) k2
    · split
      · rename_i e2; rw [e2]; exact RK.lone (h.K _) k1
      · exact h.K _
  · show ((p.trade0 e).P m).o = _
    rw [pP.1, h.o]
  · show ((p.trade0 e).P m).t = _
    rw [pP.2, h.t]; omega
  · show (p.last ++ [_]).filter _ = _
    rw [List.filter_append, h.last]
    have : ([⟨p.n, true, tickOf e.pr, p.buyer e, p.seller e, 0, 0, false⟩] : List Sn).filter (conc m) = [] := by
      rw [List.filter_eq_nil_iff]
      intro x hx
      have : x = ⟨p.n, true, tickOf e.pr, p.buyer e, p.seller e, 0, 0, false⟩ := by simpa using hx
      subst this
      unfold conc Wt.buyer Wt.seller
      by_cases hs : e.sd = 1 <;> simp [hs, h1, h2]
    rw [this, List.append_nil]
theorem layN_conc (m s : Int) (l : List Sn) : layN m s l = layN m s (l.filter (conc m)) := by
  unfold layN
  rw [List.filter_filter]
  congr 1
  refine List.filter_congr fun x _ => ?_
  unfold conc
  cases x.fr <;> cases x.tr <;> by_cases h : x.cm = m <;> simp [h]
theorem metB_conc (m s : Int) (l : List Sn) : metB m s l = metB m s (l.filter (conc m)) := by
  unfold metB
  rw [List.any_filter]
  congr 1
  funext x
  unfold conc
  by_cases hs : s = 1 <;> cases x.tr <;> simp [hs] <;> intro h <;> simp [h]
theorem Rz.ack {m : Int} (hm : m ≠ 0) {z z' : Wt × List Al} (h : Rz m z z') (w : Wn) (e : Ev) : Rz m (Wt.acks w z e) (Wt.acks w z' e) := by
  have hP : ∀ W : Wt, ((W.ack0 e).P m).t = (W.P m).t ∧ ((W.ack0 e).P m).o = (W.P m).o + if e.mb = m then 1 else 0 := fun W => by
    unfold Wt.ack0
    rw [Wt.chg_P]
    by_cases e1 : e.mb = m
    · subst e1; simp [hm]
    · simp [e1, Ne.symm e1]
  have hE : ∀ W : Wt, (W.ack0 e).n = W.n ∧ (W.ack0 e).K = (fun x => if x = e.id then some ⟨e.mb, e.sd, false⟩ else W.K x) ∧ (W.ack0 e).last = W.last := fun W => by
    unfold Wt.ack0
    have := Wt.chg_eq ({ W with K := fun x => if x = e.id then some ⟨e.mb, e.sd, false⟩ else W.K x, A := fun x => if x = e.mb then true else W.A x } : Wt) e.mb (fun p => { p with o := p.o + 1 })
    exact ⟨this.1, this.2.1, this.2.2.2.1⟩
  have h0 : Rz m (z.1.ack0 e, z.2) (z'.1.ack0 e, z'.2) := by
    refine ⟨⟨?_, fun id => ?_, ?_, ?_, ?_, h.r.sp.same (hE _).1 (hE _).2.2, h.r.sq.same (hE _).1 (hE _).2.2⟩, h.o⟩
    · show (z.1.ack0 e).n = (z'.1.ack0 e).n
      rw [(hE _).1, (hE _).1, h.r.n]
    · show RK m ((z.1.ack0 e).K id) ((z'.1.ack0 e).K id)
      rw [(hE _).2.1, (hE _).2.1]
      dsimp only
      split
      · exact .inr ⟨_, _, rfl, rfl, rfl, rfl, fun _ => rfl⟩
      · exact h.r.K id
    · show ((z.1.ack0 e).P m).o = ((z'.1.ack0 e).P m).o
      rw [(hP _).2, (hP _).2, h.r.o]
    · show ((z.1.ack0 e).P m).t = ((z'.1.ack0 e).P m).t
      rw [(hP _).1, (hP _).1, h.r.t]
    · show (z.1.ack0 e).last.filter _ = (z'.1.ack0 e).last.filter _
      rw [(hE _).2.2, (hE _).2.2, h.r.last]
  unfold Wt.acks
  by_cases e1 : e.mb = m
  · rw [e1]
    have o1 : ((z.1.ack0 e).P m).o = ((z'.1.ack0 e).P m).o := h0.r.o
    have t1 : ((z.1.ack0 e).P m).t = ((z'.1.ack0 e).P m).t := h0.r.t
    rw [← o1, ← t1]
    split
    · exact h0.al_both w _ _ _ _
    · exact h0
  · split
    · split
      · exact (h0.al_l w (.inl e1)).al_r w (.inl e1)
      · exact h0.al_l w (.inl e1)
    · split
      · exact h0.al_r w (.inl e1)
      · exact h0
theorem Rz.trade {m : Int} (hm : m ≠ 0) {z z' : Wt × List Al} (h : Rz m z z') (w : Wn) (e : Ev) : Rz m (Wt.trades w z e) (Wt.trades w z' e) := by
  unfold Wt.trades
  refine Rz.jump_l (Rz.jump_r ?_ w _ _ _) w _ _ _
  unfold Wt.wash
  have h0 : Rz m (z.1.trade1 e, z.2) (z'.1.trade1 e, z'.2) := ⟨h.r.trade hm e, h.o⟩
  rw [h.r.who e.id, h.r.who e.other]
  split
  · exact h0.al_both w _ _ _ _
  · exact h0
theorem Rz.lone {m : Int} (hm : m ≠ 0) {z z' : Wt × List Al} (h : Rz m z z') (w : Wn) (e : Ev) (h1 : z.1.who e.id ≠ m) (h2 : z.1.who e.other ≠ m) : Rz m (Wt.trades w z e) z' := by
  unfold Wt.trades
  refine Rz.jump_l ?_ w _ _ _
  unfold Wt.wash
  have h0 : Rz m (z.1.trade1 e, z.2) z' := ⟨h.r.lone hm e h1 h2, h.o⟩
  split
  · exact h0.al_l w (.inl h1)
  · exact h0
theorem Rl.fresh {m : Int} {p q : Wt} (h : Rl m p q) {k k' : Kn} (h1 : k.m = k'.m) (h2 : k.s = k'.s) : Rl m (p.fresh k) (q.fresh k') :=
  ⟨h.n, h.K, h.o, h.t, by show (p.last ++ [_]).filter _ = (q.last ++ [_]).filter _; rw [List.filter_append, List.filter_append, h.last, h.n, h1, h2], h.sp.push rfl rfl rfl, h.sq.push rfl rfl rfl⟩
theorem Rl.fresh_l {m : Int} {p q : Wt} (h : Rl m p q) {k : Kn} (h1 : k.m ≠ m) : Rl m (p.fresh k) q := by
  refine ⟨h.n, h.K, h.o, h.t, ?_, h.sp.push rfl rfl rfl, h.sq⟩
  show (p.last ++ [_]).filter _ = _
  rw [List.filter_append, h.last]
  simp [conc, h1]
theorem Rz.cancel {m : Int} {z z' : Wt × List Al} (h : Rz m z z') (w : Wn) (e : Ev) (h1 : z.1.who e.id = m) (hm : m ≠ 0) : Rz m (Wt.cancels w z e) (Wt.cancels w z' e) := by
  unfold Wt.cancels
  rcases h.r.K e.id with ⟨e1, e2⟩ | ⟨k, k', e1, e2, hm1, hs1, ht⟩
  · rw [e1, e2]; exact h
  · rw [e1, e2]
    dsimp only
    have hkm : k.m = m := by unfold Wt.who at h1; rw [e1] at h1; exact h1
    rw [← ht hkm]
    have hC : Rl m (z.1.chg k.m fun p => { p with c := p.c + 1 }) (z'.1.chg k'.m fun p => { p with c := p.c + 1 }) := (h.r.left (alk_chg _ _ m (fun p => { p with c := p.c + 1 }) (fun _ => ⟨rfl, rfl⟩))).right (alk_chg _ _ m (fun p => { p with c := p.c + 1 }) (fun _ => ⟨rfl, rfl⟩))
    split
    · exact ⟨hC, h.o⟩
    · have hF := hC.fresh hm1 hs1
      have e3 : ∀ W W' : Wt, Rl m W W' → layN k.m k.s W.last = layN k'.m k'.s W'.last := fun W W' hR => by
        rw [← hm1, ← hs1, hkm, layN_conc, hR.last, ← layN_conc]
      have e4 : ∀ W W' : Wt, Rl m W W' → metB k.m k.s W.last = metB k'.m k'.s W'.last := fun W W' hR => by
        rw [← hm1, ← hs1, hkm, metB_conc, hR.last, ← metB_conc]
      rw [e3 _ _ hF, e4 _ _ hF, ← hm1]
      have hF' : Rz m ((z.1.chg k.m fun p => { p with c := p.c + 1 }).fresh k, z.2) ((z'.1.chg k.m fun p => { p with c := p.c + 1 }).fresh k', z'.2) := ⟨by rw [hm1] at hF ⊢; exact hF, h.o⟩
      split
      · exact hF'.al_both w _ _ _ _
      · exact hF'
theorem Rz.cancel_l {m : Int} {z z' : Wt × List Al} (h : Rz m z z') (w : Wn) (e : Ev) (h1 : z.1.who e.id ≠ m) : Rz m (Wt.cancels w z e) z' := by
  unfold Wt.cancels
  have hk := who_ne h1
  split
  · exact h
  · rename_i k e1
    have hkm := hk k e1
    have hC : Rl m (z.1.chg k.m fun p => { p with c := p.c + 1 }) z'.1 := h.r.left (alk_chg _ _ m (fun p => { p with c := p.c + 1 }) (fun _ => ⟨rfl, rfl⟩))
    split
    · exact ⟨hC, h.o⟩
    · have hF : Rz m ((z.1.chg k.m fun p => { p with c := p.c + 1 }).fresh k, z.2) z' := ⟨hC.fresh_l hkm, h.o⟩
      split
      · exact hF.al_l w (.inl hkm)
      · exact hF
abbrev evNil : Ev := ⟨0, 5, 0, 0, 0, 0, 0, 0, 0, 0, 0, 0, 0⟩
def whoStep (f : Int → Int) (e : Ev) : Int → Int := if e.kind = 1 then (fun x => if x = e.id then e.mb else f x) else f
def othE (m : Int) (f : Int → Int) (e : Ev) : Ev := if (e.kind = 3 ∧ f e.id ≠ m ∧ f e.other ≠ m) ∨ (e.kind = 4 ∧ f e.id ≠ m) then evNil else e
def oth (m : Int) : (Int → Int) → List Ev → List Ev
  | _, [] => []
  | f, e :: l => othE m (whoStep f e) e :: oth m (whoStep f e) l
/-- whose orders are, behind an event -/
theorem who_al (w : Wn) (z : Wt × List Al) (r m o n id : Int) : (Wt.al w z r m o n).1.who id = z.1.who id := by unfold Wt.who; rw [(Wt.al_eq w z r m o n).2.1]
theorem who_part (W : Wt) (a id : Int) : (W.part a).who id = W.who id := by
  unfold Wt.who
  rw [part_K]
  by_cases e : id = a
  · rw [if_pos e, e]; cases W.K a <;> rfl
  · rw [if_neg e]
theorem who_chg (W : Wt) (m : Int) (f : Pf → Pf) (id : Int) : (W.chg m f).who id = W.who id := by unfold Wt.who; rw [(W.chg_eq m f).2.1]
theorem who_jump (w : Wn) (z : Wt × List Al) (p m i id : Int) : (jump w z p m i).1.who id = z.1.who id := by
  unfold jump
  split
  · rfl
  · split
    · exact who_al _ _ _ _ _ _ _
    · rfl
theorem who_trade1 (W : Wt) (e : Ev) (id : Int) : (W.trade1 e).who id = W.who id := by
  have : (W.trade1 e).who id = ((W.part e.id).part e.other).who id := by
    show (match (W.trade0 e).K id with | some k => k.m | none => 0) = _
    rw [(trade0_eq W e).2.1]; rfl
  rw [this, who_part, who_part]
theorem who_ev (w : Wn) (z : Wt × List Al) (e : Ev) (id : Int) : (Wt.ev w z e).1.who id = whoStep z.1.who e id := by
  unfold Wt.ev whoStep
  split
  · unfold Wt.acks
    have hE : ∀ W : Wt, (W.ack0 e).who id = if id = e.id then e.mb else W.who id := fun W => by
      unfold Wt.ack0
      rw [who_chg]
      unfold Wt.who
      dsimp only
      by_cases e1 : id = e.id
      · rw [if_pos e1, if_pos e1]
      · rw [if_neg e1, if_neg e1]
    split
    · rw [who_al]; exact hE _
    · exact hE _
  · split
    · unfold Wt.trades
      rw [who_jump]
      unfold Wt.wash
      split
      · rw [who_al]; exact who_trade1 _ _ _
      · exact who_trade1 _ _ _
    · split
      · unfold Wt.cancels
        split
        · rfl
        · split
          · exact who_chg _ _ _ _
          · split
            · rw [who_al]; exact who_chg _ _ _ _
            · exact who_chg _ _ _ _
      · rfl
theorem alone_run {m : Int} (hm : m ≠ 0) (w : Wn) : ∀ (l : List Ev) (z z' : Wt × List Al) (f : Int → Int), Rz m z z' → (∀ id, f id = z.1.who id) → ownA m (Wt.add w z l).2 = ownA m (Wt.add w z' (oth m f l)).2
  | [], z, z', f, h, _ => h.o
  | e :: l, z, z', f, h, hf => by
    have hf : f = z.1.who := funext hf
    subst hf
    show ownA m (Wt.add w (Wt.ev w z e) l).2 = ownA m (Wt.add w (Wt.ev w z' (othE m (whoStep z.1.who e) e)) (oth m (whoStep z.1.who e) l)).2
    refine alone_run hm w l _ _ _ ?_ (fun id => (who_ev w z e id).symm)
    have h0 : Rz m (z.1.tick w, z.2) (z'.1.tick w, z'.2) := ⟨h.r.tick w, h.o⟩
    have hE : Wt.ev w z' evNil = (z'.1.tick w, z'.2) := by unfold Wt.ev; simp
    by_cases k1 : e.kind = 1
    · have : othE m (whoStep z.1.who e) e = e := by unfold othE; rw [if_neg (by omega)]
      rw [this]
      unfold Wt.ev
      rw [if_pos k1, if_pos k1]
      exact h0.ack hm w e
    · have hws : whoStep z.1.who e = z.1.who := by unfold whoStep; rw [if_neg k1]
      rw [hws]
      have ht : ∀ id, (z.1.tick w).who id = z.1.who id := fun _ => rfl
      by_cases k3 : e.kind = 3
      · by_cases hc : z.1.who e.id ≠ m ∧ z.1.who e.other ≠ m
        · have : othE m z.1.who e = evNil := by unfold othE; rw [if_pos (.inl ⟨k3, hc⟩)]
          rw [this, hE]
          unfold Wt.ev
          rw [if_neg k1, if_pos k3]
          exact h0.lone hm w e hc.1 hc.2
        · have : othE m z.1.who e = e := by unfold othE; rw [if_neg (by rintro (hh | hh); exact hc hh.2; omega)]
          rw [this]
          unfold Wt.ev
          rw [if_neg k1, if_pos k3, if_neg k1, if_pos k3]
          exact h0.trade hm w e
      · by_cases k4 : e.kind = 4
        · by_cases hc : z.1.who e.id ≠ m
          · have : othE m z.1.who e = evNil := by unfold othE; rw [if_pos (.inr ⟨k4, hc⟩)]
            rw [this, hE]
            unfold Wt.ev
            rw [if_neg k1, if_neg k3]
            split
            · exact h0.cancel_l w e hc
            · exact h0
          · have hc' : z.1.who e.id = m := by simpa using hc
            have : othE m z.1.who e = e := by unfold othE; rw [if_neg (by rintro (hh | hh); exact k3 hh.1; exact hh.2 hc')]
            rw [this]
            unfold Wt.ev
            rw [if_neg k1, if_neg k3, if_neg k1, if_neg k3]
            split
            · exact h0.cancel w e hc' hm
            · exact h0
        · have : othE m z.1.who e = e := by unfold othE; rw [if_neg (by rintro (hh | hh); exact k3 hh.1; exact k4 hh.1)]
          rw [this]
          unfold Wt.ev
          rw [if_neg k1, if_neg k3, if_neg (fun hh => k4 hh.1), if_neg k1, if_neg k3, if_neg (fun hh => k4 hh.1)]
          exact h0
theorem alone {m : Int} (hm : m ≠ 0) (w : Wn) (l : List Ev) : ownA m (Wt.add w (Wt.new, []) l).2 = ownA m (Wt.add w (Wt.new, []) (oth m (fun _ => 0) l)).2 :=
  alone_run hm w l _ _ _ ⟨⟨rfl, fun _ => .inl ⟨rfl, rfl⟩, rfl, rfl, rfl, ⟨by simp [Wt.new], by simp [Wt.new]⟩, ⟨by simp [Wt.new], by simp [Wt.new]⟩⟩, rfl⟩ (fun _ => rfl)
end Go.Proofs.Ytcbppikkoelimaa

/- SurveilAlone: the law. -/
namespace Go.Proofs.Ytcbppikkoelimaa
open Go.V
set_option linter.unusedVariables false
set_option linter.unusedSimpArgs false

theorem SNew_yes (w : World) {wn : Wn} (h : wn.Can) : Does Try.prog 7 [.agg ⟨wn.cells⟩] [] w (fun v hs => ∃ p z, v = .tuple ⟨[.pointer (some ⟨WP.b p, 0, none⟩), .int .i64 0]⟩ ∧ hs = WZ.H p wn 0 z ∧ WI Wt.new z) :=
  (SNew_ok w wn).mono fun v hs h' => by
    rcases h' with ⟨-, h'⟩ | ⟨h', -⟩
    · exact h'
    · exact absurd h h'
theorem SNew_no (w : World) {wn : Wn} (h : ¬ wn.Can) : Is Try.prog 7 [.agg ⟨wn.cells⟩] w (.tuple ⟨[.pointer none, .int .i64 1]⟩) :=
  (SNew_ok w wn).mono fun v hs h' => by
    rcases h' with ⟨h', -⟩ | ⟨-, h'⟩
    · exact absurd h' h
    · exact h'
theorem Valid_yes (w : World) {wn : Wn} (h : wn.Can) : Is Try.prog 8 [.agg ⟨wn.cells⟩] w (.bool true) := by have := Valid_ok w wn; rwa [decide_eq_true h] at this
theorem Valid_no (w : World) {wn : Wn} (h : ¬ wn.Can) : Is Try.prog 8 [.agg ⟨wn.cells⟩] w (.bool false) := by have := Valid_ok w wn; rwa [decide_eq_false h] at this
theorem ownA_snoc (m : Int) (l : List Al) (x : Al) : ownA m (l ++ [x]) = ownA m l ++ if x.m = m ∧ x.r ≠ 4 then [x] else [] := by
  rw [ownA_app]
  congr 1
  unfold ownA
  by_cases h : x.m = m ∧ x.r ≠ 4
  · rw [if_pos h]; simp [h]
  · rw [if_neg h, List.filter_cons_of_neg (by simpa using fun h1 => fun h2 => h ⟨h1, h2⟩)]; rfl
structure OWS where
  i : Nat
  v : Value
  k : Hp
set_option maxRecDepth 20000 in
theorem own_ok (w : World) (A : Option Addr) (cap : Nat) (l : List Al) (m : Int) (hA : Rd w [] A (alrows l)) (hb : l.length ≤ 1000000000) :
    Does Try.prog 11 [.slice A l.length cap, .int .u32 m] [] w (fun v hs => AlOwn v (ownA m l) hs) := by
  refine Does.less (Does.of (n := 37) Try.func11 rfl rfl rfl rfl ?_)
  refine .seq ((.region (.v (.assign rfl) (.nil ?_))))
  refine .seq ((.region (.ef (.buildSlice (out := []) rfl (by decide) rfl rfl) ?_)))
  rintro _ _ ⟨b7, rfl, rfl⟩
  refine .v (.assign rfl) (.nil ?_)
  refine .seq (.seq ((.region (.v (.assign rfl) (.nil ?_)))))
  refine .block (.loop (X := OWS) (fun x => [(0, .slice A l.length cap), (1, .int .u32 m), (5, x.v), (6, .int .i64 x.i)]) (fun x => x.k) (fun x => x.i ≤ l.length ∧ AlOwn x.v (ownA m (l.take x.i)) x.k) (fun x => l.length - x.i) ⟨0, .slice (some ⟨b7, 0, none⟩) 0 0, [(b7, .cells [] 46)]⟩ ⟨Nat.zero_le _, (⟨rfl, .inr ⟨b7, 0, 0, [], rfl, rfl, Nat.le_refl _, by simp, by simp [alrows]⟩⟩ : AlOwn (.slice (some ⟨b7, 0, none⟩) 0 0) [] [(b7, .cells [] 46)])⟩ (.cons rfl (.cons rfl (.cons rfl (.cons rfl (.nil _))))) (fun _ s => s) ?_)
  rintro ⟨i, v, k⟩ ⟨hi, ho⟩
  dsimp only at hi ho ⊢
  refine .seq (.seq ((.region (.v (.move rfl) (.v (.move rfl) (.v (.len rfl) (.v (.lss rfl rfl) (.nil ?_))))))))
  refine .cond_dec rfl (fun h1 => .skip ?_) (fun h1 => .exit ?_)
  · have hil : i < l.length := by omega
    obtain ⟨b, o, rfl, hat⟩ := Rd.recs Al.cells 5 (fun _ => rfl) hA (by omega) (by omega)
    have hx := fun hs => recAt Al.cells 5 (fun _ => rfl) (z := (i : Int)) (hat hs) hil
    have hxm := fun hs => fldAt Al.cells 5 (fun _ => rfl) (z := (i : Int)) (hat hs) hil 1 rfl
    have hxr := fun hs => fldAt Al.cells 5 (fun _ => rfl) (z := (i : Int)) (hat hs) hil 0 rfl
    have hsn := ownA_snoc m (l.take i) l[i]
    rw [← take_snoc hil] at hsn
    have hle : (ownA m (l.take i)).length ≤ i := by
      have := List.length_filter_le (fun a : Al => decide (a.m = m) && decide (a.r ≠ 4)) (l.take i)
      rw [List.length_take] at this
      unfold ownA; omega
    generalize l[i] = x at hx hxm hxr hsn
    refine .mid (X := Value × Hp) (fun z => [(0, .slice (some ⟨b, o, none⟩) l.length cap), (1, .int .u32 m), (5, z.1), (6, .int .i64 i)]) (fun z => z.2) (fun z => AlOwn z.1 (ownA m (l.take (i + 1))) z.2) (.block (.seq ((.region (.v (.move rfl) (.v (.move rfl) (.v (.indexAddr rfl rfl (by omega) (by omega)) (.v (.fieldAddr rfl) (.v (.load (v := .int .u32 x.m) rfl (hxm _)) (.v (.move rfl) (.v (.eqi rfl rfl) (.v (.move rfl) (.and (b2 := decide (x.r ≠ 4)) 21 27 6 6 rfl rfl (fun g1 => .v (.move rfl) (.v (.move rfl) (.v (.indexAddr rfl rfl (by omega) (by omega)) (.v (.fieldAddr rfl) (.v (.load (v := .int .i64 x.r) rfl (hxr _)) (.v (.nei rfl rfl) (.nil ⟨rfl, rfl, rfl, rfl⟩))))))) (.nil ?_)))))))))))))) ?_
    · refine .cond rfl (fun h2 => ?_) (fun h2 => .skip ?_)
      · rw [Bool.and_eq_true, decide_eq_true_eq, decide_eq_true_eq] at h2
        rw [if_pos h2] at hsn
        refine .region (.v (.move rfl) (.v (.move rfl) (.v (.move rfl) (.v (.indexAddr rfl rfl (by omega) (by omega)) (.v (.loadA (vs := x.cells) rfl (hx _) rfl) (.push (vs := alrows (ownA m (l.take i))) (c := (ownA m (l.take i)).length) (oc := x.cells) rfl rfl ho rfl rfl rfl (by omega) (by omega) ?_))))))
        intro bq v' k' ho'
        refine .v (.assign rfl) (.nil ?_)
        refine ⟨(v', k'), ?_, .cons rfl (.cons rfl (.cons rfl (.cons rfl (.nil _)))), fun _ s => s.take⟩
        show OwnS _ 5 _ (ownA m (l.take (i + 1))).length (alrows (ownA m (l.take (i + 1)))) _
        rw [hsn, List.length_append, alrows_app]; exact ho'
      · have h2 : ¬ (x.m = m ∧ x.r ≠ 4) := fun hh => by rw [decide_eq_true hh.1, decide_eq_true hh.2] at h2; cases h2
        rw [if_neg h2, List.append_nil] at hsn
        rw [hsn]
        exact ⟨(v, k), ho, .cons rfl (.cons rfl (.cons rfl (.cons rfl (.nil _)))), fun _ s => s⟩
    · rintro ⟨v', k'⟩ ho'
      dsimp only at ho' ⊢
      refine .region (.v (.move rfl) (.v (.addi rfl rfl (by omega)) (.v (.assign rfl) (.nil ?_))))
      exact ⟨⟨i + 1, v', k'⟩, ⟨hil, ho'⟩, by show l.length - (i + 1) < _; omega, .cons rfl (.cons rfl (.cons rfl (.cons rfl (.nil _)))), fun _ s => s⟩
  · have hil : i = l.length := by omega
    subst hil
    rw [List.take_length] at ho
    refine .seq ((.region (.v (.move rfl) (.v (.assign rfl) (.nil ?_)))))
    exact .ret ⟨[_], ⟨rfl, trivial⟩, k, fun _ s => s, ho⟩
/-! ### the other ones' events -/
def whoF (l : List Ev) : Int → Int := l.foldl whoStep (fun _ => 0)
theorem oth_snoc (m : Int) : ∀ (a : List Ev) (f : Int → Int) (e : Ev), oth m f (a ++ [e]) = oth m f a ++ [othE m (whoStep (a.foldl whoStep f) e) e]
  | [], f, e => rfl
  | x :: a, f, e => by
    show othE m (whoStep f x) x :: oth m (whoStep f x) (a ++ [e]) = _
    rw [oth_snoc m a (whoStep f x) e]; rfl
theorem oth_length (m : Int) : ∀ (a : List Ev) (f : Int → Int), (oth m f a).length = a.length
  | [], f => rfl
  | x :: a, f => by show (oth m (whoStep f x) a).length + 1 = _; rw [oth_length m a]; rfl
def othUp (m : Int) (l : List Ev) (i : Nat) : List Ev := oth m (fun _ => 0) (l.take i) ++ l.drop i
theorem othUp_zero (m : Int) (l : List Ev) : othUp m l 0 = l := rfl
theorem othUp_full (m : Int) (l : List Ev) : othUp m l l.length = oth m (fun _ => 0) l := by
  unfold othUp; rw [List.take_length, List.drop_length, List.append_nil]
theorem othUp_length (m : Int) (l : List Ev) (i : Nat) : (othUp m l i).length = l.length := by
  unfold othUp; rw [List.length_append, oth_length, ← List.length_append, List.take_append_drop]
theorem othUp_succ (m : Int) {l : List Ev} {i : Nat} (h : i < l.length) : othUp m l (i + 1) = (othUp m l i).set i (othE m (whoF (l.take (i + 1))) l[i]) := by
  have hl : (oth m (fun _ => 0) (l.take i)).length = i := by rw [oth_length, List.length_take]; omega
  unfold othUp
  rw [take_snoc h, oth_snoc, List.drop_eq_getElem_cons h, List.set_append, if_neg (by omega), hl, Nat.sub_self, List.set_cons_zero, List.append_assoc]
  unfold whoF
  rw [List.foldl_append]; rfl
theorem othUp_same (m : Int) {l : List Ev} {i : Nat} (h : i < l.length) : (othUp m l i).set i l[i] = othUp m l i := by
  have hl : (oth m (fun _ => 0) (l.take i)).length = i := by rw [oth_length, List.length_take]; omega
  unfold othUp
  rw [List.drop_eq_getElem_cons h, List.set_append, if_neg (by omega), hl, Nat.sub_self, List.set_cons_zero]
theorem whoF_snoc {l : List Ev} {i : Nat} (h : i < l.length) : whoF (l.take (i + 1)) = whoStep (whoF (l.take i)) l[i] := by
  unfold whoF; rw [take_snoc h, List.foldl_append]; rfl
structure ALS where
  i : Nat
  es : List ME
  c : Nat
  lo : List Value
set_option maxRecDepth 20000 in
set_option maxHeartbeats 8000000 in
theorem SurveilAlone_ok (w : World) (wn : Wn) (A : Option Addr) (cap : Nat) (l : List Ev) (m : Int) (hA : Rd w [] A (erows l)) (hb : l.length ≤ 1200000) :
    Is Try.prog 3 [.agg ⟨wn.cells⟩, .slice A l.length cap, .int .u32 m] w (.bool true) := by
  refine Does.pure (Does.of (n := 144) Try.func3 rfl rfl rfl rfl ?_)
  refine .seq ((.region (.nw (.box (l := wn.cells) rfl rfl) fun b3 => (.v (.assign rfl) (.nil ?_)))))
  by_cases hc : wn.Can
  case neg =>
    refine .seq ((.region (.v (.loadA (vs := wn.cells) rfl .whole rfl) (.pc rfl rfl (fun w s => SNew_no w hc) ?_))))
    refine .v (.move rfl) (.v (.extract rfl rfl) (.v (.extract rfl rfl) (.v (.assign rfl) (.v (.assign rfl) (.nil ?_)))))
    refine .seq ((.region (.v (.loadA (vs := wn.cells) rfl .whole rfl) (.pc rfl rfl (fun w s => SNew_no w hc) ?_))))
    refine .v (.move rfl) (.v (.extract rfl rfl) (.v (.extract rfl rfl) (.v (.assign rfl) (.v (.assign rfl) (.nil ?_)))))
    refine .seq (.seq ((.region (.v (.move rfl) (.v (.move rfl) (.v (.nei rfl rfl) (.v (.move rfl) (.or (b2 := false) 31 36 5 5 rfl rfl (fun g1 => .v (.move rfl) (.v (.eql_ptr_nil rfl rfl) (.v (.move rfl) (.v (.eql_ptr_nil rfl rfl) (.v (.neb rfl rfl) (.nil ⟨rfl, rfl, rfl, rfl⟩)))))) (.v (.move rfl) (.or (b2 := false) 38 43 5 5 rfl rfl (fun g2 => .v (.move rfl) (.v (.neq_ptr_nil rfl rfl) (.v (.loadA (vs := wn.cells) rfl .whole rfl) (.pc rfl rfl (fun w s => Valid_no w hc) (.v (.neb rfl rfl) (.nil ⟨rfl, rfl, rfl, rfl⟩)))))) (.nil ?_)))))))))))
    refine .cond_false rfl (.skip ?_)
    refine .seq (.seq ((.region (.v (.move rfl) (.v (.eql_ptr_nil rfl rfl) (.v (.move rfl) (.or (b2 := true) 47 49 2 2 rfl rfl (fun g3 => .v (.move rfl) (.v (.eql_ptr_nil rfl rfl) (.nil ⟨rfl, rfl, rfl, rfl⟩))) (.v (.move rfl) (.or (b2 := true) 51 53 2 2 rfl rfl (fun g4 => absurd g4 (by simp)) (.nil ?_))))))))))
    refine .cond_true rfl ?_
    refine .seq ((.region (.v (.assign rfl) (.nil ?_))))
    exact .ret ⟨[_], ⟨rfl, trivial⟩, rfl⟩
  refine .seq ((.region (.v (.loadA (vs := wn.cells) rfl .whole rfl) ?_)))
  refine .ef (.call0 rfl rfl fun w s => SNew_yes w hc) ?_
  rintro _ _ ⟨_, ⟨p, zp, rfl, rfl, hIp⟩, rfl⟩
  refine .v (.move rfl) (.v (.extract rfl rfl) (.v (.extract rfl rfl) (.v (.assign rfl) (.v (.assign rfl) (.nil ?_)))))
  refine .seq ((.region (.v (.loadA (vs := wn.cells) rfl .whole rfl) ?_)))
  refine .ef (.call0 rfl rfl fun w s => SNew_yes w hc) ?_
  rintro _ _ ⟨_, ⟨q, zq, rfl, rfl, hIq⟩, rfl⟩
  refine .v (.move rfl) (.v (.extract rfl rfl) (.v (.extract rfl rfl) (.v (.assign rfl) (.v (.assign rfl) (.nil ?_)))))
  refine .seq (.seq ((.region (.v (.move rfl) (.v (.move rfl) (.v (.nei rfl rfl) (.v (.move rfl) (.or (b2 := false) 31 36 5 5 rfl rfl (fun g1 => .v (.move rfl) (.v (.eql_ptr_nil rfl rfl) (.v (.move rfl) (.v (.eql_ptr_nil rfl rfl) (.v (.neb rfl rfl) (.nil ⟨rfl, rfl, rfl, rfl⟩)))))) (.v (.move rfl) (.or (b2 := false) 38 43 5 5 rfl rfl (fun g2 => .v (.move rfl) (.v (.neq_ptr_nil rfl rfl) (.v (.loadA (vs := wn.cells) rfl .whole rfl) (.pc rfl rfl (fun w s => Valid_yes w hc) (.v (.neb rfl rfl) (.nil ⟨rfl, rfl, rfl, rfl⟩)))))) (.nil ?_)))))))))))
  refine .cond_false rfl (.skip ?_)
  refine .seq (.seq ((.region (.v (.move rfl) (.v (.eql_ptr_nil rfl rfl) (.v (.move rfl) (.or (b2 := false) 47 49 2 2 rfl rfl (fun g3 => .v (.move rfl) (.v (.eql_ptr_nil rfl rfl) (.nil ⟨rfl, rfl, rfl, rfl⟩))) (.v (.move rfl) (.or (b2 := decide (m = 0)) 51 53 2 2 rfl rfl (fun g4 => .v (.move rfl) (.v (.eqi rfl rfl) (.nil ⟨rfl, rfl, rfl, rfl⟩))) (.nil ?_))))))))))
  refine .cond rfl (fun h2 => ?_) (fun h2 => .skip ?_)
  · refine .seq ((.region (.v (.assign rfl) (.nil ?_))))
    exact .ret ⟨[_], ⟨rfl, trivial⟩, rfl⟩
  have hm : m ≠ 0 := by simpa using h2
  refine .seq ((.region (.ef (.makeMap .u64) ?_)))
  rintro _ _ ⟨mw, rfl, rfl⟩
  refine .v (.assign rfl) (.nil ?_)
  refine .seq ((.region (.ef (.buildSlice (out := []) rfl (by decide) rfl rfl) ?_)))
  rintro _ _ ⟨b56, rfl, rfl⟩
  refine .v (.move rfl) ?_
  refine .ef (.append (c := 0) (k := l.length) (vs := []) (news := erows l) (h := [(b56, .cells [] 34)]) rfl rfl ⟨rfl, .inr ⟨b56, 0, 0, [], rfl, rfl, by omega, by simp, by simp⟩⟩ TakeI.out (fun w' s => (hA.keep0 s).src (erows_length l) (by omega)) (erows_length l) (erows_ones _) (by omega) (by omega)) ?_
  rintro vo _ ⟨ho, oo, rfl⟩
  rw [Nat.zero_add, List.nil_append] at oo
  refine .v (.assign rfl) (.nil ?_)
  refine .keep (M64 mw [] 0 :: (WZ.H p wn 0 zp ++ (WZ.H q wn 0 zq ++ ho))) ?_
  refine .seq (.seq ((.region (.v (.assign rfl) (.nil ?_)))))
  obtain ⟨Ao, ko, rfl⟩ := OwnS.slice oo
  refine .block (.loop (X := ALS × Hp) (fun x => [(1, .slice A l.length cap), (2, .int .u32 m), (7, .pointer (some ⟨p.b, 0, none⟩)), (9, .pointer (some ⟨q.b, 0, none⟩)), (11, .map (some mw)), (12, .slice Ao l.length ko), (13, .int .i64 x.1.i)]) (fun x => M64 mw x.1.es x.1.c :: (WZ.H p wn 0 zp ++ (WZ.H q wn 0 zq ++ x.2))) (fun x => x.1.i ≤ l.length ∧ MOk x.1.es x.1.c ∧ (∀ id, (mget id x.1.es).getD (.int .u32 0) = .int .u32 (whoF (l.take x.1.i) id)) ∧ OwnS 34 13 (.slice Ao l.length ko) l.length (erows (othUp m l x.1.i)) x.2) (fun x => l.length - x.1.i) (⟨0, [], 0, []⟩, ho) ⟨Nat.zero_le _, MOk.nil, fun _ => rfl, oo⟩ (.cons rfl (.cons rfl (.cons rfl (.cons rfl (.cons rfl (.cons rfl (.cons rfl (.nil _)))))))) (fun _ s => s) ?_)
  rintro ⟨⟨i, es, c, _⟩, ho⟩ ⟨hi, hmo, hwho, oo⟩
  dsimp only at hi hmo hwho oo ⊢
  refine .seq (.seq ((.region (.v (.move rfl) (.v (.move rfl) (.v (.len rfl) (.v (.lss rfl rfl) (.nil ?_))))))))
  refine .cond_dec rfl (fun h3 => .skip ?_) (fun h3 => .exit ?_)
  · have hil : i < l.length := by omega
    obtain ⟨be, oe, rfl, hat⟩ := Rd.recs Ev.cells 13 (fun _ => rfl) hA (by omega) (by omega)
    have hk := fun hs => fldAt Ev.cells 13 (fun _ => rfl) (z := (i : Int)) (hat hs) hil 1 rfl
    have hid := fun hs => fldAt Ev.cells 13 (fun _ => rfl) (z := (i : Int)) (hat hs) hil 2 rfl
    have hot := fun hs => fldAt Ev.cells 13 (fun _ => rfl) (z := (i : Int)) (hat hs) hil 3 rfl
    have hmb := fun hs => fldAt Ev.cells 13 (fun _ => rfl) (z := (i : Int)) (hat hs) hil 5 rfl
    have hws := whoF_snoc hil
    have hou := othUp_succ m hil
    have hsame := othUp_same m hil
    have holen := othUp_length m l i
    generalize l[i] = e at hk hid hot hmb hws hou hsame
    obtain ⟨bo, oo_, lo, rfl, -, rfl, -, hlo, -⟩ := OwnS.some_ oo (by omega)
    have hcapo := (OwnS.cap_ oo).2
    refine .mid (X := Hp) (fun _ => [(1, .slice (some ⟨be, oe, none⟩) l.length cap), (2, .int .u32 m), (7, .pointer (some ⟨p.b, 0, none⟩)), (9, .pointer (some ⟨q.b, 0, none⟩)), (11, .map (some mw)), (12, .slice (some ⟨bo, oo_, none⟩) l.length ko), (13, .int .i64 i)]) (fun x => x) (fun x => ∃ es c ho, x = M64 mw es c :: (WZ.H p wn 0 zp ++ (WZ.H q wn 0 zq ++ ho)) ∧ MOk es c ∧ (∀ id, (mget id es).getD (.int .u32 0) = .int .u32 (whoF (l.take (i + 1)) id)) ∧ OwnS 34 13 (.slice (some ⟨bo, oo_, none⟩) l.length ko) l.length (erows (othUp m l (i + 1))) ho) (.block ?_) ?_
    · refine .mid (X := List ME × Nat) (fun _ => [(1, .slice (some ⟨be, oe, none⟩) l.length cap), (2, .int .u32 m), (7, .pointer (some ⟨p.b, 0, none⟩)), (9, .pointer (some ⟨q.b, 0, none⟩)), (11, .map (some mw)), (12, .slice (some ⟨bo, oo_, none⟩) l.length ko), (13, .int .i64 i)]) (fun x => M64 mw x.1 x.2 :: (WZ.H p wn 0 zp ++ (WZ.H q wn 0 zq ++ [(bo, Ch.cells lo 34)]))) (fun x => MOk x.1 x.2 ∧ ∀ id, (mget id x.1).getD (.int .u32 0) = .int .u32 (whoF (l.take (i + 1)) id)) (.seq ((.region (.v (.move rfl) (.v (.move rfl) (.v (.indexAddr rfl rfl (by omega) (by omega)) (.v (.fieldAddr rfl) (.v (.load (v := .int .i64 e.kind) rfl (hk _)) (.v (.eqi rfl rfl) (.nil ?_)))))))))) ?_
      · rw [hws]
        unfold whoStep
        refine .cond_dec rfl (fun h4 => ?_) (fun h4 => .skip ?_)
        · rw [if_pos h4]
          refine (.drawQ 11 [0, 1, 2, 3, 4, 5, 6, 7, 8, 9, 10, 11] [] (List.nil_subset _) (by kernel_rfl) (by kernel_rfl) ?_)
          refine .v (fun _ f => .move rfl) (.v (fun _ f => .move rfl) (.v (fun _ f => .move rfl) (.v (fun _ f => .indexAddr rfl rfl (by omega) (by omega)) (.v (fun _ f => .fieldAddr rfl) (.v (fun hs' f => .load (v := .int .u64 e.id) rfl (hid hs')) (.v (fun _ f => .move rfl) (.v (fun _ f => .move rfl) (.v (fun _ f => .indexAddr rfl rfl (by omega) (by omega)) (.v (fun _ f => .fieldAddr rfl) (.v (fun hs' f => .load (v := .int .u32 e.mb) rfl (hmb hs')) ?_))))))))))
          refine .st (.mapUpdate (es := es) (c := c) rfl rfl rfl) (.nil ?_)
          refine ⟨((mset e.id (.int .u32 e.mb) es c).1, (mset e.id (.int .u32 e.mb) es c).2), ⟨hmo.set _ _, fun id => ?_⟩, .cons rfl (.cons rfl (.cons rfl (.cons rfl (.cons rfl (.cons rfl (.cons rfl (.nil _))))))), fun _ s => s⟩
          dsimp only
          rw [mget_set]
          by_cases e1 : id = e.id
          · rw [if_pos e1, if_pos e1]; rfl
          · rw [if_neg e1, if_neg e1]; exact hwho id
        · rw [if_neg h4]
          exact ⟨(es, c), ⟨hmo, hwho⟩, .cons rfl (.cons rfl (.cons rfl (.cons rfl (.cons rfl (.cons rfl (.cons rfl (.nil _))))))), fun _ s => s⟩
      · clear hmo hwho es c
        rintro ⟨es, c⟩ ⟨hmo, hwho⟩
        dsimp only at hmo hwho ⊢
        generalize whoF (l.take (i + 1)) = F at hwho hou
        refine .seq ((.drawK [M64 mw es c] (by intro y hy; simp at hy; subst hy; simp) (by kernel_rfl) (by kernel_rfl) ?_))
        refine .v (fun _ f => .move rfl) (.v (fun _ f => .move rfl) (.v (fun _ f => .move rfl) (.v (fun _ f => .indexAddr rfl rfl (by omega) (by omega)) (.v (fun _ f => .fieldAddr rfl) (.v (fun hs' f => .load (v := .int .u64 e.id) rfl (hid hs')) (.v (fun _ f => .lookupE (es := es) (c := c) (v := .int .u32 (F e.id)) rfl rfl (hb := .sub f) (hwho _)) ?_))))))
        refine .v (fun _ f => .move rfl) (.v (fun _ f => .move rfl) (.v (fun _ f => .move rfl) (.v (fun _ f => .indexAddr rfl rfl (by omega) (by omega)) (.v (fun _ f => .fieldAddr rfl) (.v (fun hs' f => .load (v := .int .u64 e.other) rfl (hot hs')) (.v (fun _ f => .lookupE (es := es) (c := c) (v := .int .u32 (F e.other)) rfl rfl (hb := .sub f) (hwho _)) (.v (fun _ f => .assign rfl) (.v (fun _ f => .assign rfl) (.nil ?_)))))))))
        refine .seq ((.region (.v (.move rfl) (.v (.move rfl) (.v (.indexAddr rfl rfl (by omega) (by omega)) (.v (.fieldAddr rfl) (.v (.load (v := .int .i64 e.kind) rfl (hk _)) (.v (.eqi rfl rfl) (.v (.move rfl) (.and (b2 := decide (F e.id ≠ m)) 102 105 3 3 rfl rfl (fun g5 => .v (.move rfl) (.v (.move rfl) (.v (.nei rfl rfl) (.nil ⟨rfl, rfl, rfl, rfl⟩)))) (.v (.move rfl) (.and (b2 := decide (F e.other ≠ m)) 107 110 3 3 rfl rfl (fun g6 => .v (.move rfl) (.v (.move rfl) (.v (.nei rfl rfl) (.nil ⟨rfl, rfl, rfl, rfl⟩)))) (.v (.move rfl) (.or (b2 := decide (e.kind = 4) && decide (F e.id ≠ m)) 112 123 11 8 rfl rfl (fun g7 => .v (.move rfl) (.v (.move rfl) (.v (.indexAddr rfl rfl (by omega) (by omega)) (.v (.fieldAddr rfl) (.v (.load (v := .int .i64 e.kind) rfl (hk _)) (.v (.eqi rfl rfl) (.v (.move rfl) (.and (b2 := decide (F e.id ≠ m)) 119 122 3 3 rfl rfl (fun g8 => .v (.move rfl) (.v (.move rfl) (.v (.nei rfl rfl) (.nil ⟨rfl, rfl, rfl, rfl⟩)))) (.nil ⟨rfl, rfl, rfl, rfl⟩))))))))) (.nil ?_)))))))))))))))
        have oo' : OwnS 34 13 (.slice (some ⟨bo, oo_, none⟩) l.length ko) (othUp m l i).length ((othUp m l i).flatMap Ev.cells) [(bo, .cells lo 34)] := by rw [holen]; exact oo
        refine .cond rfl (fun h5 => ?_) (fun h5 => .skip ?_)
        · have h5' : (e.kind = 3 ∧ F e.id ≠ m ∧ F e.other ≠ m) ∨ (e.kind = 4 ∧ F e.id ≠ m) := by
            simp only [Bool.or_eq_true, Bool.and_eq_true, decide_eq_true_eq] at h5
            rcases h5 with h5 | h5
            · exact .inl ⟨h5.1.1, h5.1.2, h5.2⟩
            · exact .inr h5
          have hoe : othE m F e = evNil := by unfold othE; rw [if_pos h5']
          rw [hoe] at hou
          have o2 := OwnS.setR Ev.cells (fun _ => rfl) oo' (i := i) (by omega) evNil
          rw [← hou] at o2
          rw [othUp_length] at o2
          refine .region (.v (.move rfl) (.v (.move rfl) (.v (.build (out := evNil.cells) rfl rfl) (.v (.indexAddr rfl rfl (by omega) (by omega)) (.st (.storeA (b := bo) (l := lo) (vs := evNil.cells) rfl rfl rfl rfl (by show _ + 13 ≤ _; omega)) (.nil ?_))))))
          rw [Int.toNat_natCast]
          exact ⟨_, ⟨es, c, [(bo, .cells (splice lo (oo_ + i * 13) evNil.cells) 34)], rfl, hmo, hwho, o2⟩, .cons rfl (.cons rfl (.cons rfl (.cons rfl (.cons rfl (.cons rfl (.cons rfl (.nil _))))))), fun _ s => s.take⟩
        · have h5' : ¬ ((e.kind = 3 ∧ F e.id ≠ m ∧ F e.other ≠ m) ∨ (e.kind = 4 ∧ F e.id ≠ m)) := fun hh => by
            have : ((decide (e.kind = 3) && decide (F e.id ≠ m)) && decide (F e.other ≠ m) || decide (e.kind = 4) && decide (F e.id ≠ m)) = true := by
              simp only [Bool.or_eq_true, Bool.and_eq_true, decide_eq_true_eq]
              rcases hh with hh | hh
              · exact .inl ⟨⟨hh.1, hh.2.1⟩, hh.2.2⟩
              · exact .inr hh
            rw [this] at h5; cases h5
          have hoe : othE m F e = e := by unfold othE; rw [if_neg h5']
          rw [hoe, hsame] at hou
          rw [← hou] at oo
          exact ⟨_, ⟨es, c, [(bo, .cells lo 34)], rfl, hmo, hwho, oo⟩, .cons rfl (.cons rfl (.cons rfl (.cons rfl (.cons rfl (.cons rfl (.cons rfl (.nil _))))))), fun _ s => s⟩
    · rintro _ ⟨es', c', ho', rfl, hmo', hwho', oo'⟩
      refine .region (.v (.move rfl) (.v (.addi rfl rfl (by omega)) (.v (.assign rfl) (.nil ?_))))
      exact ⟨(⟨i + 1, es', c', []⟩, ho'), ⟨hil, hmo', hwho', oo'⟩, by show l.length - (i + 1) < _; omega, .cons rfl (.cons rfl (.cons rfl (.cons rfl (.cons rfl (.cons rfl (.cons rfl (.nil _))))))), fun _ s => s⟩
  · have hil : i = l.length := by omega
    subst hil
    rw [othUp_full] at oo
    have hlo : (oth m (fun _ => 0) l).length = l.length := oth_length _ _ _
    have ha := alone hm wn l
    have hb1 := (Wt.Bd.add (w := wn) l (z := (Wt.new, [])) Wt.Bd.new).2.2
    have hb2 := (Wt.Bd.add (w := wn) (oth m (fun _ => 0) l) (z := (Wt.new, [])) Wt.Bd.new).2.2
    rw [hlo] at hb2
    refine .seq ((.region (.v (.move rfl) (.ef (.buildSlice (out := []) rfl (by decide) rfl rfl) ?_))))
    rintro _ _ ⟨b130, rfl, rfl⟩
    refine .v (.move rfl) ?_
    refine .ef (.append (c := 0) (k := l.length) (vs := []) (news := erows l) (h := [(b130, .cells [] 34)]) rfl rfl ⟨rfl, .inr ⟨b130, 0, 0, [], rfl, rfl, by omega, by simp, by simp⟩⟩ TakeI.out (fun w' s => (hA.keep0 s).src (erows_length l) (by omega)) (erows_length l) (erows_ones _) (by omega) (by omega)) ?_
    rintro vl _ ⟨hl, ol, rfl⟩
    rw [Nat.zero_add, List.nil_append] at ol
    obtain ⟨Al1, kl1, rfl⟩ := OwnS.slice ol
    refine .ef (.callT (WZ.H p wn 0 zp) rfl rfl fun w s => add_ok w p wn hc hIp Wt.Bd.new l Al1 kl1 (OwnS.rd ol s (fun y hy => by simp [hy]) (Sat.apart (a := hl) (b := WZ.H p wn 0 zp) s)) (by show (0 : Int) + _ ≤ _; omega)) ?_
    rintro v1 _ ⟨_, ⟨zp', k1, rfl, -, o1⟩, rfl⟩
    refine .v (.move rfl) (.v (.move rfl) ?_)
    have hadd := fun w r => add_ok w q wn hc hIq Wt.Bd.new (oth m (fun _ => 0) l) Ao ko r (by rw [hlo]; show (0 : Int) + _ ≤ _; omega)
    rw [hlo] at hadd
    refine .ef (.callT (WZ.H q wn 0 zq) rfl rfl fun w s => hadd w (OwnS.rd oo s (fun y hy => by simp [hy]) (Sat.apart (a := ho) (b := WZ.H q wn 0 zq) s))) ?_
    rintro v2 _ ⟨_, ⟨zq', k2, rfl, -, o2⟩, rfl⟩
    refine .v (.assign rfl) (.v (.assign rfl) (.nil ?_))
    generalize (Wt.add wn (Wt.new, []) l).2 = X at o1 ha hb1
    generalize (Wt.add wn (Wt.new, []) (oth m (fun _ => 0) l)).2 = Y at o2 ha hb2
    obtain ⟨X1, x1, rfl⟩ := OwnS.slice o1
    obtain ⟨Y1, y1, rfl⟩ := OwnS.slice o2
    simp only [List.length_nil, Nat.zero_add] at hb1 hb2
    refine .seq ((.region (.v (.move rfl) (.v (.move rfl) ?_))))
    refine .ef (.call0 rfl rfl fun w s => own_ok w X1 x1 X m (OwnS.rd o1 s (no := []) (fun y hy => by simp [hy]) (by simp)) (by omega)) ?_
    rintro vX _ ⟨hX, oX, rfl⟩
    refine .v (.move rfl) (.v (.move rfl) ?_)
    refine .ef (.call0 rfl rfl fun w s => own_ok w Y1 y1 Y m (OwnS.rd o2 s (no := []) (fun y hy => by simp [hy]) (by simp)) (by omega)) ?_
    rintro vY _ ⟨hY, oY, rfl⟩
    rw [← ha] at oY
    have hle := List.length_filter_le (fun a : Al => decide (a.m = m) && decide (a.r ≠ 4)) X
    obtain ⟨X2, x2, rfl⟩ := OwnS.slice oX
    obtain ⟨Y2, y2, rfl⟩ := OwnS.slice oY
    refine .pc (v := .bool true) rfl rfl (fun w s => alerts_ok w X2 Y2 (ownA m X).length x2 y2 (ownA m X) (OwnS.rd oX s (no := []) (fun y hy => by simp [hy]) (by simp)) (OwnS.rd oY s (no := []) (fun y hy => by simp [hy]) (by simp)) rfl (by unfold ownA; omega)) ?_
    refine .v (.assign rfl) (.nil ?_)
    exact .ret ⟨[_], ⟨rfl, trivial⟩, rfl⟩
end Go.Proofs.Ytcbppikkoelimaa

/- SurveilPieces, plain: the cases' counts add up to the alerts, each alert lies in one. -/
namespace Go.Proofs.Ytcbppikkoelimaa
open Go.V
set_option linter.unusedVariables false
set_option linter.unusedSimpArgs false

def inCs (c : Cs) (a : Al) : Bool := ((decide (a.r = c.r) && decide (a.m = c.m)) && decide (c.f ≤ a.at_)) && decide (a.at_ ≤ c.l)
def cntA (c : Cs) (l : List Al) : Nat := (l.filter (inCs c)).length
theorem cntA_snoc (c : Cs) (l : List Al) (a : Al) : cntA c (l ++ [a]) = cntA c l + if inCs c a = true then 1 else 0 := by
  unfold cntA
  rw [List.filter_append, List.length_append]
  congr 1
  by_cases h : inCs c a = true <;> simp [h]
structure PcI (z : Wt × List Al) : Prop where
  op : ∀ c ∈ z.1.cs, c.op = true
  at_ : ∀ a ∈ z.2, a.at_ ≤ z.1.n
  in_ : ∀ a ∈ z.2, ∃ c ∈ z.1.cs, c.r = a.r ∧ c.m = a.m ∧ a.at_ ≤ c.l
  le : ∀ c ∈ z.1.cs, c.f ≤ c.l ∧ c.l ≤ z.1.n
  dis : ∀ i j, (hi : i < z.1.cs.length) → (hj : j < z.1.cs.length) → i < j → z.1.cs[i].r = z.1.cs[j].r → z.1.cs[i].m = z.1.cs[j].m → z.1.cs[i].l < z.1.cs[j].f
  cnt : ∀ c ∈ z.1.cs, (cntA c z.2 : Int) = c.n
  sum : (z.1.cs.map Cs.n).sum = (z.2.length : Int)
theorem PcI.mono {z z' : Wt × List Al} (h : PcI z) (ho : z'.2 = z.2) (hc : z'.1.cs = z.1.cs) (hn : z.1.n ≤ z'.1.n) : PcI z' := by
  obtain ⟨W, out⟩ := z
  obtain ⟨W', out'⟩ := z'
  dsimp only at ho hc hn
  subst ho
  obtain ⟨n, K, P, A, last, cs⟩ := W
  obtain ⟨n', K', P', A', last', cs'⟩ := W'
  dsimp only at hc hn
  subst hc
  exact ⟨h.op, fun a ha => Int.le_trans (h.at_ a ha) hn, h.in_, fun c hc => ⟨(h.le c hc).1, Int.le_trans (h.le c hc).2 hn⟩, h.dis, h.cnt, h.sum⟩
theorem sum_set : ∀ (l : List Cs) (i : Nat) (c : Cs) (h : i < l.length), ((l.set i c).map Cs.n).sum = (l.map Cs.n).sum - l[i].n + c.n
  | a :: l, 0, c, h => by simp; omega
  | a :: l, i + 1, c, h => by
    have := sum_set l i c (by simpa using h)
    simp only [List.set_cons_succ, List.map_cons, List.sum_cons, List.getElem_cons_succ]
    omega
theorem PcI.al {z : Wt × List Al} (h : PcI z) {w : Wn} (hw : 1 ≤ w.span) (r m o n : Int) : PcI (Wt.al w z r m o n) := by
  unfold Wt.al
  split
  · exact h
  · have hcs : ((z.1.chg m fun p => { p with a := p.a + 1 })).cs = z.1.cs := (Wt.chg_eq _ _ _).2.2.2.2
    have hn : ((z.1.chg m fun p => { p with a := p.a + 1 })).n = z.1.n := (Wt.chg_eq _ _ _).1
    generalize z.1.chg m (fun p => { p with a := p.a + 1 }) = W' at hcs hn
    obtain ⟨W, out⟩ := z
    obtain ⟨op, at_, in_, le, dis, cnt, sum⟩ := h
    dsimp only at op at_ in_ le dis cnt sum hcs hn ⊢
    generalize hl : W.cs = l at op in_ le dis cnt sum
    generalize hN : W.n = N at at_ le
    -- who is of the rule and member lies ahead of the last one
    rcases clast_spec r m l with ⟨c1, c2⟩ | ⟨i, c1, hi, c2, c3⟩
    · -- none
      rw [cput_new c1]
      have hnone : ∀ a ∈ out, ¬ (a.r = r ∧ a.m = m) := fun a ha hh => by
        obtain ⟨c, hc, h1, h2, -⟩ := in_ a ha
        exact c2 c hc ⟨h1.trans hh.1, h2.trans hh.2⟩
      refine ⟨fun c hc => ?_, fun a ha => ?_, fun a ha => ?_, fun c hc => ?_, fun i j hi hj hij e1 e2 => ?_, fun c hc => ?_, ?_⟩
      · rcases List.mem_append.1 hc with hc | hc
        · exact op c hc
        · have : c = ⟨r, m, N, N, 1, true⟩ := by simpa using hc
          subst this; rfl
      · show a.at_ ≤ W'.n
        rw [hn, hN]
        rcases List.mem_append.1 ha with ha | ha
        · exact at_ a ha
        · have : a = ⟨r, m, N, o, n⟩ := by simpa using ha
          subst this; exact Int.le_refl _
      · rcases List.mem_append.1 ha with ha | ha
        · obtain ⟨c, hc, hh⟩ := in_ a ha
          exact ⟨c, List.mem_append_left _ hc, hh⟩
        · have : a = ⟨r, m, N, o, n⟩ := by simpa using ha
          subst this
          exact ⟨_, List.mem_append_right _ (List.mem_singleton.2 rfl), rfl, rfl, Int.le_refl _⟩
      · show _ ∧ _ ≤ W'.n
        rw [hn, hN]
        rcases List.mem_append.1 hc with hc | hc
        · exact le c hc
        · have : c = ⟨r, m, N, N, 1, true⟩ := by simpa using hc
          subst this; exact ⟨Int.le_refl _, Int.le_refl _⟩
      · dsimp only at hi hj e1 e2 ⊢
        rw [List.length_append, List.length_singleton] at hi hj
        have hil : i < l.length := by omega
        rw [List.getElem_append_left hil] at e1 e2 ⊢
        by_cases hjl : j < l.length
        · rw [List.getElem_append_left hjl] at e1 e2 ⊢
          exact dis i j hil hjl hij e1 e2
        · have : j = l.length := by omega
          subst this
          simp only [List.getElem_append_right (Nat.le_refl _), Nat.sub_self, List.getElem_cons_zero] at e1 e2
          exact absurd ⟨e1, e2⟩ (c2 _ (List.getElem_mem hil))
      · dsimp only at hc ⊢
        rw [cntA_snoc]
        rcases List.mem_append.1 hc with hc | hc
        · have hne : ¬ inCs c ⟨r, m, N, o, n⟩ = true := by
            have := c2 c hc
            unfold inCs
            simp only [Bool.and_eq_true, decide_eq_true_eq]
            rintro ⟨⟨⟨h1, h2⟩, -⟩, -⟩
            exact this ⟨h1.symm, h2.symm⟩
          rw [if_neg hne]
          exact cnt c hc
        · have : c = ⟨r, m, N, N, 1, true⟩ := by simpa using hc
          subst this
          have h0 : cntA ⟨r, m, N, N, 1, true⟩ out = 0 := by
            unfold cntA
            rw [List.length_eq_zero_iff, List.filter_eq_nil_iff]
            intro a ha hh
            unfold inCs at hh
            simp only [Bool.and_eq_true, decide_eq_true_eq] at hh
            exact hnone a ha ⟨hh.1.1.1, hh.1.1.2⟩
          rw [h0, if_pos (by unfold inCs; simp)]
          rfl
      · dsimp only
        rw [List.map_append, List.sum_append, sum, List.length_append]
        simp
    · have hall : ∀ c ∈ l, c.r = r → c.m = m → c.l ≤ l[i].l := fun c hc e1 e2 => by
        obtain ⟨j, hj, rfl⟩ := List.mem_iff_getElem.1 hc
        by_cases hij : i < j
        · exact absurd ⟨e1, e2⟩ (c3 j hj hij)
        · by_cases e : j = i
          · subst e; exact Int.le_refl _
          · have := dis j i hj hi (by omega) (e1.trans c2.1.symm) (e2.trans c2.2.symm)
            have := (le _ (List.getElem_mem hi)).1
            omega
      have hat : ∀ a ∈ out, a.r = r → a.m = m → a.at_ ≤ l[i].l := fun a ha e1 e2 => by
        obtain ⟨c, hc, h1, h2, h3⟩ := in_ a ha
        exact Int.le_trans h3 (hall c hc (h1.trans e1) (h2.trans e2))
      have hile := le _ (List.getElem_mem hi)
      rw [cput_old c1 hi]
      by_cases hx : l[i].op = true ∧ N - l[i].l ≤ w.span
      · rw [if_pos hx]
        refine ⟨fun c hc => ?_, fun a ha => ?_, fun a ha => ?_, fun c hc => ?_, fun j k hj hk hjk e1 e2 => ?_, fun c hc => ?_, ?_⟩
        · rcases List.mem_or_eq_of_mem_set hc with hc | rfl
          · exact op c hc
          · exact hx.1
        · show a.at_ ≤ W'.n
          rw [hn, hN]
          rcases List.mem_append.1 ha with ha | ha
          · exact at_ a ha
          · have : a = ⟨r, m, N, o, n⟩ := by simpa using ha
            subst this; exact Int.le_refl _
        · have hnew : ({ l[i] with l := N, n := l[i].n + 1 } : Cs) ∈ l.set i { l[i] with l := N, n := l[i].n + 1 } := List.mem_set hi _
          rcases List.mem_append.1 ha with ha | ha
          · obtain ⟨c, hc, h1, h2, h3⟩ := in_ a ha
            by_cases e : c.r = r ∧ c.m = m
            · exact ⟨_, hnew, c2.1.trans (e.1.symm.trans h1), c2.2.trans (e.2.symm.trans h2), by have := hat a ha (h1.symm.trans e.1) (h2.symm.trans e.2); show a.at_ ≤ N; omega⟩
            · refine ⟨c, ?_, h1, h2, h3⟩
              obtain ⟨j, hj, rfl⟩ := List.mem_iff_getElem.1 hc
              have hji : i ≠ j := fun e' => by subst e'; exact e c2
              exact List.mem_iff_getElem.2 ⟨j, by rw [List.length_set]; exact hj, by rw [List.getElem_set_ne hji]⟩
          · have : a = ⟨r, m, N, o, n⟩ := by simpa using ha
            subst this
            exact ⟨_, hnew, c2.1, c2.2, Int.le_refl _⟩
        · show _ ∧ _ ≤ W'.n
          rw [hn, hN]
          rcases List.mem_or_eq_of_mem_set hc with hc | rfl
          · exact le c hc
          · exact ⟨by show l[i].f ≤ N; omega, Int.le_refl _⟩
        · dsimp only at hj hk e1 e2 ⊢
          rw [List.length_set] at hj hk
          rw [List.getElem_set] at e1 e2 ⊢
          rw [List.getElem_set] at e1 e2 ⊢
          by_cases hij : i = j
          · subst hij
            have hik : ¬ i = k := by omega
            simp only [if_true, if_neg hik] at e1 e2 ⊢
            exact absurd ⟨e1.symm.trans c2.1, e2.symm.trans c2.2⟩ (c3 k hk hjk)
          · by_cases hik : i = k
            · subst hik
              simp only [if_true, if_neg hij] at e1 e2 ⊢
              exact dis j i hj hi hjk e1 e2
            · simp only [if_neg hij, if_neg hik] at e1 e2 ⊢
              exact dis j k hj hk hjk e1 e2
        · dsimp only at hc ⊢
          rw [cntA_snoc]
          obtain ⟨j, hj, rfl⟩ := List.mem_iff_getElem.1 hc
          rw [List.length_set] at hj
          rw [List.getElem_set]
          by_cases hij : i = j
          · subst hij
            simp only [if_true]
            have e0 : cntA { l[i] with l := N, n := l[i].n + 1 } out = cntA l[i] out := by
              unfold cntA
              congr 1
              refine List.filter_congr fun a ha => ?_
              unfold inCs
              dsimp only
              by_cases e1 : a.r = l[i].r <;> by_cases e2 : a.m = l[i].m <;> simp [e1, e2]
              have := hat a ha (e1.trans c2.1) (e2.trans c2.2)
              rw [decide_eq_true (show a.at_ ≤ N by omega), decide_eq_true this]
            rw [e0, if_pos (by unfold inCs; simp [c2.1, c2.2]; omega)]
            have := cnt _ (List.getElem_mem hi)
            show ((cntA l[i] out + 1 : Nat) : Int) = l[i].n + 1
            omega
          · rw [if_neg hij]
            have hne : ¬ inCs l[j] ⟨r, m, N, o, n⟩ = true := by
              unfold inCs
              simp only [Bool.and_eq_true, decide_eq_true_eq]
              rintro ⟨⟨⟨h1, h2⟩, -⟩, h4⟩
              by_cases hlt : i < j
              · exact c3 j hj hlt ⟨h1.symm, h2.symm⟩
              · have := dis j i hj hi (by omega) (h1.symm.trans c2.1.symm) (h2.symm.trans c2.2.symm)
                omega
            rw [if_neg hne]
            exact cnt _ (List.getElem_mem hj)
        · dsimp only
          rw [sum_set l i _ hi, sum, List.length_append]
          simp; omega
      · rw [if_neg hx]
        have hlt : l[i].l < N := by
          have := op _ (List.getElem_mem hi)
          by_cases hh : N - l[i].l ≤ w.span
          · exact absurd ⟨this, hh⟩ hx
          · omega
        refine ⟨fun c hc => ?_, fun a ha => ?_, fun a ha => ?_, fun c hc => ?_, fun j k hj hk hjk e1 e2 => ?_, fun c hc => ?_, ?_⟩
        · rcases List.mem_append.1 hc with hc | hc
          · exact op c hc
          · have : c = ⟨r, m, N, N, 1, true⟩ := by simpa using hc
            subst this; rfl
        · show a.at_ ≤ W'.n
          rw [hn, hN]
          rcases List.mem_append.1 ha with ha | ha
          · exact at_ a ha
          · have : a = ⟨r, m, N, o, n⟩ := by simpa using ha
            subst this; exact Int.le_refl _
        · rcases List.mem_append.1 ha with ha | ha
          · obtain ⟨c, hc, hh⟩ := in_ a ha
            exact ⟨c, List.mem_append_left _ hc, hh⟩
          · have : a = ⟨r, m, N, o, n⟩ := by simpa using ha
            subst this
            exact ⟨_, List.mem_append_right _ (List.mem_singleton.2 rfl), rfl, rfl, Int.le_refl _⟩
        · show _ ∧ _ ≤ W'.n
          rw [hn, hN]
          rcases List.mem_append.1 hc with hc | hc
          · exact le c hc
          · have : c = ⟨r, m, N, N, 1, true⟩ := by simpa using hc
            subst this; exact ⟨Int.le_refl _, Int.le_refl _⟩
        · dsimp only at hj hk e1 e2 ⊢
          rw [List.length_append, List.length_singleton] at hj hk
          have hjl : j < l.length := by omega
          rw [List.getElem_append_left hjl] at e1 e2 ⊢
          by_cases hkl : k < l.length
          · rw [List.getElem_append_left hkl] at e1 e2 ⊢
            exact dis j k hjl hkl hjk e1 e2
          · have : k = l.length := by omega
            subst this
            simp only [List.getElem_append_right (Nat.le_refl _), Nat.sub_self, List.getElem_cons_zero] at e1 e2 ⊢
            have := hall _ (List.getElem_mem hjl) e1 e2
            omega
        · dsimp only at hc ⊢
          rw [cntA_snoc]
          rcases List.mem_append.1 hc with hc | hc
          · have hne : ¬ inCs c ⟨r, m, N, o, n⟩ = true := by
              unfold inCs
              simp only [Bool.and_eq_true, decide_eq_true_eq]
              rintro ⟨⟨⟨h1, h2⟩, -⟩, h4⟩
              have := hall c hc h1.symm h2.symm
              omega
            rw [if_neg hne]
            exact cnt c hc
          · have : c = ⟨r, m, N, N, 1, true⟩ := by simpa using hc
            subst this
            have h0 : cntA ⟨r, m, N, N, 1, true⟩ out = 0 := by
              unfold cntA
              rw [List.length_eq_zero_iff, List.filter_eq_nil_iff]
              intro a ha hh
              unfold inCs at hh
              simp only [Bool.and_eq_true, decide_eq_true_eq] at hh
              have := hat a ha hh.1.1.1 hh.1.1.2
              have := hh.1.2
              omega
            rw [h0, if_pos (by unfold inCs; simp)]
            rfl
        · dsimp only
          rw [List.map_append, List.sum_append, sum, List.length_append]
          simp
theorem PcI.ev {z : Wt × List Al} (h : PcI z) {w : Wn} (hw : 1 ≤ w.span) (e : Ev) : PcI (Wt.ev w z e) := by
  have h0 : PcI (z.1.tick w, z.2) := h.mono rfl rfl (by show z.1.n ≤ z.1.n + 1; omega)
  unfold Wt.ev
  split
  · have hE : ∀ W : Wt, (W.ack0 e).n = W.n ∧ (W.ack0 e).cs = W.cs := fun W => by
      unfold Wt.ack0
      have := Wt.chg_eq ({ W with K := fun x => if x = e.id then some ⟨e.mb, e.sd, false⟩ else W.K x, A := fun x => if x = e.mb then true else W.A x } : Wt) e.mb (fun p => { p with o := p.o + 1 })
      exact ⟨this.1, this.2.2.2.2⟩
    have h1 : PcI ((z.1.tick w).ack0 e, z.2) := h0.mono rfl (hE _).2 (Int.le_of_eq (hE _).1.symm)
    unfold Wt.acks
    split
    · exact h1.al hw _ _ _ _
    · exact h1
  · split
    · have hE : ∀ W : Wt, (W.trade1 e).n = W.n ∧ (W.trade1 e).cs = W.cs := fun W => by
        unfold Wt.trade1 Wt.trade0
        dsimp only
        constructor
        · rw [(Wt.chg_eq _ _ _).1, (Wt.chg_eq _ _ _).1, (Wt.chg_eq _ _ _).1, (Wt.chg_eq _ _ _).1]; rfl
        · rw [(Wt.chg_eq _ _ _).2.2.2.2, (Wt.chg_eq _ _ _).2.2.2.2, (Wt.chg_eq _ _ _).2.2.2.2, (Wt.chg_eq _ _ _).2.2.2.2]; rfl
      have h1 : PcI ((z.1.tick w).trade1 e, z.2) := h0.mono rfl (hE _).2 (Int.le_of_eq (hE _).1.symm)
      have h2 : PcI ((z.1.tick w).wash w z.2 e) := by
        unfold Wt.wash
        split
        · exact h1.al hw _ _ _ _
        · exact h1
      unfold Wt.trades jump
      dsimp only
      split
      · exact h2
      · split
        · exact h2.al hw _ _ _ _
        · exact h2
    · split
      · unfold Wt.cancels
        dsimp only
        split
        · exact h0
        · rename_i k _
          have hc := Wt.chg_eq (z.1.tick w) k.m (fun p => { p with c := p.c + 1 })
          have h1 : PcI ((z.1.tick w).chg k.m (fun p => { p with c := p.c + 1 }), z.2) := h0.mono rfl hc.2.2.2.2 (Int.le_of_eq hc.1.symm)
          split
          · exact h1
          · have h2 : PcI (((z.1.tick w).chg k.m (fun p => { p with c := p.c + 1 })).fresh k, z.2) := h1.mono rfl rfl (Int.le_refl _)
            split
            · exact h2.al hw _ _ _ _
            · exact h2
      · exact h0
theorem PcI.add {w : Wn} (hw : 1 ≤ w.span) : ∀ (l : List Ev) {z : Wt × List Al}, PcI z → PcI (Wt.add w z l)
  | [], _, h => h
  | e :: l, _, h => PcI.add hw l (h.ev hw e)
theorem PcI.new : PcI (Wt.new, []) := ⟨by simp [Wt.new], by simp, by simp, by simp [Wt.new], fun i j hi => absurd hi (by simp [Wt.new]), by simp [Wt.new], by simp [Wt.new]⟩
end Go.Proofs.Ytcbppikkoelimaa

/- SurveilPieces: the law. -/
namespace Go.Proofs.Ytcbppikkoelimaa
open Go.V
set_option linter.unusedVariables false
set_option linter.unusedSimpArgs false

theorem al_app (w : Wn) (out : List Al) (z : Wt × List Al) (r m o n : Int) : Wt.al w (z.1, out ++ z.2) r m o n = ((Wt.al w z r m o n).1, out ++ (Wt.al w z r m o n).2) := by
  unfold Wt.al; split <;> simp [List.append_assoc]
theorem jump_app (w : Wn) (out : List Al) (z : Wt × List Al) (p m id : Int) : jump w (z.1, out ++ z.2) p m id = ((jump w z p m id).1, out ++ (jump w z p m id).2) := by
  unfold jump
  dsimp only
  split
  · rfl
  · split
    · exact al_app w out z _ _ _ _
    · rfl
theorem wash_app (w : Wn) (W : Wt) (out o : List Al) (e : Ev) : Wt.wash w W (out ++ o) e = ((Wt.wash w W o e).1, out ++ (Wt.wash w W o e).2) := by
  unfold Wt.wash
  split
  · exact al_app w out (W.trade1 e, o) _ _ _ _
  · rfl
theorem ev_app (w : Wn) (out : List Al) (z : Wt × List Al) (e : Ev) : Wt.ev w (z.1, out ++ z.2) e = ((Wt.ev w z e).1, out ++ (Wt.ev w z e).2) := by
  unfold Wt.ev
  dsimp only
  split
  · unfold Wt.acks
    dsimp only
    split
    · exact al_app w out (_, z.2) _ _ _ _
    · rfl
  · split
    · unfold Wt.trades
      dsimp only
      rw [wash_app]
      exact jump_app w out _ _ _ _
    · split
      · unfold Wt.cancels
        dsimp only
        split
        · rfl
        · split
          · rfl
          · split
            · exact al_app w out (_, z.2) _ _ _ _
            · rfl
      · rfl
theorem add_app2 (w : Wn) (out : List Al) : ∀ (l : List Ev) (z : Wt × List Al), Wt.add w (z.1, out ++ z.2) l = ((Wt.add w z l).1, out ++ (Wt.add w z l).2)
  | [], z => rfl
  | e :: l, z => by
    show Wt.add w (Wt.ev w (z.1, out ++ z.2) e) l = _
    rw [ev_app]
    exact add_app2 w out l (Wt.ev w z e)
theorem add_out (w : Wn) (z : Wt × List Al) (l : List Ev) : Wt.add w z l = ((Wt.add w (z.1, []) l).1, z.2 ++ (Wt.add w (z.1, []) l).2) := by
  have := add_app2 w z.2 l (z.1, [])
  rw [List.append_nil] at this
  exact this
def PR (wn : Wn) (l : List Ev) (k : Nat) : Wt × List Al := Wt.add wn (Wt.new, []) (l.take k)
theorem PR_cut (wn : Wn) (l : List Ev) {a b : Nat} (h : a ≤ b) : PR wn l b = ((Wt.add wn ((PR wn l a).1, []) ((l.drop a).take (b - a))).1, (PR wn l a).2 ++ (Wt.add wn ((PR wn l a).1, []) ((l.drop a).take (b - a))).2) := by
  obtain ⟨k, rfl⟩ := Nat.exists_eq_add_of_le h
  rw [Nat.add_sub_cancel_left]
  unfold PR
  rw [List.take_add, Wt.add_app]
  exact add_out _ _ _
theorem PR_bd (wn : Wn) (l : List Ev) {k : Nat} (h : k ≤ l.length) : (PR wn l k).1.Bd 0 ∧ (PR wn l k).1.n = k ∧ (PR wn l k).2.length ≤ 2 * k := by
  have := Wt.Bd.add (w := wn) (l.take k) (z := (Wt.new, [])) Wt.Bd.new
  rw [List.length_take, Nat.min_eq_left h] at this
  obtain ⟨h1, h2, h3⟩ := this
  refine ⟨h1, by rw [PR, h2]; show (0 : Int) + _ = _; omega, by unfold PR; simpa using h3⟩
theorem rd_piece {w : World} {no : List Nat} {A : Option Addr} {cap : Nat} {l : List Ev} {a c : Nat} (h : Rd w no A (erows l)) (hc : l.length ≤ cap) : Rd w no (cutA A cap a 13) (erows ((l.drop a).take (c - a))) := by
  have h1 := Rd.take (Rd.cut h (k := a) (cap := cap) (m := 13) (by rw [erows_length]; omega)) ((c - a) * 13)
  unfold erows at h1 ⊢
  rw [rows_take Ev.cells 13 (fun _ => rfl), rows_drop Ev.cells 13 (fun _ => rfl)]
  exact h1
theorem sumN_nonneg : ∀ (l : List Cs), (∀ c ∈ l, 0 ≤ c.n) → 0 ≤ (l.map Cs.n).sum
  | [], _ => by simp
  | c :: l, h => by
    have h1 := h c List.mem_cons_self
    have h2 := sumN_nonneg l fun c hc => h c (List.mem_cons_of_mem _ hc)
    simp only [List.map_cons, List.sum_cons]; omega
theorem sumN_take (l : List Cs) (h : ∀ c ∈ l, 0 ≤ c.n) (i : Nat) : 0 ≤ ((l.take i).map Cs.n).sum ∧ ((l.take i).map Cs.n).sum ≤ (l.map Cs.n).sum := by
  have h1 := sumN_nonneg (l.take i) fun c hc => h c (List.mem_of_mem_take hc)
  have h2 := sumN_nonneg (l.drop i) fun c hc => h c (List.mem_of_mem_drop hc)
  have h3 : (l.map Cs.n).sum = ((l.take i).map Cs.n).sum + ((l.drop i).map Cs.n).sum := by
    rw [← List.sum_append, ← List.map_append, List.take_append_drop]
  omega
theorem sumN_snoc (l : List Cs) {i : Nat} (h : i < l.length) : ((l.take (i + 1)).map Cs.n).sum = ((l.take i).map Cs.n).sum + l[i].n := by
  rw [take_snoc h, List.map_append, List.sum_append]; simp
theorem cntA_take (c : Cs) (l : List Al) {j : Nat} (h : j < l.length) : cntA c (l.take (j + 1)) = cntA c (l.take j) + if inCs c l[j] = true then 1 else 0 := by
  rw [take_snoc h, cntA_snoc]
theorem cntA_le (c : Cs) (l : List Al) : cntA c l ≤ l.length := List.length_filter_le _ _
local macro "hpsub" : tactic => `(tactic| (intro y hy; first | exact List.mem_append_left _ hy | exact List.mem_append_right _ (List.mem_append_left _ hy) | exact List.mem_append_right _ (List.mem_append_right _ (List.mem_append_left _ hy)) | exact List.mem_append_right _ (List.mem_append_right _ (List.mem_append_right _ (List.mem_append_left _ hy))) | exact List.mem_append_right _ (List.mem_append_right _ (List.mem_append_right _ (List.mem_append_right _ (List.mem_append_left _ hy)))) | exact List.mem_append_right _ (List.mem_append_right _ (List.mem_append_right _ (List.mem_append_right _ (List.mem_append_right _ (List.mem_append_left _ hy)))))))
structure PLS where
  i : Nat
  fr : Nat
  z : WZ
  v : Value
  k : Hp
set_option maxRecDepth 20000 in
set_option maxHeartbeats 16000000 in
theorem SurveilPieces_ok (w : World) (wn : Wn) (A : Option Addr) (cap : Nat) (l : List Ev) (Az : Option Addr) (capz : Nat) (zs : List Int) (hA : Rd w [] A (erows l)) (hcap : l.length ≤ cap) (hz : Rd w [] Az (ints .i64 zs)) (hb : l.length ≤ 1200000) (hbz : zs.length ≤ 1200000) :
    Is Try.prog 4 [.agg ⟨wn.cells⟩, .slice A l.length cap, .slice Az zs.length capz] w (.bool true) := by
  refine Does.pure (Does.of (n := 216) Try.func4 rfl rfl rfl rfl ?_)
  refine .seq ((.region (.nw (.box (l := wn.cells) rfl rfl) fun b3 => (.v (.assign rfl) (.nil ?_)))))
  by_cases hc : wn.Can
  case neg =>
    refine .seq ((.region (.v (.loadA (vs := wn.cells) rfl .whole rfl) (.pc rfl rfl (fun w s => SNew_no w hc) ?_))))
    refine .v (.move rfl) (.v (.extract rfl rfl) (.v (.extract rfl rfl) (.v (.assign rfl) (.v (.assign rfl) (.nil ?_)))))
    refine .seq ((.region (.v (.loadA (vs := wn.cells) rfl .whole rfl) (.pc rfl rfl (fun w s => SNew_no w hc) ?_))))
    refine .v (.move rfl) (.v (.extract rfl rfl) (.v (.extract rfl rfl) (.v (.assign rfl) (.v (.assign rfl) (.nil ?_)))))
    refine .seq (.seq ((.region (.v (.move rfl) (.v (.move rfl) (.v (.nei rfl rfl) (.v (.move rfl) (.or (b2 := false) 33 38 5 5 rfl rfl (fun g1 => .v (.move rfl) (.v (.eql_ptr_nil rfl rfl) (.v (.move rfl) (.v (.eql_ptr_nil rfl rfl) (.v (.neb rfl rfl) (.nil ⟨rfl, rfl, rfl, rfl⟩)))))) (.v (.move rfl) (.or (b2 := false) 40 45 5 5 rfl rfl (fun g2 => .v (.move rfl) (.v (.neq_ptr_nil rfl rfl) (.v (.loadA (vs := wn.cells) rfl .whole rfl) (.pc rfl rfl (fun w s => Valid_no w hc) (.v (.neb rfl rfl) (.nil ⟨rfl, rfl, rfl, rfl⟩)))))) (.nil ?_)))))))))))
    refine .cond_false rfl (.skip ?_)
    refine .seq (.seq ((.region (.v (.move rfl) (.v (.eql_ptr_nil rfl rfl) (.v (.move rfl) (.or (b2 := true) 49 51 2 2 rfl rfl (fun g3 => .v (.move rfl) (.v (.eql_ptr_nil rfl rfl) (.nil ⟨rfl, rfl, rfl, rfl⟩))) (.nil ?_))))))))
    refine .cond_true rfl ?_
    refine .seq ((.region (.v (.move rfl) (.v (.eqi rfl rfl) (.v (.assign rfl) (.nil ?_))))))
    exact .ret ⟨[_], ⟨rfl, trivial⟩, rfl⟩
  refine .seq ((.region (.v (.loadA (vs := wn.cells) rfl .whole rfl) ?_)))
  refine .ef (.call0 rfl rfl fun w s => SNew_yes w hc) ?_
  rintro _ _ ⟨_, ⟨p, zp, rfl, rfl, hIp⟩, rfl⟩
  refine .v (.move rfl) (.v (.extract rfl rfl) (.v (.extract rfl rfl) (.v (.assign rfl) (.v (.assign rfl) (.nil ?_)))))
  refine .seq ((.region (.v (.loadA (vs := wn.cells) rfl .whole rfl) ?_)))
  refine .ef (.call0 rfl rfl fun w s => SNew_yes w hc) ?_
  rintro _ _ ⟨_, ⟨q, zq, rfl, rfl, hIq⟩, rfl⟩
  refine .v (.move rfl) (.v (.extract rfl rfl) (.v (.extract rfl rfl) (.v (.assign rfl) (.v (.assign rfl) (.nil ?_)))))
  refine .seq (.seq ((.region (.v (.move rfl) (.v (.move rfl) (.v (.nei rfl rfl) (.v (.move rfl) (.or (b2 := false) 33 38 5 5 rfl rfl (fun g1 => .v (.move rfl) (.v (.eql_ptr_nil rfl rfl) (.v (.move rfl) (.v (.eql_ptr_nil rfl rfl) (.v (.neb rfl rfl) (.nil ⟨rfl, rfl, rfl, rfl⟩)))))) (.v (.move rfl) (.or (b2 := false) 40 45 5 5 rfl rfl (fun g2 => .v (.move rfl) (.v (.neq_ptr_nil rfl rfl) (.v (.loadA (vs := wn.cells) rfl .whole rfl) (.pc rfl rfl (fun w s => Valid_yes w hc) (.v (.neb rfl rfl) (.nil ⟨rfl, rfl, rfl, rfl⟩)))))) (.nil ?_)))))))))))
  refine .cond_false rfl (.skip ?_)
  refine .seq (.seq ((.region (.v (.move rfl) (.v (.eql_ptr_nil rfl rfl) (.v (.move rfl) (.or (b2 := false) 49 51 2 2 rfl rfl (fun g3 => .v (.move rfl) (.v (.eql_ptr_nil rfl rfl) (.nil ⟨rfl, rfl, rfl, rfl⟩))) (.nil ?_))))))))
  refine .cond_false rfl (.skip ?_)
  -- all at once
  refine .seq ((.region (.v (.move rfl) (.ef (.buildSlice (out := []) rfl (by decide) rfl rfl) ?_))))
  rintro _ _ ⟨b56, rfl, rfl⟩
  refine .v (.move rfl) ?_
  refine .ef (.append (c := 0) (k := l.length) (vs := []) (news := erows l) (h := [(b56, .cells [] 34)]) rfl rfl ⟨rfl, .inr ⟨b56, 0, 0, [], rfl, rfl, by omega, by simp, by simp⟩⟩ TakeI.out (fun w' s => (hA.keep0 s).src (erows_length l) (by omega)) (erows_length l) (erows_ones _) (by omega) (by omega)) ?_
  rintro vl _ ⟨hl, ol, rfl⟩
  rw [Nat.zero_add, List.nil_append] at ol
  obtain ⟨Al1, kl1, rfl⟩ := OwnS.slice ol
  have hall : Wt.add wn (Wt.new, []) l = PR wn l l.length := by unfold PR; rw [List.take_length]
  have haddp : ∀ (w : World) (Al : Option Addr) (kl : Nat), Rd w (bl (WZ.H p wn 0 zp)) Al (erows l) → Does Try.prog 9 [.pointer (some ⟨p.b, 0, none⟩), .slice Al l.length kl] (WZ.H p wn 0 zp) w (StepP p wn l.length (PR wn l l.length)) := by
    intro w Al kl r
    have := add_ok w p wn hc hIp Wt.Bd.new l Al kl r (by show (0 : Int) + _ ≤ _; omega)
    rw [hall, show Wt.new.n + (l.length : Int) = l.length by show (0 : Int) + _ = _; omega] at this
    exact this
  refine .ef (.callT (WZ.H p wn 0 zp) rfl rfl fun w s => haddp w Al1 kl1 (OwnS.rd ol s (fun y hy => by simp [hy]) (Sat.apart (a := hl) (b := WZ.H p wn 0 zp) s))) ?_
  rintro v1 _ ⟨_, ⟨zp', k1, rfl, hIp', o1⟩, rfl⟩
  refine .v (.assign rfl) (.nil ?_)
  clear haddp
  obtain ⟨hBl, hnl, hll⟩ := PR_bd wn l (Nat.le_refl l.length)
  have hpc : PcI (PR wn l l.length) := PcI.add hc.1.1 _ PcI.new
  refine .seq ((.region (.ef (.buildSlice (out := []) rfl (by decide) rfl rfl) ?_)))
  rintro _ _ ⟨b60, rfl, rfl⟩
  refine .v (.assign rfl) (.nil ?_)
  refine .keep (WZ.H q wn ((0 : Nat) : Int) zq ++ ([(b60, Ch.cells [] 46)] ++ (WZ.H p wn (l.length : Int) zp' ++ k1))) ?_
  refine .seq ((.region (.v (.assign rfl) (.nil ?_))))
  refine .seq (.seq ((.region (.v (.assign rfl) (.nil ?_)))))
  obtain ⟨A1, c1, rfl⟩ := OwnS.slice o1
  refine .block (.loop (X := PLS) (fun x => [(1, .slice A l.length cap), (2, .slice Az zs.length capz), (7, .pointer (some ⟨p.b, 0, none⟩)), (9, .pointer (some ⟨q.b, 0, none⟩)), (11, .slice A1 (PR wn l l.length).2.length c1), (12, x.v), (13, .int .i64 x.fr), (14, .int .i64 x.i)]) (fun x => WZ.H q wn x.fr x.z ++ (x.k ++ (WZ.H p wn (l.length : Int) zp' ++ k1))) (fun x => (x.i ≤ zs.length ∧ x.fr ≤ l.length) ∧ WI (PR wn l x.fr).1 x.z ∧ AlOwn x.v (PR wn l x.fr).2 x.k) (fun x => zs.length - x.i) ⟨0, 0, zq, .slice (some ⟨b60, 0, none⟩) 0 0, [(b60, Ch.cells [] 46)]⟩ ⟨⟨Nat.zero_le _, Nat.zero_le _⟩, hIq, ⟨rfl, .inr ⟨b60, 0, 0, [], rfl, rfl, Nat.le_refl 0, Nat.le_refl 0, rfl⟩⟩⟩ (.cons rfl (.cons rfl (.cons rfl (.cons rfl (.cons rfl (.cons rfl (.cons rfl (.cons rfl (.nil _))))))))) (fun _ s => s) ?_)
  rintro ⟨i, fr, z, v, k⟩ ⟨⟨hi, hfr⟩, hI, ho⟩
  dsimp only at hi hfr hI ho ⊢
  obtain ⟨hB, hn, hol⟩ := PR_bd wn l hfr
  obtain ⟨Ao, ko, rfl⟩ := OwnS.slice ho
  -- a piece
  have hadd : ∀ (c : Nat), fr ≤ c → c ≤ l.length → ∀ (w : World) (Al : Option Addr) (kl : Nat), Rd w (bl (WZ.H q wn fr z)) Al (erows ((l.drop fr).take (c - fr))) → Does Try.prog 9 [.pointer (some ⟨q.b, 0, none⟩), .slice Al (c - fr) kl] (WZ.H q wn fr z) w (StepP q wn c (Wt.add wn ((PR wn l fr).1, []) ((l.drop fr).take (c - fr)))) := by
    intro c h1 h2 w Al kl r
    have hpl : ((l.drop fr).take (c - fr)).length = c - fr := by rw [List.length_take, List.length_drop]; omega
    have := add_ok w q wn hc hI hB ((l.drop fr).take (c - fr)) Al kl (by rw [hn]; exact r) (by rw [hn, hpl]; omega)
    rw [hn, hpl, show ((fr : Int) + ((c - fr : Nat) : Int)) = (c : Int) by omega] at this
    exact this
  have hpl : ∀ c : Nat, c ≤ l.length → (erows ((l.drop fr).take (c - fr))).length = (c - fr) * 13 := fun c h2 => by
    rw [erows_length, List.length_take, List.length_drop, Nat.min_eq_left (by omega)]
  refine .seq (.seq ((.region (.v (.move rfl) (.v (.move rfl) (.v (.len rfl) (.v (.lss rfl rfl) (.nil ?_))))))))
  refine .cond_dec rfl (fun h3 => .skip ?_) (fun h3 => .exit ?_)
  · have hil : i < zs.length := by omega
    obtain ⟨bz, oz, rfl, hat⟩ : ∃ b o, Az = some ⟨b, o, none⟩ ∧ ∀ hs, At w [] hs ⟨b, o + (i : Int).toNat, none⟩ [.int .i64 zs[i]] := by
      obtain ⟨b, o, e, _⟩ := hz.base (by simp [ints]; omega)
      subst e
      exact ⟨b, o, rfl, fun hs => Rd.cell hz (i := i) (by simp [ints, List.getElem?_eq_getElem hil])⟩
    generalize zs[i] = y at hat
    refine .mid (X := PLS) (fun x => [(1, .slice A l.length cap), (2, .slice (some ⟨bz, oz, none⟩) zs.length capz), (7, .pointer (some ⟨p.b, 0, none⟩)), (9, .pointer (some ⟨q.b, 0, none⟩)), (11, .slice A1 (PR wn l l.length).2.length c1), (12, x.v), (13, .int .i64 x.fr), (14, .int .i64 i)]) (fun x => WZ.H q wn x.fr x.z ++ (x.k ++ (WZ.H p wn (l.length : Int) zp' ++ k1))) (fun x => x.fr ≤ l.length ∧ WI (PR wn l x.fr).1 x.z ∧ AlOwn x.v (PR wn l x.fr).2 x.k) (.block (.seq ((.region (.v (.move rfl) (.v (.move rfl) (.v (.indexAddr1 rfl rfl (by omega) (by omega)) (.v (.load (v := .int .i64 y) rfl (hat _)) (.v (.move rfl) (.v (.gtr rfl rfl) (.v (.move rfl) (.and (b2 := decide (y < l.length)) 73 80 7 7 rfl rfl (fun g4 => .v (.move rfl) (.v (.move rfl) (.v (.indexAddr1 rfl rfl (by omega) (by omega)) (.v (.load (v := .int .i64 y) rfl (hat _)) (.v (.move rfl) (.v (.len rfl) (.v (.lss rfl rfl) (.nil ⟨rfl, rfl, rfl, rfl⟩)))))))) (.nil ?_))))))))))))) ?_
    · refine .cond rfl (fun h4 => ?_) (fun h4 => .skip ?_)
      · simp only [Bool.and_eq_true, decide_eq_true_eq] at h4
        obtain ⟨c, rfl⟩ : ∃ c : Nat, y = c := ⟨y.toNat, by omega⟩
        have hc1 : fr ≤ c := by omega
        have hc2 : c ≤ l.length := by omega
        refine .seq ((.region (.v (.move rfl) (.v (.move rfl) (.ef (.buildSlice (out := []) rfl (by decide) rfl rfl) ?_)))))
        rintro _ _ ⟨b84, rfl, rfl⟩
        refine .v (.move rfl) (.v (.move rfl) (.v (.move rfl) (.v (.move rfl) (.v (.indexAddr1 rfl rfl (by omega) (by omega)) (.v (.load (v := .int .i64 c) rfl (hat _)) (.v (.slLoHi rfl rfl rfl (by omega) (by omega) (by omega)) ?_))))))
        refine .ef (.append (c := 0) (k := c - fr) (vs := []) (news := erows ((l.drop fr).take (c - fr))) (h := [(b84, .cells [] 34)]) rfl rfl ⟨rfl, .inr ⟨b84, 0, 0, [], rfl, rfl, by omega, by simp, by simp⟩⟩ TakeI.out (fun w' s => (rd_piece (hA.keep0 s) hcap).src (hpl c hc2) (by omega)) (hpl c hc2) (erows_ones _) (by omega) (by omega)) ?_
        rintro vl _ ⟨hl', ol', rfl⟩
        rw [Nat.zero_add, List.nil_append] at ol'
        obtain ⟨Al2, kl2, rfl⟩ := OwnS.slice ol'
        refine .ef (.callT (WZ.H q wn fr z) rfl rfl fun w s => hadd c hc1 hc2 w Al2 kl2 (OwnS.rd ol' s (fun y hy => by simp [hy]) (Sat.apart (a := hl') (b := WZ.H q wn fr z) s))) ?_
        rintro v2 _ ⟨_, ⟨z', k2, rfl, hI', o2⟩, rfl⟩
        have hcut := PR_cut wn l hc1
        generalize Wt.add wn ((PR wn l fr).1, []) ((l.drop fr).take (c - fr)) = R at hI' o2 hcut
        have hR2 : R.2.length ≤ 2400000 := by
          have := (PR_bd wn l hc2).2.2
          rw [hcut, List.length_append] at this
          omega
        refine .ef (.append (c := (PR wn l fr).2.length) (k := R.2.length) (vs := alrows (PR wn l fr).2) (news := alrows R.2) (h := k) rfl rfl ho TakeI.out (fun w' s => OwnS.src o2 s (fun y hy => by simp [hy]) (by omega)) (alrows_length _) (alrows_ones _) (by omega) (by omega)) ?_
        rintro v3 _ ⟨k3, o3, rfl⟩
        refine .v (.assign rfl) (.nil ?_)
        refine .region (.v (.move rfl) (.v (.move rfl) (.v (.indexAddr1 rfl rfl (by omega) (by omega)) (.v (.load (v := .int .i64 c) rfl (hat _)) (.v (.assign rfl) (.nil ?_))))))
        refine ⟨⟨0, c, z', v3, k3⟩, ⟨hc2, by rw [hcut]; exact hI', ?_⟩, .cons rfl (.cons rfl (.cons rfl (.cons rfl (.cons rfl (.cons rfl (.cons rfl (.cons rfl (.nil _)))))))), fun _ s => s.take⟩
        show OwnS _ _ _ _ _ _
        rw [hcut]
        have e1 : alrows ((PR wn l fr).2 ++ R.2) = alrows (PR wn l fr).2 ++ alrows R.2 := by unfold alrows; rw [List.flatMap_append]
        show OwnS _ _ _ ((PR wn l fr).2 ++ R.2).length (alrows ((PR wn l fr).2 ++ R.2)) _
        rw [e1, List.length_append]
        exact o3
      · exact ⟨⟨0, fr, z, _, k⟩, ⟨hfr, hI, ho⟩, .cons rfl (.cons rfl (.cons rfl (.cons rfl (.cons rfl (.cons rfl (.cons rfl (.cons rfl (.nil _)))))))), fun _ s => s⟩
    · rintro ⟨_, fr', z', v', k'⟩ ⟨hfr', hI', ho'⟩
      dsimp only at hfr' hI' ho' ⊢
      refine .region (.v (.move rfl) (.v (.addi rfl rfl (by omega)) (.v (.assign rfl) (.nil ?_))))
      exact ⟨⟨i + 1, fr', z', v', k'⟩, ⟨⟨hil, hfr'⟩, hI', ho'⟩, by show zs.length - (i + 1) < _; omega, .cons rfl (.cons rfl (.cons rfl (.cons rfl (.cons rfl (.cons rfl (.cons rfl (.cons rfl (.nil _)))))))), fun _ s => s⟩
  -- the rest
  have hc1 : fr ≤ l.length := hfr
  refine .seq ((.region (.v (.move rfl) (.v (.move rfl) (.ef (.buildSlice (out := []) rfl (by decide) rfl rfl) ?_)))))
  rintro _ _ ⟨b84, rfl, rfl⟩
  refine .v (.move rfl) (.v (.move rfl) (.v (.slLo rfl rfl (by omega) (by omega)) ?_))
  refine .ef (.append (c := 0) (k := l.length - fr) (vs := []) (news := erows ((l.drop fr).take (l.length - fr))) (h := [(b84, .cells [] 34)]) rfl rfl ⟨rfl, .inr ⟨b84, 0, 0, [], rfl, rfl, by omega, by simp, by simp⟩⟩ TakeI.out (fun w' s => (rd_piece (hA.keep0 s) hcap).src (hpl l.length (Nat.le_refl _)) (by omega)) (hpl l.length (Nat.le_refl _)) (erows_ones _) (by omega) (by omega)) ?_
  rintro vl _ ⟨hl', ol', rfl⟩
  rw [Nat.zero_add, List.nil_append] at ol'
  obtain ⟨Al2, kl2, rfl⟩ := OwnS.slice ol'
  refine .ef (.callT (WZ.H q wn fr z) rfl rfl fun w s => hadd l.length hc1 (Nat.le_refl _) w Al2 kl2 (OwnS.rd ol' s (fun y hy => by simp [hy]) (Sat.apart (a := hl') (b := WZ.H q wn fr z) s))) ?_
  rintro v2 _ ⟨_, ⟨z', k2, rfl, hI', o2⟩, rfl⟩
  have hcut := PR_cut wn l hc1
  generalize Wt.add wn ((PR wn l fr).1, []) ((l.drop fr).take (l.length - fr)) = R at hI' o2 hcut
  have hR2 : R.2.length ≤ 2400000 := by
    rw [hcut, List.length_append] at hll
    omega
  refine .ef (.append (c := (PR wn l fr).2.length) (k := R.2.length) (vs := alrows (PR wn l fr).2) (news := alrows R.2) (h := k) rfl rfl ho TakeI.out (fun w' s => OwnS.src o2 s (fun y hy => by simp [hy]) (by omega)) (alrows_length _) (alrows_ones _) (by omega) (by omega)) ?_
  rintro v3 _ ⟨k3, o3, rfl⟩
  refine .v (.assign rfl) (.nil ?_)
  have o3' : AlOwn v3 (PR wn l l.length).2 k3 := by
    rw [hcut]
    have e1 : alrows ((PR wn l fr).2 ++ R.2) = alrows (PR wn l fr).2 ++ alrows R.2 := by unfold alrows; rw [List.flatMap_append]
    show OwnS _ _ _ ((PR wn l fr).2 ++ R.2).length (alrows ((PR wn l fr).2 ++ R.2)) _
    rw [e1, List.length_append]
    exact o3
  have hI2 : WI (PR wn l l.length).1 z' := by rw [hcut]; exact hI'
  clear hcut hI' o2 o3 hadd hpl hI ho hB hn hol hR2
  generalize hX : PR wn l l.length = X at *
  obtain ⟨B1, d1, rfl⟩ := OwnS.slice o3'
  have hcl : X.1.cs.length ≤ 10000000 := by have := hBl.k; omega
  refine .keep (WZ.H q wn (l.length : Int) z' ++ (k3 ++ (WZ.H p wn (l.length : Int) zp' ++ k1))) ?_
  refine .seq (.seq ((.region (.v (.move rfl) (.v (.move rfl) (.pc (v := .bool true) rfl rfl (fun w s => alerts_ok w A1 B1 X.2.length c1 d1 X.2 (OwnS.rd o1 s (no := []) (fun y hy => by simp [hy]) (by simp)) (OwnS.rd o3' s (no := []) (fun y hy => by simp [hy]) (by simp)) rfl (by omega)) ?_))))))
  refine .v (.not rfl) (.v (.move rfl) (.v (.move rfl) (.ef (.call0 rfl rfl fun w s => Cases_ok s p wn (l.length : Int) hIp' (by hpsub) (by omega)) ?_)))
  rintro vc1 _ ⟨hc1', oc1, rfl⟩
  refine .v (.move rfl) (.ef (.call0 rfl rfl fun w s => Cases_ok s q wn (l.length : Int) hI2 (by hpsub) (by omega)) ?_)
  rintro vc2 _ ⟨hc2', oc2, rfl⟩
  obtain ⟨C1, cc1, rfl⟩ := OwnS.slice oc1
  obtain ⟨C2, cc2, rfl⟩ := OwnS.slice oc2
  refine .pc (v := .bool true) rfl rfl (fun w s => cases_ok w C1 C2 X.1.cs.length cc1 cc2 X.1.cs (OwnS.rd oc1 s (no := []) (fun y hy => by simp [hy]) (by simp)) (OwnS.rd oc2 s (no := []) (fun y hy => by simp [hy]) (by simp)) rfl (by omega)) ?_
  refine .v (.not rfl) (.v (.pickF rfl rfl rfl) (.v (.move rfl) (.v (.move rfl) (.pc (v := .int .u64 (l.length : Int)) rfl rfl (fun w s => Count_ok s p wn (l.length : Int) (z := zp') (by hpsub)) ?_))))
  refine .v (.move rfl) (.v (.len rfl) (.v (.convE (l.length : Int) rfl (wrap_u64_in (by omega))) (.v (.no (.nei rfl rfl) (by simp)) (.v (.pickF rfl rfl rfl) (.nil ?_)))))
  refine .cond_false rfl (.skip ?_)
  refine .seq ((.region (.v (.move rfl) (.ef (.call0 rfl rfl fun w s => Cases_ok s p wn (l.length : Int) hIp' (by hpsub) (by omega)) ?_))))
  rintro vc _ ⟨hc', oc, rfl⟩
  refine .v (.assign rfl) (.nil ?_)
  refine .keep (hc' ++ k1) ?_
  refine .seq ((.region (.v (.assign rfl) (.nil ?_))))
  refine .seq (.seq ((.region (.v (.assign rfl) (.nil ?_)))))
  obtain ⟨Cc, ccc, rfl⟩ := OwnS.slice oc
  have hcn : ∀ c ∈ X.1.cs, 0 ≤ c.n := fun c hc => by have := hpc.cnt c hc; omega
  refine .block (.loop (X := Nat) (fun i => [(11, .slice A1 X.2.length c1), (15, .slice Cc X.1.cs.length ccc), (16, .int .i64 ((X.1.cs.take i).map Cs.n).sum), (17, .int .i64 i)]) (fun _ => hc' ++ k1) (fun i => i ≤ X.1.cs.length) (fun i => X.1.cs.length - i) 0 (Nat.zero_le _) (.cons rfl (.cons rfl (.cons rfl (.cons rfl (.nil _))))) (fun _ s => s) ?_)
  rintro i hi
  have hsi := sumN_take X.1.cs hcn i
  have hst := hpc.sum
  refine .seq (.seq ((.region (.v (.move rfl) (.v (.move rfl) (.v (.len rfl) (.v (.lss rfl rfl) (.nil ?_))))))))
  refine .cond_dec rfl (fun h6 => .skip ?_) (fun h6 => .exit ?_)
  · have hil : i < X.1.cs.length := by omega
    refine .seq (.block (.seq ((.region (.v (.assign rfl) (.nil ?_))))))
    refine .seq (.seq ((.region (.v (.assign rfl) (.nil ?_)))))
    obtain ⟨bc, oc_, lc, rfl, -, rfl, -, -, -⟩ := OwnS.some_ oc (by omega)
    have qc := fun hs' hsub k v hv => fldAt Cs.cells 6 (fun _ => rfl) (l := X.1.cs) (i := i) (z := (i : Int)) (OwnS.at0 (w0 := w) (own := []) (hs := hs') oc hsub) hil k (v := v) hv
    have hmem : X.1.cs[i] ∈ X.1.cs := List.getElem_mem hil
    have hcnt := hpc.cnt _ hmem
    have hop := hpc.op _ hmem
    have hsn := sumN_snoc X.1.cs hil
    have hsi' := sumN_take X.1.cs hcn (i + 1)
    generalize X.1.cs[i] = C at qc hcnt hop hsn
    refine .block (.loop (X := Nat) (fun j => [(11, .slice A1 X.2.length c1), (15, .slice (some ⟨bc, oc_, none⟩) X.1.cs.length ccc), (16, .int .i64 ((X.1.cs.take i).map Cs.n).sum), (17, .int .i64 i), (18, .int .i64 (cntA C (X.2.take j) : Nat)), (19, .int .i64 j)]) (fun _ => [(bc, .cells lc 48)] ++ k1) (fun j => j ≤ X.2.length) (fun j => X.2.length - j) 0 (Nat.zero_le _) (.cons rfl (.cons rfl (.cons rfl (.cons rfl (.cons rfl (.cons rfl (.nil _))))))) (fun _ s => s) ?_)
    rintro j hj
    refine .seq (.seq ((.region (.v (.move rfl) (.v (.move rfl) (.v (.len rfl) (.v (.lss rfl rfl) (.nil ?_))))))))
    refine .cond_dec rfl (fun h7 => .skip ?_) (fun h7 => .exit ?_)
    · have hjl : j < X.2.length := by omega
      obtain ⟨ba, oa_, la, rfl, -, rfl, -, -, -⟩ := OwnS.some_ o1 (by omega)
      have qa := fun hs' hsub k v hv => fldAt Al.cells 5 (fun _ => rfl) (l := X.2) (i := j) (z := (j : Int)) (OwnS.at0 (w0 := w) (own := []) (hs := hs') o1 hsub) hjl k (v := v) hv
      have hct := cntA_take C X.2 hjl
      have hcl2 := cntA_le C (X.2.take j)
      rw [List.length_take] at hcl2
      generalize X.2[j] = a at qa hct
      refine .mid (X := Unit) (fun _ => [(11, .slice (some ⟨ba, oa_, none⟩) X.2.length c1), (15, .slice (some ⟨bc, oc_, none⟩) X.1.cs.length ccc), (16, .int .i64 ((X.1.cs.take i).map Cs.n).sum), (17, .int .i64 i), (18, .int .i64 (cntA C (X.2.take (j + 1)) : Nat)), (19, .int .i64 j)]) (fun _ => [(bc, .cells lc 48)] ++ [(ba, .cells la 46)]) (fun _ => True) (.block (.seq ((.drawK [(bc, .cells lc 48), (ba, .cells la 46)] (by intro y hy; simp at hy ⊢; exact hy) (by kernel_rfl) (by kernel_rfl) ?_)))) ?_
      · refine .v (fun _ f => .move rfl) (.v (fun _ f => .move rfl) (.v (fun _ f => .indexAddr rfl rfl (by omega) (by omega)) (.v (fun _ f => .fieldAddr rfl) (.v (fun hs' f => .load (v := .int .i64 a.r) rfl (qa hs' (fun y hy => f (by simp at hy; subst hy; simp)) 0 _ rfl)) (.v (fun _ f => .move rfl) (.v (fun _ f => .move rfl) (.v (fun _ f => .indexAddr rfl rfl (by omega) (by omega)) (.v (fun _ f => .fieldAddr rfl) (.v (fun hs' f => .load (v := .int .i64 C.r) rfl (qc hs' (fun y hy => f (by simp at hy; subst hy; simp)) 0 _ rfl)) (.v (fun _ f => .eqi rfl rfl) (.v (fun _ f => .move rfl) (.and (b2 := decide (a.m = C.m)) 153 164 11 11 rfl rfl (fun g7 => .v (fun _ f => .move rfl) (.v (fun _ f => .move rfl) (.v (fun _ f => .indexAddr rfl rfl (by omega) (by omega)) (.v (fun _ f => .fieldAddr rfl) (.v (fun hs' f => .load (v := .int .u32 a.m) rfl (qa hs' (fun y hy => f (by simp at hy; subst hy; simp)) 1 _ rfl)) (.v (fun _ f => .move rfl) (.v (fun _ f => .move rfl) (.v (fun _ f => .indexAddr rfl rfl (by omega) (by omega)) (.v (fun _ f => .fieldAddr rfl) (.v (fun hs' f => .load (v := .int .u32 C.m) rfl (qc hs' (fun y hy => f (by simp at hy; subst hy; simp)) 1 _ rfl)) (.v (fun _ f => .eqi rfl rfl) (.nil ⟨rfl, rfl, rfl, rfl⟩)))))))))))) (.v (fun _ f => .move rfl) (.and (b2 := decide (C.f ≤ a.at_)) 166 177 11 11 rfl rfl (fun g8 => .v (fun _ f => .move rfl) (.v (fun _ f => .move rfl) (.v (fun _ f => .indexAddr rfl rfl (by omega) (by omega)) (.v (fun _ f => .fieldAddr rfl) (.v (fun hs' f => .load (v := .int .u64 a.at_) rfl (qa hs' (fun y hy => f (by simp at hy; subst hy; simp)) 2 _ rfl)) (.v (fun _ f => .move rfl) (.v (fun _ f => .move rfl) (.v (fun _ f => .indexAddr rfl rfl (by omega) (by omega)) (.v (fun _ f => .fieldAddr rfl) (.v (fun hs' f => .load (v := .int .u64 C.f) rfl (qc hs' (fun y hy => f (by simp at hy; subst hy; simp)) 2 _ rfl)) (.v (fun _ f => .geq rfl rfl) (.nil ⟨rfl, rfl, rfl, rfl⟩)))))))))))) (.v (fun _ f => .move rfl) (.and (b2 := decide (a.at_ ≤ C.l)) 179 190 11 11 rfl rfl (fun g9 => .v (fun _ f => .move rfl) (.v (fun _ f => .move rfl) (.v (fun _ f => .indexAddr rfl rfl (by omega) (by omega)) (.v (fun _ f => .fieldAddr rfl) (.v (fun hs' f => .load (v := .int .u64 a.at_) rfl (qa hs' (fun y hy => f (by simp at hy; subst hy; simp)) 2 _ rfl)) (.v (fun _ f => .move rfl) (.v (fun _ f => .move rfl) (.v (fun _ f => .indexAddr rfl rfl (by omega) (by omega)) (.v (fun _ f => .fieldAddr rfl) (.v (fun hs' f => .load (v := .int .u64 C.l) rfl (qc hs' (fun y hy => f (by simp at hy; subst hy; simp)) 3 _ rfl)) (.v (fun _ f => .leq rfl rfl) (.nil ⟨rfl, rfl, rfl, rfl⟩)))))))))))) (.nil ?_)))))))))))))))))
        refine .cond rfl (fun h8 => ?_) (fun h8 => .skip ?_)
        · have h8' : inCs C a = true := h8
          rw [if_pos h8'] at hct
          refine .region (.v (.move rfl) (.v (.addi rfl rfl (by omega)) (.v (.assign rfl) (.nil ?_))))
          rw [hct]
          exact ⟨(), trivial, .cons rfl (.cons rfl (.cons rfl (.cons rfl (.cons rfl (.cons rfl (.nil _)))))), fun _ s => s⟩
        · have h8' : ¬ inCs C a = true := by
            intro hh
            have : inCs C a = false := h8
            rw [this] at hh; cases hh
          rw [if_neg h8', Nat.add_zero] at hct
          rw [hct]
          exact ⟨(), trivial, .cons rfl (.cons rfl (.cons rfl (.cons rfl (.cons rfl (.cons rfl (.nil _)))))), fun _ s => s⟩
      · rintro _ -
        refine .region (.v (.move rfl) (.v (.addi rfl rfl (by omega)) (.v (.assign rfl) (.nil ?_))))
        exact ⟨j + 1, by omega, by omega, .cons rfl (.cons rfl (.cons rfl (.cons rfl (.cons rfl (.cons rfl (.nil _)))))), fun _ s => s⟩
    · have hjl : j = X.2.length := by omega
      subst hjl
      rw [List.take_length, hcnt]
      refine .seq (.seq ((.region (.v (.move rfl) (.v (.move rfl) (.v (.move rfl) (.v (.indexAddr rfl rfl (by omega) (by omega)) (.v (.fieldAddr rfl) (.v (.load (v := .int .i64 C.n) rfl (qc _ (by intro y hy; simp at hy; subst hy; simp) 4 _ rfl)) (.v (.no (.nei rfl rfl) (by simp)) (.v (.move rfl) (.v (.move rfl) (.v (.move rfl) (.v (.indexAddr rfl rfl (by omega) (by omega)) (.v (.fieldAddr rfl) (.v (.load (v := .bool true) rfl (qc _ (by intro y hy; simp at hy; subst hy; simp) 5 _ (by show some (Value.bool C.op) = _; rw [hop]))) (.v (.not rfl) (.v (.pickF rfl rfl rfl) (.nil ?_)))))))))))))))))))
      refine .cond_false rfl (.skip ?_)
      rw [hsn] at hsi'
      refine .region (.v (.move rfl) (.v (.move rfl) (.v (.addi rfl rfl (by omega)) (.v (.assign rfl) (.nil ?_)))))
      refine .region (.v (.move rfl) (.v (.addi rfl rfl (by omega)) (.v (.assign rfl) (.nil ?_))))
      exact ⟨i + 1, by show i + 1 ≤ _; omega, by omega, .cons rfl (.cons rfl (.cons (by rw [hsn]; rfl) (.cons rfl (.nil _)))), fun _ s => s⟩
  · have hil : i = X.1.cs.length := by omega
    subst hil
    rw [List.take_length, hst]
    refine .seq ((.region (.v (.move rfl) (.v (.move rfl) (.v (.len rfl) (.v (.eqi rfl rfl) (.v (.assign rfl) (.nil ?_))))))))
    exact .ret ⟨[_], ⟨rfl, trivial⟩, vb (by simp)⟩
end Go.Proofs.Ytcbppikkoelimaa

/- SurveilAll: the law. -/
namespace Go.Proofs.Ytcbppikkoelimaa
open Go.V
set_option linter.unusedVariables false
set_option linter.unusedSimpArgs false
set_option maxRecDepth 20000

abbrev EL9 : List Lf := [.i .u64, .i .i64, .i .u64, .i .u64, .i .u64, .i .u32, .i .i64, .i .i64, .i .i64, .i .u64, .i .u64, .i .i64, .i .i64]
theorem Ev.oks9 (o : Ev) : V.oks EL9 o.cells := ⟨rfl, rfl, rfl, rfl, rfl, rfl, rfl, rfl, rfl, rfl, rfl, rfl, rfl, trivial⟩
/-! ### how a run goes -/
structure AllI (wn : Wn) (W : Wt) (D : DW) : Prop where
  R : Rel wn D.al (W, []) D
  B : W.Bd 0
  a : D.al.length ≤ 2 * D.L.length
  o : D.O.length ≤ D.L.length
theorem AllI.new (wn : Wn) : AllI wn Wt.new DW.new := ⟨Rel.new wn, Wt.Bd.new, Nat.le_refl _, Nat.le_refl _⟩
theorem Wt.Bd.close {W : Wt} (h : W.Bd 0) (r m : Int) : (W.close r m).Bd 0 := by
  refine ⟨h.n, h.p, h.z, h.l, h.s, ?_, fun c hc => ?_⟩
  · have := h.k
    show ((closeL r m W.cs).length : Int) ≤ _
    unfold closeL; rw [List.length_map]; exact this
  · obtain ⟨c0, h0, rfl⟩ := List.mem_map.1 hc
    have := h.c c0 h0
    split <;> exact this
theorem AllI.close {wn : Wn} {W : Wt} {D : DW} (h : AllI wn W D) (r m : Int) : AllI wn (W.close r m) (D.close r m) := ⟨h.R.close r m, h.B.close r m, h.a, h.o⟩
theorem alert_O (w : Wn) (D : DW) (r m o n : Int) : (D.alert w r m o n).O = D.O := by unfold DW.alert; split <;> rfl
theorem ev_O (w : Wn) (D : DW) (e : Ev) : (D.ev w e).O.length ≤ D.O.length + 1 := by
  unfold DW.ev
  split
  · unfold DW.acked
    have := dset_len D.O ⟨e.id, e.mb, e.sd, false⟩
    split
    · rw [alert_O]; exact this
    · exact this
  · split
    · have h1 : (D.tr2 w e).O.length = D.O.length := by
        unfold DW.tr2; split
        · rw [alert_O]; show (dtr (dtr D.O e.id) e.other).length = _; rw [dtr_len, dtr_len]
        · show (dtr (dtr D.O e.id) e.other).length = _; rw [dtr_len, dtr_len]
      unfold DW.traded
      split
      · omega
      · split
        · rw [alert_O]; omega
        · omega
    · split
      · unfold DW.cancelled
        split
        · split
          · rw [alert_O]; show D.O.length ≤ _; omega
          · show D.O.length ≤ _; omega
        · show D.O.length ≤ _; omega
      · show D.O.length ≤ _; omega
theorem add_O (w : Wn) : ∀ (l : List Ev) (D : DW), (D.add w l).O.length ≤ D.O.length + l.length
  | [], D => by show D.O.length ≤ _; simp
  | e :: l, D => by
    have h1 := ev_O w D e
    have h2 := add_O w l (D.ev w e)
    show (DW.add w (D.ev w e) l).O.length ≤ _
    rw [List.length_cons]; omega
theorem AllI.add {wn : Wn} (hw : wn.Can) {W : Wt} {D : DW} (h : AllI wn W D) (l : List Ev) : AllI wn (Wt.add wn (W, []) l).1 (D.add wn l) ∧ (D.add wn l).al = D.al ++ (Wt.add wn (W, []) l).2 ∧ (D.add wn l).L.length = D.L.length + l.length ∧ (Wt.add wn (W, []) l).1.n = W.n + l.length := by
  have hR := Rel.add hw l h.R
  obtain ⟨b1, b2, b3⟩ := Wt.Bd.add (w := wn) l (z := (W, [])) h.B
  have hn := h.R.n
  have hn2 := hR.n
  dsimp only at hn b2
  rw [b2] at hn2
  have hL : (D.add wn l).L.length = D.L.length + l.length := by omega
  have ho := add_O wn l D
  have ha := h.a
  have hoo := h.o
  simp only [List.length_nil, Nat.zero_add] at b3
  refine ⟨⟨hR.next, b1, ?_, by omega⟩, hR.a, hL, b2⟩
  rw [hR.a, List.length_append]; omega
theorem AllI.ok {wn : Wn} {W : Wt} {D : DW} (h : AllI wn W D) (hl : D.L.length ≤ 2000000) : D.OkN 0 := by
  have hn := h.R.n
  have hc := h.R.c
  have hk := h.B.k
  have ha := h.a
  have ho := h.o
  dsimp only at hn hc
  rw [hc] at hk
  refine ⟨by omega, by omega, by omega, by omega, fun c hcm => ?_⟩
  have := h.B.c c (by rw [hc]; exact hcm)
  unfold Bdc at this
  omega
/-! ### what comes in -/
structure AcT where
  cl : Bool
  A : Option Addr
  cap : Nat
  evs : List Ev
  r : Int
  m : Int
abbrev AcT.cells (a : AcT) : List Value := [.bool a.cl, .slice a.A a.evs.length a.cap, .int .i64 a.r, .int .u32 a.m]
def evN (L : List AcT) : Nat := (L.map fun a => a.evs.length).sum
theorem evN_take_le : ∀ (L : List AcT) (i : Nat), evN (L.take i) ≤ evN L
  | [], i => by simp [evN]
  | a :: L, 0 => by simp [evN]
  | a :: L, i + 1 => by
    have := evN_take_le L i
    simp only [evN, List.take_succ_cons, List.map_cons, List.sum_cons] at this ⊢
    omega
theorem evN_succ {L : List AcT} {i : Nat} (h : i < L.length) : evN (L.take (i + 1)) = evN (L.take i) + L[i].evs.length := by
  unfold evN; rw [List.take_succ_eq_append_getElem h, List.map_append, List.sum_append]; simp only [List.map_cons, List.map_nil, List.sum_cons, List.sum_nil, Nat.add_zero]
theorem DNew_yes (w : World) {wn : Wn} (h : wn.Can) : Does Try.prog 17 [.agg ⟨wn.cells⟩] [] w (fun v hs => ∃ b z, v = .tuple ⟨[.pointer (some ⟨b, 0, none⟩), .int .i64 0]⟩ ∧ hs = DZ.H b wn z ∧ DI DW.new z) :=
  (DNew_ok w wn).mono fun v hs h' => by
    rcases h' with ⟨_, b, z, e1, e2, e3⟩ | ⟨hn, _⟩
    · exact ⟨b, z, e1, e2, e3⟩
    · exact absurd h hn
theorem DNew_no (w : World) {wn : Wn} (h : ¬ wn.Can) : Is Try.prog 17 [.agg ⟨wn.cells⟩] w (.tuple ⟨[.pointer none, .int .i64 1]⟩) :=
  (DNew_ok w wn).mono fun v hs h' => by
    rcases h' with ⟨hn, _⟩ | ⟨_, e1, e2⟩
    · exact absurd hn h
    · exact ⟨e1, e2⟩
theorem clsV_tup (r m : Int) (l : List Cs) : ∃ c e : Int, clsV r m l = .tuple ⟨[.int .i64 c, .int .i64 e]⟩ := by
  unfold clsV; split <;> exact ⟨_, _, rfl⟩
abbrev e77 : Ev := ⟨0, 77, 0, 0, 0, 0, 0, 0, 0, 0, 0, 0, 0⟩
abbrev e39 : Ev := ⟨0, 3, 0, 0, 0, 0, 0, 0, 9, 0, 0, 0, 0⟩
structure AlSt where
  i : Nat
  W : Wt
  D : DW
  z : WZ
  zd : DZ
structure ALJ where
  j : Nat
  l : List Ev
  h : Hp
structure ALA where
  j : Nat
  l : List Al
  h : Hp
theorem erows_app' (a b : List Ev) : erows (a ++ b) = erows a ++ erows b := by simp [erows]
set_option maxHeartbeats 8000000 in
theorem SurveilAll_ok (w : World) (wn : Wn) (A : Option Addr) (cap : Nat) (L : List AcT) (hA : Rd w [] A (L.flatMap AcT.cells)) (hE : ∀ a ∈ L, Rd w [] a.A (erows a.evs) ∧ a.evs.length ≤ a.cap) (hL : L.length ≤ 1048576) (hS : evN L ≤ 1048576) :
    Does Try.prog 6 [.agg ⟨wn.cells⟩, .slice A L.length cap] [] w (fun v hs => v = .bool true ∧ hs = []) := by
  refine Does.less (Does.of (n := 150) Try.func6 rfl rfl rfl rfl ?_)
  refine .seq ((.region (.nw (.box (l := wn.cells) rfl rfl) fun b2 => (.v (.assign rfl) (.nil ?_)))))
  by_cases hc : wn.Can
  case neg =>
    refine .seq ((.region (.v (.loadA (vs := wn.cells) rfl .whole rfl) (.pc rfl rfl (fun w s => SNew_no w hc) ?_))))
    refine .v (.move rfl) (.v (.extract rfl rfl) (.v (.extract rfl rfl) (.v (.assign rfl) (.v (.assign rfl) (.nil ?_)))))
    refine .seq ((.region (.v (.loadA (vs := wn.cells) rfl .whole rfl) (.pc rfl rfl (fun w s => DNew_no w hc) ?_))))
    refine .v (.move rfl) (.v (.extract rfl rfl) (.v (.extract rfl rfl) (.v (.assign rfl) (.v (.assign rfl) (.nil ?_)))))
    refine .seq (.seq ((.region (.v (.move rfl) (.v (.move rfl) (.v (.no (.nei rfl rfl) (by decide)) (.v (.move rfl) (.or (b2 := false) 33 38 5 5 rfl rfl (fun g1 => .v (.move rfl) (.v (.eql_ptr_nil rfl rfl) (.v (.move rfl) (.v (.yes (.nei rfl rfl) (by decide)) (.v (.neb rfl rfl) (.nil ⟨rfl, rfl, rfl, rfl⟩)))))) (.nil ?_)))))))))
    refine .cond_false rfl (.skip ?_)
    refine .seq (.seq ((.region (.v (.move rfl) (.v (.eql_ptr_nil rfl rfl) (.nil ?_))))))
    refine .cond_true rfl ?_
    refine .seq ((.region (.v (.assign rfl) (.nil ?_))))
    exact .ret ⟨[_], ⟨rfl, trivial⟩, [], fun _ s => s.sub (List.nil_sublist _), rfl, rfl⟩
  refine .seq ((.region (.v (.loadA (vs := wn.cells) rfl .whole rfl) ?_)))
  refine .ef (.call0 rfl rfl fun w s => SNew_yes w hc) ?_
  rintro _ _ ⟨_, ⟨p, z0, rfl, rfl, hI0⟩, rfl⟩
  refine .v (.move rfl) (.v (.extract rfl rfl) (.v (.extract rfl rfl) (.v (.assign rfl) (.v (.assign rfl) (.nil ?_)))))
  refine .seq ((.region (.v (.loadA (vs := wn.cells) rfl .whole rfl) ?_)))
  refine .ef (.call0 rfl rfl fun w s => DNew_yes w hc) ?_
  rintro _ _ ⟨_, ⟨b, zd0, rfl, rfl, hD0⟩, rfl⟩
  refine .v (.move rfl) (.v (.extract rfl rfl) (.v (.extract rfl rfl) (.v (.assign rfl) (.v (.assign rfl) (.nil ?_)))))
  refine .seq (.seq ((.region (.v (.move rfl) (.v (.move rfl) (.v (.no (.nei rfl rfl) (by decide)) (.v (.move rfl) (.or (b2 := false) 33 38 5 5 rfl rfl (fun g1 => .v (.move rfl) (.v (.eql_ptr_nil rfl rfl) (.v (.move rfl) (.v (.no (.nei rfl rfl) (by decide)) (.v (.neb rfl rfl) (.nil ⟨rfl, rfl, rfl, rfl⟩)))))) (.nil ?_)))))))))
  refine .cond_false rfl (.skip ?_)
  refine .seq (.seq ((.region (.v (.move rfl) (.v (.eql_ptr_nil rfl rfl) (.nil ?_))))))
  refine .cond_false rfl (.skip ?_)
  refine .keep (z0.H p wn 0 ++ zd0.H b wn) ?_
  have hseen : ∀ (w : World) {W : Wt} {D : DW} {z : WZ} {zd : DZ}, AllI wn W D → WI W z → DI D zd → D.L.length ≤ 2000000 → Does Try.prog 21 [.pointer (some ⟨p.b, 0, none⟩), .pointer (some ⟨b, 0, none⟩)] (z.H p wn W.n ++ zd.H b wn) w (fun v hs => v = .bool true ∧ hs = z.H p wn W.n ++ zd.H b wn) := by
    intro w W D z zd hA hI hD hl
    obtain ⟨e1, e2⟩ := wmem_eq hA.R hI
    have hk := (hA.ok hl).ck
    have hk2 := hA.B.k
    have hcs := hA.R.c
    have hnn := hA.R.n
    dsimp only at hcs hnn
    rw [hcs] at hk2
    exact seen_ok w p wn b hI hD hcs hA.R.P hnn e1 (by omega) ((hA.ok hl).ok (by omega)) (by omega)
  refine .seq (.seq ((.region (.v (.assign rfl) (.nil ?_)))))
  refine .block (.loop (X := AlSt) (fun x => [(1, .slice A L.length cap), (5, .pointer (some ⟨p.b, 0, none⟩)), (7, .pointer (some ⟨b, 0, none⟩)), (9, .int .i64 x.i)]) (fun x => x.z.H p wn x.W.n ++ x.zd.H b wn) (fun x => x.i ≤ L.length ∧ AllI wn x.W x.D ∧ x.D.L.length ≤ evN (L.take x.i) ∧ WI x.W x.z ∧ DI x.D x.zd) (fun x => L.length - x.i) ⟨0, Wt.new, DW.new, z0, zd0⟩ ⟨Nat.zero_le _, AllI.new wn, Nat.zero_le _, hI0, hD0⟩ (.cons rfl (.cons rfl (.cons rfl (.cons rfl (.nil _))))) (fun _ s => s) ?_)
  clear hI0 hD0
  rintro ⟨i, W, D, z, zd⟩ ⟨hi, hAll, hDL, hI, hD⟩
  dsimp only at hi hAll hDL hI hD ⊢
  have hle := evN_take_le L i
  refine .seq (.seq ((.region (.v (.move rfl) (.v (.move rfl) (.v (.len rfl) (.v (.lss rfl rfl) (.nil ?_))))))))
  refine .cond_dec rfl (fun h1 => .skip ?_) (fun h1 => .exit ?_)
  case refine_2 =>
    refine .seq ((.region (.v (.move rfl) (.v (.move rfl) ?_))))
    refine .ef (.callT (z.H p wn W.n ++ zd.H b wn) rfl rfl fun w s => hseen w hAll hI hD (by omega)) ?_
    rintro _ _ ⟨_, ⟨rfl, rfl⟩, rfl⟩
    refine .v (.assign rfl) (.nil ?_)
    exact .ret ⟨[_], ⟨rfl, trivial⟩, [], fun _ s => s.sub (List.nil_sublist _), rfl, rfl⟩
  have hil : i < L.length := by omega
  obtain ⟨ba, oa, rfl, hcA⟩ := Rd.recs AcT.cells 4 (fun _ => rfl) hA (by omega) (by omega)
  have qa := fun hs' => recAt AcT.cells 4 (fun _ => rfl) (z := (i : Int)) (hcA hs') hil
  obtain ⟨hEa, hEc⟩ := hE _ (List.getElem_mem hil)
  have hsucc := evN_succ hil
  have hle2 := evN_take_le L (i + 1)
  generalize L[i] = a at qa hEa hEc hsucc
  obtain ⟨acl, aA, acap, evs, ar, am⟩ := a
  dsimp only at hEa hEc hsucc
  refine .seq (.block (.seq ((.region (.v (.move rfl) (.v (.move rfl) (.v (.indexAddr rfl rfl (by omega) (by omega)) (.v (.loadA (vs := AcT.cells ⟨acl, aA, acap, evs, ar, am⟩) rfl (qa _) rfl) (.nw .alloc fun b10 => (.st (.sw rfl rfl) (.nil ?_)))))))))))
  refine .mid (X := AlSt) (fun _ => [(1, .slice (some ⟨ba, oa, none⟩) L.length cap), (5, .pointer (some ⟨p.b, 0, none⟩)), (7, .pointer (some ⟨b, 0, none⟩)), (9, .int .i64 (i : Nat))]) (fun x => x.z.H p wn x.W.n ++ x.zd.H b wn) (fun x => AllI wn x.W x.D ∧ x.D.L.length ≤ evN (L.take (i + 1)) ∧ WI x.W x.z ∧ DI x.D x.zd) (.seq ((.region (.v (.fieldAddr rfl) (.v (.load (v := .bool acl) rfl (.one rfl)) (.nil ?_)))))) ?_
  case refine_2 =>
    rintro ⟨_, W, D, z, zd⟩ ⟨hAll, hDL, hI, hD⟩
    dsimp only at hAll hDL hI hD ⊢
    refine .seq ((.region (.v (.move rfl) (.v (.move rfl) ?_))))
    refine .ef (.callT (z.H p wn W.n ++ zd.H b wn) rfl rfl fun w s => hseen w hAll hI hD (by omega)) ?_
    rintro _ _ ⟨_, ⟨rfl, rfl⟩, rfl⟩
    refine .v (.not rfl) (.nil ?_)
    refine .cond_false rfl (.skip ?_)
    refine .region (.v (.move rfl) (.v (.addi rfl rfl (by omega)) (.v (.assign rfl) (.nil ?_))))
    exact ⟨⟨i + 1, W, D, z, zd⟩, ⟨hil, hAll, hDL, hI, hD⟩, by show L.length - (i + 1) < L.length - i; omega, .cons rfl (.cons rfl (.cons rfl (.cons rfl (.nil _)))), fun _ s => s.take⟩
  have hcs : W.cs = D.cs := hAll.R.c
  have hOk := hAll.ok (by omega)
  refine .cond rfl (fun h2 => ?_) (fun h2 => ?_)
  · -- Close
    obtain ⟨c, e, hV⟩ := clsV_tup ar am D.cs
    refine .seq ((.region (.v (.move rfl) (.v (.fieldAddr rfl) (.v (.load (v := .int .i64 ar) rfl (.one rfl)) (.v (.fieldAddr rfl) (.v (.load (v := .int .u32 am) rfl (.one rfl)) ?_)))))))
    refine .ef (.callT (z.H p wn W.n) rfl rfl fun w s => wclose_ok w p wn W.n hI ar am (by have := hOk.ck; rw [hcs]; omega)) ?_
    rintro v _ ⟨_, ⟨hv, z', rfl, hI'⟩, rfl⟩
    rw [hcs, hV] at hv
    subst hv
    refine .v (.move rfl) (.v (.extract rfl rfl) (.v (.extract rfl rfl) (.v (.assign rfl) (.v (.assign rfl) (.nil ?_)))))
    refine .seq ((.region (.v (.move rfl) (.v (.fieldAddr rfl) (.v (.load (v := .int .i64 ar) rfl (.one rfl)) (.v (.fieldAddr rfl) (.v (.load (v := .int .u32 am) rfl (.one rfl)) ?_)))))))
    refine .ef (.callT (zd.H b wn) rfl rfl fun w s => dclose_ok w b wn D zd hD ar am (by have := hOk.ck; omega)) ?_
    rintro v _ ⟨_, ⟨hv, zd', rfl, hD'⟩, rfl⟩
    rw [hV] at hv
    subst hv
    refine .v (.move rfl) (.v (.extract rfl rfl) (.v (.extract rfl rfl) (.v (.assign rfl) (.v (.assign rfl) (.nil ?_)))))
    refine .seq ((.region (.v (.move rfl) (.v (.move rfl) (.v (.no (.nei rfl rfl) (by simp)) (.v (.move rfl) (.or (b2 := false) 75 78 3 3 rfl rfl (fun g2 => .v (.move rfl) (.v (.move rfl) (.v (.no (.nei rfl rfl) (by simp)) (.nil ⟨rfl, rfl, rfl, rfl⟩)))) (.nil ?_))))))))
    refine .cond_false rfl (.skip ?_)
    exact ⟨⟨0, W.close ar am, D.close ar am, z', zd'⟩, ⟨hAll.close ar am, by show D.L.length ≤ _; omega, hI', hD'⟩, .cons rfl (.cons rfl (.cons rfl (.cons rfl (.nil _)))), fun _ s => (s.take : Sat _ _ (z'.H p wn W.n ++ zd'.H b wn) _)⟩
  · -- Add
    obtain ⟨hAll2, hal2, hL2, hn2⟩ := hAll.add hc evs
    have hpre : ∀ k, k ≤ evs.length → (D.add wn (evs.take k)).OkN 0 := fun k hk => by
      obtain ⟨q1, _, q3, _⟩ := hAll.add hc (evs.take k)
      exact q1.ok (by rw [q3, List.length_take]; omega)
    have hn : W.n = D.L.length := hAll.R.n
    refine .seq ((.region (.ef (.buildSlice (out := []) rfl (by decide) rfl rfl) ?_)))
    rintro _ _ ⟨b0, rfl, rfl⟩
    refine .v (.fieldAddr rfl) (.v (.load (v := .slice aA evs.length acap) rfl (.one rfl)) ?_)
    refine .appT (h := [(b0, .cells [] 34)]) (vs := []) (c := 0) (k := evs.length) (news := erows evs) rfl rfl ⟨rfl, .inr ⟨b0, 0, 0, [], rfl, rfl, Nat.le_refl _, Nat.le_refl _, rfl⟩⟩ (fun w s => (hEa.keep0 s).src (erows_length evs) (by omega)) (erows_length evs) (erows_ones _) (by omega) (by omega) ?_
    intro v1 h1' o1
    refine .v (.build (out := e77.cells) rfl rfl) (.push (h := h1') (oc := e77.cells) (c := 0 + evs.length) (vs := [] ++ erows evs) rfl rfl o1 rfl rfl rfl (by omega) (by omega) ?_)
    intro bq v2 hl ol
    refine .v (.assign rfl) (.nil ?_)
    have ol2 : OwnS 34 13 v2 (evs ++ [e77]).length ((evs ++ [e77]).flatMap Ev.cells) hl := by
      rw [show (evs ++ [e77]).length = 0 + evs.length + 1 by simp, List.flatMap_append]; exact ol
    clear ol o1
    rw [show (evs ++ [e77]).length = evs.length + 1 by simp] at ol2
    obtain ⟨Al_, kl, rfl⟩ := OwnS.slice ol2
    have hcap := (OwnS.cap_ ol2).2
    have etk : ((evs ++ [e77]).flatMap Ev.cells).take (evs.length * 13) = erows evs := by
      rw [List.flatMap_append]
      exact List.take_left' (by rw [flatMap_length _ 13 (fun _ => rfl)])
    refine .keep ((b10, .cells (AcT.cells ⟨acl, aA, acap, evs, ar, am⟩) 66) :: (z.H p wn W.n ++ (zd.H b wn ++ hl))) ?_
    refine .seq ((.region (.v (.move rfl) (.v (.move rfl) (.v (.fieldAddr rfl) (.v (.load (v := .slice aA evs.length acap) rfl (.one rfl)) (.v (.len rfl) (.v (.slHi rfl rfl (by omega) (by omega)) ?_))))))))
    rw [Int.toNat_natCast]
    refine .ef (.callT (z.H p wn W.n) rfl rfl fun w s => add_ok w p wn hc hI hAll.B evs Al_ kl (by
      have := (OwnS.rd ol2 s (fun y hy => by simp [hy]) (Sat.apart (a := hl) (b := z.H p wn W.n) s)).take (evs.length * 13)
      rw [etk] at this; exact this) (by omega)) ?_
    rintro vx _ ⟨_, ⟨z', hx, rfl, hI', ox⟩, rfl⟩
    refine .v (.assign rfl) (.nil ?_)
    refine .keep (zd.H b wn ++ (z'.H p wn (W.n + evs.length) ++ (hx ++ (hl ++ [(b10, .cells (AcT.cells ⟨acl, aA, acap, evs, ar, am⟩) 66)])))) ?_
    refine .seq ((.region (.v (.move rfl) (.v (.fieldAddr rfl) (.v (.load (v := .slice aA evs.length acap) rfl (.one rfl)) ?_)))))
    refine .ef (.callT (zd.H b wn) rfl rfl fun w s => dadd_ok w b wn hc D zd hD evs hpre _ hal2 aA acap (hEa.keep s (fun y hy => s.mine y (List.map_subset _ (fun q hq => List.mem_append_left _ hq) hy))) (by omega)) ?_
    rintro vy _ ⟨_, ⟨zd', hy, rfl, hD', oy⟩, rfl⟩
    refine .v (.assign rfl) (.nil ?_)
    obtain ⟨Ay, ky, rfl⟩ := OwnS.slice oy
    have hfin : AllI wn (Wt.add wn (W, []) evs).1 (D.add wn evs) ∧ (D.add wn evs).L.length ≤ evN (L.take (i + 1)) ∧ WI (Wt.add wn (W, []) evs).1 z' ∧ DI (D.add wn evs) zd' := ⟨hAll2, by omega, hI', hD'⟩
    have bout : (Wt.add wn (W, []) evs).2.length ≤ 3000000 := by
      have := (Wt.Bd.add (w := wn) evs (z := (W, [])) hAll.B).2.2
      simp only [List.length_nil, Nat.zero_add] at this; omega
    generalize (Wt.add wn (W, []) evs).2 = out at ox oy bout
    clear hal2 hpre hI' hD' hI hD hAll2
    refine .keep (zd'.H b wn ++ (z'.H p wn (W.n + evs.length) ++ (hx ++ (hy ++ (hl ++ [(b10, .cells (AcT.cells ⟨acl, aA, acap, evs, ar, am⟩) 66)]))))) ?_
    obtain ⟨bl_, ol_, ll, hsl, -, hhl, hcl, hll, -⟩ := OwnS.some_ ol2 (by omega)
    subst hsl; subst hhl
    clear etk
    have e78 : (Ev.cells ((evs ++ [e77])[evs.length]'(by simp)))[1]? = some (Value.int .i64 77) := by
      rw [show (evs ++ [e77])[evs.length]'(by simp) = e77 by simp]; rfl
    have h77 := fun hs' hsub => fldAt Ev.cells 13 (fun _ => rfl) (z := (evs.length : Int)) (OwnS.at0 (w0 := w) (own := []) (hs := hs') ol2 hsub) (show evs.length < (evs ++ [e77]).length by simp) 1 (v := .int .i64 77) e78
    obtain ⟨Ax, kx, rfl⟩ := OwnS.slice ox
    refine .seq (.seq ((.region (.v (.move rfl) (.v (.move rfl) (.pc (v := .bool true) rfl rfl (fun w s => alerts_ok w Ax Ay out.length kx ky out (OwnS.rd ox s (no := []) (fun y hy => by simp [hy]) (by simp)) (OwnS.rd oy s (no := []) (fun y hy => by simp [hy]) (by simp)) rfl (by omega)) (.v (.not rfl) (.v (.move rfl) (.or (b2 := false) 102 110 8 8 rfl rfl (fun g2 => .v (.move rfl) (.v (.fieldAddr rfl) (.v (.load (v := .slice aA evs.length acap) rfl (.one rfl)) (.v (.len rfl) (.v (.indexAddr rfl rfl (by omega) (by omega)) (.v (.fieldAddr rfl) (.v (.load (v := .int .i64 77) rfl (h77 _ (fun y hy => List.mem_append_right _ (List.mem_append_right _ (List.mem_append_right _ (List.mem_append_right _ (List.mem_append_left _ hy))))))) (.v (.no (.nei rfl rfl) (by decide)) (.nil ⟨rfl, rfl, rfl, rfl⟩)))))))))  (.nil ?_))))))))))
    refine .cond_false rfl (.skip ?_)
    clear h77 oy
    refine .keep ([(bl_, .cells ll 34)] ++ (zd'.H b wn ++ (z'.H p wn (W.n + evs.length) ++ (hx ++ [(b10, .cells (AcT.cells ⟨acl, aA, acap, evs, ar, am⟩) 66)])))) ?_
    refine .mid (X := Unit) (fun _ => [(1, .slice (some ⟨ba, oa, none⟩) L.length cap), (5, .pointer (some ⟨p.b, 0, none⟩)), (7, .pointer (some ⟨b, 0, none⟩)), (9, .int .i64 (i : Nat)), (16, .slice Ax out.length kx)]) (fun _ => zd'.H b wn ++ (z'.H p wn (W.n + evs.length) ++ hx)) (fun _ => True) (.seq ((.region (.v (.assign rfl) (.nil ?_))))) ?_
    · refine .block (.loop (X := ALJ) (fun x => [(1, .slice (some ⟨ba, oa, none⟩) L.length cap), (5, .pointer (some ⟨p.b, 0, none⟩)), (7, .pointer (some ⟨b, 0, none⟩)), (9, .int .i64 (i : Nat)), (10, .pointer (some ⟨b10, 0, none⟩)), (15, .slice (some ⟨bl_, ol_, none⟩) (evs.length + 1) kl), (16, .slice Ax out.length kx), (18, .int .i64 x.j)]) (fun x => x.h ++ (zd'.H b wn ++ (z'.H p wn (W.n + evs.length) ++ (hx ++ [(b10, .cells (AcT.cells ⟨acl, aA, acap, evs, ar, am⟩) 66)])))) (fun x => x.j ≤ evs.length ∧ x.l.length = evs.length + 1 ∧ x.l.drop x.j = (evs ++ [e77]).drop x.j ∧ OwnS 34 13 (.slice (some ⟨bl_, ol_, none⟩) (evs.length + 1) kl) x.l.length (x.l.flatMap Ev.cells) x.h) (fun x => evs.length - x.j) ⟨0, evs ++ [e77], [(bl_, .cells ll 34)]⟩ ⟨Nat.zero_le _, by simp, rfl, by rw [show (evs ++ [e77]).length = evs.length + 1 by simp]; exact ol2⟩ (.cons rfl (.cons rfl (.cons rfl (.cons rfl (.cons rfl (.cons rfl (.cons rfl (.cons rfl (.nil _))))))))) (fun _ s => s) ?_)
      clear ol2
      rintro ⟨j, lst, h⟩ ⟨hj, hz, hdr, ol⟩
      dsimp only at hj hz hdr ol ⊢
      refine .seq (.seq ((.region (.v (.move rfl) (.v (.fieldAddr rfl) (.v (.load (v := .slice aA evs.length acap) rfl (.one rfl)) (.v (.len rfl) (.v (.lss rfl rfl) (.nil ?_)))))))))
      refine .cond_dec rfl (fun h3 => .skip ?_) (fun h3 => .exit ?_)
      case refine_2 => exact ⟨(), trivial, .cons rfl (.cons rfl (.cons rfl (.cons rfl (.cons rfl (.nil _))))), fun _ s => s.take⟩
      have hjl : j < evs.length := by omega
      have hjz : j < lst.length := by omega
      have hlj : lst[j] = evs[j] := by
        have h0 : j < (evs ++ [e77]).length := by simp; omega
        have q : (lst.drop j)[0]? = ((evs ++ [e77]).drop j)[0]? := by rw [hdr]
        rw [List.getElem?_drop, List.getElem?_drop, Nat.add_zero, List.getElem?_eq_getElem hjz, List.getElem?_eq_getElem h0, List.getElem_append_left hjl] at q
        exact Option.some.inj q
      obtain ⟨bx, ox', lx, hs', -, rfl, hcx, hlx, -⟩ := OwnS.some_ ol (by omega)
      cases hs'
      obtain ⟨be, oe, rfl, hcE⟩ := Rd.recs Ev.cells 13 (fun _ => rfl) hEa (by omega) (by omega)
      have q1 := fun hs' hsub => recAt Ev.cells 13 (fun _ => rfl) (z := (j : Int)) (OwnS.at0 (w0 := w) (own := []) (hs := hs') ol hsub) hjz
      have q2 := fun hs' => recAt Ev.cells 13 (fun _ => rfl) (z := (j : Int)) (hcE hs') hjl
      rw [hlj] at q1
      have o2 := OwnS.setR Ev.cells (fun _ => rfl) ol hjz e39
      generalize evs[j] = e at q1 q2
      refine .seq (.block (.seq (.seq ((.drawK [(bl_, .cells lx 34), (b10, .cells (AcT.cells ⟨acl, some ⟨be, oe, none⟩, acap, evs, ar, am⟩) 66)] (by intro y hy; simp at hy ⊢; rcases hy with rfl | rfl <;> simp) (by kernel_rfl) (by kernel_rfl) ?_)))))
      refine .v (fun _ f => .move rfl) (.v (fun _ f => .move rfl) (.v (fun _ f => .indexAddr rfl rfl (by omega) (by omega)) (.v (fun _ f => .loadA (vs := e.cells) rfl (q1 _ (fun y hy => f (List.mem_cons.2 (.inl (by simpa using hy))))) rfl) ?_)))
      refine .v (fun _ f => .fieldAddr rfl) (.v (fun _ f => .load (v := .slice (some ⟨be, oe, none⟩) evs.length acap) rfl (.one (hb := .sub f) rfl)) (.v (fun _ f => .move rfl) (.v (fun _ f => .indexAddr rfl rfl (by omega) (by omega)) (.v (fun _ f => .loadA (vs := e.cells) rfl (q2 _) rfl) (.v (fun _ f => .neA rfl rfl (Ev.oks9 e) (Ev.oks9 e)) (.nil ?_))))))
      refine .cond rfl (fun g3 => absurd g3 (by rw [(cellsEq_iff (Ev.oks9 e) (Ev.oks9 e)).2 rfl]; simp)) (fun _ => .skip ?_)
      refine .region (.v (.move rfl) (.v (.move rfl) (.v (.build (out := e39.cells) rfl rfl) (.v (.indexAddr rfl rfl (by omega) (by omega)) (.st (.storeA (b := bl_) (l := lx) (vs := e39.cells) rfl rfl rfl rfl (by rw [Int.toNat_natCast]; show ol_ + j * 13 + 13 ≤ lx.length; omega)) (.nil ?_))))))
      rw [Int.toNat_natCast]
      generalize V.splice lx (ol_ + j * 13) e39.cells = lx' at o2 ⊢
      refine .region (.v (.move rfl) (.v (.addi rfl rfl (by omega)) (.v (.assign rfl) (.nil ?_))))
      refine ⟨⟨j + 1, lst.set j e39, [(bl_, .cells lx' 34)]⟩, ⟨hjl, by rw [List.length_set]; exact hz, ?_, o2⟩, by show evs.length - (j + 1) < evs.length - j; omega, .cons rfl (.cons rfl (.cons rfl (.cons rfl (.cons rfl (.cons rfl (.cons rfl (.cons rfl (.nil _)))))))), fun _ s => s.take⟩
      show (lst.set j e39).drop (j + 1) = _
      rw [List.drop_set_of_lt (by omega), ← List.drop_drop (i := 1) (j := j), hdr, List.drop_drop]
    clear ol2
    rintro ⟨⟩ -
    try dsimp only
    refine .seq ((.region (.v (.assign rfl) (.nil ?_))))
    refine .block (.loop (X := ALA) (fun x => [(1, .slice (some ⟨ba, oa, none⟩) L.length cap), (5, .pointer (some ⟨p.b, 0, none⟩)), (7, .pointer (some ⟨b, 0, none⟩)), (9, .int .i64 (i : Nat)), (16, .slice Ax out.length kx), (19, .int .i64 x.j)]) (fun x => x.h ++ (zd'.H b wn ++ z'.H p wn (W.n + evs.length))) (fun x => x.j ≤ out.length ∧ x.l.length = out.length ∧ OwnS 46 5 (.slice Ax out.length kx) x.l.length (alrows x.l) x.h) (fun x => out.length - x.j) ⟨0, out, hx⟩ ⟨Nat.zero_le _, rfl, ox⟩ (.cons rfl (.cons rfl (.cons rfl (.cons rfl (.cons rfl (.cons rfl (.nil _))))))) (fun _ s => s.take) ?_)
    clear ox
    rintro ⟨j, lst, h⟩ ⟨hj, hz, ol⟩
    dsimp only at hj hz ol ⊢
    refine .seq (.seq ((.region (.v (.move rfl) (.v (.move rfl) (.v (.len rfl) (.v (.lss rfl rfl) (.nil ?_))))))))
    refine .cond_dec rfl (fun h3 => .skip ?_) (fun h3 => .exit ?_)
    case refine_2 => exact ⟨⟨0, (Wt.add wn (W, []) evs).1, D.add wn evs, z', zd'⟩, hfin, .cons rfl (.cons rfl (.cons rfl (.cons rfl (.nil _)))), fun w s => by
      have := (s.take : Sat _ _ (z'.H p wn (W.n + evs.length) ++ zd'.H b wn) _)
      rw [← hn2] at this; exact this⟩
    have hjz : j < lst.length := by omega
    obtain ⟨bx, ox', lx, rfl, -, rfl, hcx, hlx, -⟩ := OwnS.some_ ol (by omega)
    have o2 := OwnS.setR Al.cells (fun _ => rfl) ol hjz (⟨8, 0, 0, 0, 0⟩ : Al)
    refine .seq (.block ((.region (.v (.move rfl) (.v (.move rfl) (.v (.build (out := (⟨8, 0, 0, 0, 0⟩ : Al).cells) rfl rfl) (.v (.indexAddr rfl rfl (by omega) (by omega)) (.st (.storeA (b := bx) (l := lx) rfl rfl rfl rfl (by rw [Int.toNat_natCast]; show ox' + j * 5 + 5 ≤ lx.length; omega)) (.nil ?_)))))))))
    rw [Int.toNat_natCast]
    generalize V.splice lx (ox' + j * 5) (⟨8, 0, 0, 0, 0⟩ : Al).cells = lx' at o2 ⊢
    refine .region (.v (.move rfl) (.v (.addi rfl rfl (by omega)) (.v (.assign rfl) (.nil ?_))))
    exact ⟨⟨j + 1, lst.set j ⟨8, 0, 0, 0, 0⟩, [(bx, .cells lx' 46)]⟩, ⟨by show j + 1 ≤ _; omega, by rw [List.length_set]; exact hz, o2⟩, by show out.length - (j + 1) < out.length - j; omega, .cons rfl (.cons rfl (.cons rfl (.cons rfl (.cons rfl (.cons rfl (.nil _)))))), fun _ s => s.take⟩
end Go.Proofs.Ytcbppikkoelimaa

/- VN: slices of anything that come in: the cells of each element, and what each is read as. -/
namespace Go
namespace V
open Go.RowKit Go.ChangeShapes Go.WideShapes Go.ChangeAt
set_option linter.unusedVariables false

/-- these cells are read as 'd' -/
def TC {H : Type} (enc : TypeId × Value → H) (P : Program) (w : World) (base : Nat) (spare : Nat → Bool) (held : Bool) (t : TypeId) (cs : List Value) (d : DataW H) : Prop :=
  ∃ fuel p, DataW.trod enc P w base spare held fuel t cs = some (d, p)
section
variable {H : Type} {enc : TypeId × Value → H} {P : Program} {w : World} {base : Nat} {spare : Nat → Bool} {held : Bool}
theorem TC.of {t : TypeId} {v : Value} {cs : List Value} {d : DataW H} {p : List MemPlace} (h : DataW.Trod enc P w base spare held t v d p) (hc : v.cells = ⟨cs⟩) : TC enc P w base spare held t cs d := by
  obtain ⟨fuel, hf⟩ := h
  rw [hc] at hf
  exact ⟨fuel, p, hf⟩
theorem TC.int {t : TypeId} {k : IntKind} {cs : List Value} {d : DataW H} (ht : P.underlying t = some (.int k)) (h : TC enc P w base spare held t cs d) : ∃ n, cs = [.int k n] ∧ (Lit.int k n).wf = true := by
  obtain ⟨fuel, p, hf⟩ := h
  obtain ⟨n, h1, _, h2⟩ := DataW.trod_int ht hf
  exact ⟨n, h1, h2⟩
theorem TC.bool {t : TypeId} {cs : List Value} {d : DataW H} (ht : P.underlying t = some .bool) (h : TC enc P w base spare held t cs d) : ∃ b, cs = [.bool b] := by
  obtain ⟨fuel, p, hf⟩ := h
  obtain ⟨b, h1, _⟩ := DataW.trod_bool ht hf
  exact ⟨b, h1⟩
theorem TC.plain {t : TypeId} {cs : List Value} {d : DataW H} {ls : List Lf} (hl : leaves P 8 t = some ls) (hs : P.cellsOf t = ls.length) (h : TC enc P w base spare held t cs d) : okw ls cs := by
  obtain ⟨fuel, p, hf⟩ := h
  exact trod_plain 8 t ls fuel cs _ hl hs hf
/-- a struct's fields -/
theorem TC.struct {t : TypeId} {fs : Array Field} {cs : List Value} {d : DataW H} (ht : P.underlying t = some (.struct fs)) (h : TC enc P w base spare held t cs d) :
    ∃ ds, d = .agg ds ∧ ds.length = fs.size ∧ cs.length = P.cellsOf t ∧ ∀ (i : Nat) (f : Field) (di : DataW H), fs[i]? = some f → ds[i]? = some di → TC enc P w base spare held f.type ((cs.drop f.offset).take (P.cellsOf f.type)) di := by
  obtain ⟨fuel, p, hf⟩ := h
  obtain ⟨xs, n, _, hx, hl, hn, hf⟩ := DataW.trod_struct ht hf
  simp only [Prod.mk.injEq] at hx
  refine ⟨xs.map (·.1), hx.1, by simpa using hn, hl, fun i f di h1 h2 => ?_⟩
  have := hf i f h1
  rw [List.getElem?_map] at h2
  cases h3 : xs[i]? with
  | none => rw [h3] at h2; cases h2
  | some x =>
    rw [h3] at h2 this
    simp at h2
    exact ⟨n, x.2, by rw [this, ← h2]⟩
/-- a slice's elements -/
theorem TC.slice {t e m : Nat} {cs : List Value} {d : DataW H} (ht : P.underlying t = some (.slice e)) (hm : P.cellsOf e = m) (h0 : 0 < m) (h : TC enc P w base spare held t cs d) :
    ∃ A len cap, ∃ (css : List (List Value)) (ds : List (DataW H)), cs = [.slice A len cap] ∧ css.length = len ∧ ds.length = len ∧ (∀ c ∈ css, c.length = m) ∧ (∀ (i : Nat) (c : List Value), css[i]? = some c → ∀ (j : Nat) (v : Value), c[j]? = some v → ∃ b o, A = some ⟨b, o, none⟩ ∧ w.cell? ⟨b, o + (i * m + j), none⟩ = some v) ∧
      (d = .nil ∧ len = 0 ∨ ∃ sp, d = .slice ds sp) ∧ ∀ (i : Nat) (c : List Value) (di : DataW H), css[i]? = some c → ds[i]? = some di → TC enc P w base spare held e c di := by
  obtain ⟨fuel, p, hf⟩ := h
  rcases DataW.trod_slice ht hf with ⟨rfl, hx⟩ | ⟨a, len, cap, elems, rest, n, _, rfl, hx, hb, hl, hc, hn, he, _⟩
  · simp only [Prod.mk.injEq] at hx
    exact ⟨none, 0, 0, [], [], rfl, rfl, rfl, by simp, by simp, .inl ⟨hx.1, rfl⟩, by simp⟩
  · simp only [Prod.mk.injEq] at hx
    rw [hm] at he
    have each : ∀ i, i < len → ∃ c x, w.cells? base (a.add (i * m)) m = some c ∧ DataW.trod enc P w base spare held n e c = some x ∧ elems[i]? = some x := by
      intro i hi
      have := he i hi
      rw [List.getElem?_eq_getElem (by omega)] at this
      obtain ⟨c, h1, h2⟩ := Option.bind_eq_some_iff.1 this
      exact ⟨c, _, h1, h2, List.getElem?_eq_getElem (by omega)⟩
    have hcs : ∃ css : List (List Value), css.length = len ∧ ∀ i c, css[i]? = some c → ∃ x, w.cells? base (a.add (i * m)) m = some c ∧ DataW.trod enc P w base spare held n e c = some x ∧ elems[i]? = some x := by
      have key : ∀ k, k ≤ len → ∃ css : List (List Value), css.length = k ∧ ∀ i c, css[i]? = some c → ∃ x, w.cells? base (a.add (i * m)) m = some c ∧ DataW.trod enc P w base spare held n e c = some x ∧ elems[i]? = some x := by
        intro k
        induction k with
        | zero => intro _; exact ⟨[], rfl, by simp⟩
        | succ k ih =>
          intro hk
          obtain ⟨css, h1, h2⟩ := ih (by omega)
          obtain ⟨c, x, h3⟩ := each k (by omega)
          refine ⟨css ++ [c], by simp [h1], fun i c' hc' => ?_⟩
          by_cases hi : i < k
          · rw [List.getElem?_append_left (by omega)] at hc'
            exact h2 i c' hc'
          · rw [List.getElem?_append_right (by omega)] at hc'
            have hik : i = k := by
              have := (List.getElem?_eq_some_iff.1 hc').1
              simp at this; omega
            subst hik
            simp [h1] at hc'
            subst hc'
            exact ⟨x, h3⟩
      exact key len (Nat.le_refl _)
    obtain ⟨css, h1, h2⟩ := hcs
    refine ⟨some a, len, cap, css, elems.map (·.1), rfl, h1, by simpa using hn, fun c hc => ?_, fun i c hc j v hv => ?_, .inr ⟨_, hx.1⟩, fun i c di hc hdi => ?_⟩
    · obtain ⟨i, hi⟩ := List.mem_iff_getElem?.1 hc
      obtain ⟨x, h3, _⟩ := h2 i c hi
      exact (World.cells?_some h3).2.1
    · obtain ⟨x, h3, _⟩ := h2 i c hc
      obtain ⟨g1, g2, g3⟩ := World.cells?_some h3
      have hj := (List.getElem?_eq_some_iff.1 hv).1
      have hcell := g3 j (by omega)
      rw [hv] at hcell
      obtain ⟨b, o, sp⟩ := a
      have hsp : sp = none := by
        have hlt : 0 < css.length := by
          have := (List.getElem?_eq_some_iff.1 hc).1
          omega
        obtain ⟨x0, k3, _⟩ := h2 0 css[0] (List.getElem?_eq_getElem hlt)
        obtain ⟨_, k2, k4⟩ := World.cells?_some k3
        have := k4 0 h0
        rw [List.getElem?_eq_getElem (by omega)] at this
        simpa [Addr.add] using World.cell?_spot this
      subst hsp
      refine ⟨b, o, rfl, ?_⟩
      rw [add_none, add_none, Nat.add_assoc] at hcell
      exact hcell
    · obtain ⟨x, h3, h4, h5⟩ := h2 i c hc
      rw [List.getElem?_map, h5] at hdi
      simp at hdi
      exact ⟨n, x.2, by rw [h4, ← hdi]⟩
end
/-- one for each number below n -/
theorem list_of {α : Type} {Q : Nat → α → Prop} (n : Nat) (h : ∀ i, i < n → ∃ x, Q i x) : ∃ l : List α, l.length = n ∧ ∀ (i : Nat) (x : α), l[i]? = some x → Q i x := by
  induction n with
  | zero => exact ⟨[], rfl, by simp⟩
  | succ n ih =>
    obtain ⟨l, h1, h2⟩ := ih fun i hi => h i (by omega)
    obtain ⟨x, hx⟩ := h n (by omega)
    refine ⟨l ++ [x], by simp [h1], fun i y hy => ?_⟩
    by_cases hi : i < n
    · rw [List.getElem?_append_left (by omega)] at hy
      exact h2 i y hy
    · rw [List.getElem?_append_right (by omega)] at hy
      have hlt := (List.getElem?_eq_some_iff.1 hy).1
      simp at hlt
      have : i = n := by omega
      subst this
      simp [h1] at hy
      subst hy
      exact hx
section
variable {H : Type} {enc : TypeId × Value → H} {P : Program} {w : World} {base : Nat} {spare : Nat → Bool} {held : Bool}
/-- bytes -/
theorem TC.bytes {t e : Nat} {cs : List Value} {d : DataW H} (ht : P.underlying t = some (.slice e)) (he : P.underlying e = some (.int .u8)) (hm : P.cellsOf e = 1) (h : TC enc P w base spare held t cs d) :
    ∃ A c ys, cs = [.slice A (List.length ys) c] ∧ Rd w [] A (byts ys) ∧ (d = .nil ∧ ys = [] ∨ ∃ ds sp, d = .slice ds sp ∧ ds.length = ys.length) := by
  obtain ⟨A, len, cap, css, ds, h1, h2, h3, h4, h5, h6, h7⟩ := h.slice ht hm (by omega)
  obtain ⟨ys, hy1, hy2⟩ := list_of (Q := fun i (y : BitVec 8) => css[i]? = some [.int .u8 y.toNat]) len (fun i hi => by
    have hc := List.getElem?_eq_getElem (show i < css.length by omega)
    have hd := List.getElem?_eq_getElem (show i < ds.length by omega)
    obtain ⟨n, hn, hw⟩ := (h7 i _ _ hc hd).int he
    have := wf_u8 hw
    refine ⟨BitVec.ofNat 8 n.toNat, ?_⟩
    rw [hc, hn]
    simp
    omega)
  refine ⟨A, cap, ys, by rw [h1, hy1], fun j v hv => ?_, ?_⟩
  · have hj : j < ys.length := by have := (List.getElem?_eq_some_iff.1 hv).1; simpa [byts_length] using this
    rw [byts_get hj] at hv
    have h8 := hy2 j _ (List.getElem?_eq_getElem hj)
    obtain ⟨b, o, e1, e2⟩ := h5 j _ h8 0 v (by simpa using hv)
    exact ⟨b, o, e1, by simp, by simpa using e2⟩
  · rcases h6 with ⟨e1, e2⟩ | ⟨sp, e1⟩
    · exact .inl ⟨e1, List.eq_nil_of_length_eq_zero (by omega)⟩
    · exact .inr ⟨ds, sp, e1, by omega⟩
end
end V
end Go

/- VT: lists of plain records that come in; what their lengths are held to. -/
namespace Go
namespace V
open Go.RowKit Go.ChangeShapes Go.WideShapes Go.ChangeAt
set_option linter.unusedVariables false

theorem flatten_get {m : Nat} : ∀ (rs : List (List Value)), (∀ r ∈ rs, r.length = m) → ∀ (k : Nat) (v : Value), rs.flatten[k]? = some v → ∃ i j r, rs[i]? = some r ∧ r[j]? = some v ∧ k = i * m + j
  | [], _, k, v, h => by simp at h
  | r :: rs, hm, k, v, h => by
    rw [List.flatten_cons] at h
    by_cases hk : k < r.length
    · rw [List.getElem?_append_left hk] at h
      exact ⟨0, k, r, rfl, h, by simp⟩
    · rw [List.getElem?_append_right (by omega)] at h
      obtain ⟨i, j, r', h1, h2, h3⟩ := flatten_get rs (fun r hr => hm r (List.mem_cons_of_mem _ hr)) _ v h
      have := hm r List.mem_cons_self
      exact ⟨i + 1, j, r', by simpa using h1, h2, by rw [Nat.succ_mul]; omega⟩
theorem map_of {α β : Type} {f : α → β} {Q : α → Prop} : ∀ (rs : List β), (∀ r ∈ rs, ∃ x, r = f x ∧ Q x) → ∃ l : List α, rs = l.map f ∧ ∀ x ∈ l, Q x
  | [], _ => ⟨[], rfl, by simp⟩
  | r :: rs, h => by
    obtain ⟨x, h1, h2⟩ := h r List.mem_cons_self
    obtain ⟨l, h3, h4⟩ := map_of rs fun r hr => h r (List.mem_cons_of_mem _ hr)
    exact ⟨x :: l, by simp [h1, h3], fun y hy => by rcases List.mem_cons.1 hy with rfl | hy; exact h2; exact h4 y hy⟩
theorem okw_length : ∀ {ls : List Lf} {cs : List Value}, okw ls cs → cs.length = ls.length
  | [], [], _ => rfl
  | l :: ls, c :: cs, h => by have := okw_length h.2; simp [this]
  | [], _ :: _, h => h.elim
  | _ :: _, [], h => h.elim
section
variable {H : Type} {enc : TypeId × Value → H} {P : Program} {w : World} {base : Nat} {spare : Nat → Bool} {held : Bool}
/-- a slice of plain records -/
theorem TC.recs {t e : Nat} {ls : List Lf} {cs : List Value} {d : DataW H} (ht : P.underlying t = some (.slice e)) (hl : leaves P 8 e = some ls) (hs : P.cellsOf e = ls.length) (h0 : 0 < ls.length) (h : TC enc P w base spare held t cs d) :
    ∃ A cap, ∃ rs : List (List Value), cs = [.slice A rs.length cap] ∧ (∀ r ∈ rs, okw ls r) ∧ Rd w [] A rs.flatten ∧ (d = .nil ∧ rs = [] ∨ ∃ ds sp, d = .slice ds sp ∧ ds.length = rs.length) := by
  obtain ⟨A, len, cap, css, ds, h1, h2, h3, h4, h5, h6, h7⟩ := h.slice ht hs h0
  refine ⟨A, cap, css, by rw [h1, h2], fun r hr => ?_, fun k v hv => ?_, ?_⟩
  · obtain ⟨i, hi, rfl⟩ := List.mem_iff_getElem.1 hr
    exact (h7 i _ _ (List.getElem?_eq_getElem hi) (List.getElem?_eq_getElem (by omega))).plain hl hs
  · obtain ⟨i, j, r, e1, e2, rfl⟩ := flatten_get css h4 k v hv
    obtain ⟨b, o, e3, e4⟩ := h5 i r e1 j v e2
    exact ⟨b, o, e3, by simp, e4⟩
  · rcases h6 with ⟨e1, e2⟩ | ⟨sp, e1⟩
    · exact .inl ⟨e1, List.eq_nil_of_length_eq_zero (by omega)⟩
    · exact .inr ⟨ds, sp, e1, by omega⟩
/-- the weights of a struct's parts -/
theorem sized_agg {ts : List TypeId} {ds : List (DataW H)} (h : (DataW.weightsEach P ts ds).all (· ≤ reachBytes) = true) {j : Nat} {t : TypeId} {fs : Array Field} {parts : List (DataW H)} (ht : ts[j]? = some t) (hd : ds[j]? = some (.agg parts)) (hu : P.underlying t = some (.struct fs)) :
    (DataW.weightsEach P (fs.toList.map (·.type)) parts).all (· ≤ reachBytes) = true := by
  rw [List.all_eq_true]
  intro x hx
  exact List.all_eq_true.1 h _ (DataW.weights_mem_each ht hd x (by simp only [DataW.weights, hu]; exact hx))
theorem sized_len {ts : List TypeId} {ds : List (DataW H)} (h : (DataW.weightsEach P ts ds).all (· ≤ reachBytes) = true) {j n : Nat} {t e : TypeId} {d : DataW H} (ht : ts[j]? = some t) (hd : ds[j]? = some d) (hu : P.underlying t = some (.slice e))
    (hk : d = .nil ∧ n = 0 ∨ ∃ es sp, d = .slice es sp ∧ es.length = n) : n * P.bytesOf e ≤ reachBytes := by
  rcases hk with ⟨_, rfl⟩ | ⟨es, sp, rfl, rfl⟩
  · simp
  · have := sized_slice h ht hd hu
    have h2 : es.length * P.bytesOf e ≤ (es.length + sp.length) * P.bytesOf e := Nat.mul_le_mul_right _ (by omega)
    omega
end
end V
end Go

/- VB: slices that come in: they have room for what they hold. -/
namespace Go
namespace V
open Go.RowKit Go.ChangeShapes Go.WideShapes
set_option linter.unusedVariables false
set_option linter.unusedSimpArgs false
section
variable {P : Program} {H : Type} {enc : TypeId × Value → H} {w : World} {base : Nat} {spare : Nat → Bool} {held : Bool}
theorem TC.cap {t e len cap : Nat} {A : Option Addr} {d : DataW H} (ht : P.underlying t = some (.slice e)) (h : TC enc P w base spare held t [.slice A len cap] d) : len ≤ cap := by
  obtain ⟨fuel, p, hf⟩ := h
  rcases DataW.trod_slice ht hf with ⟨e1, hx⟩ | ⟨a, len', cap', elems, rest, n, _, e1, hx, hb, hl, hc, hn, he, _⟩
  · simp at e1; omega
  · simp at e1
    obtain ⟨rfl, rfl, rfl⟩ := e1
    omega
/-- a slice of plain records, with its room -/
theorem TC.recsK {t e : Nat} {ls : List Lf} {cs : List Value} {d : DataW H} (ht : P.underlying t = some (.slice e)) (hl : leaves P 8 e = some ls) (hs : P.cellsOf e = ls.length) (h0 : 0 < ls.length) (h : TC enc P w base spare held t cs d) :
    ∃ A cap, ∃ rs : List (List Value), cs = [.slice A rs.length cap] ∧ (∀ r ∈ rs, okw ls r) ∧ Rd w [] A rs.flatten ∧ rs.length ≤ cap ∧ (d = .nil ∧ rs = [] ∨ ∃ ds sp, d = .slice ds sp ∧ ds.length = rs.length) := by
  obtain ⟨A, cap, rs, rfl, h2, h3, h4⟩ := h.recs ht hl hs h0
  exact ⟨A, cap, rs, rfl, h2, h3, TC.cap ht h, h4⟩
end
theorem okw_i {k : IntKind} {ls : List Lf} {cs : List Value} (h : okw (.i k :: ls) cs) : ∃ a cs', cs = .int k a :: cs' ∧ (Lit.int k a).wf = true ∧ okw ls cs' := by
  match cs, h with
  | .int _ a :: cs', ⟨⟨h1, w1⟩, h2⟩ => subst h1; exact ⟨a, cs', rfl, w1, h2⟩
theorem okw_b {ls : List Lf} {cs : List Value} (h : okw (.b :: ls) cs) : ∃ a cs', cs = .bool a :: cs' ∧ okw ls cs' := by
  match cs, h with
  | .bool a :: cs', ⟨h1, h2⟩ => exact ⟨a, cs', rfl, h2⟩
theorem okw_nil {cs : List Value} (h : okw [] cs) : cs = [] := by
  match cs, h with
  | [], _ => rfl
end V
end Go

/- How many values arguments hold; slices of records as they come in. -/
namespace Go.Proofs.Ytcbppikkoelimaa
open Go.V Go.ChangeShapes Go.WideShapes Go.ChangeAt
set_option linter.unusedVariables false
set_option linter.unusedSimpArgs false

theorem bulk_pos {H : Type} (d : DataW H) : 1 ≤ Rows.uptoBulk d := by
  cases d with
  | lit l => cases l <;> simp [Rows.uptoBulk]
  | _ => simp [Rows.uptoBulk]
theorem bulk_len {H : Type} : ∀ (ds : List (DataW H)), ds.length ≤ Rows.uptoBulkAll ds
  | [] => by simp
  | d :: ds => by
    have h1 := bulk_pos d
    have h2 := bulk_len ds
    simp only [Rows.uptoBulkAll, List.length_cons]
    omega
theorem bulk_get {H : Type} : ∀ {ds : List (DataW H)} {i : Nat} {d : DataW H}, ds[i]? = some d → Rows.uptoBulk d ≤ Rows.uptoBulkAll ds
  | d' :: ds, 0, d, h => by simp at h; subst h; simp [Rows.uptoBulkAll]
  | d' :: ds, i + 1, d, h => by
    have := bulk_get (ds := ds) (i := i) (by simpa using h)
    simp only [Rows.uptoBulkAll]
    omega
  | [], i, d, h => by simp at h
theorem bulk_sum {H α : Type} (f : α → Nat) : ∀ {ds : List (DataW H)} {l : List α}, l.length = ds.length → (∀ (i : Nat) (x : α) (d : DataW H), l[i]? = some x → ds[i]? = some d → f x ≤ Rows.uptoBulk d) → (l.map f).sum ≤ Rows.uptoBulkAll ds
  | [], [], _, _ => by simp
  | d :: ds, x :: l, h, k => by
    have h1 := k 0 x d rfl rfl
    have h2 := bulk_sum f (ds := ds) (l := l) (by simpa using h) (fun i x d hx hd => k (i + 1) x d (by simpa using hx) (by simpa using hd))
    simp only [List.map_cons, List.sum_cons, Rows.uptoBulkAll]
    omega
  | [], _ :: _, h, _ => by simp at h
  | _ :: _, [], h, _ => by simp at h
section
variable {P : Program} {H : Type} {enc : TypeId × Value → H} {w : World} {base : Nat} {spare : Nat → Bool} {held : Bool}
/-- plain records -/
theorem TC.list {α : Type} (f : α → List Value) (Q : α → Prop) {t e : Nat} {ls : List Lf} {cs : List Value} {d : DataW H} (ht : P.underlying t = some (.slice e)) (hl : leaves P 8 e = some ls) (hs : P.cellsOf e = ls.length) (h0 : 0 < ls.length)
    (hf : ∀ r, okw ls r → ∃ x, r = f x ∧ Q x) (h : TC enc P w base spare held t cs d) :
    ∃ A cap, ∃ l : List α, cs = [.slice A l.length cap] ∧ (∀ x ∈ l, Q x) ∧ Rd w [] A (l.flatMap f) ∧ l.length ≤ cap ∧ l.length ≤ Rows.uptoBulk d := by
  obtain ⟨A, cap, rs, rfl, h2, h3, h5, h4⟩ := TC.recsK ht hl hs h0 h
  obtain ⟨l, rfl, hl⟩ := map_of (f := f) (Q := Q) rs fun r hr => hf r (h2 r hr)
  refine ⟨A, cap, l, by rw [List.length_map], hl, by rw [List.flatMap_def]; exact h3, by simpa using h5, ?_⟩
  rcases h4 with ⟨e1, e2⟩ | ⟨ds, sp, rfl, e2⟩
  · have : l = [] := by simpa using e2
    subst this; simp
  · have := bulk_len ds
    simp only [Rows.uptoBulk]
    rw [List.length_map] at e2
    omega
/-- records of whatever -/
theorem TC.listN {α : Type} (f : α → List Value) (Q : α → DataW H → Prop) {t e m : Nat} {cs : List Value} {d : DataW H} (ht : P.underlying t = some (.slice e)) (hm : P.cellsOf e = m) (h0 : 0 < m)
    (hf : ∀ c di, TC enc P w base spare held e c di → ∃ x, c = f x ∧ Q x di) (h : TC enc P w base spare held t cs d) :
    ∃ A cap, ∃ l : List α, cs = [.slice A l.length cap] ∧ Rd w [] A (l.flatMap f) ∧ l.length ≤ cap ∧ l.length ≤ Rows.uptoBulk d ∧ (∀ x ∈ l, ∃ di, Q x di ∧ Rows.uptoBulk di ≤ Rows.uptoBulk d) ∧
      ∀ g : α → Nat, (∀ x di, Q x di → g x ≤ Rows.uptoBulk di) → (l.map g).sum ≤ Rows.uptoBulk d := by
  obtain ⟨A, len, cap, css, ds, rfl, h2, h3, h4, h5, h6, h7⟩ := TC.slice ht hm h0 h
  have hcap := TC.cap ht h
  obtain ⟨l, hl1, hl2⟩ := list_of (Q := fun i (x : α) => css[i]? = some (f x) ∧ ∃ di, ds[i]? = some di ∧ Q x di) len (fun i hi => by
    have hc := List.getElem?_eq_getElem (show i < css.length by omega)
    have hd := List.getElem?_eq_getElem (show i < ds.length by omega)
    obtain ⟨x, e1, e2⟩ := hf _ _ (h7 i _ _ hc hd)
    exact ⟨x, by rw [hc, e1], _, hd, e2⟩)
  have hcss : css = l.map f := by
    apply List.ext_getElem?
    intro i
    by_cases hi : i < len
    · have hx := List.getElem?_eq_getElem (show i < l.length by omega)
      rw [(hl2 i _ hx).1, List.getElem?_map, hx]; rfl
    · rw [List.getElem?_eq_none (by omega), List.getElem?_eq_none (by simp; omega)]
  have hb : ∀ di ∈ ds, Rows.uptoBulk di ≤ Rows.uptoBulk d := by
    intro di hdi
    rcases h6 with ⟨_, e2⟩ | ⟨sp, rfl⟩
    · have : ds = [] := List.eq_nil_of_length_eq_zero (by omega)
      subst this; cases hdi
    · obtain ⟨i, hi, rfl⟩ := List.mem_iff_getElem.1 hdi
      have := bulk_get (List.getElem?_eq_getElem hi)
      simp only [Rows.uptoBulk]
      omega
  refine ⟨A, cap, l, by rw [hl1], fun k v hv => ?_, by omega, ?_, fun x hx => ?_, fun g hg => ?_⟩
  · rw [List.flatMap_def, ← hcss] at hv
    obtain ⟨i, j, r, e1, e2, rfl⟩ := flatten_get css h4 k v hv
    obtain ⟨b, o, e3, e4⟩ := h5 i r e1 j v e2
    exact ⟨b, o, e3, by simp, e4⟩
  · rcases h6 with ⟨_, e2⟩ | ⟨sp, rfl⟩
    · have := bulk_pos d; omega
    · have := bulk_len ds
      simp only [Rows.uptoBulk]
      omega
  · obtain ⟨i, hi, rfl⟩ := List.mem_iff_getElem.1 hx
    obtain ⟨-, di, hdi, hq⟩ := hl2 i _ (List.getElem?_eq_getElem hi)
    exact ⟨di, hq, hb _ (List.mem_of_getElem? hdi)⟩
  · rcases h6 with ⟨_, e2⟩ | ⟨sp, rfl⟩
    · have : l = [] := List.eq_nil_of_length_eq_zero (by omega)
      subst this; simp
    · have := bulk_sum g (ds := ds) (l := l) (by omega) (fun i x di hx hdi => by
        obtain ⟨-, di', hdi', hq⟩ := hl2 i x hx
        rw [hdi] at hdi'; cases hdi'
        exact hg x di hq)
      simp only [Rows.uptoBulk]
      omega
end
end Go.Proofs.Ytcbppikkoelimaa

/- A watch's settings and what was said, as they come in. -/
namespace Go.Proofs.Ytcbppikkoelimaa
open Go.V Go.ChangeShapes Go.WideShapes Go.ChangeAt
set_option linter.unusedVariables false
set_option linter.unusedSimpArgs false

theorem okw_wn {cs : List Value} (h : okw [.i .i64, .i .i64, .i .i64, .i .i64, .i .i64] cs) : ∃ v : Wn, cs = v.cells := by
  match cs, h with
  | [.int _ a, .int _ b, .int _ c, .int _ d, .int _ e], ⟨⟨h1, _⟩, ⟨h2, _⟩, ⟨h3, _⟩, ⟨h4, _⟩, ⟨h5, _⟩, _⟩ =>
    subst h1; subst h2; subst h3; subst h4; subst h5; exact ⟨⟨a, b, c, d, e⟩, rfl⟩
abbrev SVL : List Lf := [.i .u64, .i .i64, .i .u64, .i .u64, .i .u64, .i .u32, .i .i64, .i .i64, .i .i64, .i .u64, .i .u64, .i .i64, .i .i64]
theorem okw_sev {cs : List Value} (h : okw SVL cs) : ∃ v : Ev, cs = v.cells ∧ True := by
  obtain ⟨a, cs, rfl, w1, h⟩ := okw_i h
  obtain ⟨b, cs, rfl, w2, h⟩ := okw_i h
  obtain ⟨c, cs, rfl, w3, h⟩ := okw_i h
  obtain ⟨d, cs, rfl, w4, h⟩ := okw_i h
  obtain ⟨e, cs, rfl, w5, h⟩ := okw_i h
  obtain ⟨f, cs, rfl, w6, h⟩ := okw_i h
  obtain ⟨g, cs, rfl, w7, h⟩ := okw_i h
  obtain ⟨i, cs, rfl, w8, h⟩ := okw_i h
  obtain ⟨j, cs, rfl, w9, h⟩ := okw_i h
  obtain ⟨k, cs, rfl, w10, h⟩ := okw_i h
  obtain ⟨l, cs, rfl, w11, h⟩ := okw_i h
  obtain ⟨m, cs, rfl, w12, h⟩ := okw_i h
  obtain ⟨n, cs, rfl, w13, h⟩ := okw_i h
  have := okw_nil h
  subst this
  exact ⟨⟨a, b, c, d, e, f, g, i, j, k, l, m, n⟩, rfl, trivial⟩
section
variable {H : Type} {enc : TypeId × Value → H} {w : World} {base : Nat} {spare : Nat → Bool} {held : Bool}
set_option maxRecDepth 20000 in
theorem read_evs {cs : List Value} {d : DataW H} (h : TC enc Try.prog w base spare held 24 cs d) :
    ∃ A cap, ∃ l : List Ev, cs = [.slice A l.length cap] ∧ Rd w [] A (erows l) ∧ l.length ≤ Rows.uptoBulk d := by
  have hz2 : Try.prog.cellsOf 24 = 1 := by kernel_rfl
  obtain ⟨A, cap, l, g, -, r, k, n⟩ := TC.list Ev.cells (fun _ => True) (ls := SVL) (e := 34) (by kernel_rfl) (by kernel_rfl) (by kernel_rfl) (by decide) (fun r hr => okw_sev hr) h
  exact ⟨A, cap, l, by simpa [hz2] using g, r, n⟩
set_option maxRecDepth 20000 in
theorem read_evsC {cs : List Value} {d : DataW H} (h : TC enc Try.prog w base spare held 24 cs d) :
    ∃ A cap, ∃ l : List Ev, cs = [.slice A l.length cap] ∧ Rd w [] A (erows l) ∧ l.length ≤ cap ∧ l.length ≤ Rows.uptoBulk d := by
  have hz2 : Try.prog.cellsOf 24 = 1 := by kernel_rfl
  obtain ⟨A, cap, l, g, -, r, k, n⟩ := TC.list Ev.cells (fun _ => True) (ls := SVL) (e := 34) (by kernel_rfl) (by kernel_rfl) (by kernel_rfl) (by decide) (fun r hr => okw_sev hr) h
  exact ⟨A, cap, l, by simpa [hz2] using g, r, k, n⟩
end
end Go.Proofs.Ytcbppikkoelimaa

/- Acts as they come in. -/
namespace Go.Proofs.Ytcbppikkoelimaa
open Go.V Go.ChangeShapes Go.WideShapes Go.ChangeAt
set_option linter.unusedVariables false
set_option linter.unusedSimpArgs false
section
variable {H : Type} {enc : TypeId × Value → H} {w : World} {base : Nat} {spare : Nat → Bool} {held : Bool}
set_option maxRecDepth 20000 in
theorem read_acts {cs : List Value} {d : DataW H} (h : TC enc Try.prog w base spare held 61 cs d) (hk : Rows.uptoBulk d ≤ 1048576) :
    ∃ A cap, ∃ l : List AcT, cs = [.slice A l.length cap] ∧ Rd w [] A (l.flatMap AcT.cells) ∧ l.length ≤ 1048576 ∧ evN l ≤ 1048576 ∧ ∀ a ∈ l, Rd w [] a.A (erows a.evs) ∧ a.evs.length ≤ a.cap := by
  have hz : Try.prog.cellsOf 24 = 1 := by kernel_rfl
  have hz1 : Try.prog.cellsOf 3 = 1 := by kernel_rfl
  have hz2 : Try.prog.cellsOf 4 = 1 := by kernel_rfl
  have hz3 : Try.prog.cellsOf 25 = 1 := by kernel_rfl
  obtain ⟨A, cap, l, h1, h2, h3, h4, h5, h6⟩ := TC.listN (f := AcT.cells) (Q := fun a di => Rd w [] a.A (erows a.evs) ∧ a.evs.length ≤ a.cap ∧ a.evs.length ≤ Rows.uptoBulk di) Try.underlying61 (m := 4) (by kernel_rfl) (by omega) (fun c di hc => by
    obtain ⟨ds, e1, e2, e3, he⟩ := hc.struct Try.underlying66
    match ds, e2 with
    | [f1, f2, f3, f4], _ =>
    match c, e3 with
    | [x0, x1, x2, x3], _ =>
    obtain ⟨o0, g0⟩ := (he 0 _ f1 rfl rfl).bool Try.underlying4
    obtain ⟨B1, c1, evs, g1, r1, k1, m1⟩ := read_evsC (he 1 _ f2 rfl rfl)
    obtain ⟨n2, g2, -⟩ := (he 2 _ f3 rfl rfl).int Try.underlying3
    obtain ⟨n3, g3, -⟩ := (he 3 _ f4 rfl rfl).int Try.underlying25
    have z0 : x0 = .bool o0 := by simpa [hz2] using g0
    have z1 : x1 = .slice B1 evs.length c1 := by simpa [hz] using g1
    have z2 : x2 = .int .i64 n2 := by simpa [hz1] using g2
    have z3 : x3 = .int .u32 n3 := by simpa [hz3] using g3
    subst z0; subst z1; subst z2; subst z3
    refine ⟨⟨o0, B1, c1, evs, n2, n3⟩, rfl, r1, k1, ?_⟩
    rw [e1]
    simp only [Rows.uptoBulk, Rows.uptoBulkAll]
    show evs.length ≤ _
    omega) h
  have hs := h6 (fun a => a.evs.length) (fun x di hq => hq.2.2)
  refine ⟨A, cap, l, h1, h2, by omega, by show (l.map fun a => a.evs.length).sum ≤ _; omega, fun a ha => ?_⟩
  obtain ⟨di, ⟨q1, q2, -⟩, -⟩ := h5 a ha
  exact ⟨q1, q2⟩
end
end Go.Proofs.Ytcbppikkoelimaa
