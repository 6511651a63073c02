/- The law RulesChecks: its walk. -/
import Derived.Test.YtmfobfamdaajmaaQCopied
import Derived.Test.YtmfobfamdaajmaaQBooks
import Derived.Test.YtmfobfamdaajmaaQNew
import Derived.Test.YtmfobfamdaajmaaQValid2
namespace Go.Proofs.Ytmfobfamdaajmaa
open Go.V
set_option linter.unusedVariables false
set_option linter.unusedSimpArgs false

set_option maxRecDepth 10000 in
theorem Len_is (w : World) (b : Nat) (cap meet high seq : Int) (A1 A2 : Option Addr) (n1 n2 c1 c2 : Nat) (hb : Rd w [] (some ⟨b, 0, none⟩) (bcells cap meet (.slice A1 n1 c1) (.slice A2 n2 c2) high seq)) (hn1 : n1 ≤ 2513169434843) (hn2 : n2 ≤ 2513169434843) :
    Is Try.prog 20 [.pointer (some ⟨b, 0, none⟩)] w (.int .i64 (n1 + n2)) := by
  refine Does.pure (Does.of (n := 16) Try.func20 rfl rfl rfl rfl ?_)
  refine .seq ((.region (.v (.assign rfl) (.nil ?_))))
  refine .seq ((.drawS (by kernel_rfl) (by kernel_rfl) (.v (.move rfl) (.v (.nilCheck rfl) (.v (.fieldAddr rfl) (.v (.fieldAddr rfl) (.v (.load (v := .slice A1 n1 c1) rfl (hb.cell (i := 2) rfl)) (.v (.len rfl) (.v (.move rfl) (.v (.nilCheck rfl) (.v (.fieldAddr rfl) (.v (.fieldAddr rfl) (.v (.load (v := .slice A2 n2 c2) rfl (hb.cell (i := 3) rfl)) (.v (.len rfl) (.v (.addi rfl rfl (by omega)) (.v (.assign rfl) (.nil ?_)))))))))))))))))
  exact .ret ⟨[_], ⟨rfl, trivial⟩, rfl⟩

set_option maxRecDepth 20000 in
theorem RulesChecks_ok (w : World) (k id tg mb sd ty pr q pk : Int) (cap meet high seq : Int) (A1 A2 : Option Addr) (c1 c2 : Nat) (bs ss : List Ord) (h1 : Rd w [] A1 (rows bs)) (h2 : Rd w [] A2 (rows ss)) (hw : ∀ o ∈ bs ++ ss, o.wf)
    (hb1 : bs.length ≤ 2513169434843) (hb2 : ss.length ≤ 2513169434843) :
    Is Try.prog 3 [.agg ⟨ccells k id tg mb sd ty pr q pk⟩, .agg ⟨bcells cap meet (.slice A1 bs.length c1) (.slice A2 ss.length c2) high seq⟩] w (.bool true) := by
  refine Does.pure (Does.of (n := 76) Try.func3 rfl rfl rfl rfl ?_)
  refine .seq ((.region (.nw (.box rfl rfl) fun b2 => (.nw (.box rfl rfl) fun b3 => (.v (.assign rfl) (.nil ?_))))))
  refine .seq ((.region (.v (.loadA rfl .whole rfl) ?_)))
  refine .ef (.call0 rfl rfl fun w s => Copy_ok w cap meet high seq A1 A2 c1 c2 bs ss (h1.keep0 s) (h2.keep0 s) hb1 hb2) ?_
  rintro _ _ ⟨_, ⟨v1, v2, k1, k2, rfl, rfl, o1, o2⟩, rfl⟩
  obtain ⟨B1, d1, rfl⟩ := OwnS.sl o1
  obtain ⟨B2, d2, rfl⟩ := OwnS.sl o2
  refine .nw .alloc fun b5 => (.st (.sw rfl rfl) (.nil ?_))
  have pre2 : ∀ (S T : Value) (j : Nat) (v : Value), ([.int .i64 cap, .int .i64 meet] : List Value)[j]? = some v → (bcells cap meet S T high seq)[0 + 0 + j]? = some v := by
    intro S T j v hv
    match j, hv with
    | 0, hv => exact hv
    | 1, hv => exact hv
    | _ + 2, hv => cases hv
  by_cases hc : Cfg cap meet
  · refine .seq ((.region (.v (.fieldAddr rfl) (.v (.loadA (vs := [.int .i64 cap, .int .i64 meet]) rfl (.chunk (pre2 _ _)) rfl) ?_))))
    refine .ef (.call0 rfl rfl fun w s => New_ok w cap meet) ?_
    rintro _ _ ⟨_, hN, rfl⟩
    rw [if_pos hc] at hN
    obtain ⟨bn, rfl, rfl⟩ := hN
    refine .v (.move rfl) (.v (.extract rfl rfl) (.v (.extract rfl rfl) (.v (.assign rfl) (.v (.assign rfl) (.nil ?_)))))
    refine .seq ((.region (.v (.fieldAddr rfl) (.v (.loadA (vs := [.int .i64 cap, .int .i64 meet]) rfl (.chunk (pre2 _ _)) rfl) (.pc rfl rfl (fun w s => refNew_ok w cap meet) ?_)))))
    rw [if_pos hc, if_pos hc]
    refine .v (.move rfl) (.v (.extract rfl rfl) (.v (.extract rfl rfl) (.nw .alloc fun b8 => (.st (.sw rfl rfl) (.v (.assign rfl) (.nil ?_))))))
    refine .seq (.seq (.drawP [0, 2, 1, 3, 4, 5, 6, 8, 7, 9, 10, 11, 12, 13, 14, 15, 16, 17, 18, 19, 20, 21, 22, 23, 24, 25, 26, 27, 28, 29] _ (fun _ h => h) (by kernel_rfl) (by kernel_rfl) ?_))
    refine .v (fun _ f => .loadA (vs := ccells k id tg mb sd ty pr q pk) rfl (.whole (hb := .sub f)) rfl) (.v (fun _ f => .loadA (vs := ccells k id tg mb sd ty pr q pk) rfl (.whole (hb := .sub f)) rfl) (.pc rfl rfl (fun w s => Check_ok w k id tg mb sd ty pr q pk) (.pc rfl rfl (fun w s => refCheck_ok w k id tg mb sd ty pr q pk) ?_)))
    refine .v (fun _ f => .nei rfl rfl) (.v (fun _ f => .move rfl) (?_))
    refine .or 29 34 5 5 rfl rfl (fun g1 => .v (fun _ f => .loadA (vs := bcells cap meet (.slice B1 bs.length d1) (.slice B2 ss.length d2) high seq) rfl (.whole (hb := .sub f)) rfl) (.v (fun _ f => .loadA (vs := bcells cap meet (.slice A1 bs.length c1) (.slice A2 ss.length c2) high seq) rfl (.whole (hb := .sub f)) rfl) (.pc rfl rfl (fun w s => Valid_ok w cap meet high seq B1 B2 d1 d2 bs ss (OwnS.rd o1 s (no := []) (fun p hp => by simp [hp]) (by simp)) (OwnS.rd o2 s (no := []) (fun p hp => by simp [hp]) (by simp)) hw hb1 hb2) (.pc rfl rfl (fun w s => refValid_ok w cap meet high seq A1 A2 c1 c2 bs ss (h1.keep0 s) (h2.keep0 s) hw hb1 hb2) (.v (fun _ f => .nei rfl rfl) (.nil ⟨rfl, rfl, rfl, rfl⟩)))))) ?_
    refine .v (fun _ f => .move rfl) (?_)
    refine .or 36 40 4 4 rfl rfl (fun g2 => .v (fun _ f => .loadA (vs := bcells cap meet (.slice B1 bs.length d1) (.slice B2 ss.length d2) high seq) rfl (.whole (hb := .sub f)) rfl) (.v (fun _ f => .loadA (vs := bcells cap meet (.slice A1 bs.length c1) (.slice A2 ss.length c2) high seq) rfl (.whole (hb := .sub f)) rfl) (.pc rfl rfl (fun w s => books_ok w cap meet high seq B1 B2 A1 A2 d1 d2 c1 c2 bs ss (OwnS.rd o1 s (no := []) (fun p hp => by simp [hp]) (by simp)) (OwnS.rd o2 s (no := []) (fun p hp => by simp [hp]) (by simp)) (h1.keep0 s) (h2.keep0 s) hb1 hb2) (.v (fun _ f => .not rfl) (.nil ⟨rfl, rfl, rfl, rfl⟩))))) ?_
    refine .v (fun _ f => .move rfl) (?_)
    refine .or 42 45 3 3 rfl rfl (fun g3 => .v (fun _ f => .move rfl) (.v (fun _ f => .move rfl) (.v (fun _ f => .nei rfl rfl) (.nil ⟨rfl, rfl, rfl, rfl⟩)))) ?_
    refine .v (fun _ f => .move rfl) (?_)
    refine .or 47 52 5 5 rfl rfl (fun g4 => .v (fun _ f => .move rfl) (.v (fun _ f => .eql_ptr_nil rfl rfl) (.v (fun _ f => .move rfl) (.v (fun _ f => .nei rfl rfl) (.v (fun _ f => .neb rfl rfl) (.nil ⟨rfl, rfl, rfl, rfl⟩)))))) ?_
    refine .nil ?_
    refine .cond rfl (fun h => absurd h (by simp)) (fun _ => .skip ?_)
    refine .seq (.seq (.drawP [0, 1, 2, 3, 5, 4, 6, 7, 8, 9, 10, 11, 12, 13] _ (fun _ h => h) (by kernel_rfl) (by kernel_rfl) ?_))
    refine .v (fun _ f => .move rfl) (.v (fun _ f => .neq_ptr_nil rfl rfl) (.v (fun _ f => .move rfl) (.v (fun _ f => .move rfl) (.v (fun _ f => .loadA (vs := bnew cap meet) rfl (.whole (hb := .sub f)) rfl) ?_))))
    refine .cl rfl rfl (fun w s => Book_ok w bn cap meet 0 0 none none 0 0 [] [] (Rd.chunk s (l := bnew cap meet) (T := 67) (by simp) (fun j v hv => by rw [Nat.zero_add]; exact hv)) (Rd.nil _ _ _) (Rd.nil _ _ _) (by simp) (by simp)) ?_
    rintro _ _ ⟨E1, E2, e1, e2, q1, q2, rfl, rfl, oe1, oe2⟩
    refine .pc (v := .bool true) rfl rfl (fun w s => books_ok w cap meet 0 0 E1 E2 none none e1 e2 0 0 [] [] (Rd.nil _ _ _) (Rd.nil _ _ _) (Rd.nil _ _ _) (Rd.nil _ _ _) (by simp) (by simp)) ?_
    refine .v (fun _ f => .not rfl) (.v (fun _ f => .move rfl) ?_)
    refine .or 62 65 3 3 rfl rfl (fun g6 => .v (fun _ f => .move rfl) (.pc rfl rfl (fun w s => Len_is w bn cap meet 0 0 none none 0 0 0 0 (Rd.chunk s (l := bnew cap meet) (T := 67) (by simp) (fun j v hv => by rw [Nat.zero_add]; exact hv)) (by simp) (by simp)) (.v (fun _ f => .nei rfl rfl) (.nil ⟨rfl, rfl, rfl, rfl⟩)))) ?_
    refine .v (fun _ f => .pick rfl rfl rfl) (.nil ?_)
    refine .cond rfl (fun h => absurd h (by simp)) (fun _ => .skip ?_)
    refine .seq ((.region (.v (.build (out := ccells 0 0 0 0 0 0 0 0 0) rfl rfl) (.pc rfl rfl (fun w s => Check_ok w 0 0 0 0 0 0 0 0 0) (.v (.eqi rfl rfl) (.v (.move rfl) (.and 71 74 3 3 rfl rfl (fun g7 => .v (.build (out := ccells 2 0 0 0 0 0 0 0 0) rfl rfl) (.pc rfl rfl (fun w s => Check_ok w 2 0 0 0 0 0 0 0 0) (.v (.eqi rfl rfl) (.nil ⟨rfl, rfl, rfl, rfl⟩)))) (.v (.assign rfl) (.nil ?_)))))))))
    exact .ret ⟨[_], ⟨rfl, trivial⟩, congrArg Value.bool (by decide)⟩
  · refine .seq ((.region (.v (.fieldAddr rfl) (.v (.loadA (vs := [.int .i64 cap, .int .i64 meet]) rfl (.chunk (pre2 _ _)) rfl) ?_))))
    refine .ef (.call0 rfl rfl fun w s => New_ok w cap meet) ?_
    rintro _ _ ⟨_, hN, rfl⟩
    rw [if_neg hc] at hN
    obtain ⟨rfl, rfl⟩ := hN
    refine .v (.move rfl) (.v (.extract rfl rfl) (.v (.extract rfl rfl) (.v (.assign rfl) (.v (.assign rfl) (.nil ?_)))))
    refine .seq ((.region (.v (.fieldAddr rfl) (.v (.loadA (vs := [.int .i64 cap, .int .i64 meet]) rfl (.chunk (pre2 _ _)) rfl) (.pc rfl rfl (fun w s => refNew_ok w cap meet) ?_)))))
    rw [if_neg hc, if_neg hc]
    refine .v (.move rfl) (.v (.extract rfl rfl) (.v (.extract rfl rfl) (.nw .alloc fun b8 => (.st (.sw rfl rfl) (.v (.assign rfl) (.nil ?_))))))
    refine .seq (.seq (.drawP [0, 2, 1, 3, 4, 5, 6, 8, 7, 9, 10, 11, 12, 13, 14, 15, 16, 17, 18, 19, 20, 21, 22, 23, 24, 25, 26, 27, 28, 29] _ (fun _ h => h) (by kernel_rfl) (by kernel_rfl) ?_))
    refine .v (fun _ f => .loadA (vs := ccells k id tg mb sd ty pr q pk) rfl (.whole (hb := .sub f)) rfl) (.v (fun _ f => .loadA (vs := ccells k id tg mb sd ty pr q pk) rfl (.whole (hb := .sub f)) rfl) (.pc rfl rfl (fun w s => Check_ok w k id tg mb sd ty pr q pk) (.pc rfl rfl (fun w s => refCheck_ok w k id tg mb sd ty pr q pk) ?_)))
    refine .v (fun _ f => .nei rfl rfl) (.v (fun _ f => .move rfl) (?_))
    refine .or 29 34 5 5 rfl rfl (fun g1 => .v (fun _ f => .loadA (vs := bcells cap meet (.slice B1 bs.length d1) (.slice B2 ss.length d2) high seq) rfl (.whole (hb := .sub f)) rfl) (.v (fun _ f => .loadA (vs := bcells cap meet (.slice A1 bs.length c1) (.slice A2 ss.length c2) high seq) rfl (.whole (hb := .sub f)) rfl) (.pc rfl rfl (fun w s => Valid_ok w cap meet high seq B1 B2 d1 d2 bs ss (OwnS.rd o1 s (no := []) (fun p hp => by simp [hp]) (by simp)) (OwnS.rd o2 s (no := []) (fun p hp => by simp [hp]) (by simp)) hw hb1 hb2) (.pc rfl rfl (fun w s => refValid_ok w cap meet high seq A1 A2 c1 c2 bs ss (h1.keep0 s) (h2.keep0 s) hw hb1 hb2) (.v (fun _ f => .nei rfl rfl) (.nil ⟨rfl, rfl, rfl, rfl⟩)))))) ?_
    refine .v (fun _ f => .move rfl) (?_)
    refine .or 36 40 4 4 rfl rfl (fun g2 => .v (fun _ f => .loadA (vs := bcells cap meet (.slice B1 bs.length d1) (.slice B2 ss.length d2) high seq) rfl (.whole (hb := .sub f)) rfl) (.v (fun _ f => .loadA (vs := bcells cap meet (.slice A1 bs.length c1) (.slice A2 ss.length c2) high seq) rfl (.whole (hb := .sub f)) rfl) (.pc rfl rfl (fun w s => books_ok w cap meet high seq B1 B2 A1 A2 d1 d2 c1 c2 bs ss (OwnS.rd o1 s (no := []) (fun p hp => by simp [hp]) (by simp)) (OwnS.rd o2 s (no := []) (fun p hp => by simp [hp]) (by simp)) (h1.keep0 s) (h2.keep0 s) hb1 hb2) (.v (fun _ f => .not rfl) (.nil ⟨rfl, rfl, rfl, rfl⟩))))) ?_
    refine .v (fun _ f => .move rfl) (?_)
    refine .or 42 45 3 3 rfl rfl (fun g3 => .v (fun _ f => .move rfl) (.v (fun _ f => .move rfl) (.v (fun _ f => .nei rfl rfl) (.nil ⟨rfl, rfl, rfl, rfl⟩)))) ?_
    refine .v (fun _ f => .move rfl) (?_)
    refine .or 47 52 5 5 rfl rfl (fun g4 => .v (fun _ f => .move rfl) (.v (fun _ f => .eql_ptr_nil rfl rfl) (.v (fun _ f => .move rfl) (.v (fun _ f => .nei rfl rfl) (.v (fun _ f => .neb rfl rfl) (.nil ⟨rfl, rfl, rfl, rfl⟩)))))) ?_
    refine .nil ?_
    refine .cond rfl (fun h => absurd h (by simp)) (fun _ => .skip ?_)
    refine .seq (.seq (.drawP [0, 1, 2, 3, 5, 4, 6, 7, 8, 9, 10, 11, 12, 13] _ (fun _ h => h) (by kernel_rfl) (by kernel_rfl) ?_))
    refine .v (fun _ f => .move rfl) (.v (fun _ f => .neq_ptr_nil rfl rfl) (.v (fun _ f => .move rfl) ?_))
    refine .and (b2 := false) 56 66 10 7 rfl rfl (fun g => absurd g (by simp)) (.nil ?_)
    refine .cond rfl (fun h => absurd h (by simp)) (fun _ => .skip ?_)
    refine .seq ((.region (.v (.build (out := ccells 0 0 0 0 0 0 0 0 0) rfl rfl) (.pc rfl rfl (fun w s => Check_ok w 0 0 0 0 0 0 0 0 0) (.v (.eqi rfl rfl) (.v (.move rfl) (.and 71 74 3 3 rfl rfl (fun g7 => .v (.build (out := ccells 2 0 0 0 0 0 0 0 0) rfl rfl) (.pc rfl rfl (fun w s => Check_ok w 2 0 0 0 0 0 0 0 0) (.v (.eqi rfl rfl) (.nil ⟨rfl, rfl, rfl, rfl⟩)))) (.v (.assign rfl) (.nil ?_)))))))))
    exact .ret ⟨[_], ⟨rfl, trivial⟩, congrArg Value.bool (by decide)⟩
end Go.Proofs.Ytmfobfamdaajmaa
