/- Two books that read alike are alike. -/
import Derived.Test.YtmfobfamdaajmaaQOrders
namespace Go.Proofs.Ytmfobfamdaajmaa
open Go.V
set_option linter.unusedVariables false
set_option linter.unusedSimpArgs false

theorem cfg_oks (c m : Int) : oks [.i .i64, .i .i64] [.int .i64 c, .int .i64 m] := ⟨rfl, rfl, trivial⟩
set_option maxRecDepth 10000 in
theorem books_ok (w : World) (cap meet high seq : Int) (A1 A2 B1 B2 : Option Addr) (c1 c2 d1 d2 : Nat) (bs ss : List Ord) (h1 : Rd w [] A1 (rows bs)) (h2 : Rd w [] A2 (rows ss)) (k1 : Rd w [] B1 (rows bs)) (k2 : Rd w [] B2 (rows ss)) (hb1 : bs.length ≤ 2513169434843) (hb2 : ss.length ≤ 2513169434843) :
    Is Try.prog 18 [.agg ⟨bcells cap meet (.slice A1 bs.length c1) (.slice A2 ss.length c2) high seq⟩, .agg ⟨bcells cap meet (.slice B1 bs.length d1) (.slice B2 ss.length d2) high seq⟩] w (.bool true) := by
  refine Does.pure (Does.of (n := 38) Try.func18 rfl rfl rfl rfl ?_)
  have e1 : cellsEq [.int .i64 cap, .int .i64 meet] [.int .i64 cap, .int .i64 meet] = true := (cellsEq_iff (cfg_oks cap meet) (cfg_oks cap meet)).2 rfl
  have pre2 : ∀ (S T : Value) (j : Nat) (v : Value), ([.int .i64 cap, .int .i64 meet] : List Value)[j]? = some v → (bcells cap meet S T high seq)[0 + 0 + j]? = some v := by
    intro S T j v hv
    match j, hv with
    | 0, hv => exact hv
    | 1, hv => exact hv
    | _ + 2, hv => cases hv
  refine .seq ((.region (.nw (.box rfl rfl) fun b2 => (.nw (.box rfl rfl) fun b3 => (.v (.assign rfl) (.nil ?_))))))
  refine .seq ((.region (.v (.fieldAddr rfl) (.v (.loadA (vs := [.int .i64 cap, .int .i64 meet]) rfl (.chunk (pre2 _ _)) rfl) (.v (.fieldAddr rfl) (.v (.loadA (vs := [.int .i64 cap, .int .i64 meet]) rfl (.chunk (pre2 _ _)) rfl) (.v (.eqA rfl rfl (cfg_oks cap meet) (cfg_oks cap meet)) (.v (.move rfl) (.and 10 15 5 5 rfl rfl (fun g1 => .v (.fieldAddr rfl) (.v (.load rfl (.one rfl)) (.v (.fieldAddr rfl) (.v (.load rfl (.one rfl)) (.v (.eqi rfl rfl) (.nil ⟨rfl, rfl, rfl, rfl⟩)))))) (.v (.move rfl) (.and 17 22 5 5 rfl rfl (fun g2 => .v (.fieldAddr rfl) (.v (.load rfl (.one rfl)) (.v (.fieldAddr rfl) (.v (.load rfl (.one rfl)) (.v (.eqi rfl rfl) (.nil ⟨rfl, rfl, rfl, rfl⟩)))))) (.v (.move rfl) (.and 24 29 5 5 rfl rfl (fun g3 => .v (.fieldAddr rfl) (.v (.load rfl (.one rfl)) (.v (.fieldAddr rfl) (.v (.load rfl (.one rfl)) (.pc rfl rfl (fun w s => orders_ok w A1 B1 bs.length c1 d1 bs (h1.keep0 s) (k1.keep0 s) rfl hb1) (.nil ⟨rfl, rfl, rfl, rfl⟩)))))) (.v (.move rfl) (.and 31 36 5 5 rfl rfl (fun g4 => .v (.fieldAddr rfl) (.v (.load rfl (.one rfl)) (.v (.fieldAddr rfl) (.v (.load rfl (.one rfl)) (.pc rfl rfl (fun w s => orders_ok w A2 B2 ss.length c2 d2 ss (h2.keep0 s) (k2.keep0 s) rfl hb2) (.nil ⟨rfl, rfl, rfl, rfl⟩)))))) (.v (.assign rfl) (.nil ?_)))))))))))))))))
  exact .ret ⟨[_], ⟨rfl, trivial⟩, congrArg Value.bool (by rw [e1]; simp)⟩
end Go.Proofs.Ytmfobfamdaajmaa
