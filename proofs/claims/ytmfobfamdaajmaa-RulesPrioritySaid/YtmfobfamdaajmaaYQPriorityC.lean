/- Texts that the row RQPriority stands on: QMeets, QTSpec, QTrades, QTFun, QWhole, QComes, QDoS, QDoW, QBegun, QInv, QVl, QFind, QKPlain, QPPlain, QNumbers, QSound, QBehind. -/
import Derived.Test.YtmfobfamdaajmaaYQPriorityB
/- Trading: its states; (*teller).meets. -/
namespace Go.Proofs.Ytmfobfamdaajmaa
open Go.V
set_option linter.unusedVariables false
set_option linter.unusedSimpArgs false

/-- where trading stands: the other side, what is left, the last number, what was told -/
structure TS where
  L : List Ord
  left : Int
  seq : Int
  evs : List Ev
def ev0 : Ev := ⟨0, 0, 0, 0, 0, 0, 0, 0, 0, 0, 0, 0, 0⟩
def evCancel (id q reason : Int) : Ev := ⟨0, 4, id, 0, 0, 0, 0, 0, 0, q, 0, reason, 0⟩
def evTrade (id other sd pr q : Int) : Ev := ⟨0, 3, id, other, 0, 0, sd, 0, pr, q, 0, 0, 0⟩
def evRefresh (id pr q : Int) : Ev := ⟨0, 5, id, 0, 0, 0, 0, 0, pr, q, 0, 0, 0⟩
def TS.tell (s : TS) (e : Ev) : TS := ⟨s.L, s.left, nx s.seq, s.evs ++ [e.num (nx s.seq)]⟩
def TS.meets (meet : Int) (t : Tk) (f : Ord) (rest : List Ord) (s : TS) : TS :=
  let s1 := if meet = 1 then s else (⟨rest, s.left, s.seq, s.evs⟩ : TS).tell (evCancel f.id (f.v + f.hd) 5)
  if meet = 2 then s1 else ⟨s1.L, 0, (s1.tell (evCancel t.o.id s1.left 5)).seq, (s1.tell (evCancel t.o.id s1.left 5)).evs⟩

/-- a book's cells: one side is 'mine' -/
abbrev BL (i : Nat) (x0 x1 m o x4 q : Value) : List Value := [x0, x1, if i = 2 then m else o, if i = 2 then o else m, x4, q]
theorem BL_get {i : Nat} (hi : i = 2 ∨ i = 3) (x0 x1 m o x4 q : Value) : (BL i x0 x1 m o x4 q)[i]? = some m := by
  rcases hi with rfl | rfl <;> rfl
theorem BL_set {i : Nat} (hi : i = 2 ∨ i = 3) (x0 x1 m o x4 q m' : Value) : (BL i x0 x1 m o x4 q).set i m' = BL i x0 x1 m' o x4 q := by
  rcases hi with rfl | rfl <;> rfl
abbrev To (po : Nat) (t : Tk) (left : Int) : Nat × Ch := (po, .cells [.int .u64 t.o.id, .int .u32 t.o.mb, .int .i64 t.o.ty, .int .i64 t.o.pr, .int .u64 t.o.v, .int .u64 t.o.hd, .int .u64 t.o.pk, .int .i64 t.side, .int .i64 t.kind, .int .u64 left] 89)
abbrev TH (t b po i : Nat) (x0 x1 vo x4 : Value) (tk : Tk) (left seq : Int) (vs ve : Value) (ks ke : Hp) : Hp :=
  Tt t b ve :: Tb b (BL i x0 x1 vs vo x4 (.int .u64 seq)) :: To po tk left :: (ks ++ ke)
def THs (t b po i : Nat) (x0 x1 vo x4 : Value) (tk : Tk) (s : TS) (hs : Hp) : Prop :=
  ∃ vs ve ks ke, hs = TH t b po i x0 x1 vo x4 tk s.left s.seq vs ve ks ke ∧ Side vs s.L ks ∧ Evs ve s.evs ke

theorem delete0_ok (w : World) (A : Option Addr) (n c : Nat) (x : Ord) (l : List Ord) (h : Hp) (k : Side (.slice A n c) (x :: l) h) (hn : n = l.length + 1) (hb : n ≤ 2513169434843) :
    Does Try.prog 45 [.slice A n c, .int .i64 0, .int .i64 1] h w (fun v hs => Side v l hs) := by
  subst hn
  refine (delete_ok w A (l.length + 1) c 0 (rows (x :: l)) h k (by omega) hb (rows_ones _)).mono fun v hs h => ?_
  have e : (rows (x :: l)).take (0 * 7) ++ (rows (x :: l)).drop ((0 + 1) * 7) = rows l := by
    rw [rows_drop]; simp
  rw [e] at h
  exact h
theorem wrapU {x : Int} (h : U x) : IntKind.u64.wrap x = x := by
  unfold U at h
  simp [IntKind.wrap, IntKind.bits, IntKind.signed]; omega
set_option maxRecDepth 10000 in
theorem meets_ok (w : World) (t b po i : Nat) (hi : i = 2 ∨ i = 3) (x0 x1 vo x4 : Value) (tk : Tk) (meet : Int) (f : Ord) (rest : List Ord) (left seq : Int) (evs : List Ev) (vs ve : Value) (ks ke : Hp)
    (hS : Side vs (f :: rest) ks) (hE : Evs ve evs ke) (hn : rest.length + 1 ≤ 2513169434843) (he : evs.length + 2 ≤ 1000000000000) (hq : U (f.v + f.hd)) :
    Does Try.prog 57 [.pointer (some ⟨t, 0, none⟩), .pointer (some ⟨po, 0, none⟩), .int .i64 meet, .agg ⟨f.cells⟩, .pointer (some ⟨b, i, none⟩)] (TH t b po i x0 x1 vo x4 tk left seq vs ve ks ke) w
      (fun _ hs => THs t b po i x0 x1 vo x4 tk ((⟨f :: rest, left, seq, evs⟩ : TS).meets meet tk f rest) hs) := by
  refine Does.less (Does.of (n := 45) Try.func57 rfl rfl rfl rfl ?_)
  refine .seq ((.region (.nw (.box (l := f.cells) rfl rfl) fun b8 => (.nil ?_))))
  refine .mid (X := TS × Value × Value × Hp × Hp) (fun x => [(0, .pointer (some ⟨t, 0, none⟩)), (1, .pointer (some ⟨po, 0, none⟩)), (2, .int .i64 meet)]) (fun x => TH t b po i x0 x1 vo x4 tk x.1.left x.1.seq x.2.1 x.2.2.1 x.2.2.2.1 x.2.2.2.2)
    (fun x => Side x.2.1 x.1.L x.2.2.2.1 ∧ Evs x.2.2.1 x.1.evs x.2.2.2.2 ∧ x.1.evs.length + 1 ≤ 1000000000000 ∧ x.1 = (if meet = 1 then (⟨f :: rest, left, seq, evs⟩ : TS) else (⟨rest, left, seq, evs⟩ : TS).tell (evCancel f.id (f.v + f.hd) 5)))
    (.seq ((.region (.v (.move rfl) (.v (.nei rfl rfl) (.nil ?_)))))) ?_
  · refine .cond_dec rfl (fun h1 => ?_) (fun h1 => .skip ?_)
    · obtain ⟨A, c, rfl⟩ := OwnS.sl hS
      refine .seq ((.region (.v (.move rfl) (.v (.move rfl) (.v (.nilCheck rfl) (.v (.load (v := .slice A (f :: rest).length c) rfl (.one (BL_get hi _ _ _ _ _ _))) ?_))))))
      refine .ef (.callT ks rfl rfl (fun w' s' => delete0_ok w' A _ c f rest ks hS rfl (by simp; omega))) ?_
      rintro v' _ ⟨ks', hS', rfl⟩
      obtain ⟨A', c', rfl⟩ := OwnS.sl hS'
      refine .v (.nilCheck rfl) (.st (.store rfl rfl rfl (by rcases hi with rfl | rfl <;> simp)) (.nil ?_))
      rw [BL_set hi]
      refine .region (.v (.move rfl) (.v (.fieldAddr rfl) (.v (.load (v := .int .u64 f.id) rfl (.one rfl)) (.v (.fieldAddr rfl) (.v (.load (v := .int .u64 f.v) rfl (.one rfl)) (.v (.fieldAddr rfl) (.v (.load (v := .int .u64 f.hd) rfl (.one rfl)) (.v (.add rfl rfl) ?_))))))))
      rw [wrapU hq]
      refine .v (.build (out := (evCancel f.id (f.v + f.hd) 5).cells) rfl rfl) ?_
      refine .ef (.callT (Tt t b ve :: Tb b (BL i x0 x1 (.slice A' rest.length c') vo x4 (.int .u64 seq)) :: ke) rfl rfl (fun w' s' => tell_ok w' t b x0 x1 _ _ x4 seq (evCancel f.id (f.v + f.hd) 5) evs ve ke hE (by omega))) ?_
      rintro _ _ ⟨_, ⟨ve', ke', rfl, hE'⟩, rfl⟩
      refine .nil ⟨⟨(⟨rest, left, seq, evs⟩ : TS).tell (evCancel f.id (f.v + f.hd) 5), _, ve', ks', ke'⟩, ⟨hS', hE', by simp [TS.tell]; omega, by rw [if_neg h1]⟩, .cons rfl (.cons rfl (.cons rfl (.nil _))), fun _ s => Sat.take (pre := TH t b po i x0 x1 vo x4 tk left (nx seq) (.slice A' rest.length c') ve' ks' ke') s⟩
    · have h1' : meet = 1 := by omega
      exact ⟨⟨⟨f :: rest, left, seq, evs⟩, vs, ve, ks, ke⟩, ⟨hS, hE, by simp; omega, by rw [if_pos h1']⟩, .cons rfl (.cons rfl (.cons rfl (.nil _))), fun _ s => Sat.take (pre := TH t b po i x0 x1 vo x4 tk left seq vs ve ks ke) s⟩
  · rintro ⟨s1, vs1, ve1, ks1, ke1⟩ ⟨hS1, hE1, he1, hs1⟩
    dsimp only at hS1 hE1 he1 hs1 ⊢
    have fin : (⟨f :: rest, left, seq, evs⟩ : TS).meets meet tk f rest = if meet = 2 then s1 else ⟨s1.L, 0, (s1.tell (evCancel tk.o.id s1.left 5)).seq, (s1.tell (evCancel tk.o.id s1.left 5)).evs⟩ := by rw [hs1]; rfl
    rw [fin]
    refine .seq ((.region (.v (.move rfl) (.v (.nei rfl rfl) (.nil ?_)))))
    refine .cond_dec rfl (fun h2 => ?_) (fun h2 => .skip ?_)
    · rw [if_neg h2]
      refine .seq ((.drawK [To po tk s1.left] (by intro p hp; simp at hp; subst hp; simp) (by kernel_rfl) (by kernel_rfl) ?_))
      refine .v (fun _ f => .move rfl) (.v (fun _ f => .move rfl) (.v (fun _ f => .nilCheck rfl) (.v (fun _ f => .fieldAddr rfl) (.v (fun _ f => .fieldAddr rfl) (.v (fun _ f => .load (v := .int .u64 tk.o.id) rfl (.one (hb := .sub f) rfl)) (.v (fun _ f => .move rfl) (.v (fun _ f => .nilCheck rfl) (.v (fun _ f => .fieldAddr rfl) (.v (fun _ f => .load (v := .int .u64 s1.left) rfl (.one (hb := .sub f) rfl)) (.v (fun _ f => .build (out := (evCancel tk.o.id s1.left 5).cells) rfl rfl) ?_))))))))))
      refine .ef (.callT (Tt t b ve1 :: Tb b (BL i x0 x1 vs1 vo x4 (.int .u64 s1.seq)) :: ke1) rfl rfl (fun w' s' => tell_ok w' t b x0 x1 _ _ x4 s1.seq (evCancel tk.o.id s1.left 5) s1.evs ve1 ke1 hE1 he1)) (fun _ _ ⟨_, _, e⟩ _ => by subst e; intro p hp; simp at hp; subst hp; simp) ?_
      rintro _ _ ⟨_, ⟨ve', ke', rfl, hE'⟩, rfl⟩
      refine .nil ?_
      refine .region (.v (.move rfl) (.v (.nilCheck rfl) (.v (.fieldAddr rfl) (.st (.storeL rfl rfl rfl) (.nil ?_)))))
      exact ⟨[], trivial, _, fun _ s => Sat.take (pre := TH t b po i x0 x1 vo x4 tk 0 (nx s1.seq) vs1 ve' ks1 ke') s, vs1, ve', ks1, ke', rfl, hS1, hE'⟩
    · rw [if_pos (by omega)]
      exact ⟨[], trivial, _, fun _ s => s, vs1, ve1, ks1, ke1, rfl, hS1, hE1⟩
end Go.Proofs.Ytmfobfamdaajmaa

/- Trading, as a plain machine: its steps, that it ends. -/
namespace Go.Proofs.Ytmfobfamdaajmaa
open Go.V
set_option linter.unusedVariables false
set_option linter.unusedSimpArgs false

/-- an order that shows something, and hides no more than it may -/
def Ord.G (o : Ord) : Prop := 1 ≤ o.v ∧ 0 ≤ o.hd ∧ o.v + o.hd ≤ 4294967295 ∧ 0 ≤ o.pk ∧ o.pk ≤ 4294967295 ∧ (o.pk = 0 ∧ o.hd = 0 ∨ 0 < o.pk ∧ o.v ≤ o.pk ∧ o.v + o.hd ≤ 256 * o.pk)
/-- the next show of an order -/
def Ord.next (f : Ord) : Ord := ⟨f.id, f.mb, f.ty, f.pr, min f.pk f.hd, f.hd - min f.pk f.hd, f.pk⟩
def Ord.less (f : Ord) (q : Int) : Ord := ⟨f.id, f.mb, f.ty, f.pr, f.v - q, f.hd, f.pk⟩
def TS.hit (t : Tk) (f : Ord) (rest : List Ord) (s : TS) : TS :=
  let q := min s.left f.v
  let s1 := s.tell (evTrade t.o.id f.id t.side f.pr q)
  if 0 < f.v - q then ⟨f.less q :: rest, s.left - q, s1.seq, s1.evs⟩
  else if 0 < f.hd then (⟨rst (3 - t.side) f.next rest, s.left - q, s1.seq, s1.evs⟩ : TS).tell (evRefresh f.id f.pr f.next.v)
  else ⟨rest, s.left - q, s1.seq, s1.evs⟩
def TS.step (meet : Int) (t : Tk) (s : TS) : Option TS :=
  match s.L with
  | [] => none
  | f :: rest => if 0 < s.left ∧ reach t.side t.kind t.o.pr f.pr = true then some (if f.mb = t.o.mb ∧ t.o.mb ≠ 0 ∧ meet ≠ 0 then s.meets meet t f rest else s.hit t f rest) else none
inductive TRun (meet : Int) (t : Tk) : TS → TS → Prop
  | stop {s : TS} : s.step meet t = none → TRun meet t s s
  | step {s s' z : TS} : s.step meet t = some s' → TRun meet t s' z → TRun meet t s z
theorem TRun.det {meet : Int} {t : Tk} {s z z' : TS} (h : TRun meet t s z) (h' : TRun meet t s z') : z = z' := by
  induction h with
  | stop hs =>
    cases h' with
    | stop _ => rfl
    | step h1 _ => rw [hs] at h1; cases h1
  | step hs _ ih =>
    cases h' with
    | stop h1 => rw [hs] at h1; cases h1
    | step h1 h2 => rw [hs] at h1; cases h1; exact ih h2

def Ord.shows (o : Ord) : Nat := 1 + ((o.hd + o.pk - 1) / o.pk).toNat
def TS.mu (s : TS) : Nat := (s.L.map Ord.shows).sum + (if 0 < s.left then 1 else 0)
theorem next_G {f : Ord} (h : f.G) (hp : 0 < f.hd) : f.next.G ∧ f.next.shows + 1 ≤ f.shows := by
  obtain ⟨id, mb, ty, pr, v, hd, pk⟩ := f
  unfold Ord.G Ord.next Ord.shows at *
  simp only at *
  have hpk : 0 < pk := by omega
  refine ⟨by omega, ?_⟩
  by_cases hle : hd ≤ pk
  · have e1 : min pk hd = hd := by omega
    have e2 : (hd - hd + pk - 1) / pk = 0 := Int.ediv_eq_zero_of_lt (by omega) (by omega)
    have e3 : 1 ≤ (hd + pk - 1) / pk := by
      have := Int.add_mul_ediv_right (hd - 1) 1 (show pk ≠ 0 by omega)
      rw [show hd - 1 + 1 * pk = hd + pk - 1 from by omega] at this
      have h2 : 0 ≤ (hd - 1) / pk := Int.ediv_nonneg (by omega) (by omega)
      omega
    rw [e1, e2]; omega
  · have e1 : min pk hd = pk := by omega
    have e3 := Int.add_mul_ediv_right (hd - 1) 1 (show pk ≠ 0 by omega)
    rw [show hd - 1 + 1 * pk = hd + pk - 1 from by omega] at e3
    have h2 : 0 ≤ (hd - 1) / pk := Int.ediv_nonneg (by omega) (by omega)
    rw [e1, e3, show hd - pk + pk - 1 = hd - 1 from by omega]
    omega
theorem shows_le {f : Ord} (h : f.G) : f.shows ≤ 257 := by
  obtain ⟨id, mb, ty, pr, v, hd, pk⟩ := f
  unfold Ord.G Ord.shows at *
  simp only at *
  rcases h.2.2.2.2.2 with ⟨h1, h2⟩ | ⟨h1, h2, h3⟩
  · subst h1; subst h2; decide
  · have : (hd + pk - 1) / pk ≤ 256 := by
      have := Int.ediv_le_ediv h1 (show hd + pk - 1 ≤ 257 * pk - 1 by omega)
      have h4 : (257 * pk - 1) / pk < 257 := Int.ediv_lt_of_lt_mul h1 (by omega)
      omega
    omega
theorem rst_sum (s : Int) (o : Ord) (l : List Ord) : ((rst s o l).map Ord.shows).sum = o.shows + (l.map Ord.shows).sum := by
  have h : (l.map Ord.shows).sum = ((l.take (rpos s o.pr l)).map Ord.shows).sum + ((l.drop (rpos s o.pr l)).map Ord.shows).sum := by rw [← List.sum_append, ← List.map_append, List.take_append_drop]
  simp only [rst, List.map_append, List.sum_append, List.map_cons, List.map_nil, List.sum_cons, List.sum_nil]
  omega
theorem rst_mem {s : Int} {o x : Ord} {l : List Ord} (h : x ∈ rst s o l) : x = o ∨ x ∈ l := by
  simp only [rst, List.mem_append, List.mem_singleton] at h
  rcases h with (h | h) | h
  · exact .inr (List.mem_of_mem_take h)
  · exact .inl h
  · exact .inr (List.mem_of_mem_drop h)
/-- what holds between two steps -/
structure TS.Ok (s : TS) : Prop where
  good : ∀ f ∈ s.L, f.G
  lo : 0 ≤ s.left
  hi : s.left ≤ 18446744073709551615
theorem TS.Ok.step {meet : Int} {t : Tk} {s s' : TS} (h : s.Ok) (hs : s.step meet t = some s') : s'.Ok ∧ s'.mu < s.mu ∧ s'.L.length ≤ s.L.length ∧ s'.evs.length ≤ s.evs.length + 2 ∧ s'.left ≤ s.left := by
  obtain ⟨L, left, seq, evs⟩ := s
  unfold TS.step at hs
  obtain ⟨hg, hlo, hhi⟩ := h
  simp only at hs hg hlo hhi
  cases L with
  | nil => cases hs
  | cons f rest =>
    simp only at hs
    split at hs
    · rename_i hc
      have hfG := hg f (by simp)
      have hrG : ∀ x ∈ rest, x.G := fun x hx => hg x (by simp [hx])
      have hsh : 1 ≤ f.shows := by unfold Ord.shows; omega
      have hind : (if 0 < left then 1 else 0) = 1 := if_pos hc.1
      simp only [Option.some.injEq] at hs
      subst hs
      split
      · simp only [TS.meets]
        by_cases m1 : meet = 1
        · rw [if_pos m1, if_neg (show ¬ meet = 2 by omega)]
          simp [TS.mu, TS.tell, hind]
          exact ⟨⟨hg, by simp, by simp⟩, hlo⟩
        · rw [if_neg m1]
          by_cases m2 : meet = 2
          · rw [if_pos m2]
            simp [TS.mu, TS.tell, hind]
            exact ⟨⟨hrG, hlo, hhi⟩, by have := hc.1; simp [this]; omega⟩
          · rw [if_neg m2]
            simp [TS.mu, TS.tell, hind]
            exact ⟨⟨hrG, by simp, by simp⟩, by omega, hlo⟩
      · have hv : 1 ≤ f.v := hfG.1
        simp only [TS.hit]
        by_cases c1 : 0 < f.v - min left f.v
        · rw [if_pos c1]
          have e : min left f.v = left := by omega
          have hlG : (f.less left).G := by unfold Ord.G Ord.less at *; simp only at *; omega
          have hls : (f.less left).shows = f.shows := rfl
          simp [TS.mu, TS.tell, hind, e, hls]
          refine ⟨⟨fun x hx => ?_, by simp, by simp⟩, hlo⟩
          rcases List.mem_cons.1 hx with rfl | hx
          · exact hlG
          · exact hrG x hx
        · rw [if_neg c1]
          have e : min left f.v = f.v := by omega
          have hle : (if 0 < left - f.v then 1 else 0) ≤ 1 := by split <;> omega
          by_cases c2 : 0 < f.hd
          · rw [if_pos c2]
            obtain ⟨nG, nS⟩ := next_G hfG c2
            simp [TS.mu, TS.tell, hind, e, rst_sum, rst_length]
            refine ⟨⟨fun x hx => ?_, by simp only; omega, by simp only; omega⟩, by (try split) <;> omega, by omega⟩
            rcases rst_mem hx with rfl | hx
            · exact nG
            · exact hrG x hx
          · rw [if_neg c2]
            simp [TS.mu, TS.tell, hind, e]
            exact ⟨⟨hrG, by simp only; omega, by simp only; omega⟩, by (try split) <;> omega, by omega⟩
    · cases hs
end Go.Proofs.Ytmfobfamdaajmaa

/- (*teller).trades: its walk. -/
namespace Go.Proofs.Ytmfobfamdaajmaa
open Go.V
set_option linter.unusedVariables false
set_option linter.unusedSimpArgs false

theorem Side.set0 {b o n c : Nat} {f f' : Ord} {rest : List Ord} {l : List Value} (h : Side (.slice (some ⟨b, o, none⟩) n c) (f :: rest) [(b, .cells l 53)]) : Side (.slice (some ⟨b, o, none⟩) n c) (f' :: rest) [(b, .cells (splice l o f'.cells) 53)] := by
  obtain ⟨b', o', l', e1, e2, e3, e4, e5, e6⟩ := h.some_ (by simp)
  cases e1
  simp only [List.cons.injEq, Prod.mk.injEq, Ch.cells.injEq] at e3
  obtain ⟨⟨_, e3, _⟩, _⟩ := e3
  subst e3
  subst e2
  have hlen : (f :: rest).length = rest.length + 1 := rfl
  have hl7 : o + 7 ≤ l.length := by
    have : 1 * 7 ≤ c * 7 := Nat.mul_le_mul_right _ (by omega)
    omega
  refine ⟨rows_length _, .inr ⟨b, o, c, _, rfl, rfl, e4, ?_, ?_⟩⟩
  · rw [splice_length _ _ _ (by simp [Ord.cells, rcells]; omega)]; exact e5
  · have h7 : f'.cells.length = 7 := rfl
    have e : (splice l o f'.cells).drop o = f'.cells ++ l.drop (o + 7) := by
      unfold V.splice
      rw [List.append_assoc, List.drop_append_of_le_length (by rw [List.length_take]; omega), List.drop_take, Nat.sub_self, List.take_zero, List.nil_append, h7]
    rw [e]
    have e2 : (f' :: rest).length * 7 = 7 + rest.length * 7 := by simp; omega
    rw [e2, List.take_append, h7, List.take_of_length_le (by omega), show 7 + rest.length * 7 - 7 = rest.length * 7 from by omega]
    have e3 : (l.drop (o + 7)).take (rest.length * 7) = rows rest := by
      have : ((l.drop o).take ((f :: rest).length * 7)).drop 7 = rows rest := by
        rw [e6]; rfl
      rw [← this, List.drop_take, List.drop_drop, show (f :: rest).length * 7 - 7 = rest.length * 7 from by simp; omega]
    rw [e3]; rfl
theorem min_int (a b : Int) : (if a ≤ b then a else b) = min a b := by omega

set_option maxRecDepth 10000 in
set_option maxHeartbeats 1000000 in
theorem trades_ok (w : World) (t b po i : Nat) (tk : Tk) (hsi : tk.side = 1 ∧ i = 3 ∨ tk.side = 2 ∧ i = 2) (x0 vo x4 : Value) (meet : Int) (s0 : TS) (vs0 ve0 : Value) (ks0 ke0 : Hp) (hS0 : Side vs0 s0.L ks0) (hE0 : Evs ve0 s0.evs ke0) (hOk0 : s0.Ok)
    (hn0 : s0.L.length ≤ 1000000) (he0 : s0.evs.length + 2 * s0.mu ≤ 100000000000) :
    Does Try.prog 55 [.pointer (some ⟨t, 0, none⟩), .pointer (some ⟨po, 0, none⟩)] (TH t b po i x0 (.int .i64 meet) vo x4 tk s0.left s0.seq vs0 ve0 ks0 ke0) w
      (fun _ hs => ∃ z, TRun meet tk s0 z ∧ THs t b po i x0 (.int .i64 meet) vo x4 tk z hs) := by
  have hi : i = 2 ∨ i = 3 := by omega
  have hside : (if 3 - tk.side = 1 then some (⟨b, 2, none⟩ : Addr) else if 3 - tk.side = 2 then some ⟨b, 3, none⟩ else none) = some ⟨b, i, none⟩ := by
    rcases hsi with ⟨h, rfl⟩ | ⟨h, rfl⟩ <;> rw [h] <;> rfl
  have hsb : 1 ≤ tk.side ∧ tk.side ≤ 2 := by omega
  refine Does.less (Does.of (n := 166) Try.func55 rfl rfl rfl rfl ?_)
  refine .seq ((.region (.v (.move rfl) (.v (.nilCheck rfl) (.v (.fieldAddr rfl) (.v (.load (v := .pointer (some ⟨b, 0, none⟩)) rfl (.one rfl)) (.v (.nilCheck rfl) (.v (.fieldAddr rfl) (.v (.fieldAddr rfl) (.v (.fieldAddr rfl) (.v (.load (v := .int .i64 meet) rfl (.one rfl)) (.v (.assign rfl) (.nil ?_)))))))))))))
  refine .seq ((.region (.v (.move rfl) (.v (.nilCheck rfl) (.v (.fieldAddr rfl) (.v (.load (v := .int .i64 tk.side) rfl (.one rfl)) (.v (.subi rfl rfl (by omega)) (.v (.assign rfl) (.nil ?_)))))))))
  refine .seq ((.region (.v (.move rfl) (.v (.nilCheck rfl) (.v (.fieldAddr rfl) (.v (.load (v := .pointer (some ⟨b, 0, none⟩)) rfl (.one rfl)) (.v (.move rfl) (.pc (v := .pointer (some ⟨b, i, none⟩)) rfl rfl (fun w' _ => hside ▸ side_ok w' b (3 - tk.side)) (.v (.assign rfl) (.nil ?_))))))))))
  refine .block (.loop (X := TS × Value × Value × Hp × Hp) (fun x => [(0, .pointer (some ⟨t, 0, none⟩)), (1, .pointer (some ⟨po, 0, none⟩)), (4, .int .i64 meet), (5, .int .i64 (3 - tk.side)), (6, .pointer (some ⟨b, i, none⟩))])
    (fun x => TH t b po i x0 (.int .i64 meet) vo x4 tk x.1.left x.1.seq x.2.1 x.2.2.1 x.2.2.2.1 x.2.2.2.2)
    (fun x => Side x.2.1 x.1.L x.2.2.2.1 ∧ Evs x.2.2.1 x.1.evs x.2.2.2.2 ∧ x.1.Ok ∧ x.1.L.length ≤ 1000000 ∧ x.1.evs.length + 2 * x.1.mu ≤ 100000000000 ∧ ∀ z, TRun meet tk x.1 z → TRun meet tk s0 z) (fun x => x.1.mu)
    ⟨s0, vs0, ve0, ks0, ke0⟩ ⟨hS0, hE0, hOk0, hn0, he0, fun _ h => h⟩ (.cons rfl (.cons rfl (.cons rfl (.cons rfl (.cons rfl (.nil _)))))) (fun _ s => s) ?_)
  rintro ⟨⟨L, left, seq, evs⟩, vs, ve, ks, ke⟩ ⟨hS, hE, hOk, hn, he, hrun⟩
  dsimp only at hS hE hOk hn he hrun ⊢
  obtain ⟨A, c, rfl⟩ := OwnS.sl hS
  cases L with
  | nil =>
    refine .seq (.seq ((.drawK _ (fun _ h => h) (by kernel_rfl) (by kernel_rfl) ?_)))
    refine .v (fun _ f => .move rfl) (.v (fun _ f => .nilCheck rfl) (.v (fun _ f => .fieldAddr rfl) (.v (fun _ f => .load (v := .int .u64 left) rfl (.one (hb := .sub f) rfl)) (.v (fun _ f => .gtr rfl rfl) (.v (fun _ f => .move rfl) ?_)))))
    refine .and 34 39 5 5 rfl rfl (fun g1 => .v (fun _ f => .move rfl) (.v (fun _ f => .nilCheck rfl) (.v (fun _ f => .load (v := .slice A 0 c) rfl (.one (hb := .sub f) (BL_get hi _ _ _ _ _ _))) (.v (fun _ f => .len rfl) (.v (fun _ f => .gtr rfl rfl) (.nil ⟨rfl, rfl, rfl, rfl⟩)))))) ?_
    refine .v (fun _ f => .move rfl) (.and (b2 := false) 41 51 10 10 rfl rfl (fun g2 => absurd g2 (by simp)) (.nil ?_))
    refine .cond rfl (fun h => absurd h (by simp)) (fun _ => .exit ?_)
    exact ⟨[], trivial, _, fun _ s => s, _, hrun _ (.stop rfl), .slice A 0 c, ve, ks, ke, rfl, hS, hE⟩
  | cons f rest =>
    obtain ⟨bk, ok, lk, rfl, -, rfl, hck, hlk, hvk⟩ := hS.some_ (by simp)
    have hlen : (f :: rest).length = rest.length + 1 := rfl
    have hfG := hOk.good f (by simp)
    have hlo := hOk.lo
    have hhi := hOk.hi
    dsimp only at hlo hhi
    have hat : ∀ (own : List Nat) (hs' : Hp), [(bk, Ch.cells lk 53)] ⊆ hs' → ∀ (j : Nat) (us : List Value), (∀ (m : Nat) (v : Value), us[m]? = some v → (f.cells)[j + m]? = some v) → At w own hs' ⟨bk, ok + (0 : Int).toNat * 7 + j, none⟩ us := fun own hs' hsub j us hu => by
      show At w own hs' ⟨bk, ok + 0 + j, none⟩ us
      rw [Nat.add_zero]
      refine hS.atN hsub (fun m v hv => ?_)
      have h1 := hu m v hv
      have h2 := (List.getElem?_eq_some_iff.1 h1).1
      have := rows_get (f :: rest) 0 (j + m) (by simp) (by simpa [Ord.cells, rcells] using h2)
      rw [Nat.zero_mul, Nat.zero_add] at this
      rw [this]; exact h1
    refine .seq (.seq ((.drawK _ (fun _ h => h) (by kernel_rfl) (by kernel_rfl) ?_)))
    refine .v (fun _ f => .move rfl) (.v (fun _ f => .nilCheck rfl) (.v (fun _ f => .fieldAddr rfl) (.v (fun _ f => .load (v := .int .u64 left) rfl (.one (hb := .sub f) rfl)) (.v (fun _ f => .gtr rfl rfl) (.v (fun _ f => .move rfl) ?_)))))
    refine .and 34 39 5 5 rfl rfl (fun g1 => .v (fun _ f => .move rfl) (.v (fun _ f => .nilCheck rfl) (.v (fun _ h => .load (v := .slice (some ⟨bk, ok, none⟩) (f :: rest).length c) rfl (.one (hb := .sub h) (BL_get hi _ _ _ _ _ _))) (.v (fun _ f => .len rfl) (.v (fun _ f => .gtr rfl rfl) (.nil ⟨rfl, rfl, rfl, rfl⟩)))))) ?_
    refine .v (fun _ f => .move rfl) ?_
    refine .and 41 51 10 10 rfl rfl (fun g2 => .v (fun _ f => .move rfl) (.v (fun _ f => .nilCheck rfl) (.v (fun _ f => .loadA (vs := [.int .u64 tk.o.id, .int .u32 tk.o.mb, .int .i64 tk.o.ty, .int .i64 tk.o.pr, .int .u64 tk.o.v, .int .u64 tk.o.hd, .int .u64 tk.o.pk, .int .i64 tk.side, .int .i64 tk.kind, .int .u64 left]) rfl (.whole (hb := .sub f)) rfl) (.v (fun _ f => .move rfl) (.v (fun _ f => .nilCheck rfl) (.v (fun _ h => .load (v := .slice (some ⟨bk, ok, none⟩) (f :: rest).length c) rfl (.one (hb := .sub h) (BL_get hi _ _ _ _ _ _))) (.v (fun _ f => .indexAddr rfl rfl (by simp) (by simp)) (.v (fun _ f => .fieldAddr rfl) (.v (fun _ h => .load (v := .int .i64 f.pr) rfl (hat _ _ (fun p hp => h (by simp at hp ⊢; simp [hp])) 3 _ (fun m v hv => by match m, hv with | 0, hv => exact hv))) (.pc (v := .bool (reach tk.side tk.kind tk.o.pr f.pr)) rfl rfl (fun w' _ => reaches_ok w' tk.o.id tk.o.mb tk.o.ty tk.o.pr tk.o.v tk.o.hd tk.o.pk tk.side tk.kind left f.pr) (.nil ⟨rfl, rfl, rfl, rfl⟩))))))))))) ?_
    refine .nil ?_
    refine .cond rfl (fun h1 => .skip ?_) (fun h1 => .exit ?_)
    · have h1' : 0 < left ∧ reach tk.side tk.kind tk.o.pr f.pr = true := by
        simp at h1; exact h1
      have hstep : (⟨f :: rest, left, seq, evs⟩ : TS).step meet tk = some (if f.mb = tk.o.mb ∧ tk.o.mb ≠ 0 ∧ meet ≠ 0 then (⟨f :: rest, left, seq, evs⟩ : TS).meets meet tk f rest else (⟨f :: rest, left, seq, evs⟩ : TS).hit tk f rest) := by
        simp only [TS.step]; rw [if_pos h1']
      obtain ⟨k1, k2, k3, k4, k5⟩ := hOk.step hstep
      have k3 := Nat.le_trans k3 hn
      have k6 := fun z h => hrun z (.step hstep h)
      have k7 : ∀ s' : TS, s'.evs.length ≤ evs.length + 2 → s'.mu < (⟨f :: rest, left, seq, evs⟩ : TS).mu → s'.evs.length + 2 * s'.mu ≤ 100000000000 := fun s' a b => by
        have : evs.length + 2 * (⟨f :: rest, left, seq, evs⟩ : TS).mu ≤ 100000000000 := he
        omega
      have heb : evs.length ≤ 100000000000 := by
        have : evs.length + 2 * (⟨f :: rest, left, seq, evs⟩ : TS).mu ≤ 100000000000 := he
        omega
      refine .block (.seq ((.region (.v (.move rfl) (.v (.nilCheck rfl) (.v (.load (v := (.slice (some ⟨bk, ok, none⟩) (f :: rest).length c)) rfl (.one (BL_get hi _ _ _ _ _ _))) (.v (.indexAddr rfl rfl (by simp) (by simp)) (.v (.loadA (vs := [.int .u64 f.id, .int .u32 f.mb, .int .i64 f.ty, .int .i64 f.pr, .int .u64 f.v, .int .u64 f.hd, .int .u64 f.pk]) rfl (hat _ _ (fun p hp => by simp at hp ⊢; simp [hp]) 0 _ (fun m v hv => by rw [Nat.zero_add]; exact hv)) rfl) (.nw .alloc fun b7 => (.st (.sw rfl rfl) (.nil ?_)))))))))))
      refine .seq (.seq ((.drawK _ (fun _ h => h) (by kernel_rfl) (by kernel_rfl) ?_)))
      refine .v (fun _ f => .fieldAddr rfl) (.v (fun _ h => .load (v := .int .u32 f.mb) rfl (.one (hb := .sub h) rfl)) (.v (fun _ f => .move rfl) (.v (fun _ f => .nilCheck rfl) (.v (fun _ f => .fieldAddr rfl) (.v (fun _ f => .fieldAddr rfl) (.v (fun _ f => .load (v := .int .u32 tk.o.mb) rfl (.one (hb := .sub f) rfl)) (.v (fun _ f => .eqi rfl rfl) (.v (fun _ f => .move rfl) ?_))))))))
      refine .and 66 72 6 6 rfl rfl (fun g3 => .v (fun _ f => .move rfl) (.v (fun _ f => .nilCheck rfl) (.v (fun _ f => .fieldAddr rfl) (.v (fun _ f => .fieldAddr rfl) (.v (fun _ f => .load (v := .int .u32 tk.o.mb) rfl (.one (hb := .sub f) rfl)) (.v (fun _ f => .nei rfl rfl) (.nil ⟨rfl, rfl, rfl, rfl⟩))))))) (.v (fun _ f => .move rfl) (.and 74 76 2 2 rfl rfl (fun g4 => .v (fun _ f => .move rfl) (.v (fun _ f => .nei rfl rfl) (.nil ⟨rfl, rfl, rfl, rfl⟩))) (.nil ?_)))
      refine .cond rfl (fun h2 => ?_) (fun h2 => .skip ?_) <;> simp only [Bool.and_eq_true, Bool.or_eq_true, Bool.not_eq_true', Bool.and_eq_false_iff, Bool.or_eq_false_iff, Bool.not_eq_false', decide_eq_true_eq, decide_eq_false_iff_not, Bool.false_eq_true, false_iff] at h2
      · have hm : f.mb = tk.o.mb ∧ tk.o.mb ≠ 0 ∧ meet ≠ 0 := ⟨h2.1.1, h2.1.2, h2.2⟩
        rw [if_pos hm] at k1 k2 k3 k4 k6
        refine .seq ((.region (.v (.move rfl) (.v (.move rfl) (.v (.move rfl) (.v (.loadA (vs := [.int .u64 f.id, .int .u32 f.mb, .int .i64 f.ty, .int .i64 f.pr, .int .u64 f.v, .int .u64 f.hd, .int .u64 f.pk]) rfl .whole rfl) (.v (.move rfl) ?_)))))))
        refine .ef (.callT (TH t b po i x0 (.int .i64 meet) vo x4 tk left seq (.slice (some ⟨bk, ok, none⟩) (f :: rest).length c) ve [(bk, Ch.cells lk 53)] ke) rfl rfl (fun w' s' => meets_ok w' t b po i hi x0 (.int .i64 meet) vo x4 tk meet f rest left seq evs _ ve _ ke hS hE (by omega) (by omega) (by unfold Ord.G at hfG; unfold U; omega))) ?_
        rintro _ _ ⟨hh, hT, rfl⟩
        obtain ⟨sm, hsm⟩ : ∃ sm, (⟨f :: rest, left, seq, evs⟩ : TS).meets meet tk f rest = sm := ⟨_, rfl⟩
        rw [hsm] at hT k1 k2 k3 k4 k6
        obtain ⟨vs', ve', ks', ke', rfl, hS', hE'⟩ := hT
        refine .nil (.exit ?_)
        exact ⟨⟨sm, vs', ve', ks', ke'⟩, ⟨hS', hE', k1, k3, k7 _ k4 k2, k6⟩, k2, .cons rfl (.cons rfl (.cons rfl (.cons rfl (.cons rfl (.nil _))))), fun _ s => Sat.take (pre := TH t b po i x0 (.int .i64 meet) vo x4 tk sm.left sm.seq vs' ve' ks' ke') s⟩
      · have hm : ¬ (f.mb = tk.o.mb ∧ tk.o.mb ≠ 0 ∧ meet ≠ 0) := by
          rintro ⟨a1, a2, a3⟩
          rcases h2 with (h2 | h2) | h2
          · exact h2 a1
          · exact h2 a2
          · exact h2 a3
        rw [if_neg hm] at k1 k2 k3 k4 k6
        obtain ⟨g1, g2, g3, g4, g5, g6⟩ := hfG
        refine .seq ((.drawK _ (fun _ h => h) (by kernel_rfl) (by kernel_rfl) ?_))
        refine .v (fun _ f => .move rfl) (.v (fun _ f => .nilCheck rfl) (.v (fun _ f => .fieldAddr rfl) (.v (fun _ f => .load (v := .int .u64 left) rfl (.one (hb := .sub f) rfl)) (.v (fun _ f => .fieldAddr rfl) (.v (fun _ h => .load (v := .int .u64 f.v) rfl (.one (hb := .sub h) rfl)) (.v (fun _ f => .min2 rfl rfl) (.v (fun _ f => .assign rfl) (.nil ?_))))))))
        obtain ⟨q, hq⟩ : ∃ q, min left f.v = q := ⟨_, rfl⟩
        have hit : (⟨f :: rest, left, seq, evs⟩ : TS).hit tk f rest = (if 0 < f.v - q then ⟨f.less q :: rest, left - q, nx seq, evs ++ [(evTrade tk.o.id f.id tk.side f.pr q).num (nx seq)]⟩
            else if 0 < f.hd then (⟨rst (3 - tk.side) f.next rest, left - q, nx seq, evs ++ [(evTrade tk.o.id f.id tk.side f.pr q).num (nx seq)]⟩ : TS).tell (evRefresh f.id f.pr f.next.v)
            else ⟨rest, left - q, nx seq, evs ++ [(evTrade tk.o.id f.id tk.side f.pr q).num (nx seq)]⟩) := by
          rw [← hq]; rfl
        rw [hit] at k1 k2 k3 k4 k6
        rw [hq]
        refine .seq ((.drawK [To po tk left, (b7, .cells [.int .u64 f.id, .int .u32 f.mb, .int .i64 f.ty, .int .i64 f.pr, .int .u64 f.v, .int .u64 f.hd, .int .u64 f.pk] 53)] (by intro p hp; simp at hp ⊢; rcases hp with rfl | rfl <;> simp) (by kernel_rfl) (by kernel_rfl) ?_))
        refine .v (fun _ f => .move rfl) (.v (fun _ f => .move rfl) (.v (fun _ f => .nilCheck rfl) (.v (fun _ f => .fieldAddr rfl) (.v (fun _ f => .fieldAddr rfl) (.v (fun _ f => .load (v := .int .u64 tk.o.id) rfl (.one (hb := .sub f) rfl)) (.v (fun _ f => .fieldAddr rfl) (.v (fun _ h => .load (v := .int .u64 f.id) rfl (.one (hb := .sub h) rfl)) (.v (fun _ f => .move rfl) (.v (fun _ f => .nilCheck rfl) (.v (fun _ f => .fieldAddr rfl) (.v (fun _ f => .load (v := .int .i64 tk.side) rfl (.one (hb := .sub f) rfl)) (.v (fun _ f => .fieldAddr rfl) (.v (fun _ h => .load (v := .int .i64 f.pr) rfl (.one (hb := .sub h) rfl)) (.v (fun _ f => .move rfl) (.v (fun _ _ => .build (out := (evTrade tk.o.id f.id tk.side f.pr q).cells) rfl rfl) ?_)))))))))))))))
        refine .ef (.callT (Tt t b ve :: Tb b (BL i x0 (.int .i64 meet) (.slice (some ⟨bk, ok, none⟩) (f :: rest).length c) vo x4 (.int .u64 seq)) :: ke) rfl rfl (fun w' s' => tell_ok w' t b x0 (.int .i64 meet) _ _ x4 seq (evTrade tk.o.id f.id tk.side f.pr q) evs ve ke hE (by omega))) (fun _ _ ⟨_, _, e⟩ _ => by subst e; intro p hp; simp at hp ⊢; rcases hp with rfl | rfl <;> simp) ?_
        rintro _ _ ⟨_, ⟨ve1, ke1, rfl, hE1⟩, rfl⟩
        refine .nil ?_
        have hql : 0 ≤ left - q ∧ left - q ≤ 18446744073709551615 := by omega
        have hqv : 0 ≤ f.v - q ∧ f.v - q ≤ 18446744073709551615 := by omega
        have hE1' : Evs ve1 (evs ++ [(evTrade tk.o.id f.id tk.side f.pr q).num (nx seq)]) ke1 := hE1
        have hel : (evs ++ [(evTrade tk.o.id f.id tk.side f.pr q).num (nx seq)]).length = evs.length + 1 := by simp
        refine .keep ((b7, Ch.cells [.int .u64 f.id, .int .u32 f.mb, .int .i64 f.ty, .int .i64 f.pr, .int .u64 f.v, .int .u64 f.hd, .int .u64 f.pk] 53) :: TH t b po i x0 (.int .i64 meet) vo x4 tk left (nx seq) (.slice (some ⟨bk, ok, none⟩) (f :: rest).length c) ve1 [(bk, Ch.cells lk 53)] ke1) ?_
        refine .seq ((.region (.v (.move rfl) (.v (.nilCheck rfl) (.v (.fieldAddr rfl) (.v (.load (v := .int .u64 left) rfl (.one rfl)) (.v (.move rfl) (.v (.subU (left - q) rfl rfl rfl hql) (.v (.nilCheck rfl) (.v (.fieldAddr rfl) (.st (.storeL rfl rfl rfl) (.nil ?_))))))))))))
        refine .seq ((.region (.v (.fieldAddr rfl) (.v (.load (v := .int .u64 f.v) rfl (.one rfl)) (.v (.move rfl) (.v (.subU (f.v - q) rfl rfl rfl hqv) (.v (.fieldAddr rfl) (.st (.storeL rfl rfl rfl) (.nil ?_)))))))))
        refine .seq ((.drawQ 5 [0, 1, 2, 3, 4, 5] _ (fun _ h => h) (by kernel_rfl) (by kernel_rfl) ?_))
        refine .v (fun _ f => .move rfl) (.v (fun _ f => .nilCheck rfl) (.v (fun _ h => .load (v := (.slice (some ⟨bk, ok, none⟩) (f :: rest).length c)) rfl (.one (hb := .sub h) (BL_get hi _ _ _ _ _ _))) (.v (fun _ h => .loadA (vs := [.int .u64 f.id, .int .u32 f.mb, .int .i64 f.ty, .int .i64 f.pr, .int .u64 (f.v - q), .int .u64 f.hd, .int .u64 f.pk]) rfl (.whole (hb := .sub h)) rfl) (.v (fun _ f => .indexAddr rfl rfl (by simp) (by simp)) (.st (.storeA rfl rfl rfl rfl (by show ok + 0 + 7 ≤ lk.length; have : 1 * 7 ≤ c * 7 := Nat.mul_le_mul_right _ (by omega); omega)) (.nil ?_))))))
        have hS2 : Side (.slice (some ⟨bk, ok, none⟩) (f :: rest).length c) (f.less q :: rest) [(bk, Ch.cells (V.splice lk (ok + (0 : Int).toNat * 7) [.int .u64 f.id, .int .u32 f.mb, .int .i64 f.ty, .int .i64 f.pr, .int .u64 (f.v - q), .int .u64 f.hd, .int .u64 f.pk]) 53)] := hS.set0 (f' := f.less q)
        refine .seq (.seq ((.region (.v (.fieldAddr rfl) (.v (.load (v := .int .u64 (f.v - q)) rfl (.one rfl)) (.v (.gtr rfl rfl) (.nil ?_)))))))
        refine .cond_dec rfl (fun h3 => .exit ?_) (fun h3 => .skip ?_)
        · rw [if_pos h3] at k1 k2 k3 k4 k6
          exact ⟨⟨⟨f.less q :: rest, left - q, nx seq, evs ++ [(evTrade tk.o.id f.id tk.side f.pr q).num (nx seq)]⟩, (.slice (some ⟨bk, ok, none⟩) (f :: rest).length c), ve1, [(bk, Ch.cells (V.splice lk (ok + (0 : Int).toNat * 7) [.int .u64 f.id, .int .u32 f.mb, .int .i64 f.ty, .int .i64 f.pr, .int .u64 (f.v - q), .int .u64 f.hd, .int .u64 f.pk]) 53)], ke1⟩, ⟨hS2, hE1', k1, k3, k7 _ k4 k2, k6⟩, k2, .cons rfl (.cons rfl (.cons rfl (.cons rfl (.cons rfl (.nil _))))), fun _ s => Sat.take (pre := TH t b po i x0 (.int .i64 meet) vo x4 tk (left - q) (nx seq) (.slice (some ⟨bk, ok, none⟩) (f :: rest).length c) ve1 [(bk, Ch.cells (V.splice lk (ok + (0 : Int).toNat * 7) [.int .u64 f.id, .int .u32 f.mb, .int .i64 f.ty, .int .i64 f.pr, .int .u64 (f.v - q), .int .u64 f.hd, .int .u64 f.pk]) 53)] ke1) s⟩
        rw [if_neg h3] at k1 k2 k3 k4 k6
        refine .seq ((.region (.v (.move rfl) (.v (.move rfl) (.v (.nilCheck rfl) (.v (.load (v := (.slice (some ⟨bk, ok, none⟩) (f :: rest).length c)) rfl (.one (BL_get hi _ _ _ _ _ _))) ?_))))))
        refine .ef (.callT [(bk, Ch.cells (V.splice lk (ok + (0 : Int).toNat * 7) [.int .u64 f.id, .int .u32 f.mb, .int .i64 f.ty, .int .i64 f.pr, .int .u64 (f.v - q), .int .u64 f.hd, .int .u64 f.pk]) 53)] rfl rfl (fun w' s' => delete0_ok w' _ _ c (f.less q) rest _ hS2 rfl (by omega))) ?_
        rintro v3 _ ⟨ks3, hS3, rfl⟩
        obtain ⟨A3, c3, rfl⟩ := OwnS.sl hS3
        refine .v (.nilCheck rfl) (.st (.store rfl rfl rfl (by rcases hi with rfl | rfl <;> simp)) (.nil ?_))
        rw [BL_set hi]
        refine .keep ((b7, Ch.cells [.int .u64 f.id, .int .u32 f.mb, .int .i64 f.ty, .int .i64 f.pr, .int .u64 (f.v - q), .int .u64 f.hd, .int .u64 f.pk] 53) :: TH t b po i x0 (.int .i64 meet) vo x4 tk (left - q) (nx seq) (.slice A3 rest.length c3) ve1 ks3 ke1) ?_
        refine .seq ((.region (.v (.fieldAddr rfl) (.v (.load (v := .int .u64 f.hd) rfl (.one rfl)) (.v (.gtr rfl rfl) (.nil ?_))))))
        refine .cond_dec rfl (fun h4 => ?_) (fun h4 => .skip ?_)
        · rw [if_pos h4] at k1 k2 k3 k4 k6
          have hmn : 0 ≤ f.hd - min f.pk f.hd ∧ f.hd - min f.pk f.hd ≤ 18446744073709551615 := by omega
          refine .seq ((.region (.v (.fieldAddr rfl) (.v (.load (v := .int .u64 f.pk) rfl (.one rfl)) (.v (.fieldAddr rfl) (.v (.load (v := .int .u64 f.hd) rfl (.one rfl)) (.v (.min2 rfl rfl) (.v (.fieldAddr rfl) (.st (.storeL rfl rfl rfl) (.nil ?_))))))))))
          refine .seq ((.region (.v (.fieldAddr rfl) (.v (.load (v := .int .u64 f.hd) rfl (.one rfl)) (.v (.fieldAddr rfl) (.v (.load (v := .int .u64 (min f.pk f.hd)) rfl (.one rfl)) (.v (.subU (f.hd - min f.pk f.hd) rfl rfl rfl hmn) (.v (.fieldAddr rfl) (.st (.storeL rfl rfl rfl) (.nil ?_))))))))))
          refine .seq ((.drawK [Tt t b ve1, (b7, Ch.cells [.int .u64 f.id, .int .u32 f.mb, .int .i64 f.ty, .int .i64 f.pr, .int .u64 (min f.pk f.hd), .int .u64 (f.hd - min f.pk f.hd), .int .u64 f.pk] 53)] (by intro p hp; simp at hp ⊢; rcases hp with rfl | rfl <;> simp) (by kernel_rfl) (by kernel_rfl) ?_))
          refine .v (fun _ f => .move rfl) (.v (fun _ f => .nilCheck rfl) (.v (fun _ f => .fieldAddr rfl) (.v (fun _ f => .load (v := .pointer (some ⟨b, 0, none⟩)) rfl (.one (hb := .sub f) rfl)) (.v (fun _ f => .move rfl) (.v (fun _ h => .loadA (vs := [.int .u64 f.id, .int .u32 f.mb, .int .i64 f.ty, .int .i64 f.pr, .int .u64 (min f.pk f.hd), .int .u64 (f.hd - min f.pk f.hd), .int .u64 f.pk]) rfl (.whole (hb := .sub h)) rfl) ?_)))))
          refine .ef (.callT (Tb b (BL i x0 (.int .i64 meet) (.slice A3 rest.length c3) vo x4 (.int .u64 (nx seq))) :: ks3) rfl rfl (fun w' s' => rests_ok w' b i (3 - tk.side) (by omega) _ rfl f.next rest _ ks3 (BL_get hi _ _ _ _ _ _) hS3 (by omega))) (fun _ _ ⟨_, _, e⟩ _ => by subst e; intro p hp; simp at hp ⊢; rcases hp with rfl | rfl <;> simp) ?_
          rintro _ _ ⟨_, ⟨v4, ks4, rfl, hS4⟩, rfl⟩
          refine .nil ?_
          rw [BL_set hi]
          refine .keep ((b7, Ch.cells [.int .u64 f.id, .int .u32 f.mb, .int .i64 f.ty, .int .i64 f.pr, .int .u64 (min f.pk f.hd), .int .u64 (f.hd - min f.pk f.hd), .int .u64 f.pk] 53) :: TH t b po i x0 (.int .i64 meet) vo x4 tk (left - q) (nx seq) v4 ve1 ks4 ke1) ?_
          refine .region (.v (.move rfl) (.v (.fieldAddr rfl) (.v (.load (v := .int .u64 f.id) rfl (.one rfl)) (.v (.fieldAddr rfl) (.v (.load (v := .int .i64 f.pr) rfl (.one rfl)) (.v (.fieldAddr rfl) (.v (.load (v := .int .u64 (min f.pk f.hd)) rfl (.one rfl)) (.v (.build (out := (evRefresh f.id f.pr f.next.v).cells) rfl rfl) ?_))))))))
          refine .ef (.callT (Tt t b ve1 :: Tb b (BL i x0 (.int .i64 meet) v4 vo x4 (.int .u64 (nx seq))) :: ke1) rfl rfl (fun w' s' => tell_ok w' t b x0 (.int .i64 meet) _ _ x4 (nx seq) (evRefresh f.id f.pr f.next.v) _ ve1 ke1 hE1' (by omega))) ?_
          rintro _ _ ⟨_, ⟨ve5, ke5, rfl, hE5⟩, rfl⟩
          refine .nil ?_
          exact ⟨⟨(⟨rst (3 - tk.side) f.next rest, left - q, nx seq, evs ++ [(evTrade tk.o.id f.id tk.side f.pr q).num (nx seq)]⟩ : TS).tell (evRefresh f.id f.pr f.next.v), v4, ve5, ks4, ke5⟩, ⟨hS4, hE5, k1, k3, k7 _ k4 k2, k6⟩, k2, .cons rfl (.cons rfl (.cons rfl (.cons rfl (.cons rfl (.nil _))))), fun _ s => Sat.take (pre := TH t b po i x0 (.int .i64 meet) vo x4 tk (left - q) (nx (nx seq)) v4 ve5 ks4 ke5) s⟩
        · rw [if_neg h4] at k1 k2 k3 k4 k6
          exact ⟨⟨⟨rest, left - q, nx seq, evs ++ [(evTrade tk.o.id f.id tk.side f.pr q).num (nx seq)]⟩, _, ve1, ks3, ke1⟩, ⟨hS3, hE1', k1, k3, k7 _ k4 k2, k6⟩, k2, .cons rfl (.cons rfl (.cons rfl (.cons rfl (.cons rfl (.nil _))))), fun _ s => Sat.take (pre := TH t b po i x0 (.int .i64 meet) vo x4 tk (left - q) (nx seq) (.slice A3 rest.length c3) ve1 ks3 ke1) s⟩
    · have hstop : (⟨f :: rest, left, seq, evs⟩ : TS).step meet tk = none := by
        simp only [TS.step]
        rw [if_neg]
        rintro ⟨k1, k2⟩
        simp [k1, k2] at h1
      exact ⟨[], trivial, _, fun _ s => s, _, hrun _ (.stop hstop), _, ve, _, ke, rfl, hS, hE⟩
end Go.Proofs.Ytmfobfamdaajmaa

/- Trading to its end, as a function. -/
namespace Go.Proofs.Ytmfobfamdaajmaa
open Go.V
set_option linter.unusedVariables false
set_option linter.unusedSimpArgs false

def trF (meet : Int) (t : Tk) : Nat → TS → TS
  | 0, s => s
  | n + 1, s => match s.step meet t with
    | none => s
    | some s' => trF meet t n s'
/-- trading, to its end -/
def tr (meet : Int) (t : Tk) (s : TS) : TS := trF meet t (s.mu + 1) s
theorem trF_run {meet : Int} {t : Tk} : ∀ (n : Nat) (s : TS), s.Ok → s.mu < n → TRun meet t s (trF meet t n s)
  | 0, s, _, h => by omega
  | n + 1, s, hk, h => by
    unfold trF
    cases hs : s.step meet t with
    | none => exact .stop hs
    | some s' =>
      obtain ⟨h1, h2, _⟩ := hk.step hs
      exact .step hs (trF_run n s' h1 (by omega))
theorem tr_run {meet : Int} {t : Tk} {s : TS} (h : s.Ok) : TRun meet t s (tr meet t s) := trF_run _ s h (by omega)
theorem TRun.eq {meet : Int} {t : Tk} {s z : TS} (h : TRun meet t s z) (hk : s.Ok) : z = tr meet t s := h.det (tr_run hk)
theorem TRun.ok {meet : Int} {t : Tk} {s z : TS} (h : TRun meet t s z) (hk : s.Ok) : z.Ok ∧ z.L.length ≤ s.L.length ∧ z.evs.length + 2 * z.mu ≤ s.evs.length + 2 * s.mu ∧ z.left ≤ s.left := by
  induction h with
  | stop _ => exact ⟨hk, Nat.le_refl _, Nat.le_refl _, Int.le_refl _⟩
  | step hs _ ih =>
    obtain ⟨h1, h2, h3, h4, h5⟩ := hk.step hs
    obtain ⟨i1, i2, i3, i4⟩ := ih h1
    exact ⟨i1, by omega, by omega, by omega⟩
/-- what was traded -/
def tsum (l : List Ev) : Int := l.foldl (fun a e => if e.kind = 3 then IntKind.u64.wrap (a + e.q) else a) 0
theorem tsum_snoc (l : List Ev) (e : Ev) : tsum (l ++ [e]) = if e.kind = 3 then IntKind.u64.wrap (tsum l + e.q) else tsum l := by simp [tsum]
theorem mu_le {s : TS} (h : s.Ok) : s.mu ≤ 257 * s.L.length + 1 := by
  obtain ⟨L, left, seq, evs⟩ := s
  have hg := h.good
  unfold TS.mu
  dsimp only at *
  have key : (L.map Ord.shows).sum ≤ 257 * L.length := by
    clear h
    induction L with
    | nil => simp
    | cons f L ih =>
      have h1 := shows_le (hg f (by simp))
      have h2 := ih fun x hx => hg x (by simp [hx])
      simp only [List.map_cons, List.sum_cons, List.length_cons]
      omega
  split <;> omega
/-- a book -/
structure Bk where
  cap : Int
  meet : Int
  bs : List Ord
  ss : List Ord
  high : Int
  seq : Int
def Bk.side (B : Bk) (s : Int) : List Ord := if s = 1 then B.bs else B.ss
def Bk.put (B : Bk) (s : Int) (l : List Ord) : Bk := if s = 1 then ⟨B.cap, B.meet, l, B.ss, B.high, B.seq⟩ else ⟨B.cap, B.meet, B.bs, l, B.high, B.seq⟩
def Bk.num (B : Bk) (q : Int) : Bk := ⟨B.cap, B.meet, B.bs, B.ss, B.high, q⟩
abbrev Bc (B : Bk) (v1 v2 : Value) : List Value := [.int .i64 B.cap, .int .i64 B.meet, v1, v2, .int .u64 B.high, .int .u64 B.seq]
/-- a book in memory, whose sides are its own -/
def BkH (b : Nat) (B : Bk) (hs : Hp) : Prop := ∃ v1 v2 k1 k2, hs = Tb b (Bc B v1 v2) :: (k1 ++ k2) ∧ Side v1 B.bs k1 ∧ Side v2 B.ss k2
/-- .. with a teller -/
abbrev TBh (t b : Nat) (B : Bk) (v1 v2 ve : Value) (k1 k2 ke : Hp) : Hp := Tt t b ve :: Tb b (Bc B v1 v2) :: (k1 ++ (k2 ++ ke))
def TB (t b : Nat) (B : Bk) (evs : List Ev) (hs : Hp) : Prop := ∃ v1 v2 ve k1 k2 ke, hs = TBh t b B v1 v2 ve k1 k2 ke ∧ Side v1 B.bs k1 ∧ Side v2 B.ss k2 ∧ Evs ve evs ke
/-- the order that comes meets the other side: the state of trading -/
def Bk.ts (B : Bk) (evs : List Ev) (t : Tk) : TS := ⟨B.side (3 - t.side), t.left, B.seq, evs⟩
def Bk.traded (B : Bk) (t : Tk) (z : TS) : Bk := (B.put (3 - t.side) z.L).num z.seq
set_option maxRecDepth 10000 in
theorem trade_ok (w : World) (t b po : Nat) (B : Bk) (evs : List Ev) (tk : Tk) (hs : tk.side = 1 ∨ tk.side = 2) (v1 v2 ve : Value) (k1 k2 ke : Hp) (h1 : Side v1 B.bs k1) (h2 : Side v2 B.ss k2) (hE : Evs ve evs ke) (hOk : (B.ts evs tk).Ok)
    (hn : (B.ts evs tk).L.length ≤ 1000000) (he : evs.length ≤ 1000000000) :
    Does Try.prog 55 [.pointer (some ⟨t, 0, none⟩), .pointer (some ⟨po, 0, none⟩)] (To po tk tk.left :: TBh t b B v1 v2 ve k1 k2 ke) w
      (fun _ hs => ∃ h, hs = To po tk (tr B.meet tk (B.ts evs tk)).left :: h ∧ TB t b (B.traded tk (tr B.meet tk (B.ts evs tk))) (tr B.meet tk (B.ts evs tk)).evs h) := by
  have hmu := mu_le hOk
  have he2 : (B.ts evs tk).evs.length + 2 * (B.ts evs tk).mu ≤ 100000000000 := by
    have : (B.ts evs tk).evs.length = evs.length := rfl
    omega
  rcases hs with hs | hs
  · have e3 : B.side (3 - tk.side) = B.ss := by unfold Bk.side; rw [hs]; rfl
    have ep : ∀ z : TS, B.traded tk z = ⟨B.cap, B.meet, B.bs, z.L, B.high, z.seq⟩ := fun z => by unfold Bk.traded Bk.put; rw [hs]; rfl
    have := trades_ok w t b po 3 tk (.inl ⟨hs, rfl⟩) (.int .i64 B.cap) v1 (.int .u64 B.high) B.meet (B.ts evs tk) v2 ve k2 ke (by unfold Bk.ts; rw [e3]; exact h2) hE hOk hn he2
    have h3 : Does Try.prog 55 [.pointer (some ⟨t, 0, none⟩), .pointer (some ⟨po, 0, none⟩)] (Tt t b ve :: Tb b (Bc B v1 v2) :: To po tk tk.left :: (k2 ++ ke)) w _ := this
    refine (Does.lendT _ h3).keepT ?_
    rintro _ _ ⟨_, ⟨z, hz, vs', ve', ks', ke', rfl, hS', hE'⟩, rfl⟩
    obtain rfl := hz.eq hOk
    generalize tr B.meet tk (B.ts evs tk) = z at *
    have hp : ((Tt t b ve' :: Tb b (Bc ⟨B.cap, B.meet, B.bs, z.L, B.high, z.seq⟩ v1 vs') :: To po tk z.left :: (ks' ++ ke')) ++ (k1 ++ [])).Perm ((To po tk z.left :: TBh t b ⟨B.cap, B.meet, B.bs, z.L, B.high, z.seq⟩ v1 vs' ve' k1 ks' ke') ++ []) := TakeI.out
    exact ⟨To po tk z.left :: TBh t b (B.traded tk z) v1 vs' ve' k1 ks' ke', [], by rw [ep]; exact hp, _, rfl, v1, vs', ve', k1, ks', ke', rfl, by rw [ep]; exact h1, by rw [ep]; exact hS', hE'⟩
  · have e3 : B.side (3 - tk.side) = B.bs := by unfold Bk.side; rw [hs]; rfl
    have ep : ∀ z : TS, B.traded tk z = ⟨B.cap, B.meet, z.L, B.ss, B.high, z.seq⟩ := fun z => by unfold Bk.traded Bk.put; rw [hs]; rfl
    have := trades_ok w t b po 2 tk (.inr ⟨hs, rfl⟩) (.int .i64 B.cap) v2 (.int .u64 B.high) B.meet (B.ts evs tk) v1 ve k1 ke (by unfold Bk.ts; rw [e3]; exact h1) hE hOk hn he2
    have h3 : Does Try.prog 55 [.pointer (some ⟨t, 0, none⟩), .pointer (some ⟨po, 0, none⟩)] (Tt t b ve :: Tb b (Bc B v1 v2) :: To po tk tk.left :: (k1 ++ ke)) w _ := this
    refine (Does.lendT _ h3).keepT ?_
    rintro _ _ ⟨_, ⟨z, hz, vs', ve', ks', ke', rfl, hS', hE'⟩, rfl⟩
    obtain rfl := hz.eq hOk
    generalize tr B.meet tk (B.ts evs tk) = z at *
    have hp : ((Tt t b ve' :: Tb b (Bc ⟨B.cap, B.meet, z.L, B.ss, B.high, z.seq⟩ vs' v2) :: To po tk z.left :: (ks' ++ ke')) ++ (k2 ++ [])).Perm ((To po tk z.left :: TBh t b ⟨B.cap, B.meet, z.L, B.ss, B.high, z.seq⟩ vs' v2 ve' ks' k2 ke') ++ []) := TakeI.out
    exact ⟨To po tk z.left :: TBh t b (B.traded tk z) vs' v2 ve' ks' k2 ke', [], by rw [ep]; exact hp, _, rfl, vs', v2, ve', ks', k2, ke', rfl, by rw [ep]; exact hS', by rw [ep]; exact h2, hE'⟩
end Go.Proofs.Ytmfobfamdaajmaa

/- (*teller).whole: would an order trade whole? -/
namespace Go.Proofs.Ytmfobfamdaajmaa
open Go.V
set_option linter.unusedVariables false
set_option linter.unusedSimpArgs false

theorem Does.kept {P : Program} {g : Nat} {vals : List Value} {w : World} {v : Value} (h : Does P g vals [] w (fun u _ => u = v)) : Is P g vals w v :=
  Does.less (h.mono fun u hs e => ⟨[], fun _ s => s.sub (List.nil_sublist _), e, rfl⟩)
set_option maxRecDepth 10000 in
theorem whole_ok (w : World) (t b : Nat) (B : Bk) (tk : Tk) (hs : tk.side = 1 ∨ tk.side = 2) (ve : Value) (A1 A2 : Option Addr) (c1 c2 : Nat) (ht : Rd w [] (some ⟨t, 0, none⟩) [.pointer (some ⟨b, 0, none⟩), ve])
    (hb : Rd w [] (some ⟨b, 0, none⟩) (Bc B (.slice A1 B.bs.length c1) (.slice A2 B.ss.length c2))) (h1 : Rd w [] A1 (rows B.bs)) (h2 : Rd w [] A2 (rows B.ss)) (hOk : (B.ts [] tk).Ok) (hn1 : B.bs.length ≤ 1000000) (hn2 : B.ss.length ≤ 1000000) :
    Is Try.prog 54 [.pointer (some ⟨t, 0, none⟩), .agg ⟨tk.cells⟩] w (.bool (decide (tsum (tr B.meet tk (B.ts [] tk)).evs = tk.left))) := by
  have hnn : (B.ts [] tk).L.length ≤ 1000000 := by
    unfold Bk.ts Bk.side
    simp only
    split <;> assumption
  refine Does.kept (Does.of (n := 46) Try.func54 rfl rfl rfl rfl ?_)
  refine .seq ((.region (.nw (.box (l := [.int .u64 tk.o.id, .int .u32 tk.o.mb, .int .i64 tk.o.ty, .int .i64 tk.o.pr, .int .u64 tk.o.v, .int .u64 tk.o.hd, .int .u64 tk.o.pk, .int .i64 tk.side, .int .i64 tk.kind, .int .u64 tk.left]) rfl rfl) fun b3 => (.v (.assign rfl) (.nil ?_)))))
  refine .seq ((.region (.v (.move rfl) (.v (.nilCheck rfl) (.v (.fieldAddr rfl) (.v (.load (v := .pointer (some ⟨b, 0, none⟩)) rfl (ht.cell (i := 0) rfl)) (.v (.nilCheck rfl) (.v (.fieldAddr rfl) (.v (.loadA (vs := Bc B (.slice A1 B.bs.length c1) (.slice A2 B.ss.length c2)) rfl hb.whole rfl) ?_)))))))))
  refine .ef (.call0 rfl rfl fun w s => copied_ok w B.cap B.meet B.high B.seq A1 A2 c1 c2 B.bs B.ss (h1.keep0 s) (h2.keep0 s) (by omega) (by omega)) ?_
  rintro _ _ ⟨_, ⟨E1, E2, d1, d2, k1, k2, rfl, rfl, o1, o2⟩, rfl⟩
  refine .v (.build (out := Bc B (.slice E1 B.bs.length d1) (.slice E2 B.ss.length d2)) rfl rfl) (.nw (.box (l := Bc B (.slice E1 B.bs.length d1) (.slice E2 B.ss.length d2)) rfl rfl) fun b19 => (.v (.build (out := [.pointer (some ⟨b19, 0, none⟩), .slice none 0 0]) rfl rfl) (.nw (.box (l := [.pointer (some ⟨b19, 0, none⟩), .slice none 0 0]) rfl rfl) fun b21 => (.v (.assign rfl) (.nil ?_)))))
  refine .seq ((.region (.v (.fieldAddr rfl) (.v (.load (v := .int .u64 tk.left) rfl (.one rfl)) (.v (.assign rfl) (.nil ?_))))))
  refine .seq ((.region (.v (.move rfl) ?_)))
  refine .ef (.callT (To b3 tk tk.left :: TBh b21 b19 B (.slice E1 B.bs.length d1) (.slice E2 B.ss.length d2) (.slice none 0 0) k1 k2 []) rfl rfl (fun w' s' => trade_ok w' b21 b19 b3 B [] tk hs _ _ _ k1 k2 [] o1 o2 (OwnS.nil _ _) hOk hnn (by simp))) ?_
  rintro _ _ ⟨_, ⟨h, rfl, ⟨v1', v2', ve', k1', k2', ke', rfl, -, -, hE⟩⟩, rfl⟩
  have hz := (tr_run (meet := B.meet) (t := tk) hOk).ok hOk
  have hmu := mu_le hOk
  have hze : (B.ts [] tk).evs.length = 0 := rfl
  generalize tr B.meet tk (B.ts [] tk) = z at *
  refine .nil ?_
  obtain ⟨A, c, rfl⟩ := OwnS.sl hE
  refine .seq ((.region (.v (.assign rfl) (.nil ?_))))
  refine .seq (.seq ((.region (.v (.move rfl) (.v (.nilCheck rfl) (.v (.fieldAddr rfl) (.v (.load (v := .slice A z.evs.length c) rfl (.one rfl)) (.v (.len rfl) (.v (.move rfl) (.nil ?_))))))))))
  refine .keep ke' ?_
  have hnb : z.evs.length ≤ 2513169434843 := by
    omega
  refine .block (.loop (X := Nat) (fun i => [(6, .int .u64 tk.left), (7, .int .u64 (tsum (z.evs.take i))), (29, .slice A z.evs.length c), (30, .int .i64 z.evs.length), (31, .int .i64 i)]) (fun _ => ke') (fun i => i ≤ z.evs.length) (fun i => z.evs.length - i) 0 (by omega)
    (.cons rfl (.cons rfl (.cons rfl (.cons rfl (.cons rfl (.nil _)))))) (fun _ s => s) ?_)
  intro i hi
  refine .seq ((.region (.v (.lss rfl rfl) (.nil ?_))))
  refine .seq (.cond_dec rfl (fun g1 => .skip ?_) (fun g1 => .exit ?_))
  · have hil : i < z.evs.length := by omega
    obtain ⟨bk, ok, lk, rfl, -, rfl, -, -, -⟩ := hE.some_ (by omega)
    generalize hev : z.evs[i] = ev
    have hat : ∀ own, At w own [(bk, Ch.cells lk 50)] ⟨bk, ok + i * 13, none⟩ ev.cells := fun own => hE.atN (fun _ h => h) (fun j v hv => by
      have h13 := (List.getElem?_eq_some_iff.1 hv).1
      rw [erows_get z.evs i j hil (by simpa [Ev.cells] using h13), hev]; exact hv)
    have etk : z.evs.take (i + 1) = z.evs.take i ++ [ev] := by rw [List.take_add_one, List.getElem?_eq_getElem hil, hev]; rfl
    refine .seq (.block (.seq ((.region (.v (.indexAddr rfl rfl (by omega) (by omega)) (.v (.loadA (vs := ev.cells) rfl (hat _) rfl) (.nw .alloc fun b9 => (.st (.sw rfl rfl) (.nil ?_)))))))))
    refine .seq ((.region (.v (.fieldAddr rfl) (.v (.load (v := .int .i64 ev.kind) rfl (.one rfl)) (.v (.eqi rfl rfl) (.nil ?_))))))
    refine .cond_dec rfl (fun g2 => ?_) (fun g2 => .skip ?_)
    · refine .region (.v (.move rfl) (.v (.fieldAddr rfl) (.v (.load (v := .int .u64 ev.q) rfl (.one rfl)) (.v (.add rfl rfl) (.v (.assign rfl) (.nil ?_))))))
      refine .region (.v (.addi rfl rfl (by omega)) (.v (.move rfl) (.nil ?_)))
      exact ⟨i + 1, by omega, by omega, .cons rfl (.cons (by rw [etk, tsum_snoc, if_pos g2]; rfl) (.cons rfl (.cons rfl (.cons rfl (.nil _))))), fun _ s => s.take⟩
    · refine .region (.v (.addi rfl rfl (by omega)) (.v (.move rfl) (.nil ?_)))
      exact ⟨i + 1, by omega, by omega, .cons rfl (.cons (by rw [etk, tsum_snoc, if_neg g2]; rfl) (.cons rfl (.cons rfl (.cons rfl (.nil _))))), fun _ s => s.take⟩
  · refine .seq ((.region (.v (.move rfl) (.v (.move rfl) (.v (.eqi rfl rfl) (.v (.assign rfl) (.nil ?_)))))))
    have : z.evs.take i = z.evs := List.take_of_length_le (by omega)
    exact .ret ⟨[_], ⟨rfl, trivial⟩, by rw [this]; rfl⟩
end Go.Proofs.Ytmfobfamdaajmaa

/- tell and rests in terms of books; (*teller).comes. -/
namespace Go.Proofs.Ytmfobfamdaajmaa
open Go.V
set_option linter.unusedVariables false
set_option linter.unusedSimpArgs false

theorem tellB_ok (w : World) (t b : Nat) (B : Bk) (evs : List Ev) (e : Ev) (v1 v2 ve : Value) (k1 k2 ke : Hp) (h1 : Side v1 B.bs k1) (h2 : Side v2 B.ss k2) (hE : Evs ve evs ke) (hn : evs.length + 1 ≤ 1000000000000) :
    Does Try.prog 44 [.pointer (some ⟨t, 0, none⟩), .agg ⟨e.cells⟩] (TBh t b B v1 v2 ve k1 k2 ke) w (fun _ hs => TB t b (B.num (nx B.seq)) (evs ++ [e.num (nx B.seq)]) hs) := by
  refine (Does.lendT (Tt t b ve :: Tb b (Bc B v1 v2) :: ke) (tell_ok w t b _ _ _ _ _ B.seq e evs ve ke hE hn)).keepT ?_
  rintro _ _ ⟨_, ⟨ve', ke', rfl, hE'⟩, rfl⟩
  have hp : ((Tt t b ve' :: Tb b (Bc (B.num (nx B.seq)) v1 v2) :: ke') ++ (k1 ++ (k2 ++ []))).Perm (TBh t b (B.num (nx B.seq)) v1 v2 ve' k1 k2 ke' ++ []) := TakeI.out
  exact ⟨TBh t b (B.num (nx B.seq)) v1 v2 ve' k1 k2 ke', [], hp, v1, v2, ve', k1, k2, ke', rfl, h1, h2, hE'⟩
theorem restB_ok (w : World) (b : Nat) (B : Bk) (s : Int) (hs : s = 1 ∨ s = 2) (o : Ord) (v1 v2 : Value) (k1 k2 : Hp) (h1 : Side v1 B.bs k1) (h2 : Side v2 B.ss k2) (hn1 : B.bs.length ≤ 1000000) (hn2 : B.ss.length ≤ 1000000) :
    Does Try.prog 56 [.pointer (some ⟨b, 0, none⟩), .int .i64 s, .agg ⟨o.cells⟩] (Tb b (Bc B v1 v2) :: (k1 ++ k2)) w (fun _ hs => BkH b (B.put s (rst s o (B.side s))) hs) := by
  rcases hs with rfl | rfl
  · refine (Does.lendT (Tb b (Bc B v1 v2) :: k1) (rests_ok w b 2 1 (by omega) (Bc B v1 v2) rfl o B.bs _ k1 rfl h1 (by omega))).keepT ?_
    rintro _ _ ⟨_, ⟨v, k', rfl, h'⟩, rfl⟩
    have e : B.put 1 (rst 1 o (B.side 1)) = ⟨B.cap, B.meet, rst 1 o B.bs, B.ss, B.high, B.seq⟩ := rfl
    have hp : ((Tb b (Bc ⟨B.cap, B.meet, rst 1 o B.bs, B.ss, B.high, B.seq⟩ v v2) :: k') ++ k2).Perm ((Tb b (Bc ⟨B.cap, B.meet, rst 1 o B.bs, B.ss, B.high, B.seq⟩ v v2) :: (k' ++ k2)) ++ []) := TakeI.out
    exact ⟨Tb b (Bc ⟨B.cap, B.meet, rst 1 o B.bs, B.ss, B.high, B.seq⟩ v v2) :: (k' ++ k2), [], hp, v, v2, k', k2, rfl, h', h2⟩
  · refine (Does.lendT (Tb b (Bc B v1 v2) :: k2) (rests_ok w b 3 2 (by omega) (Bc B v1 v2) rfl o B.ss _ k2 rfl h2 (by omega))).keepT ?_
    rintro _ _ ⟨_, ⟨v, k', rfl, h'⟩, rfl⟩
    have e : B.put 2 (rst 2 o (B.side 2)) = ⟨B.cap, B.meet, B.bs, rst 2 o B.ss, B.high, B.seq⟩ := rfl
    have hp : ((Tb b (Bc ⟨B.cap, B.meet, B.bs, rst 2 o B.ss, B.high, B.seq⟩ v1 v) :: k') ++ (k1 ++ [])).Perm ((Tb b (Bc ⟨B.cap, B.meet, B.bs, rst 2 o B.ss, B.high, B.seq⟩ v1 v) :: (k1 ++ k')) ++ []) := TakeI.out
    exact ⟨Tb b (Bc ⟨B.cap, B.meet, B.bs, rst 2 o B.ss, B.high, B.seq⟩ v1 v) :: (k1 ++ k'), [], hp, v1, v, k1, k', rfl, h1, h'⟩
/-- the order that rests: what it shows, what it hides -/
def restOf (o : Ord) (left : Int) : Ord := ⟨o.id, o.mb, o.ty, o.pr, if 0 < o.pk then min o.pk left else left, left - (if 0 < o.pk then min o.pk left else left), o.pk⟩
def Bk.comes (B : Bk) (evs : List Ev) (t : Tk) : Bk × List Ev :=
  if t.kind = 4 ∧ tsum (tr B.meet t (B.ts [] t)).evs ≠ t.left then (B.num (nx B.seq), evs ++ [(evCancel t.o.id t.left 4).num (nx B.seq)])
  else
    let z := tr B.meet t (B.ts evs t)
    let B1 := B.traded t z
    if z.left = 0 then (B1, z.evs)
    else if t.kind ≠ 1 ∧ t.kind ≠ 5 then (B1.num (nx B1.seq), z.evs ++ [(evCancel t.o.id z.left 3).num (nx B1.seq)])
    else (B1.put t.side (rst t.side (restOf t.o z.left) (B1.side t.side)), z.evs)
set_option maxRecDepth 10000 in
theorem comes_ok (w : World) (t b : Nat) (B : Bk) (evs : List Ev) (tk : Tk) (hs : tk.side = 1 ∨ tk.side = 2) (v1 v2 ve : Value) (k1 k2 ke : Hp) (h1 : Side v1 B.bs k1) (h2 : Side v2 B.ss k2) (hE : Evs ve evs ke) (hOk : (B.ts evs tk).Ok) (hpk : U tk.o.pk)
    (hn1 : B.bs.length ≤ 500000) (hn2 : B.ss.length ≤ 500000) (he : evs.length ≤ 1000000) :
    Does Try.prog 47 [.pointer (some ⟨t, 0, none⟩), .agg ⟨tk.cells⟩] (TBh t b B v1 v2 ve k1 k2 ke) w (fun _ hs => TB t b (B.comes evs tk).1 (B.comes evs tk).2 hs) := by
  have hOk0 : (B.ts [] tk).Ok := ⟨hOk.good, hOk.lo, hOk.hi⟩
  have hnn : (B.ts evs tk).L.length ≤ 1000000 := by
    unfold Bk.ts Bk.side; simp only
    split <;> omega
  obtain ⟨A1, c1, rfl⟩ := OwnS.sl h1
  obtain ⟨A2, c2, rfl⟩ := OwnS.sl h2
  refine Does.less (Does.of (n := 75) Try.func47 rfl rfl rfl rfl ?_)
  refine .seq ((.region (.nw (.box (l := [.int .u64 tk.o.id, .int .u32 tk.o.mb, .int .i64 tk.o.ty, .int .i64 tk.o.pr, .int .u64 tk.o.v, .int .u64 tk.o.hd, .int .u64 tk.o.pk, .int .i64 tk.side, .int .i64 tk.kind, .int .u64 tk.left]) rfl rfl) fun b3 => (.nil ?_))))
  refine .seq (.seq ((.region (.v (.fieldAddr rfl) (.v (.load (v := .int .i64 tk.kind) rfl (.one rfl)) (.v (.eqi rfl rfl) (.v (.move rfl) (.and 7 11 4 4 rfl rfl (fun g1 => .v (.move rfl) (.v (.loadA (vs := tk.cells) rfl .whole rfl) (.pc rfl rfl (fun w s => whole_ok w t b B tk hs ve A1 A2 c1 c2 (Rd.chunk s (T := 79) (l := [.pointer (some ⟨b, 0, none⟩), ve]) (by simp) (fun j v hv => by rw [Nat.zero_add]; exact hv)) (Rd.chunk s (T := 67) (l := Bc B (.slice A1 B.bs.length c1) (.slice A2 B.ss.length c2)) (by simp) (fun j v hv => by rw [Nat.zero_add]; exact hv)) (OwnS.rd h1 s (no := []) (fun p hp => by simp [hp]) (by simp)) (OwnS.rd h2 s (no := []) (fun p hp => by simp [hp]) (by simp)) hOk0 (by omega) (by omega)) (.v (.not rfl) (.nil ⟨rfl, rfl, rfl, rfl⟩))))) (.nil ?_)))))))))
  refine .cond rfl (fun g1 => ?_) (fun g1 => .skip ?_)
  · have g1' : tk.kind = 4 ∧ tsum (tr B.meet tk (B.ts [] tk)).evs ≠ tk.left := by simpa using g1
    have eC : B.comes evs tk = (B.num (nx B.seq), evs ++ [(evCancel tk.o.id tk.left 4).num (nx B.seq)]) := by unfold Bk.comes; rw [if_pos g1']
    refine .seq ((.region (.v (.move rfl) (.v (.fieldAddr rfl) (.v (.fieldAddr rfl) (.v (.load (v := .int .u64 tk.o.id) rfl (.one rfl)) (.v (.fieldAddr rfl) (.v (.load (v := .int .u64 tk.left) rfl (.one rfl)) (.v (.build (out := (evCancel tk.o.id tk.left 4).cells) rfl rfl) ?_)))))))))
    refine .ef (.callT (TBh t b B (.slice A1 B.bs.length c1) (.slice A2 B.ss.length c2) ve k1 k2 ke) rfl rfl (fun w' s' => tellB_ok w' t b B evs (evCancel tk.o.id tk.left 4) _ _ ve k1 k2 ke h1 h2 hE (by omega))) ?_
    rintro _ _ ⟨_, ⟨v1', v2', ve', k1', k2', ke', rfl, h1', h2', hE'⟩, rfl⟩
    refine .nil (.ret ⟨[], trivial, _, fun _ s => Sat.take (pre := TBh t b (B.num (nx B.seq)) v1' v2' ve' k1' k2' ke') s, ?_⟩)
    rw [eC]
    exact ⟨v1', v2', ve', k1', k2', ke', rfl, h1', h2', hE'⟩
  have g1' : ¬ (tk.kind = 4 ∧ tsum (tr B.meet tk (B.ts [] tk)).evs ≠ tk.left) := by
    rintro ⟨a, c⟩
    simp [a, c] at g1
  refine .seq ((.region (.v (.move rfl) ?_)))
  refine .ef (.callT (To b3 tk tk.left :: TBh t b B (.slice A1 B.bs.length c1) (.slice A2 B.ss.length c2) ve k1 k2 ke) rfl rfl (fun w' s' => trade_ok w' t b b3 B evs tk hs _ _ ve k1 k2 ke h1 h2 hE hOk hnn (by omega))) ?_
  rintro _ _ ⟨_, ⟨h, rfl, ⟨v1', v2', ve', k1', k2', ke', rfl, h1', h2', hE'⟩⟩, rfl⟩
  obtain ⟨zok, zlen, zev, zl⟩ := (tr_run (meet := B.meet) (t := tk) hOk).ok hOk
  have hmu := mu_le hOk
  have eC0 : B.comes evs tk = (if (tr B.meet tk (B.ts evs tk)).left = 0 then (B.traded tk (tr B.meet tk (B.ts evs tk)), (tr B.meet tk (B.ts evs tk)).evs)
      else if tk.kind ≠ 1 ∧ tk.kind ≠ 5 then ((B.traded tk (tr B.meet tk (B.ts evs tk))).num (nx (B.traded tk (tr B.meet tk (B.ts evs tk))).seq), (tr B.meet tk (B.ts evs tk)).evs ++ [(evCancel tk.o.id (tr B.meet tk (B.ts evs tk)).left 3).num (nx (B.traded tk (tr B.meet tk (B.ts evs tk))).seq)])
      else ((B.traded tk (tr B.meet tk (B.ts evs tk))).put tk.side (rst tk.side (restOf tk.o (tr B.meet tk (B.ts evs tk)).left) ((B.traded tk (tr B.meet tk (B.ts evs tk))).side tk.side)), (tr B.meet tk (B.ts evs tk)).evs)) := by
    unfold Bk.comes; rw [if_neg g1']
  rw [eC0]
  have hL : ∀ z : TS, z.L.length ≤ (B.ts evs tk).L.length → (B.traded tk z).bs.length ≤ 1000000 ∧ (B.traded tk z).ss.length ≤ 1000000 := fun z hz => by
    unfold Bk.traded Bk.put Bk.num
    split <;> simp <;> omega
  have hL2 := hL _ zlen
  have hev0 : (B.ts evs tk).evs.length = evs.length := rfl
  generalize tr B.meet tk (B.ts evs tk) = z at *
  have ezlo := zok.lo
  have ezhi := zok.hi
  generalize B.traded tk z = B1 at *
  refine .nil ?_
  refine .keep (To b3 tk z.left :: TBh t b B1 v1' v2' ve' k1' k2' ke') ?_
  refine .seq (.seq ((.region (.v (.fieldAddr rfl) (.v (.load (v := .int .u64 z.left) rfl (.one rfl)) (.v (.eqi rfl rfl) (.nil ?_)))))))
  refine .cond_dec rfl (fun g2 => ?_) (fun g2 => .skip ?_)
  · rw [if_pos g2]
    exact .ret ⟨[], trivial, _, fun _ s => Sat.take (pre := TBh t b B1 v1' v2' ve' k1' k2' ke') s, v1', v2', ve', k1', k2', ke', rfl, h1', h2', hE'⟩
  rw [if_neg g2]
  refine .seq (.seq ((.region (.v (.fieldAddr rfl) (.v (.load (v := .int .i64 tk.kind) rfl (.one rfl)) (.v (.nei rfl rfl) (.v (.move rfl) (.and 29 32 3 3 rfl rfl (fun g2 => .v (.fieldAddr rfl) (.v (.load (v := .int .i64 tk.kind) rfl (.one rfl)) (.v (.nei rfl rfl) (.nil ⟨rfl, rfl, rfl, rfl⟩)))) (.nil ?_)))))))))
  refine .cond rfl (fun g3 => ?_) (fun g3 => .skip ?_) <;> simp only [Bool.and_eq_true, Bool.or_eq_true, Bool.not_eq_true', Bool.and_eq_false_iff, Bool.or_eq_false_iff, Bool.not_eq_false', decide_eq_true_eq, decide_eq_false_iff_not, Bool.false_eq_true, false_iff] at g3
  · rw [if_pos g3]
    refine .seq ((.region (.v (.move rfl) (.v (.fieldAddr rfl) (.v (.fieldAddr rfl) (.v (.load (v := .int .u64 tk.o.id) rfl (.one rfl)) (.v (.fieldAddr rfl) (.v (.load (v := .int .u64 z.left) rfl (.one rfl)) (.v (.build (out := (evCancel tk.o.id z.left 3).cells) rfl rfl) ?_)))))))))
    refine .ef (.callT (TBh t b B1 v1' v2' ve' k1' k2' ke') rfl rfl (fun w' s' => tellB_ok w' t b B1 z.evs (evCancel tk.o.id z.left 3) _ _ ve' k1' k2' ke' h1' h2' hE' (by omega))) ?_
    rintro _ _ ⟨_, ⟨v1x, v2x, vex, k1x, k2x, kex, rfl, h1x, h2x, hEx⟩, rfl⟩
    exact .nil (.ret ⟨[], trivial, _, fun _ s => Sat.take (pre := TBh t b (B1.num (nx B1.seq)) v1x v2x vex k1x k2x kex) s, v1x, v2x, vex, k1x, k2x, kex, rfl, h1x, h2x, hEx⟩)
  rw [if_neg (by omega)]
  obtain ⟨lv, hlv⟩ : ∃ lv, (if 0 < tk.o.pk then min tk.o.pk z.left else z.left) = lv := ⟨_, rfl⟩
  have hU := hpk
  unfold U at hU
  have hlv2 : 0 ≤ z.left - lv ∧ z.left - lv ≤ 18446744073709551615 := by
    rw [← hlv]
    split <;> omega
  have er : restOf tk.o z.left = ⟨tk.o.id, tk.o.mb, tk.o.ty, tk.o.pr, lv, z.left - lv, tk.o.pk⟩ := by unfold restOf; rw [hlv]
  rw [er]
  refine .seq ((.region (.v (.fieldAddr rfl) (.v (.load (v := .int .u64 z.left) rfl (.one rfl)) (.v (.fieldAddr rfl) (.v (.fieldAddr rfl) (.st (.storeL rfl rfl rfl) (.nil ?_))))))))
  refine .mid (X := Unit) (fun _ => [(0, .pointer (some ⟨t, 0, none⟩)), (3, .pointer (some ⟨b3, 0, none⟩))]) (fun _ => To b3 ⟨⟨tk.o.id, tk.o.mb, tk.o.ty, tk.o.pr, lv, tk.o.hd, tk.o.pk⟩, tk.side, tk.kind, tk.left⟩ z.left :: TBh t b B1 v1' v2' ve' k1' k2' ke') (fun _ => True)
    (.seq ((.region (.v (.fieldAddr rfl) (.v (.fieldAddr rfl) (.v (.load (v := .int .u64 tk.o.pk) rfl (.one rfl)) (.v (.gtr rfl rfl) (.nil ?_)))))))) ?_
  · refine .cond_dec rfl (fun g4 => ?_) (fun g4 => .skip ?_)
    · refine .region (.v (.fieldAddr rfl) (.v (.fieldAddr rfl) (.v (.load (v := .int .u64 tk.o.pk) rfl (.one rfl)) (.v (.fieldAddr rfl) (.v (.load (v := .int .u64 z.left) rfl (.one rfl)) (.v (.min2 rfl rfl) (.v (.fieldAddr rfl) (.v (.fieldAddr rfl) (.st (.storeL rfl rfl rfl) (.nil ?_))))))))))
      have e : min tk.o.pk z.left = lv := by rw [← hlv, if_pos g4]
      rw [e]
      exact ⟨(), trivial, .cons rfl (.cons rfl (.nil _)), fun _ s => s⟩
    · have e : z.left = lv := by rw [← hlv, if_neg g4]
      refine ⟨(), trivial, .cons rfl (.cons rfl (.nil _)), fun _ s => ?_⟩
      rw [← e]
      exact s
  · rintro _ _
    refine .seq ((.region (.v (.fieldAddr rfl) (.v (.load (v := .int .u64 z.left) rfl (.one rfl)) (.v (.fieldAddr rfl) (.v (.fieldAddr rfl) (.v (.load (v := .int .u64 lv) rfl (.one rfl)) (.v (.subU (z.left - lv) rfl rfl rfl hlv2) (.v (.fieldAddr rfl) (.v (.fieldAddr rfl) (.st (.storeL rfl rfl rfl) (.nil ?_))))))))))))
    refine (.drawK [Tt t b ve', (b3, Ch.cells [.int .u64 tk.o.id, .int .u32 tk.o.mb, .int .i64 tk.o.ty, .int .i64 tk.o.pr, .int .u64 lv, .int .u64 (z.left - lv), .int .u64 tk.o.pk, .int .i64 tk.side, .int .i64 tk.kind, .int .u64 z.left] 89)] (by intro p hp; simp at hp ⊢; rcases hp with rfl | rfl <;> simp) (by kernel_rfl) (by kernel_rfl) ?_)
    refine .v (fun _ f => .move rfl) (.v (fun _ f => .nilCheck rfl) (.v (fun _ f => .fieldAddr rfl) (.v (fun _ f => .load (v := .pointer (some ⟨b, 0, none⟩)) rfl (.one (hb := .sub f) rfl)) (.v (fun _ f => .fieldAddr rfl) (.v (fun _ f => .load (v := .int .i64 tk.side) rfl (.one (hb := .sub f) rfl)) (.v (fun _ f => .fieldAddr rfl) (.v (fun _ f => .loadA (vs := [.int .u64 tk.o.id, .int .u32 tk.o.mb, .int .i64 tk.o.ty, .int .i64 tk.o.pr, .int .u64 lv, .int .u64 (z.left - lv), .int .u64 tk.o.pk]) rfl (.chunk (hb := .sub f) (fun j v hv => ?_)) rfl) ?_)))))))
    · match j, hv with
      | 0, hv => exact hv
      | 1, hv => exact hv
      | 2, hv => exact hv
      | 3, hv => exact hv
      | 4, hv => exact hv
      | 5, hv => exact hv
      | 6, hv => exact hv
      | _ + 7, hv => cases hv
    refine .ef (.callT (Tb b (Bc B1 v1' v2') :: (k1' ++ k2')) rfl rfl (fun w' s' => restB_ok w' b B1 tk.side hs ⟨tk.o.id, tk.o.mb, tk.o.ty, tk.o.pr, lv, z.left - lv, tk.o.pk⟩ _ _ k1' k2' h1' h2' hL2.1 hL2.2)) (fun _ _ ⟨_, _, e⟩ _ => by subst e; intro p hp; simp at hp ⊢; rcases hp with rfl | rfl <;> simp) ?_
    rintro _ _ ⟨_, ⟨v1x, v2x, k1x, k2x, rfl, h1x, h2x⟩, rfl⟩
    exact .nil ⟨[], trivial, _, fun _ s => Sat.take (pre := TBh t b (B1.put tk.side (rst tk.side ⟨tk.o.id, tk.o.mb, tk.o.ty, tk.o.pr, lv, z.left - lv, tk.o.pk⟩ (B1.side tk.side))) v1x v2x ve' k1x k2x ke') s, v1x, v2x, ve', k1x, k2x, ke', rfl, h1x, h2x, hE'⟩
end Go.Proofs.Ytmfobfamdaajmaa

/- (*Book).Do: what it does. -/
namespace Go.Proofs.Ytmfobfamdaajmaa
open Go.V
set_option linter.unusedVariables false
set_option linter.unusedSimpArgs false

def evReject (id target code : Int) : Ev := ⟨0, 2, id, 0, target, 0, 0, 0, 0, 0, 0, 0, code⟩
def evAck (t : Tk) : Ev := ⟨0, 1, t.o.id, 0, 0, t.o.mb, t.side, t.kind, t.o.pr, t.left, t.o.pk, 0, 0⟩
def Bk.top (B : Bk) (h : Int) : Bk := ⟨B.cap, B.meet, B.bs, B.ss, h, B.seq⟩
/-- where the order that a command speaks of stands; the order -/
def Bk.at_ (B : Bk) (c : Cm) : Int × Int × Bool := plc c.tg B.bs B.ss
def Bk.tgt (B : Bk) (c : Cm) : Option Ord := if (B.at_ c).2.2 then (B.side (B.at_ c).1)[(B.at_ c).2.1.toNat]? else none
def Bk.why (B : Bk) (c : Cm) : Int := rfs B.cap B.high B.bs B.ss c (B.tgt c) (B.at_ c).1
/-- the order that a command speaks of goes -/
def Bk.goes (B : Bk) (c : Cm) : Bk := if c.k ≠ 1 then (B.put (B.at_ c).1 ((B.side (B.at_ c).1).eraseIdx (B.at_ c).2.1.toNat)).num (nx B.seq) else B
def Bk.gone (B : Bk) (c : Cm) : List Ev := if c.k ≠ 1 then (match B.tgt c with | some o => [(evCancel c.tg (o.v + o.hd) (if c.k = 3 then 2 else 1)).num (nx B.seq)] | none => []) else []
def Bk.does (B : Bk) (c : Cm) : Bk × List Ev :=
  if B.why c ≠ 0 then (B.num (nx B.seq), [(evReject (if c.k = 2 then 0 else c.id) (if c.k = 1 then 0 else c.tg) (B.why c)).num (nx B.seq)])
  else if c.k ≠ 2 then Bk.comes (((B.goes c).num (nx (B.goes c).seq)).top (cmg c (B.tgt c) (B.at_ c).1).o.id) (B.gone c ++ [(evAck (cmg c (B.tgt c) (B.at_ c).1)).num (nx (B.goes c).seq)]) (cmg c (B.tgt c) (B.at_ c).1)
  else (B.goes c, B.gone c)
theorem at_spec (B : Bk) (c : Cm) : (B.at_ c = (0, 0, false) ∧ B.tgt c = none ∧ (∀ o ∈ B.bs ++ B.ss, o.id ≠ c.tg)) ∨
    ∃ s : Int, (s = 1 ∨ s = 2) ∧ ∃ i, ∃ hi : i < (B.side s).length, B.at_ c = (s, (i : Int), true) ∧ B.tgt c = some (B.side s)[i] ∧ (B.side s)[i].id = c.tg := by
  have hsome : ∀ (s : Int) (i : Nat) (hi : i < (B.side s).length), B.at_ c = (s, (i : Int), true) → B.tgt c = some (B.side s)[i] := fun s i hi h => by
    unfold Bk.tgt; rw [h]; simp [hi]
  rcases idx_spec c.tg B.bs with ⟨h1, n1⟩ | ⟨i, hi, h1, h2, h3⟩
  · rcases idx_spec c.tg B.ss with ⟨h2, n2⟩ | ⟨i, hi, h2, h3, h4⟩
    · refine .inl ⟨?_, ?_, fun o ho => ?_⟩
      · unfold Bk.at_ plc; rw [h1, h2]; rfl
      · have : B.at_ c = (0, 0, false) := by unfold Bk.at_ plc; rw [h1, h2]; rfl
        unfold Bk.tgt; rw [this]; rfl
      · rcases List.mem_append.1 ho with ho | ho
        · obtain ⟨m, hm, rfl⟩ := List.mem_iff_getElem.1 ho; exact n1 m hm
        · obtain ⟨m, hm, rfl⟩ := List.mem_iff_getElem.1 ho; exact n2 m hm
    · have e : B.at_ c = (2, (i : Int), true) := by unfold Bk.at_ plc; rw [h1, h2, if_neg (by omega), if_pos (by omega)]
      exact .inr ⟨2, .inr rfl, i, hi, e, hsome 2 i hi e, h3⟩
  · have e : B.at_ c = (1, (i : Int), true) := by unfold Bk.at_ plc; rw [h1, if_pos (by omega)]
    exact .inr ⟨1, .inl rfl, i, hi, e, hsome 1 i hi e, h2⟩
/-- the order that a command speaks of, in a block of its own -/
def TgH (tp : Option Addr) (h : Hp) : Option Ord → Prop
  | none => tp = none ∧ h = []
  | some o => ∃ bt, tp = some ⟨bt, 0, none⟩ ∧ h = [(bt, .cells o.cells 53)]
theorem TgH.rd {w0 w : World} {own : List Nat} {hs h : Hp} {tp : Option Addr} {tg : Option Ord} (k : TgH tp h tg) (s : Sat w0 own hs w) (hh : h ⊆ hs) : TgR w [] tp tg := by
  cases tg with
  | none => exact k.1
  | some o =>
    obtain ⟨bt, rfl, rfl⟩ := k
    refine ⟨bt, rfl, fun j v hv => ⟨bt, 0, rfl, by simp, ?_⟩⟩
    rw [s.cell (hh List.mem_cons_self), Nat.zero_add]; exact hv
theorem rows_erase (l : List Ord) (i : Nat) : (rows l).take (i * 7) ++ (rows l).drop ((i + 1) * 7) = rows (l.eraseIdx i) := by
  rw [rows_take, rows_drop, ← rows_app, List.eraseIdx_eq_take_drop_succ]
/-- a book whose orders are good, and that is not too great -/
structure Bk.Ok (B : Bk) : Prop where
  good : ∀ o ∈ B.bs ++ B.ss, o.G
  len : B.bs.length + B.ss.length ≤ 100000
theorem Bk.side_sub (B : Bk) (s : Int) : ∀ o ∈ B.side s, o ∈ B.bs ++ B.ss := fun o ho => by
  unfold Bk.side at ho
  split at ho <;> simp [ho]
theorem Bk.put_mem {B : Bk} {s : Int} {l : List Ord} {o : Ord} (h : o ∈ (B.put s l).bs ++ (B.put s l).ss) : o ∈ l ∨ o ∈ B.bs ++ B.ss := by
  unfold Bk.put at h
  split at h <;> simp at h ⊢ <;> rcases h with h | h <;> simp [h]
theorem Bk.goes_mem {B : Bk} {c : Cm} {o : Ord} (h : o ∈ (B.goes c).bs ++ (B.goes c).ss) : o ∈ B.bs ++ B.ss := by
  unfold Bk.goes at h
  split at h
  · rcases Bk.put_mem h with h | h
    · exact B.side_sub _ _ (List.mem_of_mem_eraseIdx h)
    · exact h
  · exact h
theorem Bk.goes_len (B : Bk) (c : Cm) : (B.goes c).bs.length ≤ B.bs.length ∧ (B.goes c).ss.length ≤ B.ss.length := by
  unfold Bk.goes
  split
  · unfold Bk.put Bk.num Bk.side
    split
    · exact ⟨List.length_eraseIdx_le .., Nat.le_refl _⟩
    · exact ⟨Nat.le_refl _, List.length_eraseIdx_le ..⟩
  · exact ⟨Nat.le_refl _, Nat.le_refl _⟩
theorem cmg_facts {c : Cm} {tg : Option Ord} {side : Int} : (cmg c tg side).left = c.q ∧ (cmg c tg side).o.pk = c.pk ∧ (cmg c tg side).o.id = c.id ∧ (cmg c tg side).o.pr = c.pr := by
  unfold cmg
  cases tg with
  | none => exact ⟨rfl, rfl, rfl, rfl⟩
  | some o => simp only; split <;> exact ⟨rfl, rfl, rfl, rfl⟩
theorem cmg_side {c : Cm} {tg : Option Ord} {side : Int} (h0 : c.chk = 0) (h2 : c.k ≠ 2) (h3 : c.k = 3 → tg ≠ none) (hs : tg ≠ none → side = 1 ∨ side = 2) : (cmg c tg side).side = 1 ∨ (cmg c tg side).side = 2 := by
  have hk := chk_kinds (c := c) (by rw [h0]; decide)
  unfold cmg
  cases tg with
  | none =>
    refine chk_side h0 ?_
    rcases hk with h | h | h
    · exact h
    · exact absurd h h2
    · exact absurd rfl (h3 h)
  | some o =>
    simp only
    split
    · exact hs (by simp)
    · rename_i hk'
      refine chk_side h0 ?_
      rcases hk with h | h | h
      · exact h
      · exact absurd h h2
      · exact absurd h hk'
theorem rfs_zero {cap high : Int} {bs ss : List Ord} {c : Cm} {tg : Option Ord} {side : Int} (h : rfs cap high bs ss c tg side = 0) : (c.k ≠ 1 → tg ≠ none) ∧ c.chk = 0 ∧ (c.k ≠ 2 → high < c.id) ∧
    (c.k = 1 → (cmg c tg side).kind = 1 ∨ (cmg c tg side).kind = 5 → (bs.length : Int) + ss.length < cap) ∧ (c.k ≠ 2 → (cmg c tg side).kind = 5 → headReach (cmg c tg side).side (cmg c tg side).kind (cmg c tg side).o.pr (if (cmg c tg side).side = 1 then ss else bs) = false) := by
  unfold rfs at h
  by_cases h1 : c.chk = 90
  · rw [if_pos h1] at h; omega
  rw [if_neg h1] at h
  by_cases h2 : c.k ≠ 1 ∧ tg = none
  · rw [if_pos h2] at h; omega
  rw [if_neg h2] at h
  by_cases h3 : c.chk ≠ 0
  · rw [if_pos h3] at h; omega
  rw [if_neg h3] at h
  by_cases h4 : c.k = 2
  · exact ⟨fun a b => h2 ⟨a, b⟩, by omega, fun a => absurd h4 a, fun a => by omega, fun a => absurd h4 a⟩
  rw [if_neg h4] at h
  by_cases h5 : c.id ≤ high
  · rw [if_pos h5] at h; omega
  rw [if_neg h5] at h
  by_cases h6 : c.k = 1 ∧ ((cmg c tg side).kind = 1 ∨ (cmg c tg side).kind = 5) ∧ cap ≤ bs.length + ss.length
  · rw [if_pos h6] at h; omega
  rw [if_neg h6] at h
  by_cases h7 : (cmg c tg side).kind = 5 ∧ headReach (cmg c tg side).side (cmg c tg side).kind (cmg c tg side).o.pr (if (cmg c tg side).side = 1 then ss else bs) = true
  · rw [if_pos h7] at h; omega
  refine ⟨fun a b => h2 ⟨a, b⟩, by omega, fun _ => by omega, fun a b => ?_, fun _ a => ?_⟩
  · rcases Int.lt_or_le ((bs.length : Int) + ss.length) cap with hh | hh
    · exact hh
    · exact absurd ⟨a, b, hh⟩ h6
  · rw [Bool.eq_false_iff]; exact fun b => h7 ⟨a, b⟩
end Go.Proofs.Ytmfobfamdaajmaa

/- (*Book).Do: its walk. -/
namespace Go.Proofs.Ytmfobfamdaajmaa
open Go.V
set_option linter.unusedVariables false
set_option linter.unusedSimpArgs false

structure MS where
  v1 : Value
  v2 : Value
  ve : Value
  k1 : Hp
  k2 : Hp
  ke : Hp
abbrev MS.H (m : MS) (t b : Nat) (B : Bk) : Hp := TBh t b B m.v1 m.v2 m.ve m.k1 m.k2 m.ke
def MS.I (m : MS) (B : Bk) (evs : List Ev) : Prop := Side m.v1 B.bs m.k1 ∧ Side m.v2 B.ss m.k2 ∧ Evs m.ve evs m.ke
theorem gone_len (B : Bk) (c : Cm) : (B.gone c).length ≤ 1 := by
  unfold Bk.gone
  split
  · cases B.tgt c <;> simp
  · simp
set_option maxRecDepth 20000 in
set_option maxHeartbeats 1000000 in
theorem do_ok (w : World) (b : Nat) (B : Bk) (hOk : B.Ok) (c : Cm) (hq : U c.q) (hpk : U c.pk) (v1 v2 : Value) (k1 k2 : Hp) (h1 : Side v1 B.bs k1) (h2 : Side v2 B.ss k2) :
    Does Try.prog 22 [.pointer (some ⟨b, 0, none⟩), .agg ⟨c.cells⟩] (Tb b (Bc B v1 v2) :: (k1 ++ k2)) w
      (fun v hs => ∃ h ke, hs = h ++ ke ∧ BkH b (B.does c).1 h ∧ Evs v (B.does c).2 ke) := by
  have hlen := hOk.len
  obtain ⟨A1, c1, rfl⟩ := OwnS.sl h1
  obtain ⟨A2, c2, rfl⟩ := OwnS.sl h2
  have hsp := at_spec B c
  have hside : B.tgt c ≠ none → (B.at_ c).1 = 1 ∨ (B.at_ c).1 = 2 := by
    intro hne
    rcases hsp with ⟨_, h, _⟩ | ⟨s, hs, i, hi, e, _, _⟩
    · exact absurd h hne
    · rw [e]; exact hs
  refine Does.less (Does.of (n := 139) Try.func22 rfl rfl rfl rfl ?_)
  refine .seq ((.region (.nw (.box (l := c.cells) rfl rfl) fun b3 => (.v (.assign rfl) (.nil ?_)))))
  refine .seq ((.region (.v (.move rfl) (.v (.build (out := [.pointer (some ⟨b, 0, none⟩), .slice none 0 0]) rfl rfl) (.nw (.box (l := [.pointer (some ⟨b, 0, none⟩), .slice none 0 0]) rfl rfl) fun t => (.v (.assign rfl) (.nil ?_)))))))
  refine .seq ((.region (.v (.assign rfl) (.nil ?_))))
  refine .keep ((b3, Ch.cells c.cells 25) :: TBh t b B (.slice A1 B.bs.length c1) (.slice A2 B.ss.length c2) (.slice none 0 0) k1 k2 []) ?_
  refine .seq ((.region (.v (.move rfl) (.v (.fieldAddr rfl) (.v (.load (v := .int .u64 c.tg) rfl (.one rfl)) (.pc (v := plcV (B.at_ c)) rfl rfl (fun w s => place_ok w b B.cap B.meet B.high B.seq c.tg A1 A2 c1 c2 B.bs B.ss (Rd.chunk s (T := 67) (l := Bc B (.slice A1 B.bs.length c1) (.slice A2 B.ss.length c2)) (by simp) (fun j v hv => by rw [Nat.zero_add]; exact hv)) (OwnS.rd h1 s (no := []) (fun p hp => by simp [hp]) (by simp)) (OwnS.rd h2 s (no := []) (fun p hp => by simp [hp]) (by simp)) (by omega) (by omega)) (.v (.move rfl) (.v (.extract rfl rfl) (.v (.extract rfl rfl) (.v (.extract rfl rfl) (.v (.assign rfl) (.v (.assign rfl) (.v (.assign rfl) (.nil ?_))))))))))))))
  -- the order that is spoken of
  refine .mid (X := Option Addr × Hp) (fun x => [(0, .pointer (some ⟨b, 0, none⟩)), (3, .pointer (some ⟨b3, 0, none⟩)), (5, .pointer (some ⟨t, 0, none⟩)), (6, .pointer x.1), (7, .int .i64 (B.at_ c).1), (8, .int .i64 (B.at_ c).2.1)])
    (fun x => x.2 ++ ((b3, Ch.cells c.cells 25) :: TBh t b B (.slice A1 B.bs.length c1) (.slice A2 B.ss.length c2) (.slice none 0 0) k1 k2 [])) (fun x => TgH x.1 x.2 (B.tgt c)) (.seq ((.region (.v (.move rfl) (.nil ?_))))) ?_
  · refine .cond rfl (fun g1 => ?_) (fun g1 => .skip ?_)
    · rcases hsp with ⟨e, _, _⟩ | ⟨s, hs, i, hi, e, htg, hid⟩
      · rw [e] at g1; cases g1
      rw [e]
      rcases hs with rfl | rfl
      · have hi' : i < B.bs.length := hi
        have htg' : B.tgt c = some B.bs[i] := htg
        obtain ⟨bk, ok, lk, rfl, -, rfl, -, -, -⟩ := h1.some_ (by omega)
        generalize ho : B.bs[i] = o at htg'
        have hat : ∀ own hs', [(bk, Ch.cells lk 53)] ⊆ hs' → At w own hs' ⟨bk, ok + i * 7, none⟩ o.cells := fun own hs' hh => h1.atN hh (fun j v hv => by
          have h7 := (List.getElem?_eq_some_iff.1 hv).1
          rw [rows_get B.bs i j hi' (by simpa [Ord.cells, rcells] using h7), ho]; exact hv)
        refine .seq ((.region (.v (.move rfl) (.v (.move rfl) (.pc (v := .pointer (some ⟨b, 2, none⟩)) rfl rfl (fun w' _ => side_ok w' b 1) (.v (.nilCheck rfl) (.v (.load (v := .slice (some ⟨bk, ok, none⟩) B.bs.length c1) rfl (.one rfl)) (.v (.move rfl) (.v (.indexAddr (i := (i : Int)) rfl rfl (by omega) (by omega)) (.v (.loadA (vs := o.cells) rfl (hat _ _ (fun p hp => by simp at hp ⊢; simp [hp])) rfl) (.nw .alloc fun b10 => (.st (.sw rfl rfl) (.nil ?_)))))))))))))
        refine .region (.v (.assign rfl) (.nil ?_))
        exact ⟨(some ⟨b10, 0, none⟩, [(b10, Ch.cells o.cells 53)]), by rw [htg']; exact ⟨b10, rfl, rfl⟩, .cons rfl (.cons rfl (.cons rfl (.cons rfl (.cons rfl (.cons rfl (.nil _)))))), fun _ s => s⟩
      · have hi' : i < B.ss.length := hi
        have htg' : B.tgt c = some B.ss[i] := htg
        obtain ⟨bk, ok, lk, rfl, -, rfl, -, -, -⟩ := h2.some_ (by omega)
        generalize ho : B.ss[i] = o at htg'
        have hat : ∀ own hs', [(bk, Ch.cells lk 53)] ⊆ hs' → At w own hs' ⟨bk, ok + i * 7, none⟩ o.cells := fun own hs' hh => h2.atN hh (fun j v hv => by
          have h7 := (List.getElem?_eq_some_iff.1 hv).1
          rw [rows_get B.ss i j hi' (by simpa [Ord.cells, rcells] using h7), ho]; exact hv)
        refine .seq ((.region (.v (.move rfl) (.v (.move rfl) (.pc (v := .pointer (some ⟨b, 3, none⟩)) rfl rfl (fun w' _ => side_ok w' b 2) (.v (.nilCheck rfl) (.v (.load (v := .slice (some ⟨bk, ok, none⟩) B.ss.length c2) rfl (.one rfl)) (.v (.move rfl) (.v (.indexAddr (i := (i : Int)) rfl rfl (by omega) (by omega)) (.v (.loadA (vs := o.cells) rfl (hat _ _ (fun p hp => by simp at hp ⊢; simp [hp])) rfl) (.nw .alloc fun b10 => (.st (.sw rfl rfl) (.nil ?_)))))))))))))
        refine .region (.v (.assign rfl) (.nil ?_))
        exact ⟨(some ⟨b10, 0, none⟩, [(b10, Ch.cells o.cells 53)]), by rw [htg']; exact ⟨b10, rfl, rfl⟩, .cons rfl (.cons rfl (.cons rfl (.cons rfl (.cons rfl (.cons rfl (.nil _)))))), fun _ s => s⟩
    · have htg : B.tgt c = none := by
        rcases hsp with ⟨_, h, _⟩ | ⟨s, hs, i, hi, e, _, _⟩
        · exact h
        · rw [e] at g1; cases g1
      exact ⟨(none, []), by rw [htg]; exact ⟨rfl, rfl⟩, .cons rfl (.cons rfl (.cons rfl (.cons rfl (.cons rfl (.cons rfl (.nil _)))))), fun _ s => s⟩
  rintro ⟨tp, ht⟩ hT
  dsimp only at hT ⊢
  refine .seq (.seq ((.region (.v (.move rfl) (.v (.loadA (vs := c.cells) rfl .whole rfl) (.v (.move rfl) (.v (.move rfl) (.pc (v := .int .i64 (rfs B.cap B.high B.bs B.ss c (B.tgt c) (B.at_ c).1)) rfl rfl (fun w' s => refused_ok w' b B.cap B.meet B.high B.seq A1 A2 c1 c2 B.bs B.ss (Rd.chunk s (T := 67) (l := Bc B (.slice A1 B.bs.length c1) (.slice A2 B.ss.length c2)) (by simp) (fun j v hv => by rw [Nat.zero_add]; exact hv)) (OwnS.rd h1 s (no := []) (fun p hp => by simp [hp]) (by simp)) (OwnS.rd h2 s (no := []) (fun p hp => by simp [hp]) (by simp)) (by omega) (by omega) c tp (B.tgt c) (B.at_ c).1 (hT.rd s (fun p hp => by simp [hp])) hside) (.v (.assign rfl) (.nil ?_))))))))))
  have ew : rfs B.cap B.high B.bs B.ss c (B.tgt c) (B.at_ c).1 = B.why c := rfl
  rw [ew]
  refine .seq ((.region (.v (.move rfl) (.v (.nei rfl rfl) (.nil ?_)))))
  refine .cond_dec rfl (fun g2 => ?_) (fun g2 => .skip ?_)
  · have eD : B.does c = (B.num (nx B.seq), [(evReject (if c.k = 2 then 0 else c.id) (if c.k = 1 then 0 else c.tg) (B.why c)).num (nx B.seq)]) := by unfold Bk.does; rw [if_pos g2]
    refine .seq ((.region (.v (.fieldAddr rfl) (.v (.load (v := .int .u64 c.id) rfl (.one rfl)) (.v (.fieldAddr rfl) (.v (.load (v := .int .u64 c.tg) rfl (.one rfl)) (.v (.move rfl) (.v (.build (out := [.int .u64 0, .int .i64 2, .int .u64 c.id, .int .u64 0, .int .u64 c.tg, .int .u32 0, .int .i64 0, .int .i64 0, .int .i64 0, .int .u64 0, .int .u64 0, .int .i64 0, .int .i64 (B.why c)]) rfl rfl) (.nw .alloc fun b12 => (.st (.sw rfl rfl) (.nil ?_)))))))))))
    refine .mid (X := Unit) (fun _ => [(5, .pointer (some ⟨t, 0, none⟩)), (12, .pointer (some ⟨b12, 0, none⟩))]) (fun _ => (b12, Ch.cells [.int .u64 0, .int .i64 2, .int .u64 (if c.k = 2 then 0 else c.id), .int .u64 0, .int .u64 (if c.k = 1 then 0 else c.tg), .int .u32 0, .int .i64 0, .int .i64 0, .int .i64 0, .int .u64 0, .int .u64 0, .int .i64 0, .int .i64 (B.why c)] 50) :: TBh t b B (.slice A1 B.bs.length c1) (.slice A2 B.ss.length c2) (.slice none 0 0) k1 k2 []) (fun _ => True)
      (.seq ((.region (.v (.fieldAddr rfl) (.v (.load (v := .int .i64 c.k) rfl (.one rfl)) (.nil ?_)))))) ?_
    · refine .block (.seq ((.region (.v (.eqi rfl rfl) (.v (.assign rfl) (.nil ?_))))))
      refine .cond_dec rfl (fun g3 => ?_) (fun g3 => ?_)
      · refine .region (.v (.fieldAddr rfl) (.st (.storeL rfl rfl rfl) (.nil ?_)))
        refine ⟨(), trivial, .cons rfl (.cons rfl (.nil _)), fun _ s => ?_⟩
        rw [if_pos g3, if_neg (by omega)]
        exact s.take
      · refine .seq ((.region (.v (.eqi rfl rfl) (.v (.assign rfl) (.nil ?_)))))
        refine .cond_dec rfl (fun g4 => ?_) (fun g4 => .skip ?_)
        · refine .region (.v (.fieldAddr rfl) (.st (.storeL rfl rfl rfl) (.nil ?_)))
          refine ⟨(), trivial, .cons rfl (.cons rfl (.nil _)), fun _ s => ?_⟩
          rw [if_neg g3, if_pos g4]
          exact s.take
        · refine ⟨(), trivial, .cons rfl (.cons rfl (.nil _)), fun _ s => ?_⟩
          rw [if_neg g3, if_neg g4]
          exact s.take
    · rintro _ _
      refine .seq ((.region (.v (.move rfl) (.v (.loadA (vs := (evReject (if c.k = 2 then 0 else c.id) (if c.k = 1 then 0 else c.tg) (B.why c)).cells) rfl .whole rfl) ?_))))
      refine .ef (.callT (TBh t b B (.slice A1 B.bs.length c1) (.slice A2 B.ss.length c2) (.slice none 0 0) k1 k2 []) rfl rfl (fun w' s' => tellB_ok w' t b B [] (evReject (if c.k = 2 then 0 else c.id) (if c.k = 1 then 0 else c.tg) (B.why c)) _ _ _ k1 k2 [] h1 h2 (OwnS.nil _ _) (by simp))) ?_
      rintro _ _ ⟨_, ⟨v1x, v2x, vex, k1x, k2x, kex, rfl, h1x, h2x, hEx⟩, rfl⟩
      refine .nil ?_
      refine .seq ((.region (.v (.move rfl) (.v (.nilCheck rfl) (.v (.fieldAddr rfl) (.v (.load (v := vex) rfl (.one rfl)) (.v (.assign rfl) (.nil ?_))))))))
      refine .ret ⟨[_], ⟨rfl, trivial⟩, _, fun _ s => Sat.take (pre := (Tb b (Bc (B.num (nx B.seq)) v1x v2x) :: (k1x ++ k2x)) ++ kex) s, ?_⟩
      rw [eD]
      exact ⟨_, kex, rfl, ⟨v1x, v2x, k1x, k2x, rfl, h1x, h2x⟩, hEx⟩
  · have g2' : B.why c = 0 := Decidable.of_not_not g2
    obtain ⟨z1, z2, z3, z4, z5⟩ := rfs_zero g2'
    obtain ⟨h3f, h3b⟩ : (c.k ≠ 1 → B.tgt c ≠ none) ∧ c.chk = 0 := ⟨z1, z2⟩
    refine .mid (X := MS) (fun _ => [(0, .pointer (some ⟨b, 0, none⟩)), (3, .pointer (some ⟨b3, 0, none⟩)), (5, .pointer (some ⟨t, 0, none⟩)), (6, .pointer tp), (7, .int .i64 (B.at_ c).1)]) (fun m => ht ++ ((b3, Ch.cells c.cells 25) :: m.H t b (B.goes c))) (fun m => m.I (B.goes c) (B.gone c))
      (.seq ((.region (.v (.fieldAddr rfl) (.v (.load (v := .int .i64 c.k) rfl (.one rfl)) (.v (.nei rfl rfl) (.nil ?_))))))) ?_
    · refine .cond_dec rfl (fun g5 => ?_) (fun g5 => .skip ?_)
      · refine .seq ((.region (.v (.assign rfl) (.nil ?_))))
        refine .mid (X := Unit) (fun _ => [(0, .pointer (some ⟨b, 0, none⟩)), (3, .pointer (some ⟨b3, 0, none⟩)), (5, .pointer (some ⟨t, 0, none⟩)), (6, .pointer tp), (7, .int .i64 (B.at_ c).1), (8, .int .i64 (B.at_ c).2.1), (13, .int .i64 (if c.k = 3 then 2 else 1))]) (fun _ => ht ++ ((b3, Ch.cells c.cells 25) :: TBh t b B (.slice A1 B.bs.length c1) (.slice A2 B.ss.length c2) (.slice none 0 0) k1 k2 [])) (fun _ => True)
          (.seq ((.region (.v (.fieldAddr rfl) (.v (.load (v := .int .i64 c.k) rfl (.one rfl)) (.v (.eqi rfl rfl) (.nil ?_))))))) ?_
        · refine .cond_dec rfl (fun g6 => ?_) (fun g6 => .skip ?_)
          · refine .region (.v (.assign rfl) (.nil ?_))
            exact ⟨(), trivial, .cons rfl (.cons rfl (.cons rfl (.cons rfl (.cons rfl (.cons rfl (.cons (by rw [if_pos g6]; rfl) (.nil _))))))), fun _ s => s⟩
          · exact ⟨(), trivial, .cons rfl (.cons rfl (.cons rfl (.cons rfl (.cons rfl (.cons rfl (.cons (by rw [if_neg g6]; rfl) (.nil _))))))), fun _ s => s⟩
        · rintro _ _
          obtain ⟨rs, hrs⟩ : ∃ rs : Int, (if c.k = 3 then 2 else 1) = rs := ⟨_, rfl⟩
          rw [hrs]
          rcases hsp with ⟨_, h, _⟩ | ⟨s, hs, i, hi, e, htg, hid⟩
          · exact absurd h (h3f g5)
          have hgood : (B.side s)[i].G := hOk.good _ (B.side_sub s _ (List.getElem_mem hi))
          generalize ho : (B.side s)[i] = o at htg hgood
          have egone : B.gone c = [(evCancel c.tg (o.v + o.hd) rs).num (nx B.seq)] := by unfold Bk.gone; rw [if_pos g5, htg, ← hrs]
          have egoes : B.goes c = (B.put s ((B.side s).eraseIdx i)).num (nx B.seq) := by unfold Bk.goes; rw [if_pos g5, e]; simp
          rw [egone, egoes]
          rw [htg] at hT
          obtain ⟨bt, rfl, rfl⟩ := hT
          obtain ⟨q1, q2, q3, q4, q5, q6⟩ := hgood
          rw [e]
          rcases hs with rfl | rfl
          · have hi' : i < B.bs.length := hi
            refine .seq ((.region (.v (.move rfl) (.v (.move rfl) (.pc (v := .pointer (some ⟨b, 2, none⟩)) rfl rfl (fun w' _ => side_ok w' b 1) (.v (.assign rfl) (.nil ?_)))))))
            refine .seq ((.region (.v (.move rfl) (.v (.move rfl) (.v (.nilCheck rfl) (.v (.load (v := .slice A1 B.bs.length c1) rfl (.one rfl)) (.v (.move rfl) (.v (.move rfl) (.v (.addi (i := (i : Int)) rfl rfl (by omega)) ?_)))))))))
            refine .ef (.callT k1 rfl rfl (fun w' s' => delete_ok w' A1 B.bs.length c1 i (rows B.bs) k1 h1 hi' (by omega) (rows_ones _))) ?_
            rintro v' _ ⟨ks', hS0, rfl⟩
            have hS' : Side v' (B.bs.eraseIdx i) ks' := by
              unfold Side
              rw [List.length_eraseIdx_of_lt hi', ← rows_erase]; exact hS0
            obtain ⟨A', c', rfl⟩ := OwnS.sl hS'
            refine .v (.nilCheck rfl) (.st (.storeL rfl rfl rfl) (.nil ?_))
            refine .keep ([(bt, Ch.cells o.cells 53)] ++ ((b3, Ch.cells c.cells 25) :: TBh t b ⟨B.cap, B.meet, B.bs.eraseIdx i, B.ss, B.high, B.seq⟩ (.slice A' (B.bs.eraseIdx i).length c') (.slice A2 B.ss.length c2) (.slice none 0 0) ks' k2 [])) ?_
            refine (.drawK [(bt, Ch.cells o.cells 53), (b3, Ch.cells c.cells 25)] (by intro p hp; simp at hp ⊢; rcases hp with rfl | rfl <;> simp) (by kernel_rfl) (by kernel_rfl) ?_)
            refine .v (fun _ f => .move rfl) (.v (fun _ f => .fieldAddr rfl) (.v (fun _ f => .load (v := .int .u64 c.tg) rfl (.one (hb := .sub f) rfl)) (.v (fun _ f => .move rfl) (.v (fun _ f => .nilCheck rfl) (.v (fun _ f => .fieldAddr rfl) (.v (fun _ f => .load (v := .int .u64 o.v) rfl (.one (hb := .sub f) rfl)) (.v (fun _ f => .move rfl) (.v (fun _ f => .nilCheck rfl) (.v (fun _ f => .fieldAddr rfl) (.v (fun _ f => .load (v := .int .u64 o.hd) rfl (.one (hb := .sub f) rfl)) (.v (fun _ f => .addU (o.v + o.hd) rfl rfl rfl (by omega)) (.v (fun _ f => .move rfl) (.v (fun _ _ => .build (out := (evCancel c.tg (o.v + o.hd) rs).cells) rfl rfl) ?_)))))))))))))
            refine .ef (.callT (TBh t b ⟨B.cap, B.meet, B.bs.eraseIdx i, B.ss, B.high, B.seq⟩ (.slice A' (B.bs.eraseIdx i).length c') (.slice A2 B.ss.length c2) (.slice none 0 0) ks' k2 []) rfl rfl (fun w' s' => tellB_ok w' t b ⟨B.cap, B.meet, B.bs.eraseIdx i, B.ss, B.high, B.seq⟩ [] (evCancel c.tg (o.v + o.hd) rs) _ _ _ ks' k2 [] hS' h2 (OwnS.nil _ _) (by simp))) (fun _ _ ⟨_, _, e⟩ _ => by subst e; intro p hp; simp at hp ⊢; rcases hp with rfl | rfl <;> simp) ?_
            rintro _ _ ⟨_, ⟨v1x, v2x, vex, k1x, k2x, kex, rfl, h1x, h2x, hEx⟩, rfl⟩
            exact .nil ⟨⟨v1x, v2x, vex, k1x, k2x, kex⟩, ⟨h1x, h2x, hEx⟩, .cons rfl (.cons rfl (.cons rfl (.cons rfl (.cons rfl (.nil _))))), fun _ s => Sat.take (pre := [(bt, Ch.cells o.cells 53)] ++ ((b3, Ch.cells c.cells 25) :: TBh t b (((⟨B.cap, B.meet, B.bs.eraseIdx i, B.ss, B.high, B.seq⟩ : Bk)).num (nx B.seq)) v1x v2x vex k1x k2x kex)) s⟩
          · have hi' : i < B.ss.length := hi
            refine .seq ((.region (.v (.move rfl) (.v (.move rfl) (.pc (v := .pointer (some ⟨b, 3, none⟩)) rfl rfl (fun w' _ => side_ok w' b 2) (.v (.assign rfl) (.nil ?_)))))))
            refine .seq ((.region (.v (.move rfl) (.v (.move rfl) (.v (.nilCheck rfl) (.v (.load (v := .slice A2 B.ss.length c2) rfl (.one rfl)) (.v (.move rfl) (.v (.move rfl) (.v (.addi (i := (i : Int)) rfl rfl (by omega)) ?_)))))))))
            refine .ef (.callT k2 rfl rfl (fun w' s' => delete_ok w' A2 B.ss.length c2 i (rows B.ss) k2 h2 hi' (by omega) (rows_ones _))) ?_
            rintro v' _ ⟨ks', hS0, rfl⟩
            have hS' : Side v' (B.ss.eraseIdx i) ks' := by
              unfold Side
              rw [List.length_eraseIdx_of_lt hi', ← rows_erase]; exact hS0
            obtain ⟨A', c', rfl⟩ := OwnS.sl hS'
            refine .v (.nilCheck rfl) (.st (.storeL rfl rfl rfl) (.nil ?_))
            refine .keep ([(bt, Ch.cells o.cells 53)] ++ ((b3, Ch.cells c.cells 25) :: TBh t b ⟨B.cap, B.meet, B.bs, B.ss.eraseIdx i, B.high, B.seq⟩ (.slice A1 B.bs.length c1) (.slice A' (B.ss.eraseIdx i).length c') (.slice none 0 0) k1 ks' [])) ?_
            refine (.drawK [(bt, Ch.cells o.cells 53), (b3, Ch.cells c.cells 25)] (by intro p hp; simp at hp ⊢; rcases hp with rfl | rfl <;> simp) (by kernel_rfl) (by kernel_rfl) ?_)
            refine .v (fun _ f => .move rfl) (.v (fun _ f => .fieldAddr rfl) (.v (fun _ f => .load (v := .int .u64 c.tg) rfl (.one (hb := .sub f) rfl)) (.v (fun _ f => .move rfl) (.v (fun _ f => .nilCheck rfl) (.v (fun _ f => .fieldAddr rfl) (.v (fun _ f => .load (v := .int .u64 o.v) rfl (.one (hb := .sub f) rfl)) (.v (fun _ f => .move rfl) (.v (fun _ f => .nilCheck rfl) (.v (fun _ f => .fieldAddr rfl) (.v (fun _ f => .load (v := .int .u64 o.hd) rfl (.one (hb := .sub f) rfl)) (.v (fun _ f => .addU (o.v + o.hd) rfl rfl rfl (by omega)) (.v (fun _ f => .move rfl) (.v (fun _ _ => .build (out := (evCancel c.tg (o.v + o.hd) rs).cells) rfl rfl) ?_)))))))))))))
            refine .ef (.callT (TBh t b ⟨B.cap, B.meet, B.bs, B.ss.eraseIdx i, B.high, B.seq⟩ (.slice A1 B.bs.length c1) (.slice A' (B.ss.eraseIdx i).length c') (.slice none 0 0) k1 ks' []) rfl rfl (fun w' s' => tellB_ok w' t b ⟨B.cap, B.meet, B.bs, B.ss.eraseIdx i, B.high, B.seq⟩ [] (evCancel c.tg (o.v + o.hd) rs) _ _ _ k1 ks' [] h1 hS' (OwnS.nil _ _) (by simp))) (fun _ _ ⟨_, _, e⟩ _ => by subst e; intro p hp; simp at hp ⊢; rcases hp with rfl | rfl <;> simp) ?_
            rintro _ _ ⟨_, ⟨v1x, v2x, vex, k1x, k2x, kex, rfl, h1x, h2x, hEx⟩, rfl⟩
            exact .nil ⟨⟨v1x, v2x, vex, k1x, k2x, kex⟩, ⟨h1x, h2x, hEx⟩, .cons rfl (.cons rfl (.cons rfl (.cons rfl (.cons rfl (.nil _))))), fun _ s => Sat.take (pre := [(bt, Ch.cells o.cells 53)] ++ ((b3, Ch.cells c.cells 25) :: TBh t b (((⟨B.cap, B.meet, B.bs, B.ss.eraseIdx i, B.high, B.seq⟩ : Bk)).num (nx B.seq)) v1x v2x vex k1x k2x kex)) s⟩
      · have g5' : c.k = 1 := Decidable.of_not_not g5
        have egoes : B.goes c = B := by unfold Bk.goes; rw [if_neg g5]
        have egone : B.gone c = [] := by unfold Bk.gone; rw [if_neg g5]
        rw [egoes, egone]
        exact ⟨⟨_, _, _, _, _, _⟩, ⟨h1, h2, OwnS.nil _ _⟩, .cons rfl (.cons rfl (.cons rfl (.cons rfl (.cons rfl (.nil _))))), fun _ s => s⟩
    rintro ⟨v1', v2', ve', k1', k2', ke'⟩ ⟨m1, m2, mE⟩
    dsimp only at m1 m2 mE ⊢
    refine .mid (X := MS) (fun _ => [(5, .pointer (some ⟨t, 0, none⟩))]) (fun m => m.H t b (B.does c).1) (fun m => m.I (B.does c).1 (B.does c).2)
      (.seq ((.region (.v (.fieldAddr rfl) (.v (.load (v := .int .i64 c.k) rfl (.one rfl)) (.v (.nei rfl rfl) (.nil ?_))))))) ?_
    · refine .cond_dec rfl (fun g7 => ?_) (fun g7 => .skip ?_)
      · have eD : B.does c = Bk.comes (((B.goes c).num (nx (B.goes c).seq)).top (cmg c (B.tgt c) (B.at_ c).1).o.id) (B.gone c ++ [(evAck (cmg c (B.tgt c) (B.at_ c).1)).num (nx (B.goes c).seq)]) (cmg c (B.tgt c) (B.at_ c).1) := by
          unfold Bk.does; rw [if_neg g2, if_pos g7]
        have hcs := cmg_side (c := c) (tg := B.tgt c) (side := (B.at_ c).1) h3b g7 (fun e => h3f (by omega)) hside
        obtain ⟨f1, f2, f3, f4⟩ := cmg_facts (c := c) (tg := B.tgt c) (side := (B.at_ c).1)
        have hgm := fun o => Bk.goes_mem (B := B) (c := c) (o := o)
        have hgl := B.goes_len c
        have hgn := gone_len B c
        rw [eD]
        refine .seq ((.region (.v (.loadA (vs := c.cells) rfl .whole rfl) (.v (.move rfl) (.v (.move rfl) (.pc rfl rfl (fun w' s => coming_ok w' c tp (B.tgt c) (B.at_ c).1 (hT.rd s (fun p hp => by simp [hp])) (fun e => h3f (by omega))) ?_))))))
        generalize cmg c (B.tgt c) (B.at_ c).1 = tk at hcs f1 f2 f3 f4 ⊢
        generalize B.goes c = B1 at m1 m2 hgm hgl ⊢
        generalize B.gone c = ev1 at mE hgn ⊢
        refine .nw .alloc fun b15 => (.st (.sw rfl rfl) (.nil ?_))
        refine .seq ((.region (.v (.move rfl) (.v (.fieldAddr rfl) (.v (.fieldAddr rfl) (.v (.load (v := .int .u64 tk.o.id) rfl (.one rfl)) (.v (.fieldAddr rfl) (.v (.fieldAddr rfl) (.v (.load (v := .int .u32 tk.o.mb) rfl (.one rfl)) (.v (.fieldAddr rfl) (.v (.load (v := .int .i64 tk.side) rfl (.one rfl)) (.v (.fieldAddr rfl) (.v (.load (v := .int .i64 tk.kind) rfl (.one rfl)) (.v (.fieldAddr rfl) (.v (.fieldAddr rfl) (.v (.load (v := .int .i64 tk.o.pr) rfl (.one rfl)) (.v (.fieldAddr rfl) (.v (.load (v := .int .u64 tk.left) rfl (.one rfl)) (.v (.fieldAddr rfl) (.v (.fieldAddr rfl) (.v (.load (v := .int .u64 tk.o.pk) rfl (.one rfl)) (.v (.build (out := (evAck tk).cells) rfl rfl) ?_))))))))))))))))))))))
        refine .ef (.callT (TBh t b B1 v1' v2' ve' k1' k2' ke') rfl rfl (fun w' s' => tellB_ok w' t b B1 ev1 (evAck tk) _ _ _ k1' k2' ke' m1 m2 mE (by omega))) ?_
        rintro _ _ ⟨_, ⟨v1x, v2x, vex, k1x, k2x, kex, rfl, h1x, h2x, hEx⟩, rfl⟩
        refine .nil ?_
        refine .keep ((b15, Ch.cells tk.cells 89) :: TBh t b (B1.num (nx B1.seq)) v1x v2x vex k1x k2x kex) ?_
        refine .seq ((.region (.v (.move rfl) (.v (.fieldAddr rfl) (.v (.fieldAddr rfl) (.v (.load (v := .int .u64 tk.o.id) rfl (.one rfl)) (.v (.nilCheck rfl) (.v (.fieldAddr rfl) (.v (.fieldAddr rfl) (.st (.storeL rfl rfl rfl) (.nil ?_)))))))))))
        refine .heap (hs' := (b15, Ch.cells tk.cells 89) :: TBh t b ((B1.num (nx B1.seq)).top tk.o.id) v1x v2x vex k1x k2x kex) (fun _ s => s) ?_
        refine .region (.v (.move rfl) (.v (.loadA (vs := tk.cells) rfl .whole rfl) ?_))
        have hU := hq
        unfold U at hU
        refine .ef (.callT (TBh t b ((B1.num (nx B1.seq)).top tk.o.id) v1x v2x vex k1x k2x kex) rfl rfl (fun w' s' => comes_ok w' t b ((B1.num (nx B1.seq)).top tk.o.id) (ev1 ++ [(evAck tk).num (nx B1.seq)]) tk hcs _ _ _ k1x k2x kex h1x h2x hEx ⟨fun o ho => hOk.good o (hgm o (Bk.side_sub B1 _ o ho)), by show 0 ≤ tk.left; omega, by show tk.left ≤ _; omega⟩ (by rw [f2]; exact hpk)
          (by show B1.bs.length ≤ _; omega) (by show B1.ss.length ≤ _; omega) (by simp; omega))) ?_
        rintro _ _ ⟨_, ⟨v1y, v2y, vey, k1y, k2y, key, rfl, h1y, h2y, hEy⟩, rfl⟩
        exact .nil ⟨⟨v1y, v2y, vey, k1y, k2y, key⟩, ⟨h1y, h2y, hEy⟩, .cons rfl (.nil _), fun _ s => s.take⟩
      · have eD : B.does c = (B.goes c, B.gone c) := by unfold Bk.does; rw [if_neg g2, if_neg g7]
        rw [eD]
        exact ⟨⟨v1', v2', ve', k1', k2', ke'⟩, ⟨m1, m2, mE⟩, .cons rfl (.nil _), fun _ s => Sat.take (pre := TBh t b (B.goes c) v1' v2' ve' k1' k2' ke') s⟩
    · rintro ⟨v1y, v2y, vey, k1y, k2y, key⟩ ⟨n1, n2, nE⟩
      dsimp only at n1 n2 nE ⊢
      refine .seq ((.region (.v (.move rfl) (.v (.nilCheck rfl) (.v (.fieldAddr rfl) (.v (.load (v := vey) rfl (.one rfl)) (.v (.assign rfl) (.nil ?_))))))))
      exact .ret ⟨[_], ⟨rfl, trivial⟩, _, fun _ s => Sat.take (pre := (Tb b (Bc (B.does c).1 v1y v2y) :: (k1y ++ k2y)) ++ key) s, _, key, rfl, ⟨v1y, v2y, k1y, k2y, rfl, n1, n2⟩, nE⟩
end Go.Proofs.Ytmfobfamdaajmaa

/- The law's own parts: fit, lives, begun. -/
namespace Go.Proofs.Ytmfobfamdaajmaa
open Go.V
set_option linter.unusedVariables false
set_option linter.unusedSimpArgs false

theorem Does.call_Do (w : World) (b : Nat) (B : Bk) (hOk : B.Ok) (c : Cm) (hq : U c.q) (hpk : U c.pk) (v1 v2 : Value) (k1 k2 : Hp) (h1 : Side v1 B.bs k1) (h2 : Side v2 B.ss k2) :
    Does Try.prog 22 [.pointer (some ⟨b, 0, none⟩), .agg ⟨c.cells⟩] (Tb b (Bc B v1 v2) :: (k1 ++ k2)) w
      (fun v hs => ∃ A c' v1' v2' k1' k2' ke, v = .slice A (B.does c).2.length c' ∧ hs = (Tb b (Bc (B.does c).1 v1' v2') :: (k1' ++ k2')) ++ ke ∧ Side v1' (B.does c).1.bs k1' ∧ Side v2' (B.does c).1.ss k2' ∧ Evs (.slice A (B.does c).2.length c') (B.does c).2 ke) := by
  refine (do_ok w b B hOk c hq hpk v1 v2 k1 k2 h1 h2).mono ?_
  rintro v _ ⟨_, ke, rfl, ⟨v1', v2', k1', k2', rfl, h1', h2'⟩, hE⟩
  obtain ⟨A, c', rfl⟩ := OwnS.sl hE
  exact ⟨A, c', v1', v2', k1', k2', ke, rfl, rfl, h1', h2', hE⟩
theorem fit_ok (w : World) (c m : Int) : Is Try.prog 40 [.agg ⟨[.int .i64 c, .int .i64 m]⟩] w (.bool (decide (Cfg c m))) := by
  refine Does.pure (Does.of (n := 21) Try.func40 rfl rfl rfl rfl ?_)
  refine .seq ((.region (.nw (.box rfl rfl) fun b1 => (.v (.assign rfl) (.nil ?_)))))
  refine .seq ((.region (.v (.fieldAddr rfl) (.v (.load (v := .int .i64 c) rfl (.one rfl)) (.v (.geq rfl rfl) (.v (.move rfl) (.and 6 9 3 3 rfl rfl (fun g1 => .v (.fieldAddr rfl) (.v (.load (v := .int .i64 c) rfl (.one rfl)) (.v (.leq rfl rfl) (.nil ⟨rfl, rfl, rfl, rfl⟩)))) (.v (.move rfl) (.and 11 14 3 3 rfl rfl (fun g2 => .v (.fieldAddr rfl) (.v (.load (v := .int .i64 m) rfl (.one rfl)) (.v (.geq rfl rfl) (.nil ⟨rfl, rfl, rfl, rfl⟩)))) (.v (.move rfl) (.and 16 19 3 3 rfl rfl (fun g3 => .v (.fieldAddr rfl) (.v (.load (v := .int .i64 m) rfl (.one rfl)) (.v (.leq rfl rfl) (.nil ⟨rfl, rfl, rfl, rfl⟩)))) (.v (.assign rfl) (.nil ?_)))))))))))))
  refine .ret ⟨[_], ⟨rfl, trivial⟩, vb ?_⟩
  simp only [Bool.and_eq_true, Bool.or_eq_true, Bool.not_eq_true', Bool.and_eq_false_iff, Bool.or_eq_false_iff, Bool.not_eq_false', decide_eq_true_eq, decide_eq_false_iff_not, Bool.false_eq_true, false_iff]; unfold Cfg; omega
/-- a field of an event, loaded -/
theorem Evs.ld {w0 : World} {own : List Nat} {b o n c i j : Nat} {l : List Ev} {h hs : Hp} {v : Value} (k : Evs (.slice (some ⟨b, o, none⟩) n c) l h) (hh : h ⊆ hs) (hi : i < l.length) (hj : j < 13) (hv : (l[i].cells)[j]? = some v) : At w0 own hs ⟨b, o + i * 13 + j, none⟩ [v] := by
  rw [Nat.add_assoc]
  exact OwnS.at1 k hh (by rw [erows_get l i j hi hj]; exact hv)
def lb0 : Bk := ⟨4, 0, [], [], 0, 0⟩
def lb1 : Bk := ⟨4, 0, [], [⟨1, 0, 1, 10, 5, 0, 0⟩], 1, 1⟩
def lb2 : Bk := ⟨4, 0, [], [], 2, 4⟩
def lc1 : Cm := ⟨1, 1, 0, 0, 2, 1, 10, 5, 0⟩
def lc2 : Cm := ⟨1, 2, 0, 0, 1, 3, 11, 7, 0⟩
def le1 : List Ev := [⟨1, 1, 1, 0, 0, 0, 2, 1, 10, 5, 0, 0, 0⟩]
def le2 : List Ev := [⟨2, 1, 2, 0, 0, 0, 1, 3, 11, 7, 0, 0, 0⟩, ⟨3, 3, 2, 1, 0, 0, 1, 0, 10, 5, 0, 0, 0⟩, ⟨4, 4, 2, 0, 0, 0, 0, 0, 0, 2, 0, 3, 0⟩]
theorem lives1 : lb0.does lc1 = (lb1, le1) := by kernel_rfl
theorem lives2 : lb1.does lc2 = (lb2, le2) := by kernel_rfl
set_option maxRecDepth 10000 in
theorem lives_ok (w : World) : Is Try.prog 39 [] w (.bool true) := by
  have ok0 : lb0.Ok := ⟨by simp [lb0], by decide⟩
  have ok1 : lb1.Ok := ⟨by simp [lb1, Ord.G], by decide⟩
  refine Does.pure (Does.of (n := 61) Try.func39 rfl rfl rfl rfl ?_)
  refine .seq ((.region (.v (.assign rfl) (.nil ?_))))
  refine .seq ((.region (.v (.build (out := [.int .i64 4, .int .i64 0]) rfl rfl) ?_)))
  refine .ef (.call0 rfl rfl fun w s => New_ok w 4 0) ?_
  rintro _ _ ⟨_, hN, rfl⟩
  rw [if_pos (by decide)] at hN
  obtain ⟨b, rfl, rfl⟩ := hN
  refine .v (.move rfl) (.v (.extract rfl rfl) (.v (.extract rfl rfl) (.v (.assign rfl) (.v (.assign rfl) (.nil ?_)))))
  refine .seq (.seq ((.region (.v (.move rfl) (.v (.eql_ptr_nil rfl rfl) (.v (.move rfl) (.or 12 14 2 2 rfl rfl (fun g1 => .v (.move rfl) (.v (.nei rfl rfl) (.nil ⟨rfl, rfl, rfl, rfl⟩))) (.nil ?_))))))))
  refine .cond rfl (fun h => absurd h (by simp)) (fun _ => .skip ?_)
  refine .heap (hs' := Tb b (Bc lb0 (.slice none 0 0) (.slice none 0 0)) :: ([] ++ [])) (fun _ s => by simpa [lb0, bnew, bcells] using s) ?_
  refine .seq ((.region (.v (.move rfl) (.v (.build (out := lc1.cells) rfl rfl) ?_))))
  refine .ef (.callT (Tb b (Bc lb0 (.slice none 0 0) (.slice none 0 0)) :: ([] ++ [])) rfl rfl (fun w s => Does.call_Do w b lb0 ok0 lc1 (by unfold U; decide) (by unfold U; decide) _ _ [] [] (OwnS.nil _ _) (OwnS.nil _ _))) ?_
  rw [lives1]
  rintro _ _ ⟨_, ⟨A1, c1, v1, v2, k1, k2, ke, rfl, rfl, h1, h2, hE1⟩, rfl⟩
  refine .v (.assign rfl) (.nil ?_)
  refine .seq ((.region (.v (.move rfl) (.v (.build (out := lc2.cells) rfl rfl) ?_))))
  refine .ef (.callT (Tb b (Bc lb1 v1 v2) :: (k1 ++ k2)) rfl rfl (fun w s => Does.call_Do w b lb1 ok1 lc2 (by unfold U; decide) (by unfold U; decide) _ _ k1 k2 h1 h2)) ?_
  rw [lives2]
  rintro _ _ ⟨_, ⟨A2, c2, v1', v2', k1', k2', ke2, rfl, rfl, h1', h2', hE2⟩, rfl⟩
  refine .v (.assign rfl) (.nil ?_)
  obtain ⟨b2, o2, l2, rfl, -, rfl, -, -, -⟩ := hE2.some_ (by decide)
  have hat : ∀ (i j : Nat) (v : Value) (own : List Nat) (hs : Hp), [(b2, Ch.cells l2 50)] ⊆ hs → (hi : i < le2.length) → j < 13 → (le2[i].cells)[j]? = some v → At w own hs ⟨b2, o2 + i * 13 + j, none⟩ [v] := fun i j v own hs hh hi hj hv => hE2.ld hh hi hj hv
  refine .seq (.seq ((.region (.v (.move rfl) (.v (.len rfl) (.v (.nei rfl rfl) (.v (.move rfl) (.or 25 28 3 3 rfl rfl (fun g2 => .v (.move rfl) (.v (.len rfl) (.v (.nei rfl rfl) (.nil ⟨rfl, rfl, rfl, rfl⟩)))) ?_))))))))
  refine .v (.move rfl) (.or 30 35 5 5 rfl rfl (fun g3 => .v (.move rfl) (.v (.indexAddr rfl rfl (by decide) (by decide)) (.v (.fieldAddr rfl) (.v (.load (v := .int .i64 3) rfl (hat 1 1 _ _ _ (fun p hp => by simp at hp ⊢; simp [hp]) (by decide) (by decide) rfl)) (.v (.nei rfl rfl) (.nil ⟨rfl, rfl, rfl, rfl⟩)))))) ?_)
  refine .v (.move rfl) (.or 37 42 5 5 rfl rfl (fun g4 => .v (.move rfl) (.v (.indexAddr rfl rfl (by decide) (by decide)) (.v (.fieldAddr rfl) (.v (.load (v := .int .u64 5) rfl (hat 1 9 _ _ _ (fun p hp => by simp at hp ⊢; simp [hp]) (by decide) (by decide) rfl)) (.v (.nei rfl rfl) (.nil ⟨rfl, rfl, rfl, rfl⟩)))))) ?_)
  refine .v (.move rfl) (.or 44 49 5 5 rfl rfl (fun g5 => .v (.move rfl) (.v (.indexAddr rfl rfl (by decide) (by decide)) (.v (.fieldAddr rfl) (.v (.load (v := .int .i64 4) rfl (hat 2 1 _ _ _ (fun p hp => by simp at hp ⊢; simp [hp]) (by decide) (by decide) rfl)) (.v (.nei rfl rfl) (.nil ⟨rfl, rfl, rfl, rfl⟩)))))) ?_)
  refine .v (.move rfl) (.or 51 56 5 5 rfl rfl (fun g6 => .v (.move rfl) (.v (.indexAddr rfl rfl (by decide) (by decide)) (.v (.fieldAddr rfl) (.v (.load (v := .int .u64 2) rfl (hat 2 9 _ _ _ (fun p hp => by simp at hp ⊢; simp [hp]) (by decide) (by decide) rfl)) (.v (.nei rfl rfl) (.nil ⟨rfl, rfl, rfl, rfl⟩)))))) ?_)
  refine .nil ?_
  refine .cond rfl (fun h => absurd h (by decide)) (fun _ => .skip ?_)
  refine .seq ((.region (.v (.move rfl) ?_)))
  obtain ⟨B1, d1, rfl⟩ := OwnS.sl h1'
  obtain ⟨B2, d2, rfl⟩ := OwnS.sl h2'
  refine .pc rfl rfl (fun w s => Len_is w b 4 0 2 4 B1 B2 0 0 d1 d2 (Rd.chunk s (T := 67) (l := Bc lb2 (.slice B1 0 d1) (.slice B2 0 d2)) (by simp) (fun j v hv => by rw [Nat.zero_add]; exact hv)) (by decide) (by decide)) (.v (.eqi rfl rfl) (.v (.assign rfl) (.nil ?_)))
  exact .ret ⟨[_], ⟨rfl, trivial⟩, rfl⟩
/-- a new book -/
def newB (c m : Int) : Bk := ⟨c, m, [], [], 0, 0⟩
set_option maxRecDepth 10000 in
theorem begun_ok (w : World) (c m : Int) : Does Try.prog 21 [.agg ⟨[.int .i64 c, .int .i64 m]⟩] [] w (fun v hs => if Cfg c m then ∃ b, v = .tuple ⟨[.pointer (some ⟨b, 0, none⟩), .bool true]⟩ ∧ hs = Tb b (Bc (newB c m) (.slice none 0 0) (.slice none 0 0)) :: ([] ++ []) else v = .tuple ⟨[.pointer none, .bool true]⟩ ∧ hs = []) := by
  refine Does.less (Does.of (n := 25) Try.func21 rfl rfl rfl rfl ?_)
  refine .seq ((.region (.nw (.box rfl rfl) fun b1 => (.v (.assign rfl) (.v (.assign rfl) (.nil ?_))))))
  refine .seq (.seq ((.region (.pc rfl rfl (fun w s => lives_ok w) (.v (.not rfl) (.nil ?_))))))
  refine .cond rfl (fun h => absurd h (by decide)) (fun _ => .skip ?_)
  refine .seq ((.region (.v (.loadA (vs := [.int .i64 c, .int .i64 m]) rfl .whole rfl) ?_)))
  refine .ef (.call0 rfl rfl fun w s => New_ok w c m) ?_
  rintro _ _ ⟨_, hN, rfl⟩
  by_cases hc : Cfg c m
  · rw [if_pos hc] at hN
    obtain ⟨b, rfl, rfl⟩ := hN
    refine .v (.move rfl) (.v (.extract rfl rfl) (.v (.extract rfl rfl) (.v (.assign rfl) (.v (.assign rfl) (.nil ?_)))))
    refine .seq ((.region (.v (.move rfl) (.v (.move rfl) (.v (.neq_ptr_nil rfl rfl) (.v (.loadA (vs := [.int .i64 c, .int .i64 m]) rfl .whole rfl) (.pc rfl rfl (fun w s => fit_ok w c m) (.v (.eqb rfl rfl) (.v (.move rfl) (.and 18 23 5 5 rfl rfl (fun g1 => .v (.move rfl) (.v (.eqi rfl rfl) (.v (.loadA (vs := [.int .i64 c, .int .i64 m]) rfl .whole rfl) (.pc rfl rfl (fun w s => fit_ok w c m) (.v (.eqb rfl rfl) (.nil ⟨rfl, rfl, rfl, rfl⟩)))))) (.v (.assign rfl) (.v (.assign rfl) (.nil ?_)))))))))))))
    refine .ret ⟨[_, _], ⟨rfl, rfl, trivial⟩, Tb b (Bc (newB c m) (.slice none 0 0) (.slice none 0 0)) :: ([] ++ []), fun _ s => s.sub (.cons_cons _ (List.nil_sublist _)), ?_⟩
    rw [if_pos hc]
    exact ⟨b, by simp [tup, hc], rfl⟩
  · rw [if_neg hc] at hN
    obtain ⟨rfl, rfl⟩ := hN
    refine .v (.move rfl) (.v (.extract rfl rfl) (.v (.extract rfl rfl) (.v (.assign rfl) (.v (.assign rfl) (.nil ?_)))))
    refine .seq ((.region (.v (.move rfl) (.v (.move rfl) (.v (.neq_ptr_nil rfl rfl) (.v (.loadA (vs := [.int .i64 c, .int .i64 m]) rfl .whole rfl) (.pc rfl rfl (fun w s => fit_ok w c m) (.v (.eqb rfl rfl) (.v (.move rfl) (.and 18 23 5 5 rfl rfl (fun g1 => .v (.move rfl) (.v (.eqi rfl rfl) (.v (.loadA (vs := [.int .i64 c, .int .i64 m]) rfl .whole rfl) (.pc rfl rfl (fun w s => fit_ok w c m) (.v (.eqb rfl rfl) (.nil ⟨rfl, rfl, rfl, rfl⟩)))))) (.v (.assign rfl) (.v (.assign rfl) (.nil ?_)))))))))))))
    refine .ret ⟨[_, _], ⟨rfl, rfl, trivial⟩, [], fun _ s => s.sub (List.nil_sublist _), ?_⟩
    rw [if_neg hc]
    exact ⟨by simp [tup, hc], rfl⟩
end Go.Proofs.Ytmfobfamdaajmaa

/- Plain: what a book keeps, whatever it is told; the numbers of its events. -/
namespace Go.Proofs.Ytmfobfamdaajmaa
open Go.V
set_option linter.unusedVariables false
set_option linter.unusedSimpArgs false

structure Bk.Inv (B : Bk) : Prop where
  lo : 1 ≤ B.cap
  hi : B.cap ≤ 4096
  len : (B.bs.length : Int) + B.ss.length ≤ B.cap
  good : ∀ o ∈ B.bs ++ B.ss, o.G
theorem Bk.Inv.ok {B : Bk} (h : B.Inv) : B.Ok := ⟨h.good, by have := h.len; have := h.hi; omega⟩
theorem newB_inv {c m : Int} (h : Cfg c m) : (newB c m).Inv := ⟨h.1, h.2.1, by simp [newB]; unfold Cfg at h; omega, by simp [newB]⟩
/-- a command's numbers are in their kinds -/
def Cm.wf (c : Cm) : Prop := U c.id ∧ U c.q ∧ U c.pk
theorem chk_sized {c : Cm} (h : c.chk = 0) (hk : c.k ≠ 2) (hw : c.wf) : 1 ≤ c.q ∧ c.q ≤ 4294967295 ∧ c.pk ≤ c.q ∧ (c.pk = 0 ∨ c.q ≤ 256 * c.pk) ∧ 0 ≤ c.pr ∧ c.pr < 262144 ∧ c.id ≠ 0 ∧ (c.k = 1 → 1 ≤ c.ty ∧ c.ty ≤ 5 ∧ (c.pk ≠ 0 → c.ty = 1 ∨ c.ty = 5) ∧ (c.ty = 2 → c.pr = 0)) := by
  obtain ⟨w1, w2, w3⟩ := hw
  unfold U at w1 w2 w3
  have key : ∀ ty : Int, szd c.id c.pr c.q c.pk ty = 0 → 1 ≤ c.q ∧ c.q ≤ 4294967295 ∧ c.pk ≤ c.q ∧ (c.pk = 0 ∨ c.q ≤ 256 * c.pk) ∧ 0 ≤ c.pr ∧ c.pr < 262144 ∧ c.id ≠ 0 ∧ (c.pk ≠ 0 → ty = 1 ∨ ty = 5) ∧ (ty = 2 → c.pr = 0) := by
    intro ty hs
    unfold szd at hs
    by_cases a1 : c.pr < 0 ∨ 262144 ≤ c.pr ∨ ty = 2 ∧ c.pr ≠ 0
    · rw [if_pos a1] at hs; omega
    rw [if_neg a1] at hs
    by_cases a2 : c.q < 1 ∨ 4294967295 < c.q
    · rw [if_pos a2] at hs; omega
    rw [if_neg a2] at hs
    by_cases a3 : c.q < c.pk ∨ c.pk ≠ 0 ∧ (¬ (ty = 1 ∨ ty = 5) ∨ IntKind.u64.wrap (256 * c.pk) < c.q)
    · rw [if_pos a3] at hs; omega
    rw [if_neg a3] at hs
    by_cases a4 : c.id = 0
    · rw [if_pos a4] at hs; omega
    have hw : IntKind.u64.wrap (256 * c.pk) = 256 * c.pk := wrap_u64_in (by omega)
    rw [hw] at a3
    refine ⟨by omega, by omega, by omega, by omega, by omega, by omega, a4, by omega, by omega⟩
  unfold Cm.chk chk at h
  by_cases h1 : c.k = 1
  · rw [if_pos h1] at h
    by_cases h2 : c.sd ≠ 1 ∧ c.sd ≠ 2
    · rw [if_pos h2] at h; omega
    rw [if_neg h2] at h
    by_cases h3 : c.ty < 1 ∨ 5 < c.ty
    · rw [if_pos h3] at h; omega
    rw [if_neg h3] at h
    obtain ⟨k1, k2, k3, k4, k5, k6, k7, k8, k9⟩ := key _ h
    exact ⟨k1, k2, k3, k4, k5, k6, k7, fun _ => ⟨by omega, by omega, k8, k9⟩⟩
  · rw [if_neg h1] at h
    by_cases h3 : c.k = 3
    · rw [if_pos h3] at h
      obtain ⟨k1, k2, k3, k4, k5, k6, k7, k8, k9⟩ := key _ h
      exact ⟨k1, k2, k3, k4, k5, k6, k7, fun e => absurd e h1⟩
    · rw [if_neg h3, if_neg hk] at h; omega
theorem restOf_G {o : Ord} {left q : Int} (h0 : left ≠ 0) (h1 : 0 ≤ left) (h2 : left ≤ q) (h3 : q ≤ 4294967295) (h4 : o.pk ≤ q) (h5 : 0 ≤ o.pk) (h6 : o.pk = 0 ∨ q ≤ 256 * o.pk) : (restOf o left).G := by
  unfold restOf Ord.G
  simp only
  split <;> omega
theorem Bk.put_len {B : Bk} {s : Int} {l : List Ord} (h : l.length ≤ (B.side s).length) : (B.put s l).bs.length ≤ B.bs.length ∧ (B.put s l).ss.length ≤ B.ss.length := by
  unfold Bk.put Bk.side at *
  split at h <;> rename_i e
  · rw [if_pos e]; exact ⟨h, Nat.le_refl _⟩
  · rw [if_neg e]; exact ⟨Nat.le_refl _, h⟩
theorem Bk.put_len1 {B : Bk} {s : Int} {l : List Ord} (h : l.length = (B.side s).length + 1) : (B.put s l).bs.length + (B.put s l).ss.length = B.bs.length + B.ss.length + 1 := by
  unfold Bk.put Bk.side at *
  split at h <;> rename_i e
  · rw [if_pos e]; simp only; omega
  · rw [if_neg e]; simp only; omega
theorem Bk.put_cap (B : Bk) (s : Int) (l : List Ord) : (B.put s l).cap = B.cap ∧ (B.put s l).meet = B.meet ∧ (B.put s l).high = B.high ∧ (B.put s l).seq = B.seq := by
  unfold Bk.put; split <;> exact ⟨rfl, rfl, rfl, rfl⟩
theorem traded_inv {B : Bk} {t : Tk} {z : TS} (h : B.Inv) (hz : z.Ok) (hl : z.L.length ≤ (B.side (3 - t.side)).length) : (B.traded t z).Inv ∧ (B.traded t z).bs.length + (B.traded t z).ss.length ≤ B.bs.length + B.ss.length := by
  have hp := Bk.put_len hl
  have hc := B.put_cap (3 - t.side) z.L
  have e1 : (B.traded t z).bs = (B.put (3 - t.side) z.L).bs := rfl
  have e2 : (B.traded t z).ss = (B.put (3 - t.side) z.L).ss := rfl
  have e3 : (B.traded t z).cap = (B.put (3 - t.side) z.L).cap := rfl
  refine ⟨⟨by rw [e3, hc.1]; exact h.lo, by rw [e3, hc.1]; exact h.hi, ?_, fun o ho => ?_⟩, by rw [e1, e2]; omega⟩
  · have := h.len
    rw [e1, e2, e3, hc.1]; omega
  · rcases Bk.put_mem (B := B) (s := 3 - t.side) (l := z.L) ho with h1 | h1
    · exact hz.good o h1
    · exact h.good o h1
theorem num_inv {B : Bk} (q : Int) (h : B.Inv) : (B.num q).Inv := ⟨h.lo, h.hi, h.len, h.good⟩
theorem top_inv {B : Bk} (q : Int) (h : B.Inv) : (B.top q).Inv := ⟨h.lo, h.hi, h.len, h.good⟩
theorem ts_ok {B : Bk} {evs : List Ev} {t : Tk} (h : ∀ o ∈ B.bs ++ B.ss, o.G) (h1 : 0 ≤ t.left) (h2 : t.left ≤ 18446744073709551615) : (B.ts evs t).Ok := ⟨fun o ho => h o (B.side_sub _ o ho), h1, h2⟩
theorem comes_inv {B : Bk} {evs : List Ev} {t : Tk} (h : B.Inv) (hq : 0 ≤ t.left ∧ t.left ≤ 4294967295) (hp : 0 ≤ t.o.pk ∧ t.o.pk ≤ t.left) (hp2 : t.o.pk = 0 ∨ t.left ≤ 256 * t.o.pk) (hroom : t.kind = 1 ∨ t.kind = 5 → (B.bs.length : Int) + B.ss.length < B.cap) : (B.comes evs t).1.Inv := by
  have hOk : (B.ts evs t).Ok := ts_ok h.good hq.1 (by omega)
  obtain ⟨zok, zlen, _, zl⟩ := (tr_run (meet := B.meet) (t := t) hOk).ok hOk
  unfold Bk.comes
  split
  · exact num_inv _ h
  · simp only
    generalize tr B.meet t (B.ts evs t) = z at *
    obtain ⟨hT, hTl⟩ := traded_inv (t := t) h zok zlen
    split
    · exact hT
    · rename_i hl0
      split
      · exact num_inv _ hT
      · rename_i hk
        have hcap : (B.traded t z).cap = B.cap := (B.put_cap _ _).1
        generalize B.traded t z = B1 at *
        have hlo := zok.lo
        have hzl : z.left ≤ t.left := zl
        have hG := restOf_G (o := t.o) (left := z.left) (q := t.left) hl0 hlo hzl hq.2 hp.2 hp.1 hp2
        have hlen := Bk.put_len1 (B := B1) (s := t.side) (l := rst t.side (restOf t.o z.left) (B1.side t.side)) (rst_length _ _ _)
        have hc := B1.put_cap t.side (rst t.side (restOf t.o z.left) (B1.side t.side))
        have hr := hroom (by omega)
        show (B1.put t.side (rst t.side (restOf t.o z.left) (B1.side t.side))).Inv
        refine ⟨by rw [hc.1]; exact hT.lo, by rw [hc.1]; exact hT.hi, by rw [hc.1, hcap]; omega, fun o ho => ?_⟩
        rcases Bk.put_mem ho with h1 | h1
        · rcases rst_mem h1 with rfl | h1
          · exact hG
          · exact hT.good o (B1.side_sub _ o h1)
        · exact hT.good o h1
theorem goes_len1 {B : Bk} {c : Cm} (hk : c.k ≠ 1) (ht : B.tgt c ≠ none) : (B.goes c).bs.length + (B.goes c).ss.length + 1 = B.bs.length + B.ss.length := by
  rcases at_spec B c with ⟨_, h, _⟩ | ⟨s, hs, i, hi, e, _, _⟩
  · exact absurd h ht
  unfold Bk.goes
  rw [if_pos hk, e]
  simp only [Bk.num, Int.toNat_natCast]
  rcases hs with rfl | rfl
  · have hi' : i < B.bs.length := hi
    show (B.bs.eraseIdx i).length + B.ss.length + 1 = _
    rw [List.length_eraseIdx_of_lt hi']; omega
  · have hi' : i < B.ss.length := hi
    show B.bs.length + (B.ss.eraseIdx i).length + 1 = _
    rw [List.length_eraseIdx_of_lt hi']; omega
theorem goes_cap (B : Bk) (c : Cm) : (B.goes c).cap = B.cap ∧ (B.goes c).meet = B.meet ∧ (B.goes c).high = B.high := by
  unfold Bk.goes
  split
  · have := B.put_cap (B.at_ c).1 ((B.side (B.at_ c).1).eraseIdx (B.at_ c).2.1.toNat)
    exact ⟨this.1, this.2.1, this.2.2.1⟩
  · exact ⟨rfl, rfl, rfl⟩
theorem goes_inv {B : Bk} {c : Cm} (h : B.Inv) : (B.goes c).Inv := by
  have hc := goes_cap B c
  have hl := B.goes_len c
  have := h.len
  exact ⟨by rw [hc.1]; exact h.lo, by rw [hc.1]; exact h.hi, by rw [hc.1]; omega, fun o ho => h.good o (Bk.goes_mem ho)⟩
theorem does_inv {B : Bk} {c : Cm} (h : B.Inv) (hw : c.wf) : (B.does c).1.Inv := by
  unfold Bk.does
  by_cases h0 : B.why c ≠ 0
  · rw [if_pos h0]; exact num_inv _ h
  rw [if_neg h0]
  have h0' : B.why c = 0 := Decidable.of_not_not h0
  obtain ⟨z1, z2, z3, z4, z5⟩ := rfs_zero h0'
  by_cases h2 : c.k ≠ 2
  · rw [if_pos h2]
    obtain ⟨s1, s2, s3, s4, s5, s6, s7, s8⟩ := chk_sized z2 h2 hw
    obtain ⟨f1, f2, f3, f4⟩ := cmg_facts (c := c) (tg := B.tgt c) (side := (B.at_ c).1)
    have hpk := hw.2.2
    unfold U at hpk
    have hgi := goes_inv (c := c) h
    have hgc := goes_cap B c
    refine comes_inv (top_inv _ (num_inv _ hgi)) (by rw [f1]; omega) (by rw [f1, f2]; omega) (by rw [f1, f2]; exact s4) (fun hk => ?_)
    show ((B.goes c).bs.length : Int) + (B.goes c).ss.length < (B.goes c).cap
    rw [hgc.1]
    by_cases h1 : c.k = 1
    · have := z4 h1 hk
      have hl := B.goes_len c
      omega
    · have := goes_len1 h1 (z1 h1)
      have := h.len
      omega
  · rw [if_neg h2]; exact goes_inv h
/-- the events are numbered on from s, to s' -/
def Num : Int → List Ev → Int → Prop
  | s, [], s' => s' = s
  | s, e :: l, s' => e.seq = nx s ∧ Num (nx s) l s'
theorem Num.app : ∀ {l1 l2 : List Ev} {s s1 s2 : Int}, Num s l1 s1 → Num s1 l2 s2 → Num s (l1 ++ l2) s2
  | [], l2, s, s1, s2, h, k => by have : s1 = s := h; subst this; exact k
  | e :: l1, l2, s, s1, s2, h, k => ⟨h.1, Num.app h.2 k⟩
theorem Num.one (s : Int) (e : Ev) : Num s [e.num (nx s)] (nx s) := ⟨rfl, rfl⟩
/-- of trading: what is told is put behind; it is numbered on; it is of trades, cancels, refreshes -/
theorem step_evs {meet : Int} {t : Tk} {s s' : TS} (h : s.step meet t = some s') : ∃ l, s'.evs = s.evs ++ l ∧ Num s.seq l s'.seq ∧ ∀ e ∈ l, e.kind = 3 ∨ e.kind = 4 ∨ e.kind = 5 := by
  obtain ⟨L, left, seq, evs⟩ := s
  unfold TS.step at h
  simp only at h
  cases L with
  | nil => cases h
  | cons f rest =>
    simp only at h
    split at h
    · simp only [Option.some.injEq] at h
      subst h
      split
      · simp only [TS.meets]
        by_cases m1 : meet = 1
        · rw [if_pos m1, if_neg (show ¬ meet = 2 by omega)]
          exact ⟨_, rfl, Num.one _ _, by simp [evCancel, Ev.num]⟩
        · rw [if_neg m1]
          by_cases m2 : meet = 2
          · rw [if_pos m2]
            exact ⟨_, rfl, Num.one _ _, by simp [evCancel, Ev.num]⟩
          · rw [if_neg m2]
            exact ⟨_, List.append_assoc _ _ _, (Num.one _ _).app (Num.one _ _), by simp [evCancel, Ev.num]⟩
      · simp only [TS.hit]
        split
        · exact ⟨_, rfl, Num.one _ _, by simp [evTrade, Ev.num]⟩
        · split
          · exact ⟨_, List.append_assoc _ _ _, (Num.one _ _).app (Num.one _ _), by simp [evTrade, evRefresh, Ev.num]⟩
          · exact ⟨_, rfl, Num.one _ _, by simp [evTrade, Ev.num]⟩
    · cases h
theorem TRun.evs {meet : Int} {t : Tk} {s z : TS} (h : TRun meet t s z) : ∃ l, z.evs = s.evs ++ l ∧ Num s.seq l z.seq ∧ ∀ e ∈ l, e.kind = 3 ∨ e.kind = 4 ∨ e.kind = 5 := by
  induction h with
  | stop _ => exact ⟨[], by simp, rfl, by simp⟩
  | step hs _ ih =>
    obtain ⟨l1, a1, a2, a3⟩ := step_evs hs
    obtain ⟨l2, b1, b2, b3⟩ := ih
    refine ⟨l1 ++ l2, by rw [b1, a1, List.append_assoc], a2.app b2, fun e he => ?_⟩
    rcases List.mem_append.1 he with he | he
    · exact a3 e he
    · exact b3 e he
theorem comes_evs {B : Bk} {evs : List Ev} {t : Tk} (hOk : (B.ts evs t).Ok) : ∃ l, (B.comes evs t).2 = evs ++ l ∧ Num B.seq l (B.comes evs t).1.seq ∧ (∀ e ∈ l, e.kind = 3 ∨ e.kind = 4 ∨ e.kind = 5) ∧ (B.comes evs t).1.high = B.high := by
  obtain ⟨l, a1, a2, a3⟩ := (tr_run (meet := B.meet) (t := t) hOk).evs
  unfold Bk.comes
  split
  · exact ⟨_, rfl, Num.one _ _, by simp [evCancel, Ev.num], rfl⟩
  · simp only
    generalize tr B.meet t (B.ts evs t) = z at *
    have hh : (B.traded t z).high = B.high := (B.put_cap _ _).2.2.1
    have hsq : (B.traded t z).seq = z.seq := rfl
    split
    · exact ⟨l, a1, a2, a3, hh⟩
    · split
      · refine ⟨l ++ [(evCancel t.o.id z.left 3).num (nx (B.traded t z).seq)], by rw [a1, List.append_assoc]; rfl, a2.app (Num.one _ _), fun e he => ?_, hh⟩
        rcases List.mem_append.1 he with he | he
        · exact a3 e he
        · simp at he; subst he; simp [evCancel, Ev.num]
      · have hc := (B.traded t z).put_cap t.side (rst t.side (restOf t.o z.left) ((B.traded t z).side t.side))
        exact ⟨l, a1, by rw [hc.2.2.2]; exact a2, a3, by rw [hc.2.2.1]; exact hh⟩
/-- the acknowledgements' numbers rise, from h to h' -/
def Hi : Int → List Ev → Int → Prop
  | h, [], h' => h' = h
  | h, e :: l, h' => if e.kind = 1 then h < e.id ∧ Hi e.id l h' else Hi h l h'
theorem Hi.none : ∀ {l : List Ev} {h : Int}, (∀ e ∈ l, e.kind ≠ 1) → Hi h l h
  | [], h, _ => rfl
  | e :: l, h, k => by
    unfold Hi
    rw [if_neg (k e (by simp))]
    exact Hi.none fun e he => k e (by simp [he])
theorem Hi.app : ∀ {l1 l2 : List Ev} {s s1 s2 : Int}, Hi s l1 s1 → Hi s1 l2 s2 → Hi s (l1 ++ l2) s2
  | [], l2, s, s1, s2, h, k => by have : s1 = s := h; subst this; exact k
  | e :: l1, l2, s, s1, s2, h, k => by
    rw [List.cons_append]
    unfold Hi at h ⊢
    split at h
    · rename_i e1; rw [if_pos e1]; exact ⟨h.1, Hi.app h.2 k⟩
    · rename_i e1; rw [if_neg e1]; exact Hi.app h k
theorem does_num {B : Bk} {c : Cm} (h : B.Inv) (hw : c.wf) : Num B.seq (B.does c).2 (B.does c).1.seq ∧ Hi B.high (B.does c).2 (B.does c).1.high := by
  unfold Bk.does
  by_cases h0 : B.why c ≠ 0
  · rw [if_pos h0]; exact ⟨Num.one _ _, Hi.none (by simp [evReject, Ev.num])⟩
  rw [if_neg h0]
  obtain ⟨z1, z2, z3, z4, z5⟩ := rfs_zero (Decidable.of_not_not h0)
  have hgone : Num B.seq (B.gone c) (B.goes c).seq ∧ ∀ e ∈ B.gone c, e.kind ≠ 1 := by
    unfold Bk.gone Bk.goes
    by_cases h1 : c.k ≠ 1
    · rw [if_pos h1, if_pos h1]
      cases ht : B.tgt c with
      | none => exact absurd ht (z1 h1)
      | some o => exact ⟨Num.one _ _, by simp [evCancel, Ev.num]⟩
    · rw [if_neg h1, if_neg h1]; exact ⟨rfl, by simp⟩
  have hgh := (goes_cap B c).2.2
  by_cases h2 : c.k ≠ 2
  · rw [if_pos h2]
    obtain ⟨s1, s2, _⟩ := chk_sized z2 h2 hw
    obtain ⟨f1, f2, f3, f4⟩ := cmg_facts (c := c) (tg := B.tgt c) (side := (B.at_ c).1)
    generalize cmg c (B.tgt c) (B.at_ c).1 = tk at *
    obtain ⟨l, a1, a2, a3, a4⟩ := comes_evs (B := ((B.goes c).num (nx (B.goes c).seq)).top tk.o.id) (evs := B.gone c ++ [(evAck tk).num (nx (B.goes c).seq)]) (t := tk) (ts_ok (fun o ho => h.good o (Bk.goes_mem ho)) (by rw [f1]; omega) (by rw [f1]; omega))
    rw [a1, a4]
    refine ⟨(hgone.1.app (Num.one _ _)).app a2, ?_⟩
    have hh : Hi B.high (B.gone c ++ [(evAck tk).num (nx (B.goes c).seq)]) tk.o.id := (Hi.none hgone.2).app (by
      unfold Hi
      rw [if_pos (by rfl)]
      exact ⟨by show B.high < tk.o.id; rw [f3]; exact z3 h2, rfl⟩)
    exact hh.app (Hi.none fun e he => by rcases a3 e he with h | h | h <;> omega)
  · rw [if_neg h2]
    exact ⟨hgone.1, by rw [hgh]; exact Hi.none hgone.2⟩
theorem comes_len {B : Bk} {evs : List Ev} {t : Tk} (hOk : (B.ts evs t).Ok) (hl : (B.ts evs t).L.length ≤ 4096) : (B.comes evs t).2.length ≤ evs.length + 3000000 := by
  obtain ⟨_, _, h3, _⟩ := (tr_run (meet := B.meet) (t := t) hOk).ok hOk
  have hm := mu_le hOk
  have he : (B.ts evs t).evs.length = evs.length := rfl
  unfold Bk.comes
  split
  · simp
  · simp only
    generalize tr B.meet t (B.ts evs t) = z at *
    split
    · show z.evs.length ≤ _; omega
    · split
      · simp only [List.length_append, List.length_singleton]; omega
      · show z.evs.length ≤ _; omega
theorem does_len {B : Bk} {c : Cm} (h : B.Inv) (hw : c.wf) : (B.does c).2.length ≤ 4000000 := by
  have hlen := h.len
  have hhi := h.hi
  unfold Bk.does
  by_cases h0 : B.why c ≠ 0
  · rw [if_pos h0]; simp
  rw [if_neg h0]
  obtain ⟨z1, z2, z3, z4, z5⟩ := rfs_zero (Decidable.of_not_not h0)
  have hg := gone_len B c
  by_cases h2 : c.k ≠ 2
  · rw [if_pos h2]
    obtain ⟨s1, s2, _⟩ := chk_sized z2 h2 hw
    obtain ⟨f1, f2, f3, f4⟩ := cmg_facts (c := c) (tg := B.tgt c) (side := (B.at_ c).1)
    have hgl := B.goes_len c
    generalize cmg c (B.tgt c) (B.at_ c).1 = tk at *
    have hside : ((((B.goes c).num (nx (B.goes c).seq)).top tk.o.id).side (3 - tk.side)).length ≤ 4096 := by
      unfold Bk.side
      split
      · show (B.goes c).bs.length ≤ _; omega
      · show (B.goes c).ss.length ≤ _; omega
    have := comes_len (B := ((B.goes c).num (nx (B.goes c).seq)).top tk.o.id) (evs := B.gone c ++ [(evAck tk).num (nx (B.goes c).seq)]) (t := tk) (ts_ok (fun o ho => h.good o (Bk.goes_mem ho)) (by rw [f1]; omega) (by rw [f1]; omega)) hside
    simp only [List.length_append, List.length_singleton] at this
    omega
  · rw [if_neg h2]; show (B.gone c).length ≤ _; omega
end Go.Proofs.Ytmfobfamdaajmaa

/- Plain: a book stays one that can be. -/
namespace Go.Proofs.Ytmfobfamdaajmaa
open Go.V
set_option linter.unusedVariables false
set_option linter.unusedSimpArgs false

def ids (l : List Ord) : List Int := l.map Ord.id
def Sd (s : Int) (l : List Ord) : Prop := l.Pairwise (fun a b => bet s b.pr a.pr = false)
theorem Sd.srt {s : Int} {l : List Ord} (h : Sd s l) : Srt s l := fun i hi h0 => List.pairwise_iff_getElem.1 h (i - 1) i (by omega) hi (by omega)
theorem Srt.sd {s : Int} : ∀ {l : List Ord}, Srt s l → Sd s l
  | [], _ => .nil
  | x :: l, h => by
    have hl : Srt s l := fun i hi h0 => by
      have := h (i + 1) (by simpa using hi) (by omega)
      simp only [List.getElem_cons_succ, Nat.add_sub_cancel] at this
      obtain ⟨k, rfl⟩ : ∃ k, i = k + 1 := ⟨i - 1, by omega⟩
      exact this
    have ih := Srt.sd hl
    refine .cons (fun y hy => ?_) ih
    cases l with
    | nil => cases hy
    | cons z l =>
      have h1 : bet s z.pr x.pr = false := h 1 (by simp) (by omega)
      rcases List.mem_cons.1 hy with rfl | hy
      · exact h1
      · have h2 := List.rel_of_pairwise_cons ih hy
        unfold bet at h1 h2 ⊢
        split at h1 <;> simp_all <;> omega
theorem Dist.of {l : List Ord} (h : (ids l).Nodup) : Dist l := fun i hi j hj => by
  have h' : l.Pairwise (fun a b => a.id ≠ b.id) := List.pairwise_map.1 h
  exact fun e => List.pairwise_iff_getElem.1 h' j i (by omega) hi hj e.symm
theorem Dist.nd {l : List Ord} (h : Dist l) : (ids l).Nodup := by
  refine List.pairwise_map.2 (List.pairwise_iff_getElem.2 fun i j hi hj hij => fun e => h j hj i hij e.symm)
/-- an order put behind all that are not worse -/
def ins (s : Int) (o : Ord) : List Ord → List Ord
  | [] => [o]
  | x :: l => if bet s o.pr x.pr = true then o :: x :: l else x :: ins s o l
theorem bet_tr {s p x y : Int} (h : bet s p x = true) (h2 : bet s y x = false) : bet s p y = true := by
  unfold bet at *
  split at h <;> simp_all <;> omega
theorem rst_ins {s : Int} {o : Ord} : ∀ {l : List Ord}, Sd s l → rst s o l = ins s o l
  | [], _ => rfl
  | x :: l, h => by
    have ih := rst_ins (o := o) (List.Pairwise.of_cons h)
    by_cases c : bet s o.pr x.pr = true
    · have hl : l.all (fun x => bet s o.pr x.pr) = true := List.all_eq_true.2 fun y hy => bet_tr c (List.rel_of_pairwise_cons h hy)
      have : rpos s o.pr (x :: l) = 0 := by unfold rpos; rw [c, hl]; rfl
      unfold rst ins; rw [this, if_pos c]; rfl
    · have : rpos s o.pr (x :: l) = rpos s o.pr l + 1 := by
        rw [rpos]; simp only [Bool.not_eq_true] at c; rw [c]; rfl
      unfold ins; rw [if_neg c, ← ih]; unfold rst; rw [this]; rfl
theorem rst_perm (s : Int) (o : Ord) (l : List Ord) : (rst s o l).Perm (o :: l) := by
  unfold rst
  rw [List.append_assoc, List.singleton_append]
  refine List.perm_middle.trans ?_
  rw [List.take_append_drop]
theorem ins_perm (s : Int) (o : Ord) : ∀ (l : List Ord), (ins s o l).Perm (o :: l)
  | [] => .refl _
  | x :: l => by
    unfold ins; split
    · exact .refl _
    · exact ((ins_perm s o l).cons x).trans (.swap o x l)
theorem ins_sd {s : Int} {o : Ord} : ∀ {l : List Ord}, Sd s l → Sd s (ins s o l)
  | [], _ => List.pairwise_singleton _ _
  | x :: l, h => by
    have ih := ins_sd (o := o) (List.Pairwise.of_cons h)
    unfold ins; split
    · rename_i c
      refine .cons (fun y hy => ?_) h
      have hy' : bet s o.pr y.pr = true := by
        rcases List.mem_cons.1 hy with rfl | hy
        · exact c
        · exact bet_tr c (List.rel_of_pairwise_cons h hy)
      unfold bet at hy' ⊢; split at hy' <;> simp_all <;> omega
    · rename_i c
      refine .cons (fun y hy => ?_) ih
      rcases List.mem_cons.1 ((ins_perm s o l).mem_iff.1 hy) with rfl | hy
      · simpa using c
      · exact List.rel_of_pairwise_cons h hy
/-- an order that can rest -/
def Ord.V (o : Ord) (high : Int) : Prop := o.rests high ∧ o.wf
theorem Ord.V.G {o : Ord} {h : Int} (k : o.V h) : o.G := by
  obtain ⟨k1, k2⟩ := k
  unfold Ord.rests Rests at k1; unfold Ord.wf U at k2; unfold Ord.G; omega
theorem Ord.V.up {o : Ord} {h h' : Int} (k : o.V h) (e : h ≤ h') : o.V h' := by
  obtain ⟨k1, k2⟩ := k
  refine ⟨?_, k2⟩
  unfold Ord.rests Rests at k1 ⊢; omega
theorem less_V {f : Ord} {q h : Int} (k : f.V h) (h0 : 0 < q) (h1 : 0 < f.v - q) : (f.less q).V h := by
  obtain ⟨k1, k2⟩ := k
  unfold Ord.less
  refine ⟨?_, ?_⟩
  · unfold Ord.rests Rests at k1 ⊢; simp only; omega
  · unfold Ord.wf U at k2 ⊢; simp only; omega
theorem next_V {f : Ord} {h : Int} (k : f.V h) (h1 : 0 < f.hd) : f.next.V h := by
  obtain ⟨k1, k2⟩ := k
  unfold Ord.next
  refine ⟨?_, ?_⟩
  · unfold Ord.rests Rests at k1 ⊢; unfold Ord.wf U at k2; simp only; omega
  · unfold Ord.rests Rests at k1; unfold Ord.wf U at k2 ⊢; simp only; omega
/-- what trading leaves of a side -/
structure Keeps (sd : Int) (L L' : List Ord) : Prop where
  rests : ∀ hg, (∀ o ∈ L, o.V hg) → ∀ o ∈ L', o.V hg
  sd : Sd sd L'
  ids : ∃ x, (x ++ ids L').Perm (ids L)
  pr : ∀ o ∈ L', ∃ p ∈ L, p.pr = o.pr
theorem Keeps.refl {s : Int} {L : List Ord} (h : Sd s L) : Keeps s L L := ⟨fun _ h => h, h, ⟨[], .refl _⟩, fun o h => ⟨o, h, rfl⟩⟩
theorem Keeps.trans {s : Int} {L L' L'' : List Ord} (h : Keeps s L L') (k : Keeps s L' L'') : Keeps s L L'' := by
  obtain ⟨x, hx⟩ := h.ids
  obtain ⟨y, hy⟩ := k.ids
  refine ⟨fun hg q => k.rests hg (h.rests hg q), k.sd, ⟨x ++ y, ?_⟩, fun o ho => ?_⟩
  · rw [List.append_assoc]; exact (hy.append_left x).trans hx
  · obtain ⟨p, hp, e⟩ := k.pr o ho
    obtain ⟨q, hq, e'⟩ := h.pr p hp
    exact ⟨q, hq, e'.trans e⟩
theorem Keeps.tail {s : Int} {f : Ord} {L : List Ord} (h : Sd s (f :: L)) : Keeps s (f :: L) L :=
  ⟨fun hg k o ho => k o (by simp [ho]), List.Pairwise.of_cons h, ⟨[f.id], .refl _⟩, fun o ho => ⟨o, by simp [ho], rfl⟩⟩
theorem step_keeps {meet : Int} {t : Tk} {s s' : TS} (hs : s.step meet t = some s') (hsd : Sd (3 - t.side) s.L) : Keeps (3 - t.side) s.L s'.L := by
  obtain ⟨L, left, seq, evs⟩ := s
  unfold TS.step at hs
  simp only at hs hsd ⊢
  cases L with
  | nil => cases hs
  | cons f rest =>
    simp only at hs
    split at hs
    · rename_i hc
      simp only [Option.some.injEq] at hs
      subst hs
      split
      · simp only [TS.meets]
        by_cases m1 : meet = 1
        · rw [if_pos m1, if_neg (show ¬ meet = 2 by omega)]
          exact .refl hsd
        · rw [if_neg m1]
          by_cases m2 : meet = 2
          · rw [if_pos m2]; exact .tail hsd
          · rw [if_neg m2]; exact .tail hsd
      · simp only [TS.hit]
        by_cases c1 : 0 < f.v - min left f.v
        · rw [if_pos c1]
          refine ⟨fun hg k o ho => ?_, ?_, ⟨[], .refl _⟩, fun o ho => ?_⟩
          · rcases List.mem_cons.1 ho with rfl | ho
            · refine less_V (k f (by simp)) ?_ c1
              have := hc.1; omega
            · exact k o (by simp [ho])
          · exact .cons (fun y hy => List.rel_of_pairwise_cons hsd hy) (List.Pairwise.of_cons hsd)
          · rcases List.mem_cons.1 ho with rfl | ho
            · exact ⟨f, by simp, rfl⟩
            · exact ⟨o, by simp [ho], rfl⟩
        · rw [if_neg c1]
          by_cases c2 : 0 < f.hd
          · rw [if_pos c2]
            show Keeps _ _ (rst (3 - t.side) f.next rest)
            refine ⟨fun hg k o ho => ?_, ?_, ⟨[], ?_⟩, fun o ho => ?_⟩
            · rcases rst_mem ho with rfl | ho
              · exact next_V (k f (by simp)) c2
              · exact k o (by simp [ho])
            · rw [rst_ins (List.Pairwise.of_cons hsd)]; exact ins_sd (List.Pairwise.of_cons hsd)
            · exact (rst_perm (3 - t.side) f.next rest).map Ord.id
            · rcases rst_mem ho with rfl | ho
              · exact ⟨f, by simp, rfl⟩
              · exact ⟨o, by simp [ho], rfl⟩
          · rw [if_neg c2]; exact .tail hsd
    · cases hs
theorem TRun.keeps {meet : Int} {t : Tk} {s z : TS} (h : TRun meet t s z) (hsd : Sd (3 - t.side) s.L) : Keeps (3 - t.side) s.L z.L ∧ z.step meet t = none := by
  induction h with
  | stop hs => exact ⟨.refl hsd, hs⟩
  | step hs _ ih =>
    have h1 := step_keeps hs hsd
    obtain ⟨i1, i2⟩ := ih h1.sd
    exact ⟨h1.trans i1, i2⟩
/-- a book that can be -/
structure Bk.Vl (B : Bk) : Prop where
  cfg : Cfg B.cap B.meet
  len : (B.bs.length : Int) + B.ss.length ≤ B.cap
  rests : ∀ o ∈ B.bs ++ B.ss, o.V B.high
  nd : (ids (B.bs ++ B.ss)).Nodup
  s1 : Sd 1 B.bs
  s2 : Sd 2 B.ss
  cross : ∀ b ∈ B.bs, ∀ s ∈ B.ss, b.pr < s.pr
theorem Bk.Vl.inv {B : Bk} (h : B.Vl) : B.Inv := ⟨h.cfg.1, h.cfg.2.1, h.len, fun o ho => (h.rests o ho).G⟩
theorem crossB_false {bs ss : List Ord} (h : ∀ b ∈ bs, ∀ s ∈ ss, b.pr < s.pr) : crossB bs ss = false := by
  cases bs with
  | nil => rfl
  | cons b bs =>
    cases ss with
    | nil => rfl
    | cons s ss =>
      have := h b (by simp) s (by simp)
      unfold crossB; simp; omega
theorem Bk.Vl.vld {B : Bk} (h : B.Vl) : vld B.cap B.meet B.high B.bs B.ss = 0 := by
  have := h.cfg; have := h.len
  unfold Cfg at *
  rw [Proofs.Ytmfobfamdaajmaa.vld, if_pos ⟨h.cfg, by omega, by omega, by omega, fun o ho => (h.rests o ho).1, .of h.nd, h.s1.srt, h.s2.srt, crossB_false h.cross⟩]
theorem newB_vl {c m : Int} (h : Cfg c m) : (newB c m).Vl := ⟨h, by unfold Cfg at h; simp [newB]; omega, by simp [newB], by simp [newB, Proofs.Ytmfobfamdaajmaa.ids], .nil, .nil, by simp [newB]⟩
theorem num_vl {B : Bk} (q : Int) (h : B.Vl) : (B.num q).Vl := ⟨h.cfg, h.len, h.rests, h.nd, h.s1, h.s2, h.cross⟩
theorem top_vl {B : Bk} {q : Int} (h : B.Vl) (e : B.high ≤ q) : (B.top q).Vl := ⟨h.cfg, h.len, fun o ho => (h.rests o ho).up e, h.nd, h.s1, h.s2, h.cross⟩
theorem nd_of {l l' : List Ord} (h : ∃ x, (x ++ ids l').Perm (ids l)) (hn : (ids l).Nodup) : (ids l').Nodup := by
  obtain ⟨x, hx⟩ := h
  exact (List.nodup_append.1 (hx.nodup_iff.2 hn)).2.1
theorem ids_app (a b : List Ord) : ids (a ++ b) = ids a ++ ids b := List.map_append
theorem ids_mem {l l' : List Ord} (h : ∃ x, (x ++ ids l').Perm (ids l)) : ∀ i ∈ ids l', i ∈ ids l := fun i hi => by
  obtain ⟨x, hx⟩ := h
  exact hx.mem_iff.1 (List.mem_append_right _ hi)
/-- one side of a book that can be, less -/
theorem put1_vl {B : Bk} {l : List Ord} (h : B.Vl) (k : Keeps 1 B.bs l) (hl : l.length ≤ B.bs.length) : (B.put 1 l).Vl := by
  have hlen := h.len
  refine ⟨h.cfg, by show (l.length : Int) + B.ss.length ≤ B.cap; omega, fun o ho => ?_, ?_, k.sd, h.s2, fun b hb s hs => ?_⟩
  · rcases List.mem_append.1 (show o ∈ l ++ B.ss from ho) with ho | ho
    · exact k.rests _ (fun o ho => h.rests o (by simp [ho])) o ho
    · exact h.rests o (by simp [ho])
  · show (ids (l ++ B.ss)).Nodup
    obtain ⟨x, hx⟩ := k.ids
    refine nd_of ⟨x, ?_⟩ h.nd
    rw [ids_app, ids_app, ← List.append_assoc]
    exact hx.append_right _
  · obtain ⟨p, hp, e⟩ := k.pr b hb
    have := h.cross p hp s hs; omega
theorem put2_vl {B : Bk} {l : List Ord} (h : B.Vl) (k : Keeps 2 B.ss l) (hl : l.length ≤ B.ss.length) : (B.put 2 l).Vl := by
  have hlen := h.len
  refine ⟨h.cfg, by show (B.bs.length : Int) + l.length ≤ B.cap; omega, fun o ho => ?_, ?_, h.s1, k.sd, fun b hb s hs => ?_⟩
  · rcases List.mem_append.1 (show o ∈ B.bs ++ l from ho) with ho | ho
    · exact h.rests o (by simp [ho])
    · exact k.rests _ (fun o ho => h.rests o (by simp [ho])) o ho
  · show (ids (B.bs ++ l)).Nodup
    obtain ⟨x, hx⟩ := k.ids
    refine nd_of ⟨x, ?_⟩ h.nd
    rw [ids_app, ids_app]
    have h1 : (x ++ (ids B.bs ++ ids l)).Perm (ids B.bs ++ (x ++ ids l)) := by
      rw [← List.append_assoc, ← List.append_assoc]
      exact List.perm_append_comm.append_right _
    exact h1.trans (hx.append_left _)
  · obtain ⟨p, hp, e⟩ := k.pr s hs
    have := h.cross b hb p hp; omega
theorem Keeps.erase {s : Int} {L : List Ord} (h : Sd s L) (i : Nat) : Keeps s L (L.eraseIdx i) := by
  refine ⟨fun hg k o ho => k o (List.mem_of_mem_eraseIdx ho), h.sublist (List.eraseIdx_sublist ..), ?_, fun o ho => ⟨o, List.mem_of_mem_eraseIdx ho, rfl⟩⟩
  by_cases hi : i < L.length
  · refine ⟨[L[i].id], ?_⟩
    have e : L = L.take i ++ L[i] :: L.drop (i + 1) := by rw [← List.drop_eq_getElem_cons hi, List.take_append_drop]
    have e2 : Proofs.Ytmfobfamdaajmaa.ids L = Proofs.Ytmfobfamdaajmaa.ids (L.take i ++ L[i] :: L.drop (i + 1)) := congrArg Proofs.Ytmfobfamdaajmaa.ids e
    rw [e2, List.eraseIdx_eq_take_drop_succ]
    simp only [Proofs.Ytmfobfamdaajmaa.ids, List.map_append, List.map_cons]
    exact (List.perm_middle (l₁ := List.map Ord.id (L.take i)) (a := L[i].id) (l₂ := List.map Ord.id (L.drop (i + 1)))).symm
  · rw [List.eraseIdx_of_length_le (by omega)]; exact ⟨[], .refl _⟩
theorem goes_vl {B : Bk} {c : Cm} (h : B.Vl) (ht : c.k ≠ 1 → B.tgt c ≠ none) : (B.goes c).Vl := by
  unfold Bk.goes
  by_cases hk : c.k ≠ 1
  · rw [if_pos hk]
    rcases at_spec B c with ⟨_, h', _⟩ | ⟨s, hs, i, hi, e, _, _⟩
    · exact absurd h' (ht hk)
    rw [e]
    simp only [Int.toNat_natCast]
    refine num_vl _ ?_
    rcases hs with rfl | rfl
    · exact put1_vl h (.erase h.s1 i) (List.length_eraseIdx_le ..)
    · exact put2_vl h (.erase h.s2 i) (List.length_eraseIdx_le ..)
  · rw [if_neg hk]; exact h
theorem goes_fresh {B : Bk} {c : Cm} {x : Int} (h : ∀ o ∈ B.bs ++ B.ss, o.id < x) : ∀ o ∈ (B.goes c).bs ++ (B.goes c).ss, o.id < x := fun o ho => h o (Bk.goes_mem ho)
/-- trading keeps a book one that can be; at its end the other side's best is not reached -/
theorem traded_vl {B : Bk} {t : Tk} {evs : List Ev} {z : TS} (h : B.Vl) (hs : t.side = 1 ∨ t.side = 2) (hr : TRun B.meet t (B.ts evs t) z) (hz : z.L.length ≤ (B.side (3 - t.side)).length) :
    (B.traded t z).Vl ∧ ids ((B.traded t z).bs ++ (B.traded t z).ss) ⊆ ids (B.bs ++ B.ss) ∧ (B.traded t z).side t.side = B.side t.side ∧ (B.traded t z).side (3 - t.side) = z.L ∧
      (0 < z.left → t.kind ≠ 2 → ∀ x ∈ z.L, bet t.side x.pr t.o.pr = true) := by
  obtain ⟨_, _, bs, ss, _, _⟩ := B
  rcases hs with hs | hs
  · have hk := hr.keeps (by show Sd _ _; simp only [Bk.ts, Bk.side, hs]; exact h.s2)
    simp only [Bk.ts, Bk.side, hs] at hk hz
    obtain ⟨hk, hn⟩ := hk
    refine ⟨?_, ?_, ?_, ?_, fun hl h2 x hx => ?_⟩
    · unfold Bk.traded; rw [hs]; exact num_vl _ (put2_vl h hk hz)
    · unfold Bk.traded Bk.put Bk.num; rw [hs]
      show ids (bs ++ z.L) ⊆ ids (bs ++ ss)
      intro i hi
      rw [ids_app, List.mem_append] at hi ⊢
      exact hi.imp id (ids_mem hk.ids i)
    · unfold Bk.traded Bk.put Bk.num Bk.side; simp [hs]
    · unfold Bk.traded Bk.put Bk.num Bk.side; simp [hs]
    · rw [hs]
      obtain ⟨L, left, _, _⟩ := z
      cases L with
      | nil => cases hx
      | cons f L =>
        unfold TS.step at hn
        simp only at hn hl
        split at hn
        · cases hn
        · rename_i hc
          have hf : bet 1 f.pr t.o.pr = true := by
            have hr' : ¬ reach t.side t.kind t.o.pr f.pr = true := fun e => hc ⟨hl, e⟩
            unfold reach at hr'
            rw [hs] at hr'
            simpa [h2] using hr'
          rcases List.mem_cons.1 hx with rfl | hx
          · exact hf
          · have := List.rel_of_pairwise_cons hk.sd hx
            unfold bet at hf this ⊢; simp at hf this ⊢; omega
  · have hk := hr.keeps (by show Sd _ _; simp only [Bk.ts, Bk.side, hs]; exact h.s1)
    simp only [Bk.ts, Bk.side, hs] at hk hz
    obtain ⟨hk, hn⟩ := hk
    refine ⟨?_, ?_, ?_, ?_, fun hl h2 x hx => ?_⟩
    · unfold Bk.traded; rw [hs]; exact num_vl _ (put1_vl h hk hz)
    · unfold Bk.traded Bk.put Bk.num; rw [hs]
      show ids (z.L ++ ss) ⊆ ids (bs ++ ss)
      intro i hi
      rw [ids_app, List.mem_append] at hi ⊢
      exact hi.imp (ids_mem hk.ids i) id
    · unfold Bk.traded Bk.put Bk.num Bk.side; simp [hs]
    · unfold Bk.traded Bk.put Bk.num Bk.side; simp [hs]
    · rw [hs]
      obtain ⟨L, left, _, _⟩ := z
      cases L with
      | nil => cases hx
      | cons f L =>
        unfold TS.step at hn
        simp only at hn hl
        split at hn
        · cases hn
        · rename_i hc
          have hf : bet 2 f.pr t.o.pr = true := by
            have hr' : ¬ reach t.side t.kind t.o.pr f.pr = true := fun e => hc ⟨hl, e⟩
            unfold reach at hr'
            rw [hs] at hr'
            simpa [h2] using hr'
          rcases List.mem_cons.1 hx with rfl | hx
          · exact hf
          · have := List.rel_of_pairwise_cons hk.sd hx
            unfold bet at hf this ⊢; simp at hf this ⊢; omega
theorem put_vl1 {B : Bk} {o : Ord} (h : B.Vl) (hs : o.V B.high) (hf : ∀ i ∈ ids (B.bs ++ B.ss), i ≠ o.id) (hc : (B.bs.length : Int) + B.ss.length < B.cap) (hx : ∀ s ∈ B.ss, o.pr < s.pr) : (B.put 1 (rst 1 o B.bs)).Vl := by
  have hp := rst_perm 1 o B.bs
  refine ⟨h.cfg, ?_, fun x hxm => ?_, ?_, ?_, h.s2, fun b hb s hs' => ?_⟩
  · show ((rst 1 o B.bs).length : Int) + B.ss.length ≤ B.cap
    rw [rst_length]; omega
  · rcases List.mem_append.1 (show x ∈ rst 1 o B.bs ++ B.ss from hxm) with hm | hm
    · rcases rst_mem hm with rfl | hm
      · exact hs
      · exact h.rests x (by simp [hm])
    · exact h.rests x (by simp [hm])
  · show (ids (rst 1 o B.bs ++ B.ss)).Nodup
    have : (ids (rst 1 o B.bs ++ B.ss)).Perm (o.id :: ids (B.bs ++ B.ss)) := by
      have := (hp.append_right B.ss).map Ord.id
      exact this
    refine this.nodup_iff.2 (List.nodup_cons.2 ⟨fun hm => hf _ hm rfl, h.nd⟩)
  · show Sd 1 (rst 1 o B.bs)
    rw [rst_ins h.s1]; exact ins_sd h.s1
  · rcases rst_mem (show b ∈ rst 1 o B.bs from hb) with rfl | hm
    · exact hx s hs'
    · exact h.cross b hm s hs'
theorem put_vl2 {B : Bk} {o : Ord} (h : B.Vl) (hs : o.V B.high) (hf : ∀ i ∈ ids (B.bs ++ B.ss), i ≠ o.id) (hc : (B.bs.length : Int) + B.ss.length < B.cap) (hx : ∀ s ∈ B.bs, s.pr < o.pr) : (B.put 2 (rst 2 o B.ss)).Vl := by
  have hp := rst_perm 2 o B.ss
  refine ⟨h.cfg, ?_, fun x hxm => ?_, ?_, h.s1, ?_, fun b hb s hs' => ?_⟩
  · show (B.bs.length : Int) + (rst 2 o B.ss).length ≤ B.cap
    rw [rst_length]; omega
  · rcases List.mem_append.1 (show x ∈ B.bs ++ rst 2 o B.ss from hxm) with hm | hm
    · exact h.rests x (by simp [hm])
    · rcases rst_mem hm with rfl | hm
      · exact hs
      · exact h.rests x (by simp [hm])
  · show (ids (B.bs ++ rst 2 o B.ss)).Nodup
    have : (ids (B.bs ++ rst 2 o B.ss)).Perm (o.id :: ids (B.bs ++ B.ss)) := by
      have := ((hp.append_left B.bs).trans List.perm_middle).map Ord.id
      exact this
    refine this.nodup_iff.2 (List.nodup_cons.2 ⟨fun hm => hf _ hm rfl, h.nd⟩)
  · show Sd 2 (rst 2 o B.ss)
    rw [rst_ins h.s2]; exact ins_sd h.s2
  · rcases rst_mem (show s ∈ rst 2 o B.ss from hs') with rfl | hm
    · exact hx b hb
    · exact h.cross b hb s hm
theorem restOf_V {o : Ord} {left q hg : Int} (h0 : left ≠ 0) (h1 : 0 ≤ left) (h2 : left ≤ q) (h3 : q ≤ 4294967295) (h4 : o.pk ≤ q) (h5 : 0 ≤ o.pk) (h6 : o.pk = 0 ∨ q ≤ 256 * o.pk) (hid : 1 ≤ o.id ∧ o.id ≤ hg) (hu : U o.id) (ht : o.ty = 1 ∨ o.ty = 5) (hp : 0 ≤ o.pr ∧ o.pr < 262144) : (restOf o left).V hg := by
  unfold restOf Ord.V Ord.rests Rests Ord.wf U at *
  simp only
  split <;> omega
/-- an order that can come -/
structure Tk.V (t : Tk) (B : Bk) : Prop where
  sd : t.side = 1 ∨ t.side = 2
  q : 1 ≤ t.left ∧ t.left ≤ 4294967295
  pk : 0 ≤ t.o.pk ∧ t.o.pk ≤ t.left
  pk2 : t.o.pk = 0 ∨ t.left ≤ 256 * t.o.pk
  room : t.kind = 1 ∨ t.kind = 5 → (B.bs.length : Int) + B.ss.length < B.cap
  id : 1 ≤ t.o.id ∧ U t.o.id
  ty : t.o.ty = t.kind
  pr : 0 ≤ t.o.pr ∧ t.o.pr < 262144
  kd : 1 ≤ t.kind ∧ t.kind ≤ 5
  fresh : ∀ i ∈ ids (B.bs ++ B.ss), i < t.o.id
  post : t.kind = 5 → headReach t.side t.kind t.o.pr (B.side (3 - t.side)) = false
theorem ts_ok' {B : Bk} {evs : List Ev} {t : Tk} (h : B.Vl) (k : t.V B) : (B.ts evs t).Ok := ts_ok h.inv.good (by have := k.q; omega) (by have := k.q; omega)
theorem comes_vl {B : Bk} {evs : List Ev} {t : Tk} (h : B.Vl) (k : t.V B) (hh : t.o.id ≤ B.high) : (B.comes evs t).1.Vl := by
  have hOk : (B.ts evs t).Ok := ts_ok' h k
  have hrun := tr_run (meet := B.meet) (t := t) hOk
  obtain ⟨zok, zlen, _, zl⟩ := hrun.ok hOk
  unfold Bk.comes
  split
  · exact num_vl _ h
  · simp only
    generalize tr B.meet t (B.ts evs t) = z at *
    obtain ⟨v1, v2, v3, v4, v5⟩ := traded_vl h k.sd hrun zlen
    split
    · exact v1
    · rename_i hl0
      split
      · exact num_vl _ v1
      · rename_i hk
        have hc := B.put_cap (3 - t.side) z.L
        have hlo := zok.lo
        have hG : (restOf t.o z.left).V (B.traded t z).high := restOf_V (q := t.left) hl0 hlo zl k.q.2 k.pk.2 k.pk.1 k.pk2 ⟨k.id.1, by show _ ≤ (B.put (3 - t.side) z.L).high; rw [hc.2.2.1]; exact hh⟩ k.id.2 (by rw [k.ty]; omega) k.pr
        have hf : ∀ i ∈ ids ((B.traded t z).bs ++ (B.traded t z).ss), i ≠ (restOf t.o z.left).id := fun i hi e => by
          have := k.fresh i (v2 hi)
          have e2 : (restOf t.o z.left).id = t.o.id := rfl
          omega
        have hcap : ((B.traded t z).bs.length : Int) + (B.traded t z).ss.length < (B.traded t z).cap := by
          have h1 := k.room (by omega)
          have h2 := (traded_inv (t := t) h.inv zok zlen).2
          have h3 : (B.traded t z).cap = B.cap := hc.1
          omega
        have hx := v5 (by omega) (by omega)
        have e2 : (restOf t.o z.left).pr = t.o.pr := rfl
        generalize B.traded t z = B1 at *
        rcases k.sd with hs | hs
        · rw [hs] at v3 v4 hx ⊢
          exact put_vl1 v1 hG hf hcap fun s hs' => by
            have := hx s (by rw [← v4]; exact hs')
            unfold bet at this; simp at this; omega
        · rw [hs] at v3 v4 hx ⊢
          exact put_vl2 v1 hG hf hcap fun s hs' => by
            have := hx s (by rw [← v4]; exact hs')
            unfold bet at this; simp at this; omega
theorem cmg_ty {c : Cm} {tg : Option Ord} {side : Int} : (cmg c tg side).o.ty = (cmg c tg side).kind := by
  unfold cmg
  cases tg with
  | none => rfl
  | some o => simp only; split <;> rfl
theorem cmg_kd {c : Cm} {tg : Option Ord} {side : Int} (h1 : c.k = 1 → 1 ≤ c.ty ∧ c.ty ≤ 5) (hk : c.k = 1 ∨ c.k = 3) (h3 : c.k = 3 → tg ≠ none) (ht : ∀ o, tg = some o → o.ty = 1 ∨ o.ty = 5) : 1 ≤ (cmg c tg side).kind ∧ (cmg c tg side).kind ≤ 5 := by
  unfold cmg
  cases tg with
  | none =>
    rcases hk with hk | hk
    · exact h1 hk
    · exact absurd rfl (h3 hk)
  | some o =>
    simp only; split
    · have := ht o rfl; show 1 ≤ o.ty ∧ o.ty ≤ 5; omega
    · rename_i hk'
      exact h1 (by omega)
theorem tgt_mem {B : Bk} {c : Cm} {o : Ord} (h : B.tgt c = some o) : o ∈ B.bs ++ B.ss ∧ ((B.at_ c).1 = 1 ∨ (B.at_ c).1 = 2) ∧ o.id = c.tg := by
  rcases at_spec B c with ⟨_, h', _⟩ | ⟨s, hs, i, hi, e, h', hid⟩
  · rw [h'] at h; cases h
  · rw [h'] at h; cases h
    exact ⟨B.side_sub _ _ (List.getElem_mem hi), by rw [e]; exact hs, hid⟩
theorem head_sub {s k p : Int} {l l' : List Ord} (h : headReach s k p l = false) (hl : ∀ y ∈ l', ∃ x ∈ l, x.pr = y.pr) (hs : Sd (3 - s) l) (hsd : s = 1 ∨ s = 2) : headReach s k p l' = false := by
  cases l' with
  | nil => rfl
  | cons y l' =>
    obtain ⟨x, hx, e⟩ := hl y (by simp)
    cases l with
    | nil => cases hx
    | cons z l =>
      have hz : reach s k p z.pr = false := h
      show reach s k p y.pr = false
      rw [← e]
      rcases List.mem_cons.1 hx with rfl | hx
      · exact hz
      · have := List.rel_of_pairwise_cons hs hx
        unfold reach bet at *
        rcases hsd with rfl | rfl <;> simp_all <;> omega
/-- the order that a command lets come can come -/
theorem cmg_V {B : Bk} {c : Cm} (h : B.Vl) (hw : c.wf) (h0 : B.why c = 0) (h2 : c.k ≠ 2) : (cmg c (B.tgt c) (B.at_ c).1).V (((B.goes c).num (nx (B.goes c).seq)).top (cmg c (B.tgt c) (B.at_ c).1).o.id) ∧ B.high < (cmg c (B.tgt c) (B.at_ c).1).o.id := by
  obtain ⟨z1, z2, z3, z4, z5⟩ := rfs_zero h0
  obtain ⟨s1, s2, s3, s4, s5, s6, s7, s8⟩ := chk_sized z2 h2 hw
  obtain ⟨f1, f2, f3, f4⟩ := cmg_facts (c := c) (tg := B.tgt c) (side := (B.at_ c).1)
  have hid := hw.1
  have hpk := hw.2.2
  have hk := chk_kinds (c := c) (by rw [z2]; decide)
  have hty := cmg_ty (c := c) (tg := B.tgt c) (side := (B.at_ c).1)
  have hkd := cmg_kd (c := c) (tg := B.tgt c) (side := (B.at_ c).1) (fun e => ⟨(s8 e).1, (s8 e).2.1⟩) (by omega) (fun e => z1 (by omega)) (fun o ho => by
    have := (h.rests o (tgt_mem ho).1).1; unfold Ord.rests Rests at this; exact this.2.1)
  have hside := cmg_side (c := c) (tg := B.tgt c) (side := (B.at_ c).1) z2 h2 (fun e => z1 (by omega)) (fun hn => by
    cases ht : B.tgt c with
    | none => exact absurd ht hn
    | some o => exact (tgt_mem ht).2.1)
  have hgv := goes_vl (c := c) h z1
  have hgc := goes_cap B c
  have z3' := z3 h2
  have hfr : ∀ i ∈ ids ((B.goes c).bs ++ (B.goes c).ss), i < c.id := fun i hi => by
    obtain ⟨o, ho, rfl⟩ := List.mem_map.1 hi
    have := (h.rests o (Bk.goes_mem ho)).1
    unfold Ord.rests Rests at this; omega
  generalize cmg c (B.tgt c) (B.at_ c).1 = t at *
  unfold U at hid hpk
  refine ⟨⟨hside, by omega, by omega, by rw [f1, f2]; exact s4, fun hk' => ?_, ⟨by omega, by rw [f3]; exact hid⟩, hty, by omega, hkd, fun i hi => by rw [f3]; exact hfr i hi, fun h5 => ?_⟩, by omega⟩
  · show ((B.goes c).bs.length : Int) + (B.goes c).ss.length < (B.goes c).cap
    rw [hgc.1]
    by_cases h1 : c.k = 1
    · have := z4 h1 hk'
      have hl := B.goes_len c
      omega
    · have := goes_len1 h1 (z1 h1)
      have := h.len
      omega
  · have hr := z5 h2 h5
    have hm : ∀ s : Int, ∀ y ∈ (B.goes c).side s, ∃ x ∈ B.side s, x.pr = y.pr := fun s y hy => by
      unfold Bk.goes at hy
      split at hy
      · refine ⟨y, ?_, rfl⟩
        unfold Bk.put Bk.num Bk.side at *
        by_cases e1 : (B.at_ c).1 = 1 <;> by_cases e2 : s = 1 <;> simp [e1, e2] at hy ⊢
        · exact List.mem_of_mem_eraseIdx hy
        · exact hy
        · exact hy
        · exact List.mem_of_mem_eraseIdx hy
      · exact ⟨y, hy, rfl⟩
    show headReach t.side t.kind t.o.pr ((B.goes c).side (3 - t.side)) = false
    rcases hside with e | e
    · rw [e] at hr ⊢
      exact head_sub hr (hm 2) h.s2 (.inl rfl)
    · rw [e] at hr ⊢
      exact head_sub hr (hm 1) h.s1 (.inr rfl)
theorem does_vl {B : Bk} {c : Cm} (h : B.Vl) (hw : c.wf) : (B.does c).1.Vl := by
  unfold Bk.does
  by_cases h0 : B.why c ≠ 0
  · rw [if_pos h0]; exact num_vl _ h
  rw [if_neg h0]
  have h0' : B.why c = 0 := Decidable.of_not_not h0
  obtain ⟨z1, _⟩ := rfs_zero h0'
  have hgv := goes_vl (c := c) h z1
  by_cases h2 : c.k ≠ 2
  · rw [if_pos h2]
    obtain ⟨hV, hlt⟩ := cmg_V h hw h0' h2
    have hgc := goes_cap B c
    exact comes_vl (top_vl (num_vl _ hgv) (by show (B.goes c).high ≤ _; rw [hgc.2.2]; omega)) hV (Int.le_refl _)
  · rw [if_neg h2]; exact hgv
end Go.Proofs.Ytmfobfamdaajmaa

/- Find, Load, events. -/
namespace Go.Proofs.Ytmfobfamdaajmaa
open Go.V
set_option linter.unusedVariables false
set_option linter.unusedSimpArgs false

abbrev EL : List Lf := [.i .u64, .i .i64, .i .u64, .i .u64, .i .u64, .i .u32, .i .i64, .i .i64, .i .i64, .i .u64, .i .u64, .i .i64, .i .i64]
theorem Ev.oks (o : Ev) : V.oks EL o.cells := ⟨rfl, rfl, rfl, rfl, rfl, rfl, rfl, rfl, rfl, rfl, rfl, rfl, rfl, trivial⟩
set_option maxRecDepth 10000 in
theorem events_ok (w : World) (A B : Option Addr) (len ca cb : Nat) (l : List Ev) (hA : Rd w [] A (erows l)) (hB : Rd w [] B (erows l)) (hl : len = l.length) (hb : len ≤ 1353245080300) :
    Is Try.prog 27 [.slice A len ca, .slice B len cb] w (.bool true) := by
  refine Does.pure (Does.of (n := 26) Try.func27 rfl rfl rfl rfl ?_)
  refine .seq ((.region (.v (.assign rfl) (.nil ?_))))
  refine .seq (.seq ((.region (.v (.move rfl) (.v (.len rfl) (.v (.move rfl) (.v (.len rfl) (.v (.nei rfl rfl) (.nil ?_)))))))))
  refine .cond_dec rfl (fun g => absurd rfl g) (fun g => .skip ?_)
  refine .seq (.seq ((.region (.v (.assign rfl) (.nil ?_)))))
  refine .block (.loop (X := Nat) (fun i => [(0, .slice A len ca), (1, .slice B len cb), (5, .int .i64 i)]) (fun _ => []) (fun i => i ≤ len) (fun i => len - i) 0 (by omega) (.cons rfl (.cons rfl (.cons rfl (.nil _)))) (fun _ s => s) ?_)
  intro i hi
  refine .seq (.seq ((.region (.v (.move rfl) (.v (.move rfl) (.v (.len rfl) (.v (.lss rfl rfl) (.nil ?_))))))))
  refine .cond_dec rfl (fun g2 => .skip ?_) (fun g2 => .exit ?_)
  · have hil : i < l.length := by omega
    obtain ⟨b, o, rfl, -, hc⟩ := Rd.ev hA (by omega)
    obtain ⟨b', o', rfl, -, hc'⟩ := Rd.ev hB (by omega)
    refine .seq (.block (.seq ((.drawS (by kernel_rfl) (by kernel_rfl) (.v (.move rfl) (.v (.move rfl) (.v (.indexAddr rfl rfl (by omega) (by omega)) (.v (.loadA (vs := l[i].cells) rfl (.old (fun j v hv => ?_) (by simp [bl])) rfl) (.v (.move rfl) (.v (.move rfl) (.v (.indexAddr rfl rfl (by omega) (by omega)) (.v (.loadA (vs := l[i].cells) rfl (.old (fun j v hv => ?_) (by simp [bl])) rfl) (.v (.neA rfl rfl l[i].oks l[i].oks) (.nil ?_))))))))))))))
    · rw [add_none, Int.toNat_natCast]; exact hc i hil j v (List.getElem?_eq_some_iff.1 hv).1 hv
    · rw [add_none, Int.toNat_natCast]; exact hc' i hil j v (List.getElem?_eq_some_iff.1 hv).1 hv
    refine .cond rfl (fun g3 => absurd g3 (by rw [(cellsEq_iff l[i].oks l[i].oks).2 rfl]; simp)) (fun _ => .skip ?_)
    refine .region (.v (.move rfl) (.v (.addi rfl rfl (by omega)) (.v (.assign rfl) (.nil ?_))))
    exact ⟨i + 1, by omega, by omega, .cons rfl (.cons rfl (.cons rfl (.nil _))), fun _ s => s⟩
  · refine .seq ((.region (.v (.assign rfl) (.nil ?_))))
    exact .ret ⟨[_], ⟨rfl, trivial⟩, rfl⟩
def ord0 : Ord := ⟨0, 0, 0, 0, 0, 0, 0⟩
/-- an order of a book, and its side -/
def fnd (id : Int) (bs ss : List Ord) : Option (Int × Ord) :=
  if 0 ≤ idx id bs then bs[(idx id bs).toNat]?.map (fun o => (1, o)) else if 0 ≤ idx id ss then ss[(idx id ss).toNat]?.map (fun o => (2, o)) else none
def fndV : Option (Int × Ord) → Value
  | none => .tuple ⟨[.agg ⟨ord0.cells⟩, .int .i64 0, .bool false]⟩
  | some (s, o) => .tuple ⟨[.agg ⟨o.cells⟩, .int .i64 s, .bool true]⟩
set_option maxRecDepth 10000 in
theorem Find_ok (w : World) (b : Nat) (cap meet high seq id : Int) (A1 A2 : Option Addr) (c1 c2 : Nat) (bs ss : List Ord) (hb : Rd w [] (some ⟨b, 0, none⟩) (bcells cap meet (.slice A1 bs.length c1) (.slice A2 ss.length c2) high seq))
    (h1 : Rd w [] A1 (rows bs)) (h2 : Rd w [] A2 (rows ss)) (hb1 : bs.length ≤ 2513169434843) (hb2 : ss.length ≤ 2513169434843) :
    Is Try.prog 25 [.pointer (some ⟨b, 0, none⟩), .int .u64 id] w (fndV (fnd id bs ss)) := by
  refine Does.pure (Does.of (n := 29) Try.func25 rfl rfl rfl rfl ?_)
  refine .seq ((.region (.nw .alloc fun b4 => (.v (.assign rfl) (.v (.assign rfl) (.nil ?_))))))
  have hp : ∀ (w' : World) (hs : Hp), Sat w [] hs w' → Is Try.prog 41 [.pointer (some ⟨b, 0, none⟩), .int .u64 id] w' (plcV (plc id bs ss)) := fun w' hs s => place_ok w' b cap meet high seq id A1 A2 c1 c2 bs ss (hb.keep0 s) (h1.keep0 s) (h2.keep0 s) hb1 hb2
  rcases idx_spec id bs with ⟨e1, n1⟩ | ⟨i, hi, e1, hid, hb'⟩
  · rcases idx_spec id ss with ⟨e2, n2⟩ | ⟨i, hi, e2, hid, hb'⟩
    · have ep : plc id bs ss = (0, 0, false) := by unfold plc; rw [e1, e2]; rfl
      have ef : fnd id bs ss = none := by unfold fnd; rw [e1, e2]; rfl
      rw [ep] at hp
      rw [ef]
      refine .seq ((.region (.v (.move rfl) (.v (.move rfl) (.pc (v := plcV (0, 0, false)) rfl rfl (fun w s => hp w _ s) ?_)))))
      refine .v (.move rfl) (.v (.extract rfl rfl) (.v (.extract rfl rfl) (.v (.extract rfl rfl) (.v (.assign rfl) (.v (.assign rfl) (.v (.assign rfl) (.nil ?_)))))))
      refine .seq (.seq ((.region (.v (.move rfl) (.v (.not rfl) (.nil ?_))))))
      refine .cond rfl (fun _ => ?_) (fun h => absurd h (by simp))
      refine .seq ((.region (.v (.build (out := ord0.cells) rfl rfl) (.st (.sw rfl rfl) (.v (.assign rfl) (.v (.assign rfl) (.nil ?_)))))))
      exact .ret ⟨[_, _, _], ⟨⟨_, rfl, .inr ⟨7, _, inferInstance, rfl, rfl, .whole⟩⟩, rfl, rfl, trivial⟩, rfl⟩
    · have ep : plc id bs ss = (2, (i : Int), true) := by unfold plc; rw [e1, e2, if_neg (by omega), if_pos (by omega)]
      have ef : fnd id bs ss = some (2, ss[i]) := by unfold fnd; rw [e1, e2, if_neg (by omega), if_pos (by omega), Int.toNat_natCast, List.getElem?_eq_getElem hi]; rfl
      rw [ep] at hp
      rw [ef]
      obtain ⟨b', o', rfl, -, hc⟩ := Rd.ord h2 (by omega)
      have hc := hc i hi
      generalize ss[i] = o at *
      refine .seq ((.region (.v (.move rfl) (.v (.move rfl) (.pc (v := .tuple ⟨[.int .i64 2, .int .i64 i, .bool true]⟩) rfl rfl (fun w s => hp w _ s) ?_)))))
      refine .v (.move rfl) (.v (.extract rfl rfl) (.v (.extract rfl rfl) (.v (.extract rfl rfl) (.v (.assign rfl) (.v (.assign rfl) (.v (.assign rfl) (.nil ?_)))))))
      refine .seq (.seq ((.region (.v (.move rfl) (.v (.not rfl) (.nil ?_))))))
      refine .cond rfl (fun h => absurd h (by simp)) (fun _ => .skip ?_)
      refine .seq ((.region (.v (.move rfl) (.v (.move rfl) (.pc (v := .pointer (some ⟨b, 3, none⟩)) rfl rfl (fun w s => side_ok w b 2) ?_)))))
      refine .v (.nilCheck rfl) (.v (.load (v := .slice (some ⟨b', o', none⟩) ss.length c2) rfl (hb.cell (i := 3) rfl)) (.v (.move rfl) (.v (.indexAddr rfl rfl (by omega) (by omega)) (.v (.loadA (vs := o.cells) rfl (.old (fun j v hv => by rw [add_none, Int.toNat_natCast]; exact hc j v (List.getElem?_eq_some_iff.1 hv).1 hv) (by simp [bl])) rfl) (.v (.move rfl) (.st (.sw rfl rfl) (.v (.assign rfl) (.v (.assign rfl) (.nil ?_)))))))))
      exact .ret ⟨[_, _, _], ⟨⟨_, rfl, .inr ⟨7, _, inferInstance, rfl, rfl, .whole⟩⟩, rfl, rfl, trivial⟩, rfl⟩
  · have ep : plc id bs ss = (1, (i : Int), true) := by unfold plc; rw [e1, if_pos (by omega)]
    have ef : fnd id bs ss = some (1, bs[i]) := by unfold fnd; rw [e1, if_pos (by omega), Int.toNat_natCast, List.getElem?_eq_getElem hi]; rfl
    rw [ep] at hp
    rw [ef]
    obtain ⟨b', o', rfl, -, hc⟩ := Rd.ord h1 (by omega)
    have hc := hc i hi
    generalize bs[i] = o at *
    refine .seq ((.region (.v (.move rfl) (.v (.move rfl) (.pc (v := .tuple ⟨[.int .i64 1, .int .i64 i, .bool true]⟩) rfl rfl (fun w s => hp w _ s) ?_)))))
    refine .v (.move rfl) (.v (.extract rfl rfl) (.v (.extract rfl rfl) (.v (.extract rfl rfl) (.v (.assign rfl) (.v (.assign rfl) (.v (.assign rfl) (.nil ?_)))))))
    refine .seq (.seq ((.region (.v (.move rfl) (.v (.not rfl) (.nil ?_))))))
    refine .cond rfl (fun h => absurd h (by simp)) (fun _ => .skip ?_)
    refine .seq ((.region (.v (.move rfl) (.v (.move rfl) (.pc (v := .pointer (some ⟨b, 2, none⟩)) rfl rfl (fun w s => side_ok w b 1) ?_)))))
    refine .v (.nilCheck rfl) (.v (.load (v := .slice (some ⟨b', o', none⟩) bs.length c1) rfl (hb.cell (i := 2) rfl)) (.v (.move rfl) (.v (.indexAddr rfl rfl (by omega) (by omega)) (.v (.loadA (vs := o.cells) rfl (.old (fun j v hv => by rw [add_none, Int.toNat_natCast]; exact hc j v (List.getElem?_eq_some_iff.1 hv).1 hv) (by simp [bl])) rfl) (.v (.move rfl) (.st (.sw rfl rfl) (.v (.assign rfl) (.v (.assign rfl) (.nil ?_)))))))))
    exact .ret ⟨[_, _, _], ⟨⟨_, rfl, .inr ⟨7, _, inferInstance, rfl, rfl, .whole⟩⟩, rfl, rfl, trivial⟩, rfl⟩
set_option maxRecDepth 10000 in
theorem Load_ok (w : World) (b : Nat) (u0 u1 u2 u3 u4 u5 : Value) (cap meet high seq : Int) (A1 A2 : Option Addr) (c1 c2 : Nat) (bs ss : List Ord)
    (h1 : Rd w [b] A1 (rows bs)) (h2 : Rd w [b] A2 (rows ss)) (hw : ∀ o ∈ bs ++ ss, o.wf) (hb1 : bs.length ≤ 2513169434843) (hb2 : ss.length ≤ 2513169434843) (hv : vld cap meet high bs ss = 0) :
    Does Try.prog 26 [.pointer (some ⟨b, 0, none⟩), .agg ⟨bcells cap meet (.slice A1 bs.length c1) (.slice A2 ss.length c2) high seq⟩] [Tb b [u0, u1, u2, u3, u4, u5]] w
      (fun v hs => v = .int .i64 0 ∧ ∃ v1 v2 k1 k2, hs = Tb b (Bc ⟨cap, meet, bs, ss, high, seq⟩ v1 v2) :: (k1 ++ k2) ∧ Side v1 bs k1 ∧ Side v2 ss k2) := by
  refine Does.less (Does.of (n := 25) Try.func26 rfl rfl rfl rfl ?_)
  refine .seq ((.region (.nw (.box rfl rfl) fun b3 => (.v (.assign rfl) (.nil ?_)))))
  refine .seq ((.region (.v (.loadA (vs := bcells cap meet (.slice A1 bs.length c1) (.slice A2 ss.length c2) high seq) rfl .whole rfl) (.pc rfl rfl (fun w s => Valid_ok w cap meet high seq A1 A2 c1 c2 bs ss (h1.keep0 s) (h2.keep0 s) hw hb1 hb2) ?_))))
  rw [hv]
  refine .v (.assign rfl) (.nil ?_)
  refine .seq (.seq ((.region (.v (.move rfl) (.v (.nei rfl rfl) (.nil ?_))))))
  refine .cond_dec rfl (fun h => absurd rfl h) (fun _ => .skip ?_)
  refine .seq ((.region (.v (.move rfl) (.v (.loadA (vs := bcells cap meet (.slice A1 bs.length c1) (.slice A2 ss.length c2) high seq) rfl .whole rfl) ?_))))
  refine .ef (.call0 rfl rfl fun w s => copied_ok w cap meet high seq A1 A2 c1 c2 bs ss (h1.keep0 s) (h2.keep0 s) hb1 hb2) ?_
  rintro _ _ ⟨_, ⟨E1, E2, d1, d2, q1, q2, rfl, rfl, oe1, oe2⟩, rfl⟩
  refine .v (.nilCheck rfl) (.v (.fieldAddr rfl) (.st (.sw rfl rfl) (.nil ?_)))
  refine .seq ((.region (.v (.assign rfl) (.nil ?_))))
  exact .ret ⟨[_], ⟨rfl, trivial⟩, Tb b (Bc ⟨cap, meet, bs, ss, high, seq⟩ (.slice E1 bs.length d1) (.slice E2 ss.length d2)) :: (q1 ++ q2), fun _ s => Sat.take (pre := (b, Ch.cells (bcells cap meet (.slice E1 bs.length d1) (.slice E2 ss.length d2) high seq) 67) :: (q1 ++ q2)) s, rfl, _, _, q1, q2, rfl, oe1, oe2⟩
end Go.Proofs.Ytmfobfamdaajmaa

/- Plain: the kinds of orders; what a refusal changes. -/
namespace Go.Proofs.Ytmfobfamdaajmaa
open Go.V
set_option linter.unusedVariables false
set_option linter.unusedSimpArgs false

theorem fnd_none {id : Int} {bs ss : List Ord} (h : id ∉ ids (bs ++ ss)) : fnd id bs ss = none := by
  have hm : ∀ o ∈ bs ++ ss, o.id ≠ id := fun o ho e => h (List.mem_map.2 ⟨o, ho, e⟩)
  unfold fnd
  rw [idx_no (fun m hm' => hm _ (by simp)), idx_no (fun m hm' => hm _ (by simp))]
  rfl
theorem fnd_some {id : Int} {bs ss : List Ord} (h : id ∈ ids (bs ++ ss)) : ∃ p, fnd id bs ss = some p ∧ p.2 ∈ bs ++ ss ∧ p.2.id = id := by
  rcases idx_spec id bs with ⟨e1, n1⟩ | ⟨i, hi, e1, hid, _⟩
  · rcases idx_spec id ss with ⟨e2, n2⟩ | ⟨i, hi, e2, hid, _⟩
    · obtain ⟨o, ho, e⟩ := List.mem_map.1 h
      rcases List.mem_append.1 ho with ho | ho
      · obtain ⟨m, hm, rfl⟩ := List.mem_iff_getElem.1 ho; exact absurd e (n1 m hm)
      · obtain ⟨m, hm, rfl⟩ := List.mem_iff_getElem.1 ho; exact absurd e (n2 m hm)
    · exact ⟨(2, ss[i]), by unfold fnd; rw [e1, e2, if_neg (by omega), if_pos (by omega), Int.toNat_natCast, List.getElem?_eq_getElem hi]; rfl, by simp, hid⟩
  · exact ⟨(1, bs[i]), by unfold fnd; rw [e1, if_pos (by omega), Int.toNat_natCast, List.getElem?_eq_getElem hi]; rfl, by simp, hid⟩
theorem tsum_cons {e : Ev} (l : List Ev) (h : e.kind ≠ 3) : tsum (e :: l) = tsum l := by simp [tsum, h]
theorem tsum_two (l : List Ev) (a b : Ev) : tsum (l ++ [a, b]) = if b.kind = 3 then IntKind.u64.wrap (tsum (l ++ [a]) + b.q) else tsum (l ++ [a]) := by
  rw [show l ++ [a, b] = (l ++ [a]) ++ [b] from by simp, tsum_snoc]
theorem tsum_nil : tsum [] = 0 := rfl
/-- trading with events told before -/
def TS.pre (p : List Ev) (s : TS) : TS := ⟨s.L, s.left, s.seq, p ++ s.evs⟩
theorem step_pre (meet : Int) (t : Tk) (p : List Ev) (s : TS) : (s.pre p).step meet t = (s.step meet t).map (TS.pre p) := by
  obtain ⟨L, left, seq, evs⟩ := s
  cases L with
  | nil => rfl
  | cons f rest =>
    have hst : ∀ evs : List Ev, TS.step meet t ⟨f :: rest, left, seq, evs⟩ = if 0 < left ∧ reach t.side t.kind t.o.pr f.pr = true then some (if f.mb = t.o.mb ∧ t.o.mb ≠ 0 ∧ meet ≠ 0 then TS.meets meet t f rest ⟨f :: rest, left, seq, evs⟩ else TS.hit t f rest ⟨f :: rest, left, seq, evs⟩) else none := fun _ => rfl
    show TS.step meet t ⟨f :: rest, left, seq, p ++ evs⟩ = _
    rw [hst, hst]
    by_cases hc : 0 < left ∧ reach t.side t.kind t.o.pr f.pr = true
    · rw [if_pos hc, if_pos hc, Option.map_some]
      congr 1
      by_cases hm : f.mb = t.o.mb ∧ t.o.mb ≠ 0 ∧ meet ≠ 0
      · rw [if_pos hm, if_pos hm]
        simp only [TS.meets]
        by_cases m1 : meet = 1 <;> by_cases m2 : meet = 2 <;> simp [TS.tell, TS.pre, m1, m2]
      · rw [if_neg hm, if_neg hm]
        simp only [TS.hit]
        by_cases c1 : min left f.v < f.v <;> by_cases c2 : 0 < f.hd <;> simp [TS.tell, TS.pre, c1, c2]
    · rw [if_neg hc, if_neg hc]; rfl
theorem TRun.pre {meet : Int} {t : Tk} {s z : TS} (p : List Ev) (h : TRun meet t s z) : TRun meet t (s.pre p) (z.pre p) := by
  induction h with
  | stop hs => exact .stop (by rw [step_pre, hs]; rfl)
  | step hs _ ih => exact .step (by rw [step_pre, hs]; rfl) ih
theorem pre_ok {s : TS} (p : List Ev) (h : s.Ok) : (s.pre p).Ok := ⟨h.good, h.lo, h.hi⟩
theorem tr_pre {meet : Int} {t : Tk} {s : TS} (p : List Ev) (h : s.Ok) : tr meet t (s.pre p) = (tr meet t s).pre p := ((tr_run h).pre p).eq (pre_ok p h) |>.symm
/-- a taker's kind: Market or another -/
theorem step_kind (meet : Int) {t1 t2 : Tk} (s : TS) (h1 : t1.o.id = t2.o.id) (h2 : t1.o.mb = t2.o.mb) (h3 : t1.o.pr = t2.o.pr) (h4 : t1.side = t2.side) (h5 : t1.kind = 2 ↔ t2.kind = 2) : s.step meet t1 = s.step meet t2 := by
  have hr : ∀ p, reach t1.side t1.kind t1.o.pr p = reach t2.side t2.kind t2.o.pr p := fun p => by unfold reach; rw [h4, h3, decide_eq_decide.2 h5]
  obtain ⟨L, left, seq, evs⟩ := s
  cases L with
  | nil => rfl
  | cons f rest =>
    have hst : ∀ t : Tk, TS.step meet t ⟨f :: rest, left, seq, evs⟩ = if 0 < left ∧ reach t.side t.kind t.o.pr f.pr = true then some (if f.mb = t.o.mb ∧ t.o.mb ≠ 0 ∧ meet ≠ 0 then TS.meets meet t f rest ⟨f :: rest, left, seq, evs⟩ else TS.hit t f rest ⟨f :: rest, left, seq, evs⟩) else none := fun _ => rfl
    rw [hst, hst]
    rw [hr f.pr]
    simp only [TS.meets, TS.hit, h1, h2, h4]
theorem TRun.kind {meet : Int} {t1 t2 : Tk} {s z : TS} (h : TRun meet t1 s z) (h1 : t1.o.id = t2.o.id) (h2 : t1.o.mb = t2.o.mb) (h3 : t1.o.pr = t2.o.pr) (h4 : t1.side = t2.side) (h5 : t1.kind = 2 ↔ t2.kind = 2) : TRun meet t2 s z := by
  induction h with
  | stop hs => exact .stop (by rw [← step_kind meet _ h1 h2 h3 h4 h5]; exact hs)
  | step hs _ ih => exact .step (by rw [← step_kind meet _ h1 h2 h3 h4 h5]; exact hs) ih
/-- what is left and what was traded, together -/
theorem step_sum {meet : Int} {t : Tk} {s s' : TS} (h : s.Ok) (hs : s.step meet t = some s') (h0 : 0 ≤ tsum s.evs) (h1 : s.left + tsum s.evs ≤ 4294967295) :
    0 ≤ tsum s'.evs ∧ s'.left + tsum s'.evs ≤ s.left + tsum s.evs := by
  obtain ⟨L, left, seq, evs⟩ := s
  obtain ⟨hg, hlo, hhi⟩ := h
  unfold TS.step at hs
  simp only at hs hg hlo hhi h0 h1
  cases L with
  | nil => cases hs
  | cons f rest =>
    simp only at hs
    split at hs
    · rename_i hc
      have hfG := hg f (by simp)
      have hv : 1 ≤ f.v := hfG.1
      have hw : IntKind.u64.wrap (tsum evs + min left f.v) = tsum evs + min left f.v := wrap_u64_in (by omega)
      simp only [Option.some.injEq] at hs
      subst hs
      split
      · simp only [TS.meets]
        by_cases m1 : meet = 1
        · rw [if_pos m1, if_neg (show ¬ meet = 2 by omega)]
          simp [TS.tell, tsum_snoc, evCancel, Ev.num]; omega
        · rw [if_neg m1]
          by_cases m2 : meet = 2
          · rw [if_pos m2]; simp [TS.tell, tsum_snoc, evCancel, Ev.num]; omega
          · rw [if_neg m2]
            simp [TS.tell, tsum_two, tsum_snoc, evCancel, Ev.num]; omega
      · simp only [TS.hit]
        split
        · simp [TS.tell, tsum_snoc, evTrade, Ev.num, hw]; omega
        · split
          · have e : ∀ (x y : Ev), tsum (evs ++ [x, y]) = tsum ((evs ++ [x]) ++ [y]) := fun x y => by simp
            simp [TS.tell, tsum_two, tsum_snoc, evTrade, evRefresh, Ev.num, hw]; omega
          · simp [TS.tell, tsum_snoc, evTrade, Ev.num, hw]; omega
    · cases hs
theorem TRun.sum {meet : Int} {t : Tk} {s z : TS} (hr : TRun meet t s z) (h : s.Ok) (h0 : 0 ≤ tsum s.evs) (h1 : s.left + tsum s.evs ≤ 4294967295) : 0 ≤ tsum z.evs ∧ z.left + tsum z.evs ≤ s.left + tsum s.evs := by
  induction hr with
  | stop _ => exact ⟨h0, Int.le_refl _⟩
  | step hs _ ih =>
    obtain ⟨a1, a2⟩ := step_sum h hs h0 h1
    obtain ⟨b1, b2⟩ := ih (h.step hs).1 a1 (by omega)
    exact ⟨b1, by omega⟩
/-- the order of a New -/
def newTk (c : Cm) : Tk := ⟨⟨c.id, c.mb, c.ty, c.pr, 0, 0, c.pk⟩, c.sd, c.ty, c.q⟩
theorem cmg_new {c : Cm} (tg : Option Ord) (side : Int) (h : c.k = 1) : cmg c tg side = newTk c := by
  unfold cmg
  cases tg with
  | none => rfl
  | some o => simp only; rw [if_neg (by omega)]; rfl
theorem does_new {B : Bk} {c : Cm} (h0 : B.why c = 0) (h1 : c.k = 1) : B.does c = Bk.comes ((B.num (nx B.seq)).top c.id) [(evAck (newTk c)).num (nx B.seq)] (newTk c) := by
  have hg : B.goes c = B := by unfold Bk.goes; rw [if_neg (by omega)]
  have hn : B.gone c = [] := by unfold Bk.gone; rw [if_neg (by omega)]
  unfold Bk.does
  rw [if_neg (by omega), if_pos (by omega), cmg_new _ _ h1, hg, hn]
  rfl
theorem does_no {B : Bk} {c : Cm} (h0 : B.why c ≠ 0) : B.does c = (B.num (nx B.seq), [(evReject (if c.k = 2 then 0 else c.id) (if c.k = 1 then 0 else c.tg) (B.why c)).num (nx B.seq)]) := by
  unfold Bk.does; rw [if_pos h0]
/-- the first event: no refusal -/
theorem does_head {B : Bk} {c : Cm} (h : B.Vl) (hw : c.wf) (h0 : B.why c = 0) : ∃ e l, (B.does c).2 = e :: l ∧ e.kind ≠ 2 := by
  obtain ⟨z1, z2, z3, z4, z5⟩ := rfs_zero h0
  have hk := chk_kinds (c := c) (by rw [z2]; decide)
  have hgone : c.k ≠ 1 → ∃ e, B.gone c = [e] ∧ e.kind = 4 := fun h1 => by
    unfold Bk.gone
    rw [if_pos h1]
    cases ht : B.tgt c with
    | none => exact absurd ht (z1 h1)
    | some o => exact ⟨_, rfl, rfl⟩
  unfold Bk.does
  rw [if_neg (by omega)]
  by_cases h2 : c.k ≠ 2
  · rw [if_pos h2]
    obtain ⟨hV, hlt⟩ := cmg_V h hw h0 h2
    have hgv := goes_vl (c := c) h z1
    have hgc := goes_cap B c
    generalize cmg c (B.tgt c) (B.at_ c).1 = t at *
    obtain ⟨l, a1, _⟩ := comes_evs (B := ((B.goes c).num (nx (B.goes c).seq)).top t.o.id) (evs := B.gone c ++ [(evAck t).num (nx (B.goes c).seq)]) (t := t) (ts_ok' (top_vl (num_vl _ hgv) (by show (B.goes c).high ≤ _; rw [hgc.2.2]; omega)) hV)
    rw [a1]
    by_cases h1 : c.k = 1
    · have hn : B.gone c = [] := by unfold Bk.gone; rw [if_neg (by omega)]
      rw [hn]
      exact ⟨_, _, rfl, by show (1 : Int) ≠ 2; decide⟩
    · obtain ⟨e, he, hke⟩ := hgone h1
      rw [he]
      exact ⟨e, _, rfl, by omega⟩
  · rw [if_neg h2]
    obtain ⟨e, he, hke⟩ := hgone (by omega)
    exact ⟨e, [], he, by omega⟩
/-- what a kind of order may do -/
structure KindOk (ty q id : Int) (B' : Bk) (evs : List Ev) : Prop where
  goes : ty = 2 ∨ ty = 3 ∨ ty = 4 → fnd id B'.bs B'.ss = none
  fok : ty = 4 → tsum evs = 0 ∨ tsum evs = q
  post : ty = 5 → (fnd id B'.bs B'.ss).isSome = true ∧ tsum evs = 0
theorem put_ids {B : Bk} {s : Int} {o : Ord} (hs : s = 1 ∨ s = 2) : o.id ∈ ids ((B.put s (rst s o (B.side s))).bs ++ (B.put s (rst s o (B.side s))).ss) := by
  refine List.mem_map.2 ⟨o, ?_, rfl⟩
  have := (rst_perm s o (B.side s)).mem_iff (a := o)
  rcases hs with rfl | rfl
  · exact List.mem_append_left _ (this.2 (by simp))
  · exact List.mem_append_right _ (this.2 (by simp))
theorem does_kind {B : Bk} {c : Cm} (h : B.Vl) (hw : c.wf) (h0 : B.why c = 0) (h1 : c.k = 1) : KindOk c.ty c.q c.id (B.does c).1 (B.does c).2 := by
  obtain ⟨z1, z2, z3, z4, z5⟩ := rfs_zero h0
  obtain ⟨s1, s2, s3, s4, s5, s6, s7, s8⟩ := chk_sized z2 (by omega) hw
  obtain ⟨hV, hlt⟩ := cmg_V h hw h0 (by omega)
  have hg : B.goes c = B := by unfold Bk.goes; rw [if_neg (by omega)]
  rw [hg, cmg_new _ _ h1] at hV
  rw [cmg_new _ _ h1] at hlt
  rw [does_new h0 h1]
  have hB0 : ((B.num (nx B.seq)).top c.id).Vl := top_vl (num_vl _ h) (Int.le_of_lt hlt)
  have hV : (newTk c).V ((B.num (nx B.seq)).top c.id) := hV
  generalize (B.num (nx B.seq)).top c.id = B0 at *
  have hack : ((evAck (newTk c)).num (nx B.seq)).kind ≠ 3 := by show (1 : Int) ≠ 3; decide
  generalize (evAck (newTk c)).num (nx B.seq) = ack at *
  have hOk := ts_ok' (evs := [ack]) hB0 hV
  have hOk0 := ts_ok' (evs := []) hB0 hV
  have hpre : B0.ts [ack] (newTk c) = (B0.ts [] (newTk c)).pre [ack] := rfl
  have hrun0 := tr_run (meet := B0.meet) (t := newTk c) hOk0
  have hrun := hrun0.pre [ack]
  have htr : tr B0.meet (newTk c) (B0.ts [ack] (newTk c)) = (tr B0.meet (newTk c) (B0.ts [] (newTk c))).pre [ack] := tr_pre [ack] hOk0
  obtain ⟨y1, y2⟩ := hrun0.sum hOk0 (by show 0 ≤ tsum []; decide) (by show c.q + tsum [] ≤ _; rw [tsum_nil]; omega)
  have hfresh : c.id ∉ ids (B0.bs ++ B0.ss) := fun hm => by have := hV.fresh _ hm; exact absurd this (Int.lt_irrefl _)
  obtain ⟨zok, zlen, _, zl⟩ := hrun.ok (pre_ok _ hOk0)
  have hstop : c.ty = 5 → tr B0.meet (newTk c) (B0.ts [] (newTk c)) = B0.ts [] (newTk c) := fun h5 => by
    have hp := hV.post h5
    refine (TRun.det (TRun.stop ?_) hrun0).symm
    unfold TS.step Bk.ts
    simp only
    cases hL : B0.side (3 - (newTk c).side) with
    | nil => rfl
    | cons f L =>
      rw [hL] at hp
      have hp : reach (newTk c).side (newTk c).kind (newTk c).o.pr f.pr = false := hp
      simp only [hp]; simp
  unfold Bk.comes
  rw [htr]
  obtain ⟨v1, v2, v3, v4, v5⟩ := traded_vl hB0 hV.sd hrun zlen
  generalize tr B0.meet (newTk c) (B0.ts [] (newTk c)) = z at *
  have hk : (newTk c).kind = c.ty := rfl
  have hq : (newTk c).left = c.q := rfl
  have hts : tsum (z.pre [ack]).evs = tsum z.evs := tsum_cons z.evs hack
  have hfr2 : c.id ∉ ids ((B0.traded (newTk c) (z.pre [ack])).bs ++ (B0.traded (newTk c) (z.pre [ack])).ss) := fun hm => hfresh (v2 hm)
  have hzl : (z.pre [ack]).left = z.left := rfl
  split
  · rename_i hc
    refine ⟨fun _ => fnd_none hfresh, fun _ => .inl ?_, fun h5 => by omega⟩
    rw [List.singleton_append, tsum_cons _ hack]
    rfl
  · rename_i hc
    simp only
    split
    · rename_i hl
      refine ⟨fun _ => fnd_none hfr2, fun h4 => .inr ?_, fun h5 => ?_⟩
      · have : tsum z.evs = c.q := Decidable.of_not_not fun e => hc ⟨h4, e⟩
        show tsum (z.pre [ack]).evs = c.q
        rw [hts]; exact this
      · rw [hstop h5] at hl
        have : (newTk c).left = 0 := hl
        omega
    · rename_i hl
      split
      · rename_i hkk
        refine ⟨fun _ => fnd_none hfr2, fun h4 => .inr ?_, fun h5 => by omega⟩
        have : tsum z.evs = c.q := Decidable.of_not_not fun e => hc ⟨h4, e⟩
        rw [tsum_snoc, if_neg (by show ¬ (4 : Int) = 3; decide)]
        show tsum (z.pre [ack]).evs = c.q
        rw [hts]; exact this
      · rename_i hkk
        refine ⟨fun h234 => by omega, fun h4 => by omega, fun h5 => ⟨?_, ?_⟩⟩
        · have := put_ids (B := B0.traded (newTk c) (z.pre [ack])) (s := (newTk c).side) (o := restOf (newTk c).o (z.pre [ack]).left) hV.sd
          obtain ⟨p, hp, _⟩ := fnd_some this
          have e : (restOf (newTk c).o (z.pre [ack]).left).id = c.id := rfl
          rw [e] at hp
          show (fnd c.id _ _).isSome = true
          rw [hp]; rfl
        · show tsum (z.pre [ack]).evs = 0
          rw [hts, hstop h5]; rfl
end Go.Proofs.Ytmfobfamdaajmaa

/- Plain: price and time. -/
namespace Go.Proofs.Ytmfobfamdaajmaa
open Go.V
set_option linter.unusedVariables false
set_option linter.unusedSimpArgs false

/-- a refresh is told next -/
def Nx5 (es : List Ev) : Prop := ∃ e' es', es = e' :: es' ∧ e'.kind = 5
/-- what is told behind an acknowledgement 'a', a side being 'L' -/
inductive Pv (a : Ev) : Int → List Ord → List Ev → Prop
  | nil {left : Int} {L : List Ord} : Pv a left L []
  | trade {left : Int} {f : Ord} {rest : List Ord} {e : Ev} {es : List Ev} (hk : e.kind = 3) (h1 : e.id = a.id) (h2 : e.other = f.id) (h3 : e.pr = f.pr) (h4 : e.sd = a.sd)
      (h5 : a.ty = 2 ∨ (a.sd = 1 → e.pr ≤ a.pr) ∧ (a.sd = 2 → a.pr ≤ e.pr)) (h6 : e.q = min left f.v) (h7 : f.v - e.q = 0 → f.hd ≠ 0 → Nx5 es) (h8 : 0 ≤ e.q ∧ 0 ≤ f.v ∧ f.v ≤ 4294967295 ∧ left ≤ 4294967295)
      (hn : Pv a (left - e.q) (if f.v - e.q = 0 ∧ f.hd = 0 then rest else f.less e.q :: rest) es) : Pv a left (f :: rest) (e :: es)
  | refresh {left : Int} {f : Ord} {rest : List Ord} {e : Ev} {es : List Ev} (hk : e.kind = 5) (h1 : f.id = e.id) (h2 : f.v = 0) (h3 : f.hd ≠ 0) (h4 : e.pr = f.pr) (h5 : e.q = f.next.v) (h6 : 0 ≤ f.pk ∧ 0 ≤ f.hd ∧ f.hd ≤ 4294967295)
      (hn : Pv a left (ins (3 - a.sd) f.next rest) es) : Pv a left (f :: rest) (e :: es)
  | meet {left : Int} {f : Ord} {rest : List Ord} {e : Ev} {es : List Ev} (hk : e.kind = 4) (h1 : e.reason = 5) (h2 : e.id ≠ a.id) (h3 : f.id = e.id) (h4 : f.mb ≠ 0) (h5 : f.mb = a.mb) (h6 : e.q = f.v + f.hd) (h7 : 0 ≤ f.v + f.hd ∧ f.v + f.hd ≤ 4294967295)
      (hn : Pv a left rest es) : Pv a left (f :: rest) (e :: es)
  | can {left : Int} {L : List Ord} {e : Ev} {es : List Ev} (hk : e.kind = 4) (h1 : e.reason ≠ 5 ∨ e.id = a.id) (hn : Pv a left L es) : Pv a left L (e :: es)
/-- what is told, of a book that was -/
inductive Pe (B : Bk) : List Ev → Prop
  | nil : Pe B []
  | skip {e : Ev} {es : List Ev} (hk : e.kind = 2) (hn : Pe B es) : Pe B (e :: es)
  | can {e : Ev} {es : List Ev} (hk : e.kind = 4) (h1 : e.reason ≠ 5) (hn : Pe B es) : Pe B (e :: es)
  | ack {e : Ev} {es : List Ev} (hk : e.kind = 1) (hs : e.sd = 1 ∨ e.sd = 2) (hn : Pv e e.q (if e.sd = 2 then B.bs else B.ss) es) : Pe B (e :: es)
/-- the acknowledgement of an order -/
structure AckOf (a : Ev) (t : Tk) : Prop where
  id : a.id = t.o.id
  sd : a.sd = t.side
  ty : a.ty = t.kind
  pr : a.pr = t.o.pr
  mb : a.mb = t.o.mb
theorem step_stop {meet : Int} {t : Tk} {s : TS} (h : s.left = 0) : s.step meet t = none := by
  obtain ⟨L, left, seq, evs⟩ := s
  have h : left = 0 := h
  subst h
  cases L with
  | nil => rfl
  | cons f rest => simp [TS.step]
theorem TRun.stopped {meet : Int} {t : Tk} {s z : TS} (hr : TRun meet t s z) (h : s.left = 0) : z = s := (TRun.stop (step_stop h)).det hr |>.symm
theorem TRun.pv {meet : Int} {t : Tk} {a : Ev} {s z : TS} (hr : TRun meet t s z) (ha : AckOf a t) (h : s.Ok) (hl : s.left ≤ 4294967295) (hs : t.side = 1 ∨ t.side = 2) (hsd : Sd (3 - t.side) s.L) (hid : t.o.id ∉ ids s.L) (es : List Ev) (hes : ∀ lf L, Pv a lf L es) :
    ∃ l, z.evs = s.evs ++ l ∧ Pv a s.left s.L (l ++ es) := by
  induction hr with
  | stop _ => exact ⟨[], by simp, hes _ _⟩
  | @step s s' z hs1 hr' ih =>
    have hk := step_keeps hs1 hsd
    have hok' := h.step hs1
    have hid' : t.o.id ∉ ids s'.L := fun hm => hid (ids_mem hk.ids _ hm)
    have ih := ih hok'.1 (Int.le_trans hok'.2.2.2.2 hl) hk.sd hid'
    obtain ⟨L, left, seq, evs⟩ := s
    obtain ⟨hg, hlo, hhi⟩ := h
    have hs := hs
    unfold TS.step at hs1
    simp only at hs1 hg hlo hhi hid hsd hl ⊢
    cases L with
    | nil => cases hs1
    | cons f rest =>
      simp only at hs1
      have hfG := hg f (by simp)
      have hne : f.id ≠ t.o.id := fun e => hid (List.mem_cons.2 (.inl e.symm))
      split at hs1
      · rename_i hc
        have hl0 := hc.1
        simp only [Option.some.injEq] at hs1
        unfold Ord.G at hfG
        split at hs1
        · rename_i hm
          simp only [TS.meets] at hs1
          by_cases m1 : meet = 1
          · rw [if_pos m1, if_neg (show ¬ meet = 2 by omega)] at hs1
            subst hs1
            obtain rfl := hr'.stopped rfl
            exact ⟨_, rfl, .can rfl (.inr ha.id.symm) (hes _ _)⟩
          · rw [if_neg m1] at hs1
            by_cases m2 : meet = 2
            · rw [if_pos m2] at hs1
              subst hs1
              obtain ⟨l, e1, e2⟩ := ih
              refine ⟨(evCancel f.id (f.v + f.hd) 5).num (nx seq) :: l, by rw [e1]; simp [TS.tell], ?_⟩
              exact .meet rfl rfl (by rw [ha.id]; exact hne) rfl (by rw [hm.1]; exact hm.2.1) (by rw [ha.mb]; exact hm.1) rfl (by omega) e2
            · rw [if_neg m2] at hs1
              subst hs1
              obtain rfl := hr'.stopped rfl
              refine ⟨_, List.append_assoc _ _ _, ?_⟩
              exact .meet rfl rfl (by rw [ha.id]; exact hne) rfl (by rw [hm.1]; exact hm.2.1) (by rw [ha.mb]; exact hm.1) rfl (by omega) (.can rfl (.inr ha.id.symm) (hes _ _))
        · simp only [TS.hit] at hs1
          have hq : 0 < min left f.v := by omega
          have h5 : a.ty = 2 ∨ (a.sd = 1 → f.pr ≤ a.pr) ∧ (a.sd = 2 → a.pr ≤ f.pr) := by
            have hr := hc.2
            unfold reach bet at hr
            rw [ha.ty, ha.sd, ha.pr]
            by_cases e : t.kind = 2
            · exact .inl e
            · refine .inr ⟨fun e1 => ?_, fun e1 => ?_⟩
              · simp [e, e1] at hr; exact hr
              · simp [e, e1] at hr; exact hr
          by_cases c1 : 0 < f.v - min left f.v
          · rw [if_pos c1] at hs1
            subst hs1
            obtain ⟨l, e1, e2⟩ := ih
            refine ⟨(evTrade t.o.id f.id t.side f.pr (min left f.v)).num (nx seq) :: l, by rw [e1]; simp [TS.tell], ?_⟩
            refine .trade rfl ha.id.symm rfl rfl ha.sd.symm h5 rfl (fun e => by have e : f.v - min left f.v = 0 := e; omega) (by show 0 ≤ min left f.v ∧ _; omega) ?_
            rw [if_neg (fun e => by have e : f.v - min left f.v = 0 := e.1; omega)]
            exact e2
          · rw [if_neg c1] at hs1
            have hv0 : f.v - min left f.v = 0 := by omega
            by_cases c2 : 0 < f.hd
            · rw [if_pos c2] at hs1
              subst hs1
              obtain ⟨l, e1, e2⟩ := ih
              refine ⟨(evTrade t.o.id f.id t.side f.pr (min left f.v)).num (nx seq) :: (evRefresh f.id f.pr f.next.v).num (nx (nx seq)) :: l, by rw [e1]; simp [TS.tell], ?_⟩
              refine .trade rfl ha.id.symm rfl rfl ha.sd.symm h5 rfl (fun _ _ => ⟨_, _, rfl, rfl⟩) (by show 0 ≤ min left f.v ∧ _; omega) ?_
              rw [if_neg (fun e => by have := e.2; omega)]
              refine .refresh rfl rfl hv0 (by show f.hd ≠ 0; omega) rfl rfl (by show 0 ≤ f.pk ∧ 0 ≤ f.hd ∧ f.hd ≤ _; omega) ?_
              rw [ha.sd]
              show Pv a (left - min left f.v) (ins (3 - t.side) f.next rest) _
              rw [← rst_ins (List.Pairwise.of_cons hsd)]
              exact e2
            · rw [if_neg c2] at hs1
              subst hs1
              obtain ⟨l, e1, e2⟩ := ih
              refine ⟨(evTrade t.o.id f.id t.side f.pr (min left f.v)).num (nx seq) :: l, by rw [e1]; simp [TS.tell], ?_⟩
              refine .trade rfl ha.id.symm rfl rfl ha.sd.symm h5 rfl (fun _ e => by omega) (by show 0 ≤ min left f.v ∧ _; omega) ?_
              rw [if_pos ⟨hv0, by omega⟩]
              exact e2
      · cases hs1
theorem comes_pv {B : Bk} {evs : List Ev} {t : Tk} {a : Ev} (h : B.Vl) (k : t.V B) (ha : AckOf a t) : ∃ l, (B.comes evs t).2 = evs ++ l ∧ Pv a t.left (B.side (3 - t.side)) l := by
  have hOk : (B.ts evs t).Ok := ts_ok' h k
  have hrun := tr_run (meet := B.meet) (t := t) hOk
  have hsd : Sd (3 - t.side) (B.ts evs t).L := by show Sd _ (B.side (3 - t.side)); rcases k.sd with e | e <;> rw [e]; exact h.s2; exact h.s1
  have hid : t.o.id ∉ ids (B.ts evs t).L := fun hm => by
    obtain ⟨o, ho, e⟩ := List.mem_map.1 hm
    have := k.fresh o.id (List.mem_map.2 ⟨o, B.side_sub _ o ho, rfl⟩)
    omega
  have hlq : (B.ts evs t).left ≤ 4294967295 := k.q.2
  unfold Bk.comes
  split
  · exact ⟨_, rfl, .can rfl (.inr ha.id.symm) .nil⟩
  · simp only
    have p0 := hrun.pv ha hOk hlq k.sd hsd hid [] (fun _ _ => .nil)
    have p1 := fun sq => hrun.pv ha hOk hlq k.sd hsd hid [(evCancel t.o.id (tr B.meet t (B.ts evs t)).left 3).num sq] (fun _ _ => .can rfl (.inr ha.id.symm) .nil)
    generalize tr B.meet t (B.ts evs t) = z at *
    obtain ⟨l, e1, e2⟩ := p0
    rw [List.append_nil] at e2
    split
    · exact ⟨l, e1, e2⟩
    · split
      · obtain ⟨l, e1, e2⟩ := p1 (nx (B.traded t z).seq)
        exact ⟨_, by rw [e1, List.append_assoc]; rfl, e2⟩
      · exact ⟨l, e1, e2⟩
theorem goes_side {B : Bk} {c : Cm} (hk : c.k = 1 ∨ c.k = 3) (ht : c.k ≠ 1 → B.tgt c ≠ none) : (B.goes c).side (3 - (cmg c (B.tgt c) (B.at_ c).1).side) = B.side (3 - (cmg c (B.tgt c) (B.at_ c).1).side) := by
  unfold Bk.goes
  rcases hk with hk | hk
  · rw [if_neg (by omega)]
  · rw [if_pos (by omega)]
    rcases at_spec B c with ⟨_, h', _⟩ | ⟨s, hs, i, hi, e, e2, _⟩
    · exact absurd h' (ht (by omega))
    · have hsd : (cmg c (B.tgt c) (B.at_ c).1).side = s := by
        rw [e2, e]; unfold cmg; simp only; rw [if_pos hk]
      rw [hsd, e]
      rcases hs with rfl | rfl <;> rfl
theorem does_pe {B : Bk} {c : Cm} (h : B.Vl) (hw : c.wf) : Pe B (B.does c).2 := by
  by_cases h0 : B.why c ≠ 0
  · rw [does_no h0]; exact .skip rfl .nil
  have h0' : B.why c = 0 := Decidable.of_not_not h0
  obtain ⟨z1, z2, z3, z4, z5⟩ := rfs_zero h0'
  have hk := chk_kinds (c := c) (by rw [z2]; decide)
  have hgv := goes_vl (c := c) h z1
  have hgc := goes_cap B c
  have hgone : ∀ es, Pe B es → Pe B (B.gone c ++ es) := fun es he => by
    unfold Bk.gone
    split
    · cases B.tgt c with
      | none => exact he
      | some o => exact .can rfl (by show (if c.k = 3 then (2 : Int) else 1) ≠ 5; split <;> decide) he
    · exact he
  unfold Bk.does
  rw [if_neg h0]
  by_cases h2 : c.k ≠ 2
  · rw [if_pos h2]
    obtain ⟨hV, hlt⟩ := cmg_V h hw h0' h2
    have hside := goes_side (B := B) (c := c) (by omega) z1
    generalize cmg c (B.tgt c) (B.at_ c).1 = t at *
    obtain ⟨l, e1, e2⟩ := comes_pv (evs := B.gone c ++ [(evAck t).num (nx (B.goes c).seq)]) (a := (evAck t).num (nx (B.goes c).seq)) (top_vl (num_vl _ hgv) (by show (B.goes c).high ≤ _; rw [hgc.2.2]; omega)) hV ⟨rfl, rfl, rfl, rfl, rfl⟩
    rw [e1, List.append_assoc]
    refine hgone _ (.ack rfl hV.sd ?_)
    have e2 : Pv ((evAck t).num (nx (B.goes c).seq)) t.left ((B.goes c).side (3 - t.side)) l := e2
    rw [hside] at e2
    have e3 : (if t.side = 2 then B.bs else B.ss) = B.side (3 - t.side) := by
      rcases hV.sd with e | e <;> rw [e] <;> rfl
    show Pv ((evAck t).num (nx (B.goes c).seq)) t.left (if t.side = 2 then B.bs else B.ss) l
    rw [e3]; exact e2
  · rw [if_neg h2]
    have := hgone [] .nil
    rw [List.append_nil] at this
    exact this
end Go.Proofs.Ytmfobfamdaajmaa

/- The law RulesNumbers: its walk. -/
namespace Go.Proofs.Ytmfobfamdaajmaa
open Go.V
set_option linter.unusedVariables false
set_option linter.unusedSimpArgs false

def crows (l : List Cm) : List Value := l.flatMap Cm.cells
theorem crows_length (l : List Cm) : (crows l).length = l.length * 9 := flatMap_length _ 9 (fun _ => rfl) l
theorem crows_get (l : List Cm) (i j : Nat) (hi : i < l.length) (hj : j < 9) : (crows l)[i * 9 + j]? = (l[i].cells)[j]? := flatMap_get _ 9 (fun _ => rfl) l i j hi hj
theorem Rd.cm {w : World} {no : List Nat} {A : Option Addr} {l : List Cm} (h : Rd w no A (crows l)) (hn : 0 < l.length) :
    ∃ b o, A = some ⟨b, o, none⟩ ∧ ∀ (i : Nat) (hi : i < l.length) (own : List Nat) (hs : Hp), (∀ x ∈ own, x ∈ no) → At w own hs ⟨b, o + i * 9, none⟩ l[i].cells := by
  obtain ⟨b, o, e, hb, hc⟩ := h.base (by rw [crows_length]; omega)
  refine ⟨b, o, e, fun i hi own hs hsub => At.old (fun j v hv => ?_) (fun hx => hb (hsub _ hx))⟩
  have hj : j < 9 := (List.getElem?_eq_some_iff.1 hv).1
  rw [add_none, Nat.add_assoc]
  exact hc (i * 9 + j) v (by rw [crows_get l i j hi hj]; exact hv)
theorem drop_at {α : Type} {l : List α} {j : Nat} (hj : j < l.length) : l.drop j = l[j] :: l.drop (j + 1) := List.drop_eq_getElem_cons hj
structure N3 where
  j : Nat
  s : Int
  h : Int
structure BS where
  i : Nat
  B : Bk
  v1 : Value
  v2 : Value
  k1 : Hp
  k2 : Hp
abbrev BS.H (x : BS) (b : Nat) : Hp := Tb b (Bc x.B x.v1 x.v2) :: (x.k1 ++ x.k2)
def BS.I (x : BS) (n : Nat) : Prop := x.i ≤ n ∧ x.B.Inv ∧ Side x.v1 x.B.bs x.k1 ∧ Side x.v2 x.B.ss x.k2
set_option maxRecDepth 10000 in
theorem RulesNumbers_ok (w : World) (cc cm : Int) (A : Option Addr) (len cap : Nat) (l : List Cm) (hl : len = l.length) (hA : Rd w [] A (crows l)) (hb : len ≤ 4503599627370496) (hw : ∀ c ∈ l, c.wf) :
    Is Try.prog 4 [.agg ⟨[.int .i64 cc, .int .i64 cm]⟩, .slice A len cap] w (.bool true) := by
  refine Does.pure (Does.of (n := 82) Try.func4 rfl rfl rfl rfl ?_)
  refine .seq ((.region (.nw (.box rfl rfl) fun b2 => (.v (.assign rfl) (.nil ?_)))))
  refine .seq ((.region (.v (.loadA (vs := [.int .i64 cc, .int .i64 cm]) rfl .whole rfl) ?_)))
  refine .ef (.call0 rfl rfl fun w s => begun_ok w cc cm) ?_
  rintro _ _ ⟨_, hN, rfl⟩
  by_cases hc : Cfg cc cm
  case neg =>
    rw [if_neg hc] at hN
    obtain ⟨rfl, rfl⟩ := hN
    refine .v (.move rfl) (.v (.extract rfl rfl) (.v (.extract rfl rfl) (.v (.assign rfl) (.v (.assign rfl) (.nil ?_)))))
    refine .seq (.seq ((.region (.v (.move rfl) (.v (.eql_ptr_nil rfl rfl) (.v (.move rfl) (.or (b2 := false) 20 22 2 2 rfl rfl (fun g1 => absurd g1 (by simp)) (.nil ?_))))))))
    refine .cond rfl (fun _ => ?_) (fun h => absurd h (by simp))
    refine .seq ((.region (.v (.move rfl) (.v (.assign rfl) (.nil ?_)))))
    exact .ret ⟨[_], ⟨rfl, trivial⟩, rfl⟩
  rw [if_pos hc] at hN
  obtain ⟨b, rfl, rfl⟩ := hN
  refine .v (.move rfl) (.v (.extract rfl rfl) (.v (.extract rfl rfl) (.v (.assign rfl) (.v (.assign rfl) (.nil ?_)))))
  refine .seq (.seq ((.region (.v (.move rfl) (.v (.eql_ptr_nil rfl rfl) (.v (.move rfl) (.or 20 22 2 2 rfl rfl (fun g1 => .v (.move rfl) (.v (.not rfl) (.nil ⟨rfl, rfl, rfl, rfl⟩))) (.nil ?_))))))))
  refine .cond rfl (fun h => absurd h (by simp)) (fun _ => .skip ?_)
  refine .seq ((.region (.v (.assign rfl) (.v (.assign rfl) (.nil ?_)))))
  refine .seq (.seq ((.region (.v (.assign rfl) (.nil ?_)))))
  refine .block (.loop (X := BS) (fun x => [(1, .slice A len cap), (5, .pointer (some ⟨b, 0, none⟩)), (7, .int .u64 x.B.seq), (8, .int .u64 x.B.high), (9, .int .i64 x.i)]) (fun x => x.H b) (fun x => x.I len) (fun x => len - x.i)
    ⟨0, newB cc cm, .slice none 0 0, .slice none 0 0, [], []⟩ ⟨by simp, newB_inv hc, OwnS.nil _ _, OwnS.nil _ _⟩ (.cons rfl (.cons rfl (.cons rfl (.cons rfl (.cons rfl (.nil _)))))) (fun _ s => s.take) ?_)
  rintro ⟨i, B, v1, v2, k1, k2⟩ ⟨hi, hI, h1, h2⟩
  dsimp only at hi hI h1 h2 ⊢
  refine .seq (.seq ((.region (.v (.move rfl) (.v (.move rfl) (.v (.len rfl) (.v (.lss rfl rfl) (.nil ?_))))))))
  refine .cond_dec rfl (fun g2 => .skip ?_) (fun g2 => .exit ?_)
  · have hil : i < l.length := by omega
    obtain ⟨ba, oa, rfl, hat⟩ := Rd.cm hA (by omega)
    have hcw := hw _ (List.getElem_mem hil)
    have hat := hat i hil
    generalize l[i] = c at hat hcw
    obtain ⟨hnum, hhi⟩ := does_num hI hcw
    have hI' := does_inv hI hcw
    have hel := does_len hI hcw
    refine .seq (.block (.seq ((.region (.v (.move rfl) (.v (.move rfl) (.v (.move rfl) (.v (.indexAddr rfl rfl (by omega) (by omega)) (.v (.loadA (vs := c.cells) rfl (hat _ _ (by simp [bl])) rfl) ?_)))))))))
    refine .ef (.callT (Tb b (Bc B v1 v2) :: (k1 ++ k2)) rfl rfl (fun w s => Does.call_Do w b B hI.ok c hcw.2.1 hcw.2.2 v1 v2 k1 k2 h1 h2)) ?_
    generalize hB : B.does c = D at hnum hhi hI' hel
    obtain ⟨B', evs⟩ := D
    rintro _ _ ⟨_, ⟨A', c', v1', v2', k1', k2', ke, rfl, rfl, h1', h2', hE⟩, rfl⟩
    dsimp only at hnum hhi hI' hel h1' h2' hE ⊢
    refine .v (.assign rfl) (.nil ?_)
    refine .keep ((Tb b (Bc B' v1' v2') :: (k1' ++ k2')) ++ ke) ?_
    refine .seq (.seq ((.region (.v (.assign rfl) (.nil ?_)))))
    refine .block (.loop (X := N3) (fun x => [(1, .slice (some ⟨ba, oa, none⟩) len cap), (5, .pointer (some ⟨b, 0, none⟩)), (7, .int .u64 x.s), (8, .int .u64 x.h), (9, .int .i64 i), (10, .slice A' evs.length c'), (11, .int .i64 x.j)]) (fun _ => (Tb b (Bc B' v1' v2') :: (k1' ++ k2')) ++ ke)
      (fun x => x.j ≤ evs.length ∧ Num x.s (evs.drop x.j) B'.seq ∧ Hi x.h (evs.drop x.j) B'.high) (fun x => evs.length - x.j) ⟨0, B.seq, B.high⟩ ⟨by simp, hnum, hhi⟩ (.cons rfl (.cons rfl (.cons rfl (.cons rfl (.cons rfl (.cons rfl (.cons rfl (.nil _)))))))) (fun _ s => s) ?_)
    rintro ⟨j, sq, hg⟩ ⟨hj, hN, hH⟩
    dsimp only at hj hN hH ⊢
    refine .seq (.seq ((.region (.v (.move rfl) (.v (.move rfl) (.v (.len rfl) (.v (.lss rfl rfl) (.nil ?_))))))))
    refine .cond_dec rfl (fun g3 => .skip ?_) (fun g3 => .exit ?_)
    · have hjl : j < evs.length := by omega
      obtain ⟨be, oe, le, rfl, -, rfl, -, -, -⟩ := hE.some_ (by omega)
      have hld : ∀ (k : Nat) (v : Value) (own : List Nat) (hs : Hp), [(be, Ch.cells le 50)] ⊆ hs → k < 13 → (evs[j].cells)[k]? = some v → At w own hs ⟨be, oe + j * 13 + k, none⟩ [v] := fun k v own hs hh hk hv => hE.ld hh hjl hk hv
      rw [drop_at hjl] at hN hH
      generalize evs[j] = e at hN hH hld
      obtain ⟨hN1, hN2⟩ := hN
      refine .mid (X := Int) (fun x => [(1, .slice (some ⟨ba, oa, none⟩) len cap), (5, .pointer (some ⟨b, 0, none⟩)), (7, .int .u64 (nx sq)), (8, .int .u64 x), (9, .int .i64 i), (10, .slice (some ⟨be, oe, none⟩) evs.length c'), (11, .int .i64 j)]) (fun _ => (Tb b (Bc B' v1' v2') :: (k1' ++ k2')) ++ [(be, Ch.cells le 50)])
        (fun x => Hi x (evs.drop (j + 1)) B'.high) (.block (.seq ((.region (.v (.move rfl) (.v (.add rfl rfl) (.v (.assign rfl) (.nil ?_)))))))) ?_
      · refine .seq (.seq ((.region (.v (.move rfl) (.v (.move rfl) (.v (.indexAddr rfl rfl (by omega) (by omega)) (.v (.fieldAddr rfl) (.v (.load (v := .int .u64 e.seq) rfl (hld 0 _ _ _ (fun p hp => by simp at hp ⊢; simp [hp]) (by omega) rfl)) (.v (.move rfl) (.v (.nei rfl rfl) (.nil ?_)))))))))))
        refine .cond_dec rfl (fun g4 => absurd hN1 g4) (fun _ => .skip ?_)
        refine .seq ((.region (.v (.move rfl) (.v (.move rfl) (.v (.indexAddr rfl rfl (by omega) (by omega)) (.v (.fieldAddr rfl) (.v (.load (v := .int .i64 e.kind) rfl (hld 1 _ _ _ (fun p hp => by simp at hp ⊢; simp [hp]) (by omega) rfl)) (.v (.eqi rfl rfl) (.nil ?_)))))))))
        refine .cond_dec rfl (fun g5 => ?_) (fun g5 => .skip ?_)
        · unfold Hi at hH
          rw [if_pos g5] at hH
          refine .seq (.seq ((.region (.v (.move rfl) (.v (.move rfl) (.v (.indexAddr rfl rfl (by omega) (by omega)) (.v (.fieldAddr rfl) (.v (.load (v := .int .u64 e.id) rfl (hld 2 _ _ _ (fun p hp => by simp at hp ⊢; simp [hp]) (by omega) rfl)) (.v (.move rfl) (.v (.leq rfl rfl) (.nil ?_)))))))))))
          refine .cond_dec rfl (fun g6 => absurd hH.1 (by omega)) (fun _ => .skip ?_)
          refine .region (.v (.move rfl) (.v (.move rfl) (.v (.indexAddr rfl rfl (by omega) (by omega)) (.v (.fieldAddr rfl) (.v (.load (v := .int .u64 e.id) rfl (hld 2 _ _ _ (fun p hp => by simp at hp ⊢; simp [hp]) (by omega) rfl)) (.v (.assign rfl) (.nil ?_)))))))
          exact ⟨e.id, hH.2, .cons rfl (.cons rfl (.cons rfl (.cons rfl (.cons rfl (.cons rfl (.cons rfl (.nil _))))))), fun _ s => s⟩
        · unfold Hi at hH
          rw [if_neg g5] at hH
          exact ⟨hg, hH, .cons rfl (.cons rfl (.cons rfl (.cons rfl (.cons rfl (.cons rfl (.cons rfl (.nil _))))))), fun _ s => s⟩
      · intro x hx
        refine .region (.v (.move rfl) (.v (.addi rfl rfl (by omega)) (.v (.assign rfl) (.nil ?_))))
        exact ⟨⟨j + 1, nx sq, x⟩, ⟨by dsimp only; omega, hN2, hx⟩, by dsimp only; omega, .cons rfl (.cons rfl (.cons rfl (.cons rfl (.cons rfl (.cons rfl (.cons rfl (.nil _))))))), fun _ s => s⟩
    · have hd : evs.drop j = [] := List.drop_of_length_le (by omega)
      rw [hd] at hN hH
      have e1 : B'.seq = sq := hN
      have e2 : B'.high = hg := hH
      subst e1; subst e2
      obtain ⟨A1, c1, rfl⟩ := OwnS.sl h1'
      obtain ⟨A2, c2, rfl⟩ := OwnS.sl h2'
      have hlen := hI'.len
      have hcap := hI'.hi
      refine .seq ((.region (.v (.move rfl) ?_)))
      refine .ef (.call0 rfl rfl fun w s => Book_ok w b B'.cap B'.meet B'.high B'.seq A1 A2 c1 c2 B'.bs B'.ss (Rd.chunk s (T := 67) (l := Bc B' (.slice A1 B'.bs.length c1) (.slice A2 B'.ss.length c2)) (by simp) (fun j v hv => by rw [Nat.zero_add]; exact hv)) (OwnS.rd h1' s (no := []) (fun p hp => by simp [hp]) (by simp)) (OwnS.rd h2' s (no := []) (fun p hp => by simp [hp]) (by simp)) (by omega) (by omega)) ?_
      rintro _ _ ⟨_, ⟨E1, E2, d1, d2, q1, q2, rfl, rfl, oe1, oe2⟩, rfl⟩
      refine .nw .alloc fun b12 => (.st (.sw rfl rfl) (.nil ?_))
      refine .seq ((.region (.v (.fieldAddr rfl) (.v (.load (v := .int .u64 B'.seq) rfl (.one rfl)) (.v (.move rfl) (.v (.nei rfl rfl) (.v (.move rfl) (.or 76 80 4 4 rfl rfl (fun g2 => .v (.fieldAddr rfl) (.v (.load (v := .int .u64 B'.high) rfl (.one rfl)) (.v (.move rfl) (.v (.nei rfl rfl) (.nil ⟨rfl, rfl, rfl, rfl⟩))))) (.nil ?_)))))))))
      refine .cond rfl (fun h => absurd h (by simp)) (fun _ => .skip ?_)
      refine .region (.v (.move rfl) (.v (.addi rfl rfl (by omega)) (.v (.assign rfl) (.nil ?_))))
      exact ⟨⟨i + 1, B', _, _, k1', k2'⟩, ⟨by dsimp only; omega, hI', h1', h2'⟩, by dsimp only; omega, .cons rfl (.cons rfl (.cons rfl (.cons rfl (.cons rfl (.nil _))))), fun _ s => Sat.take (pre := Tb b (Bc B' (.slice A1 B'.bs.length c1) (.slice A2 B'.ss.length c2)) :: (k1' ++ k2')) s⟩
  · refine .seq ((.region (.v (.assign rfl) (.nil ?_))))
    exact .ret ⟨[_], ⟨rfl, trivial⟩, rfl⟩
end Go.Proofs.Ytmfobfamdaajmaa

/- The law RulesSound: its walk. -/
namespace Go.Proofs.Ytmfobfamdaajmaa
open Go.V
set_option linter.unusedVariables false
set_option linter.unusedSimpArgs false

theorem Side.ld {w0 : World} {own : List Nat} {b o n c i j : Nat} {l : List Ord} {h hs : Hp} {v : Value} (k : Side (.slice (some ⟨b, o, none⟩) n c) l h) (hh : h ⊆ hs) (hi : i < l.length) (hj : j < 7) (hv : (l[i].cells)[j]? = some v) : At w0 own hs ⟨b, o + i * 7 + j, none⟩ [v] := by
  rw [Nat.add_assoc]
  exact OwnS.at1 k hh (by rw [rows_get l i j hi hj]; exact hv)
theorem Sd.at {s : Int} {l : List Ord} (h : Sd s l) {k : Nat} (hk : k + 1 < l.length) : bet s l[k + 1].pr l[k].pr = false := List.pairwise_iff_getElem.1 h k (k + 1) (by omega) hk (by omega)
abbrev Bx (b : Nat) (cc cm : Int) : Nat × Ch := (b, .cells [.int .i64 cc, .int .i64 cm] 27)
def BS.V (x : BS) (n : Nat) (cc : Int) : Prop := x.i ≤ n ∧ x.B.Vl ∧ x.B.cap = cc ∧ Side x.v1 x.B.bs x.k1 ∧ Side x.v2 x.B.ss x.k2
theorem does_cap (B : Bk) (c : Cm) : (B.does c).1.cap = B.cap ∧ (B.does c).1.meet = B.meet := by
  have hg := goes_cap B c
  unfold Bk.does
  split
  · exact ⟨rfl, rfl⟩
  · split
    · unfold Bk.comes
      split
      · exact ⟨hg.1, hg.2.1⟩
      · simp only
        split
        · unfold Bk.traded
          have := (((B.goes c).num (nx (B.goes c).seq)).top (cmg c (B.tgt c) (B.at_ c).1).o.id).put_cap (3 - (cmg c (B.tgt c) (B.at_ c).1).side)
          refine ⟨(this _).1.trans hg.1, (this _).2.1.trans hg.2.1⟩
        · split
          · unfold Bk.traded
            have := (((B.goes c).num (nx (B.goes c).seq)).top (cmg c (B.tgt c) (B.at_ c).1).o.id).put_cap (3 - (cmg c (B.tgt c) (B.at_ c).1).side)
            refine ⟨(this _).1.trans hg.1, (this _).2.1.trans hg.2.1⟩
          · have := (((B.goes c).num (nx (B.goes c).seq)).top (cmg c (B.tgt c) (B.at_ c).1).o.id).put_cap (3 - (cmg c (B.tgt c) (B.at_ c).1).side)
            refine ⟨(Bk.put_cap _ _ _).1.trans ((this _).1.trans hg.1), (Bk.put_cap _ _ _).2.1.trans ((this _).2.1.trans hg.2.1)⟩
    · exact ⟨hg.1, hg.2.1⟩
set_option maxRecDepth 10000 in
theorem RulesSound_ok (w : World) (cc cm : Int) (A : Option Addr) (len cap : Nat) (l : List Cm) (hl : len = l.length) (hA : Rd w [] A (crows l)) (hb : len ≤ 4503599627370496) (hw : ∀ c ∈ l, c.wf) :
    Is Try.prog 8 [.agg ⟨[.int .i64 cc, .int .i64 cm]⟩, .slice A len cap] w (.bool true) := by
  refine Does.pure (Does.of (n := 129) Try.func8 rfl rfl rfl rfl ?_)
  refine .seq ((.region (.nw (.box rfl rfl) fun b2 => (.v (.assign rfl) (.nil ?_)))))
  refine .seq ((.region (.v (.loadA (vs := [.int .i64 cc, .int .i64 cm]) rfl .whole rfl) ?_)))
  refine .ef (.call0 rfl rfl fun w s => begun_ok w cc cm) ?_
  rintro _ _ ⟨_, hN, rfl⟩
  by_cases hc : Cfg cc cm
  case neg =>
    rw [if_neg hc] at hN
    obtain ⟨rfl, rfl⟩ := hN
    refine .v (.move rfl) (.v (.extract rfl rfl) (.v (.extract rfl rfl) (.v (.assign rfl) (.v (.assign rfl) (.nil ?_)))))
    refine .seq (.seq ((.region (.v (.move rfl) (.v (.eql_ptr_nil rfl rfl) (.v (.move rfl) (.or (b2 := false) 18 20 2 2 rfl rfl (fun g1 => absurd g1 (by simp)) (.nil ?_))))))))
    refine .cond rfl (fun _ => ?_) (fun h => absurd h (by simp))
    refine .seq ((.region (.v (.move rfl) (.v (.assign rfl) (.nil ?_)))))
    exact .ret ⟨[_], ⟨rfl, trivial⟩, rfl⟩
  rw [if_pos hc] at hN
  obtain ⟨b, rfl, rfl⟩ := hN
  refine .v (.move rfl) (.v (.extract rfl rfl) (.v (.extract rfl rfl) (.v (.assign rfl) (.v (.assign rfl) (.nil ?_)))))
  refine .seq (.seq ((.region (.v (.move rfl) (.v (.eql_ptr_nil rfl rfl) (.v (.move rfl) (.or 18 20 2 2 rfl rfl (fun g1 => .v (.move rfl) (.v (.not rfl) (.nil ⟨rfl, rfl, rfl, rfl⟩))) (.nil ?_))))))))
  refine .cond rfl (fun h => absurd h (by simp)) (fun _ => .skip ?_)
  refine .seq (.seq ((.region (.v (.assign rfl) (.nil ?_)))))
  refine .block (.loop (X := BS) (fun x => [(1, .slice A len cap), (2, .pointer (some ⟨b2, 0, none⟩)), (5, .pointer (some ⟨b, 0, none⟩)), (7, .int .i64 x.i)]) (fun x => Bx b2 cc cm :: x.H b) (fun x => x.V len cc) (fun x => len - x.i)
    ⟨0, newB cc cm, .slice none 0 0, .slice none 0 0, [], []⟩ ⟨by simp, newB_vl hc, rfl, OwnS.nil _ _, OwnS.nil _ _⟩ (.cons rfl (.cons rfl (.cons rfl (.cons rfl (.nil _))))) (fun _ s => Sat.take (pre := Bx b2 cc cm :: Tb b (Bc (newB cc cm) (.slice none 0 0) (.slice none 0 0)) :: ([] ++ [])) s) ?_)
  rintro ⟨i, B, v1, v2, k1, k2⟩ ⟨hi, hI, hcap0, h1, h2⟩
  dsimp only at hi hI hcap0 h1 h2 ⊢
  refine .seq (.seq ((.region (.v (.move rfl) (.v (.move rfl) (.v (.len rfl) (.v (.lss rfl rfl) (.nil ?_))))))))
  refine .cond_dec rfl (fun g2 => .skip ?_) (fun g2 => .exit ?_)
  · have hil : i < l.length := by omega
    obtain ⟨ba, oa, rfl, hat⟩ := Rd.cm hA (by omega)
    have hcw := hw _ (List.getElem_mem hil)
    have hat := hat i hil
    generalize l[i] = c at hat hcw
    have hI' := does_vl hI hcw
    have hcap' := (does_cap B c).1.trans hcap0
    refine .seq (.block (.seq ((.region (.v (.move rfl) (.v (.move rfl) (.v (.move rfl) (.v (.indexAddr rfl rfl (by omega) (by omega)) (.v (.loadA (vs := c.cells) rfl (hat _ _ (by simp [bl])) rfl) ?_)))))))))
    refine .ef (.callT (Tb b (Bc B v1 v2) :: (k1 ++ k2)) rfl rfl (fun w s => Does.call_Do w b B hI.inv.ok c hcw.2.1 hcw.2.2 v1 v2 k1 k2 h1 h2)) ?_
    generalize hB : B.does c = D at hI' hcap'
    obtain ⟨B', evs⟩ := D
    rintro _ _ ⟨_, ⟨A', c', v1', v2', k1', k2', ke, rfl, rfl, h1', h2', hE⟩, rfl⟩
    dsimp only at hI' hcap' h1' h2' hE ⊢
    clear hB hE hI h1 h2 hcap0
    refine .nil ?_
    refine .keep (Bx b2 cc cm :: (Tb b (Bc B' v1' v2') :: (k1' ++ k2'))) ?_
    obtain ⟨A1, c1, rfl⟩ := OwnS.sl h1'
    obtain ⟨A2, c2, rfl⟩ := OwnS.sl h2'
    have hlen := hI'.len
    have hcapb := hI'.inv.hi
    refine .seq ((.region (.v (.move rfl) ?_)))
    refine .ef (.call0 rfl rfl fun w s => Book_ok w b B'.cap B'.meet B'.high B'.seq A1 A2 c1 c2 B'.bs B'.ss (Rd.chunk s (T := 67) (l := Bc B' (.slice A1 B'.bs.length c1) (.slice A2 B'.ss.length c2)) (by simp) (fun j v hv => by rw [Nat.zero_add]; exact hv)) (OwnS.rd h1' s (no := []) (fun p hp => by simp [hp]) (by simp)) (OwnS.rd h2' s (no := []) (fun p hp => by simp [hp]) (by simp)) (by omega) (by omega)) ?_
    rintro _ _ ⟨_, ⟨E1, E2, d1, d2, q1, q2, rfl, rfl, oe1, oe2⟩, rfl⟩
    refine .nw .alloc fun b8 => (.st (.sw rfl rfl) (.nil ?_))
    refine .heap (hs' := (b8, .cells (bcells B'.cap B'.meet (.slice E1 B'.bs.length d1) (.slice E2 B'.ss.length d2) B'.high B'.seq) 30) :: ((q2 ++ q1) ++ (Bx b2 cc cm :: Tb b (Bc B' (.slice A1 B'.bs.length c1) (.slice A2 B'.ss.length c2)) :: (k1' ++ k2')))) (fun _ s => s) ?_
    refine .seq (.seq ((.drawK _ (fun _ h => h) (by kernel_rfl) (by kernel_rfl) ?_)))
    refine .v (fun _ f => .fieldAddr rfl) (.v (fun _ f => .load (v := .slice E1 B'.bs.length d1) rfl (.one (hb := .sub f) rfl)) (.v (fun _ f => .len rfl) (.v (fun _ f => .fieldAddr rfl) (.v (fun _ f => .load (v := .slice E2 B'.ss.length d2) rfl (.one (hb := .sub f) rfl)) (.v (fun _ f => .len rfl) (.v (fun _ f => .addi rfl rfl (by omega)) (.v (fun _ f => .fieldAddr rfl) (.v (fun _ f => .load (v := .int .i64 cc) rfl (.one (hb := .sub f) rfl)) (.v (fun _ f => .gtr rfl rfl) (.v (fun _ f => .move rfl) ?_))))))))))
    refine .or 47 57 10 10 rfl rfl (fun g2 => .v (fun _ f => .fieldAddr rfl) (.v (fun _ f => .load (v := .slice E1 B'.bs.length d1) rfl (.one (hb := .sub f) rfl)) (.v (fun _ f => .len rfl) (.v (fun _ f => .fieldAddr rfl) (.v (fun _ f => .load (v := .slice E2 B'.ss.length d2) rfl (.one (hb := .sub f) rfl)) (.v (fun _ f => .len rfl) (.v (fun _ f => .addi rfl rfl (by omega)) (.v (fun _ f => .move rfl) (.pc rfl rfl (fun w s => Len_is w b B'.cap B'.meet B'.high B'.seq A1 A2 B'.bs.length B'.ss.length c1 c2 (Rd.chunk s (T := 67) (l := Bc B' (.slice A1 B'.bs.length c1) (.slice A2 B'.ss.length c2)) (by simp) (fun j v hv => by rw [Nat.zero_add]; exact hv)) (by omega) (by omega)) (.v (fun _ f => .nei rfl rfl) (.nil ⟨rfl, rfl, rfl, rfl⟩))))))))))) ?_
    refine .v (fun _ f => .move rfl) (.or 59 62 3 3 rfl rfl (fun g3 => .v (fun _ f => .loadA (vs := bcells B'.cap B'.meet (.slice E1 B'.bs.length d1) (.slice E2 B'.ss.length d2) B'.high B'.seq) rfl (.whole (hb := .sub f)) rfl) (.pc rfl rfl (fun w s => Valid_ok w B'.cap B'.meet B'.high B'.seq E1 E2 d1 d2 B'.bs B'.ss (OwnS.rd oe1 s (no := []) (fun p hp => by simp [hp]) (by simp)) (OwnS.rd oe2 s (no := []) (fun p hp => by simp [hp]) (by simp)) (fun o ho => (hI'.rests o ho).2) (by omega) (by omega)) (.v (fun _ f => .nei rfl rfl) (.nil ⟨rfl, rfl, rfl, rfl⟩)))) (.nil ?_))
    refine .cond rfl (fun h => ?_) (fun _ => .skip ?_)
    · exfalso
      rw [hI'.vld] at h
      simp at h
      omega
    have hF : ∀ (b o n c i : Nat) (q : Hp) (ls : List Ord) (j : Nat) (v : Value) (w0 : World) (own : List Nat) (hs : Hp), Side (.slice (some ⟨b, o, none⟩) n c) ls q → q ⊆ hs → (hi : i < ls.length) → j < 7 → (ls[i].cells)[j]? = some v → At w0 own hs ⟨b, o + i * 7 + j, none⟩ [v] := fun b o n c i q ls j v w0 own hs k hh hi hj hv => Side.ld k hh hi hj hv
    have hcross : ¬ (0 < B'.bs.length ∧ 0 < B'.ss.length ∧ ∃ x ∈ B'.bs, ∃ y ∈ B'.ss, y.pr ≤ x.pr) := fun ⟨_, _, x, hx, y, hy, e⟩ => by have := hI'.cross x hx y hy; omega
    refine .mid (X := Unit) (fun _ => [(1, .slice (some ⟨ba, oa, none⟩) len cap), (2, .pointer (some ⟨b2, 0, none⟩)), (5, .pointer (some ⟨b, 0, none⟩)), (7, .int .i64 i), (8, .pointer (some ⟨b8, 0, none⟩))]) (fun _ => (b8, .cells (bcells B'.cap B'.meet (.slice E1 B'.bs.length d1) (.slice E2 B'.ss.length d2) B'.high B'.seq) 30) :: ((q2 ++ q1) ++ (Bx b2 cc cm :: Tb b (Bc B' (.slice A1 B'.bs.length c1) (.slice A2 B'.ss.length c2)) :: (k1' ++ k2'))))
      (fun _ => True) ?_ ?_
    · by_cases hp : 0 < B'.bs.length ∧ 0 < B'.ss.length
      · obtain ⟨hp1, hp2⟩ := hp
        obtain ⟨e1, o1, l1, rfl, -⟩ := oe1.some_ hp1
        obtain ⟨e2, o2, l2, rfl, -⟩ := oe2.some_ hp2
        refine .seq ((.drawK _ (fun _ h => h) (by kernel_rfl) (by kernel_rfl) ?_))
        refine .v (fun _ f => .fieldAddr rfl) (.v (fun _ f => .load (v := .slice (some ⟨e1, o1, none⟩) B'.bs.length d1) rfl (.one (hb := .sub f) rfl)) (.v (fun _ f => .len rfl) (.v (fun _ f => .gtr rfl rfl) (.v (fun _ f => .move rfl) ?_))))
        refine .and 68 72 4 4 rfl rfl (fun g4 => .v (fun _ f => .fieldAddr rfl) (.v (fun _ f => .load (v := .slice (some ⟨e2, o2, none⟩) B'.ss.length d2) rfl (.one (hb := .sub f) rfl)) (.v (fun _ f => .len rfl) (.v (fun _ f => .gtr rfl rfl) (.nil ⟨rfl, rfl, rfl, rfl⟩))))) ?_
        refine .v (fun _ f => .move rfl) (.and 74 85 11 11 rfl rfl (fun g5 => .v (fun _ f => .fieldAddr rfl) (.v (fun _ f => .load (v := .slice (some ⟨e1, o1, none⟩) B'.bs.length d1) rfl (.one (hb := .sub f) rfl)) (.v (fun _ f => .indexAddr rfl rfl (by omega) (by omega)) (.v (fun _ f => .fieldAddr rfl) (.v (fun _ f => .load (v := .int .i64 (B'.bs[0]'hp1).pr) rfl (Side.ld (i := 0) (j := 3) oe1 (fun p hp => f (by simp [hp])) hp1 (by omega) rfl)) (.v (fun _ f => .fieldAddr rfl) (.v (fun _ f => .load (v := .slice (some ⟨e2, o2, none⟩) B'.ss.length d2) rfl (.one (hb := .sub f) rfl)) (.v (fun _ f => .indexAddr rfl rfl (by omega) (by omega)) (.v (fun _ f => .fieldAddr rfl) (.v (fun _ f => .load (v := .int .i64 (B'.ss[0]'hp2).pr) rfl (Side.ld (i := 0) (j := 3) oe2 (fun p hp => f (by simp [hp])) hp2 (by omega) rfl)) (.v (fun _ f => .geq rfl rfl) (.nil ⟨rfl, rfl, rfl, rfl⟩)))))))))))) (.nil ?_))
        refine .cond rfl (fun h => ?_) (fun _ => ?_)
        · exfalso
          have := hI'.cross _ (List.getElem_mem hp1) _ (List.getElem_mem hp2)
          simp at h
          omega
        · exact .skip ⟨(), trivial, .cons rfl (.cons rfl (.cons rfl (.cons rfl (.cons rfl (.nil _))))), fun _ s => s⟩
      · refine .seq ((.drawK _ (fun _ h => h) (by kernel_rfl) (by kernel_rfl) ?_))
        refine .v (fun _ f => .fieldAddr rfl) (.v (fun _ f => .load (v := .slice E1 B'.bs.length d1) rfl (.one (hb := .sub f) rfl)) (.v (fun _ f => .len rfl) (.v (fun _ f => .gtr rfl rfl) (.v (fun _ f => .move rfl) ?_))))
        refine .and 68 72 4 4 rfl rfl (fun g4 => .v (fun _ f => .fieldAddr rfl) (.v (fun _ f => .load (v := .slice E2 B'.ss.length d2) rfl (.one (hb := .sub f) rfl)) (.v (fun _ f => .len rfl) (.v (fun _ f => .gtr rfl rfl) (.nil ⟨rfl, rfl, rfl, rfl⟩))))) ?_
        refine .v (fun _ f => .move rfl) (.and (b2 := false) 74 85 11 11 rfl rfl (fun g5 => False.elim (by simp only [Bool.and_eq_true, Bool.or_eq_true, Bool.not_eq_true', Bool.and_eq_false_iff, Bool.or_eq_false_iff, Bool.not_eq_false', decide_eq_true_eq, decide_eq_false_iff_not, Bool.false_eq_true, false_iff] at g5; omega)) (.nil ?_))
        refine .cond rfl (fun h => absurd h (by simp)) (fun _ => ?_)
        exact .skip ⟨(), trivial, .cons rfl (.cons rfl (.cons rfl (.cons rfl (.cons rfl (.nil _))))), fun _ s => s⟩
    · rintro ⟨⟩ -
      refine .seq (.seq ((.region (.v (.assign rfl) (.nil ?_)))))
      refine .block (.loop (X := Nat) (fun k => [(1, .slice (some ⟨ba, oa, none⟩) len cap), (2, .pointer (some ⟨b2, 0, none⟩)), (5, .pointer (some ⟨b, 0, none⟩)), (7, .int .i64 i), (8, .pointer (some ⟨b8, 0, none⟩)), (9, .int .i64 (k + 1 : Nat))]) (fun _ => (b8, .cells (bcells B'.cap B'.meet (.slice E1 B'.bs.length d1) (.slice E2 B'.ss.length d2) B'.high B'.seq) 30) :: ((q2 ++ q1) ++ (Bx b2 cc cm :: Tb b (Bc B' (.slice A1 B'.bs.length c1) (.slice A2 B'.ss.length c2)) :: (k1' ++ k2'))))
        (fun k => k ≤ B'.bs.length) (fun k => B'.bs.length - k) 0 (Nat.zero_le _) (.cons rfl (.cons rfl (.cons rfl (.cons rfl (.cons rfl (.cons rfl (.nil _))))))) (fun _ s => s) ?_)
      intro k hk
      refine .seq (.seq ((.region (.v (.move rfl) (.v (.fieldAddr rfl) (.v (.load (v := .slice E1 B'.bs.length d1) rfl (.one rfl)) (.v (.len rfl) (.v (.lss rfl rfl) (.nil ?_)))))))))
      refine .cond_dec rfl (fun h5 => .skip ?_) (fun h5 => .exit ?_)
      · have hk1 : k + 1 < B'.bs.length := by omega
        obtain ⟨e1, o1, l1, rfl, -⟩ := oe1.some_ (by omega)
        have hbet := hI'.s1.at hk1
        refine .seq (.block (.seq ((.drawK _ (fun _ h => h) (by kernel_rfl) (by kernel_rfl) ?_))))
        refine .v (fun _ f => .fieldAddr rfl) (.v (fun _ f => .load (v := .slice (some ⟨e1, o1, none⟩) B'.bs.length d1) rfl (.one (hb := .sub f) rfl)) (.v (fun _ f => .move rfl) (.v (fun _ f => .indexAddr rfl rfl (by omega) (by omega)) (.v (fun _ f => .fieldAddr rfl) (.v (fun _ f => .load (v := .int .i64 (B'.bs[k + 1]'hk1).pr) rfl (Side.ld (i := k + 1) (j := 3) oe1 (fun p hp => f (by simp [hp])) hk1 (by omega) rfl)) (.v (fun _ f => .fieldAddr rfl) (.v (fun _ f => .load (v := .slice (some ⟨e1, o1, none⟩) B'.bs.length d1) rfl (.one (hb := .sub f) rfl)) (.v (fun _ f => .move rfl) (.v (fun _ f => .subE (k : Int) rfl rfl (by omega) (by omega)) (.v (fun _ f => .indexAddr rfl rfl (by omega) (by omega)) (.v (fun _ f => .fieldAddr rfl) (.v (fun _ f => .load (v := .int .i64 (B'.bs[k]'(by omega)).pr) rfl (Side.ld (i := k) (j := 3) oe1 (fun p hp => f (by simp [hp])) (by omega) (by omega) rfl)) (.v (fun _ f => .gtr rfl rfl) (.nil ?_))))))))))))))
        refine .cond_dec rfl (fun h6 => ?_) (fun h6 => .skip ?_)
        · exfalso
          unfold bet at hbet; simp at hbet; omega
        · refine .region (.v (.move rfl) (.v (.addE ((k + 1 + 1 : Nat) : Int) rfl rfl (by omega) (by omega)) (.v (.assign rfl) (.nil ?_))))
          exact ⟨k + 1, by omega, by omega, .cons rfl (.cons rfl (.cons rfl (.cons rfl (.cons rfl (.cons rfl (.nil _)))))), fun _ s => s⟩
      · refine .seq ((.region (.v (.assign rfl) (.nil ?_))))
        refine .block (.loop (X := Nat) (fun k => [(1, .slice (some ⟨ba, oa, none⟩) len cap), (2, .pointer (some ⟨b2, 0, none⟩)), (5, .pointer (some ⟨b, 0, none⟩)), (7, .int .i64 i), (8, .pointer (some ⟨b8, 0, none⟩)), (10, .int .i64 (k + 1 : Nat))]) (fun _ => (b8, .cells (bcells B'.cap B'.meet (.slice E1 B'.bs.length d1) (.slice E2 B'.ss.length d2) B'.high B'.seq) 30) :: ((q2 ++ q1) ++ (Bx b2 cc cm :: Tb b (Bc B' (.slice A1 B'.bs.length c1) (.slice A2 B'.ss.length c2)) :: (k1' ++ k2'))))
          (fun k => k ≤ B'.ss.length) (fun k => B'.ss.length - k) 0 (Nat.zero_le _) (.cons rfl (.cons rfl (.cons rfl (.cons rfl (.cons rfl (.cons rfl (.nil _))))))) (fun _ s => s) ?_)
        intro k hk
        refine .seq (.seq ((.region (.v (.move rfl) (.v (.fieldAddr rfl) (.v (.load (v := .slice E2 B'.ss.length d2) rfl (.one rfl)) (.v (.len rfl) (.v (.lss rfl rfl) (.nil ?_)))))))))
        refine .cond_dec rfl (fun h5 => .skip ?_) (fun h5 => .exit ?_)
        · have hk1 : k + 1 < B'.ss.length := by omega
          obtain ⟨e1, o1, l1, rfl, -⟩ := oe2.some_ (by omega)
          have hbet := hI'.s2.at hk1
          refine .seq (.block (.seq ((.drawK _ (fun _ h => h) (by kernel_rfl) (by kernel_rfl) ?_))))
          refine .v (fun _ f => .fieldAddr rfl) (.v (fun _ f => .load (v := .slice (some ⟨e1, o1, none⟩) B'.ss.length d2) rfl (.one (hb := .sub f) rfl)) (.v (fun _ f => .move rfl) (.v (fun _ f => .indexAddr rfl rfl (by omega) (by omega)) (.v (fun _ f => .fieldAddr rfl) (.v (fun _ f => .load (v := .int .i64 (B'.ss[k + 1]'hk1).pr) rfl (Side.ld (i := k + 1) (j := 3) oe2 (fun p hp => f (by simp [hp])) hk1 (by omega) rfl)) (.v (fun _ f => .fieldAddr rfl) (.v (fun _ f => .load (v := .slice (some ⟨e1, o1, none⟩) B'.ss.length d2) rfl (.one (hb := .sub f) rfl)) (.v (fun _ f => .move rfl) (.v (fun _ f => .subE (k : Int) rfl rfl (by omega) (by omega)) (.v (fun _ f => .indexAddr rfl rfl (by omega) (by omega)) (.v (fun _ f => .fieldAddr rfl) (.v (fun _ f => .load (v := .int .i64 (B'.ss[k]'(by omega)).pr) rfl (Side.ld (i := k) (j := 3) oe2 (fun p hp => f (by simp [hp])) (by omega) (by omega) rfl)) (.v (fun _ f => .lss rfl rfl) (.nil ?_))))))))))))))
          refine .cond_dec rfl (fun h6 => ?_) (fun h6 => .skip ?_)
          · exfalso
            unfold bet at hbet; simp at hbet; omega
          · refine .region (.v (.move rfl) (.v (.addE ((k + 1 + 1 : Nat) : Int) rfl rfl (by omega) (by omega)) (.v (.assign rfl) (.nil ?_))))
            exact ⟨k + 1, by omega, by omega, .cons rfl (.cons rfl (.cons rfl (.cons rfl (.cons rfl (.cons rfl (.nil _)))))), fun _ s => s⟩
        · refine .region (.v (.move rfl) (.v (.addi rfl rfl (by omega)) (.v (.assign rfl) (.nil ?_))))
          exact ⟨⟨i + 1, B', _, _, k1', k2'⟩, ⟨by dsimp only; omega, hI', hcap', h1', h2'⟩, by dsimp only; omega, .cons rfl (.cons rfl (.cons rfl (.cons rfl (.nil _)))), fun _ s => Sat.take (pre := Bx b2 cc cm :: Tb b (Bc B' (.slice A1 B'.bs.length c1) (.slice A2 B'.ss.length c2)) :: (k1' ++ k2')) s⟩
  · refine .seq ((.region (.v (.assign rfl) (.nil ?_))))
    exact .ret ⟨[_], ⟨rfl, trivial⟩, rfl⟩
end Go.Proofs.Ytmfobfamdaajmaa

/- behind: an order put behind all that stand at its price or a better one. -/
namespace Go.Proofs.Ytmfobfamdaajmaa
open Go.V
set_option linter.unusedVariables false
set_option linter.unusedSimpArgs false

structure BhS where
  j : Nat
  r : List Ord
  v : Value
  h : Hp
  d : Bool
def BhS.I (x : BhS) (s : Int) (o : Ord) (l : List Ord) : Prop := x.j ≤ l.length ∧ Side x.v x.r x.h ∧ ins s o l = x.r ++ (if x.d then l.drop x.j else ins s o (l.drop x.j)) ∧ x.r.length ≤ x.j + (if x.d then 1 else 0)
theorem drop_ord {l : List Ord} {j : Nat} (hj : j < l.length) : l.drop j = l[j] :: l.drop (j + 1) := List.drop_eq_getElem_cons hj
set_option maxRecDepth 10000 in
theorem behind_ok (w : World) (A : Option Addr) (c : Nat) (l : List Ord) (o : Ord) (buy : Bool) (hA : Rd w [] A (rows l)) (hb : l.length ≤ 100000) :
    Does Try.prog 23 [.slice A l.length c, .agg ⟨o.cells⟩, .bool buy] [] w (fun v hs => Side v (ins (if buy then 1 else 2) o l) hs) := by
  generalize hs_ : (if buy = true then (1 : Int) else 2) = s
  refine Does.less (Does.of (n := 58) Try.func23 rfl rfl rfl rfl ?_)
  refine .seq ((.region (.nw (.box rfl rfl) fun b4 => (.v (.assign rfl) (.nil ?_)))))
  refine .seq ((.region (.ef (.buildSlice (out := []) rfl (by decide) rfl rfl) ?_)))
  rintro _ _ ⟨b7, rfl, rfl⟩
  refine .v (.assign rfl) (.nil ?_)
  refine .seq ((.region (.v (.assign rfl) (.nil ?_))))
  refine .seq (.seq ((.region (.v (.assign rfl) (.nil ?_)))))
  refine .block (.loop (X := BhS) (fun x => [(0, .slice A l.length c), (2, .bool buy), (4, .pointer (some ⟨b4, 0, none⟩)), (7, x.v), (8, .bool x.d), (9, .int .i64 x.j)]) (fun x => x.h ++ [(b4, .cells o.cells 53)]) (fun x => x.I s o l) (fun x => l.length - x.j)
    ⟨0, [], .slice (some ⟨b7, 0, none⟩) 0 0, [(b7, .cells [] 53)], false⟩ ⟨by simp, ⟨rfl, .inr ⟨b7, 0, 0, [], rfl, rfl, by simp, by simp, by simp [rows]⟩⟩, by simp, by simp⟩ (.cons rfl (.cons rfl (.cons rfl (.cons rfl (.cons rfl (.cons rfl (.nil _))))))) (fun _ s => s) ?_)
  rintro ⟨j, r, v, h, d⟩ ⟨hj, hS, hI, hrl⟩
  dsimp only at hj hS hI hrl ⊢
  refine .seq (.seq ((.region (.v (.move rfl) (.v (.move rfl) (.v (.len rfl) (.v (.lss rfl rfl) (.nil ?_))))))))
  refine .cond_dec rfl (fun h1 => .skip ?_) (fun h1 => .exit ?_)
  · have hjl : j < l.length := by omega
    obtain ⟨bA, oA, rfl, -, hc⟩ := Rd.ord hA (by omega)
    have hc := hc j hjl
    rw [drop_ord hjl] at hI
    generalize l[j] = x at hI hc
    have hld : ∀ (k : Nat) (v : Value) (hs : Hp), k < 7 → (x.cells)[k]? = some v → At w [] hs ⟨bA, oA + j * 7 + k, none⟩ [v] := fun k v hs hk hv => .old1 (hc k v hk hv) (by simp)
    have hat : ∀ (hs : Hp), At w [] hs ⟨bA, oA + j * 7, none⟩ x.cells := fun hs => .old (fun k v hv => by rw [add_none]; exact hc k v (List.getElem?_eq_some_iff.1 hv).1 hv) (by simp)
    refine .seq (.block (.seq ((.drawK _ (fun _ h => h) (by kernel_rfl) (by kernel_rfl) ?_))))
    refine .v (fun _ f => .move rfl) (.v (fun _ f => .move rfl) (.v (fun _ f => .indexAddr rfl rfl (by omega) (by omega)) (.v (fun _ f => .fieldAddr rfl) (.v (fun _ f => .load (v := .int .i64 x.pr) rfl (hld 3 _ _ (by omega) rfl)) (.v (fun _ f => .fieldAddr rfl) (.v (fun _ f => .load (v := .int .i64 o.pr) rfl (.one (hb := .sub f) rfl)) (.v (fun _ f => .gtr rfl rfl) (.v (fun _ f => .assign rfl) (.nil ?_)))))))))
    refine .mid (X := Unit) (fun _ => [(0, .slice (some ⟨bA, oA, none⟩) l.length c), (2, .bool buy), (4, .pointer (some ⟨b4, 0, none⟩)), (7, v), (8, .bool d), (9, .int .i64 j), (10, .bool (bet s o.pr x.pr))]) (fun _ => h ++ [(b4, .cells o.cells 53)]) (fun _ => True) ?_ ?_
    · refine .seq ((.region (.v (.move rfl) (.nil ?_))))
      cases buy with
      | true =>
        obtain rfl : s = 1 := by simpa using hs_.symm
        refine .cond rfl (fun _ => ?_) (fun h => absurd h (by simp))
        refine (.drawK _ (fun _ h => h) (by kernel_rfl) (by kernel_rfl) ?_)
        refine .v (fun _ f => .move rfl) (.v (fun _ f => .move rfl) (.v (fun _ f => .indexAddr rfl rfl (by omega) (by omega)) (.v (fun _ f => .fieldAddr rfl) (.v (fun _ f => .load (v := .int .i64 x.pr) rfl (hld 3 _ _ (by omega) rfl)) (.v (fun _ f => .fieldAddr rfl) (.v (fun _ f => .load (v := .int .i64 o.pr) rfl (.one (hb := .sub f) rfl)) (.v (fun _ f => .lss rfl rfl) (.v (fun _ f => .assign rfl) (.nil ?_)))))))))
        exact ⟨(), trivial, .cons rfl (.cons rfl (.cons rfl (.cons rfl (.cons rfl (.cons rfl (.cons rfl (.nil _))))))), fun _ s => s⟩
      | false =>
        obtain rfl : s = 2 := by simpa using hs_.symm
        refine .cond rfl (fun h => absurd h (by simp)) (fun _ => .skip ?_)
        exact ⟨(), trivial, .cons rfl (.cons rfl (.cons rfl (.cons rfl (.cons rfl (.cons rfl (.cons rfl (.nil _))))))), fun _ s => s⟩
    rintro ⟨⟩ -
    refine .mid (X := BhS) (fun y => [(0, .slice (some ⟨bA, oA, none⟩) l.length c), (2, .bool buy), (4, .pointer (some ⟨b4, 0, none⟩)), (7, y.v), (8, .bool y.d), (9, .int .i64 j)]) (fun y => y.h ++ [(b4, .cells o.cells 53)])
      (fun y => Side y.v y.r y.h ∧ ins s o l = y.r ++ x :: (if y.d then l.drop (j + 1) else ins s o (l.drop (j + 1))) ∧ y.r.length ≤ j + (if y.d then 1 else 0)) ?_ ?_
    · refine .seq ((.region (.v (.move rfl) (.v (.move rfl) (.and 36 38 2 2 rfl rfl (fun g2 => .v (.move rfl) (.v (.not rfl) (.nil ⟨rfl, rfl, rfl, rfl⟩))) (.nil ?_))))))
      by_cases hc1 : bet s o.pr x.pr = true ∧ d = false
      · obtain ⟨hb1, rfl⟩ := hc1
        rw [hb1]
        have hrj : r.length ≤ j := by simpa using hrl
        refine .cond rfl (fun _ => ?_) (fun h => absurd h (by simp))
        refine .seq ((.region (.v (.move rfl) (.v (.loadA (vs := o.cells) rfl .whole rfl) ?_))))
        refine .ef (.buildSlice (out := o.cells) rfl (by decide) rfl rfl) ?_
        rintro _ _ ⟨nb, rfl, rfl⟩
        refine .ef (.append (c := r.length) (k := 1) (vs := rows r) (news := o.cells) (h := h) (fr := [(nb, .cells o.cells 53), (b4, .cells o.cells 53)]) rfl rfl hS (by exact List.perm_middle.symm.trans (by simp)) (fun w s => Src.cells rfl (fun j v hv => by rw [add_none, s.cell (b := nb) (T := 53) (l := o.cells) (by simp)]; simpa using hv)) rfl rfl (by omega) (by omega)) ?_
        rintro v' _ ⟨h', o', rfl⟩
        refine .v (.assign rfl) (.nil ?_)
        refine .region (.v (.assign rfl) (.nil ?_))
        refine ⟨⟨j, r ++ [o], v', h', true⟩, ⟨?_, ?_, ?_⟩, .cons rfl (.cons rfl (.cons rfl (.cons rfl (.cons rfl (.cons rfl (.nil _)))))), fun _ s => Sat.take (pre := h' ++ [(b4, .cells o.cells 53)]) s⟩
        · show OwnS _ 7 v' (r ++ [o]).length (rows (r ++ [o])) h'
          rw [rows_app, List.length_append]; exact o'
        · rw [hI]; unfold ins; simp [hb1]
        · simp at hrl ⊢; omega
      · refine .cond rfl (fun h => ?_) (fun _ => .skip ?_)
        · exfalso
          simp only [Bool.and_eq_true, Bool.or_eq_true, Bool.not_eq_true', Bool.and_eq_false_iff, Bool.or_eq_false_iff, Bool.not_eq_false', decide_eq_true_eq, decide_eq_false_iff_not, Bool.false_eq_true, false_iff] at h
          exact hc1 h
        refine ⟨⟨j, r, v, h, d⟩, ⟨hS, ?_, hrl⟩, .cons rfl (.cons rfl (.cons rfl (.cons rfl (.cons rfl (.cons rfl (.nil _)))))), fun _ s => s⟩
        cases d with
        | true => rw [hI]; rfl
        | false =>
          have hb0 : ¬ bet s o.pr x.pr = true := fun e => hc1 ⟨e, rfl⟩
          rw [hI]; simp only [Bool.false_eq_true, if_false]
          congr 1
          show ins s o (x :: _) = _
          rw [ins, if_neg hb0]
    · rintro ⟨_, r1, v1, h1', d1⟩ ⟨hS1, hI1, hr1⟩
      dsimp only at hS1 hI1 hr1 ⊢
      have hr2 : r1.length ≤ j + 1 := by split at hr1 <;> omega
      refine .region (.v (.move rfl) (.v (.move rfl) (.v (.move rfl) (.v (.indexAddr rfl rfl (by omega) (by omega)) (.v (.loadA (vs := x.cells) rfl (hat _) rfl) ?_)))))
      refine .ef (.buildSlice (out := x.cells) rfl (by decide) rfl rfl) ?_
      rintro _ _ ⟨nb, rfl, rfl⟩
      refine .ef (.append (c := r1.length) (k := 1) (vs := rows r1) (news := x.cells) (h := h1') (fr := [(nb, .cells x.cells 53), (b4, .cells o.cells 53)]) rfl rfl hS1 (by exact List.perm_middle.symm.trans (by simp)) (fun w s => Src.cells rfl (fun j v hv => by rw [add_none, s.cell (b := nb) (T := 53) (l := x.cells) (by simp)]; simpa using hv)) rfl rfl (by omega) (by omega)) ?_
      rintro v' _ ⟨h', o', rfl⟩
      refine .v (.assign rfl) (.nil ?_)
      refine .region (.v (.move rfl) (.v (.addi rfl rfl (by omega)) (.v (.assign rfl) (.nil ?_))))
      refine ⟨⟨j + 1, r1 ++ [x], v', h', d1⟩, ⟨by dsimp only; omega, ?_, ?_, ?_⟩, by dsimp only; omega, .cons rfl (.cons rfl (.cons rfl (.cons rfl (.cons rfl (.cons rfl (.nil _)))))), fun _ s => Sat.take (pre := h' ++ [(b4, .cells o.cells 53)]) s⟩
      · show OwnS _ 7 v' (r1 ++ [x]).length (rows (r1 ++ [x])) h'
        rw [rows_app, List.length_append]; exact o'
      · rw [hI1]; simp
      · simp at hr1 ⊢; omega
  · have hd : l.drop j = [] := List.drop_of_length_le (by omega)
    rw [hd] at hI
    have hr2 : r.length ≤ j + 1 := by split at hrl <;> omega
    refine .mid (X := Value × Hp) (fun x => [(7, x.1)]) (fun x => x.2) (fun x => Side x.1 (ins s o l) x.2) (.seq ((.region (.v (.move rfl) (.v (.not rfl) (.nil ?_)))))) ?_
    · cases d with
      | true =>
        refine .cond rfl (fun h => absurd h (by simp)) (fun _ => .skip ?_)
        exact ⟨(v, h), by rw [hI]; simpa using hS, .cons rfl (.nil _), fun _ s => Sat.take (pre := h) s⟩
      | false =>
        refine .cond rfl (fun _ => ?_) (fun h => absurd h (by simp))
        refine .region (.v (.move rfl) (.v (.loadA (vs := o.cells) rfl .whole rfl) ?_))
        refine .ef (.buildSlice (out := o.cells) rfl (by decide) rfl rfl) ?_
        rintro _ _ ⟨nb, rfl, rfl⟩
        refine .ef (.append (c := r.length) (k := 1) (vs := rows r) (news := o.cells) (h := h) (fr := [(nb, .cells o.cells 53), (b4, .cells o.cells 53)]) rfl rfl hS (by exact List.perm_middle.symm.trans (by simp)) (fun w s => Src.cells rfl (fun j v hv => by rw [add_none, s.cell (b := nb) (T := 53) (l := o.cells) (by simp)]; simpa using hv)) rfl rfl (by omega) (by omega)) ?_
        rintro v' _ ⟨h', o', rfl⟩
        refine .v (.assign rfl) (.nil ?_)
        refine ⟨(v', h'), ?_, .cons rfl (.nil _), fun _ s => Sat.take (pre := h') s⟩
        rw [hI]
        show OwnS _ 7 v' (r ++ [o]).length (rows (r ++ [o])) h'
        rw [rows_app, List.length_append]; exact o'
    · rintro ⟨v', h'⟩ k
      dsimp only at k ⊢
      refine .seq ((.region (.v (.move rfl) (.v (.assign rfl) (.nil ?_)))))
      exact .ret ⟨[_], ⟨rfl, trivial⟩, h', fun _ s => s, k⟩
end Go.Proofs.Ytmfobfamdaajmaa
