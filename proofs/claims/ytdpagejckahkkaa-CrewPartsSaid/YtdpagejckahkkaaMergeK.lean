/- The theorem of many senders as one coming of goroutine 0's; and what crew.Merge's team is made of. -/
import Derived.Test.YtdpagejckahkkaaMergeJ
import Derived.Test.YtdpagejckahkkaaDoneW
import Derived.Test.YtdpagejckahkkaaWaitW
import Derived.Test.YtdpagejckahkkaaSeqG
import Derived.Deep.RegionHeld
set_option linter.unusedSimpArgs false
set_option linter.unusedVariables false
namespace Go.Proofs.Ytdpagejckahkkaa.Net
open Go Go.Conc Go.RowKit
open Go.ConcN (ShN WgLive sumTo upd upd_same upd_ne)
open Go.ConcR (KK WgAt stA smA rd wr)

theorem Reach.merge {P : Program} {S : Loc → Prop} {a : Goroutine} {w : World} {X : (Loc → Prop) → Goroutine → World → Prop} (C : Nat → Nat → MCfg) (B₀ : Nat) (Anch : Nat → Nat → Goroutine → World → Prop) (Fin : Goroutine → World → Prop) (L : List (Nat × Option Int)) (Wg : Nat)
    (hP : ∀ b B, (C b B).P = P) (hS : ∀ b B, (C b B).Shun = S) (hb : ∀ b B, (C b B).b0 = b) (hB : ∀ b B, (C b B).B = B) (hWg : ∀ b B, (C b B).Wg = Wg) (F : ∀ b B, 0 < b → B₀ ≤ B → (C b B).Fine (Anch b B) Fin)
    (hsw : ∀ l, S l → ¬ ShN Wg l) (hSt : ∀ b B d, (C b B).S (w.at d)) (hd : ∀ b B d, ∃ s r, (w.at d).heap[(C b B).d]? = some (.chan 0 #[] false s r false)) (hw : ∀ b B d, WgAt (C b B).ty Wg (w.at d) 0 0) (hag : ∀ b B, Agrees (C b B).T (C b B).parts L)
    (hsp : ∀ b B d, 0 < b → B₀ ≤ B → StartsM (C b B) (TurnsM (C b B) (Anch b B) L) (C b B).T a (w.at d)) (hfin : ∀ a' w', Fin a' w' → Reach P (fun l => S l ∨ ShN Wg l) a' w' X) : Reach P S a w X := by
  rintro M t ⟨m, gs, sl, q, B, d, rfl, h0, hL, hPast, _⟩
  have hpos : 0 < gs.size := (Array.getElem?_eq_some_iff.1 h0).1
  have hle : B₀ ≤ max B B₀ := Nat.le_max_right _ _
  have := Go.Proofs.Ytdpagejckahkkaa.Net.merge (L := L) (F gs.size (max B B₀) hpos hle) (by rw [hS, hWg]; exact hsw) (sl := sl) (t := t) (q := q) (gs := gs) (w := w.at d) (by rw [hb]) h0 (by rw [hP]; exact hL) (by rw [hS, hB]; exact hPast.mono (Nat.le_max_left _ _))
    (hSt _ _ _) (hd _ _ _) (by rw [hWg]; exact hw _ _ _) (hag _ _) (hsp gs.size (max B B₀) d hpos hle)
  obtain ⟨N, gs', a', w', sl', t', q', h1, _, h2, h3, h4, h5⟩ := this
  rw [hP] at h1 h4
  rw [hS, hB, hWg] at h5
  obtain ⟨N', M'', t'', S'', a'', w'', h6, h7, h8⟩ := hfin a' w' h3 _ t' ⟨_, gs', sl', q', _, w'.drawn, rfl, h2, h4, h5, rfl⟩
  exact ⟨N + N', M'', t'', S'', a'', w'', runNT_then h1 h6, h7, h8⟩

/-! ### crew.Merge's team -/
/-- What a call of crew.Merge is given: the world at its entry, the parts, the turns. -/
structure MIn where
  W : World
  a0 : Option Addr
  cap : Nat
  ps : List (List Int)
  hd : Nat → Value
  b0 : Option Addr
  capb : Nat
  ts : List Int
structure MIn.Ok (I : MIn) (S : Loc → Prop) : Prop where
  parts : PartsAt S I.W I.a0 I.ps I.hd
  turn : ∀ (j : Nat) u, I.ts[j]? = some u → ∃ ad, I.b0 = some ad ∧ I.W.cell? (ad.add j) = some (num u)
  turnS : ∀ ad, I.b0 = some ad → ∀ x : Addr, x.block = ad.block → ¬ S (.cell x)
  tlen : I.ts.length * 8 ≤ 140737488355328
  new : ∀ l, S l → l.low I.W.heap.size

abbrev MIn.N (I : MIn) : Nat := I.W.heap.size
def MIn.part (I : MIn) (p : Nat) : List Int := I.ps.getD p []

/-- What whoever takes part leans on. -/
structure KM (I : MIn) (w : World) : Prop where
  low : Below I.N I.W w
  live : WgLive 47 I.N w
/-- The places that nobody writes meanwhile. -/
def StillM (I : MIn) (S : Loc → Prop) (l : Loc) : Prop := (∃ ad : Addr, l = .cell ad ∧ ad.block < I.N ∧ ¬ S (.cell ad)) ∨ (∃ p, l = .obj (I.N + 3 + p)) ∨ l = .obj (I.N + 1)

noncomputable def mcfg0 (I : MIn) (S : Loc → Prop) (b B : Nat) : MCfg where
  P := Try.prog
  S := KM I
  Still := StillM I S
  Shun := S
  B := B
  T := I.ps.length
  c := fun p => I.N + 3 + p
  d := I.N + 1
  Wg := I.N
  ty := 47
  parts := I.part
  W := fun _ _ _ => False
  b0 := b

/-- Each sender's records between its communications. -/
def MergeWs (I : MIn) (S : Loc → Prop) (b B : Nat) (p : Nat) : MS → Goroutine → Prop
  | .feed r, g => ∃ ap cp, I.hd p = .slice ap (I.part p).length cp ∧ ((g = born Try.prog (call24 ap (I.part p).length cp (I.N + 3 + p) (I.N + 1) I.N) ∧ r = I.part p) ∨
      ∃ j v b0 z0 j4 j5 j6 j7 j8 j9 j10 j11 j15 j16 j17 j22 j23 j24 j25, j < (I.part p).length ∧ r = (I.part p).drop (j + 1) ∧ g = gPast24 ap (I.part p).length cp (I.N + 3 + p) (I.N + 1) I.N j v (.tuple #[.int .i64 0, b0, z0]) j4 j5 j6 j7 j8 j9 j10 j11 j15 j16 j17 j22 j23 j24 j25)
  | .shut, g => ∃ ap len cp j v b0 z0 j4 j5 j6 j7 j8 j9 j10 j11 j15 j16 j17 j22 j23 j24 j25, g = gPast24 ap len cp (I.N + 3 + p) (I.N + 1) I.N j v (.tuple #[.int .i64 1, b0, z0]) j4 j5 j6 j7 j8 j9 j10 j11 j15 j16 j17 j22 j23 j24 j25
  | .done, g => WDone (mcfg0 I S b B) g
  | .rel, g => WRel (mcfg0 I S b B) g
  | .deaf, g => WDeaf (mcfg0 I S b B) g
  | .l2, g => WL2 (mcfg0 I S b B) g
  | .l3, g => WL3 (mcfg0 I S b B) g
  | .l4, g => WL4 (mcfg0 I S b B) g
  | .gone, g => WGone (mcfg0 I S b B) g
noncomputable def mcfg (I : MIn) (S : Loc → Prop) (b B : Nat) : MCfg := { mcfg0 I S b B with W := MergeWs I S b B }

theorem sel_is (a0 : Option Addr) (len cap c d g j : Nat) (v : Int) (j4 j5 j6 j7 j8 j9 j10 j11 j15 j16 j17 j21 j22 j23 j24 j25 : Value) (w : World) : stepG Try.prog false (gSel24 a0 len cap c d g j v j4 j5 j6 j7 j8 j9 j10 j11 j15 j16 j17 j21 j22 j23 j24 j25) w = .comm (core (gSel24 a0 len cap c d g j v j4 j5 j6 j7 j8 j9 j10 j11 j15 j16 j17 j21 j22 j23 j24 j25)) (twoCases c (num v) (.int .i64 0) d (.agg #[])) true .select w #[] := by
  unfold gSel24
  rw [stepG_comm (cases := twoCases c (num v) (.int .i64 0) d (.agg #[])) (blocking := true) (shape := .select) (w' := w) rfl rfl (by decide) (by simp [go_sem, execOp, twoCases, scase, rcase, Act.eval, num, ops24s, inner24, L24, body24, Try.f24]), listed_none (by simp [go_sem, execOp, Act.eval, ops24s, inner24, L24, body24, Try.f24])]
  rfl

theorem two_result (c d : Nat) (v z zd : Value) (k : Int) (x : Value) (ok : Bool) : commResult (twoCases c v z d zd) .select k x ok = .tuple #[.int .i64 k, .bool ok, if (1 : Int) = k then x else zd] := by
  simp [commResult, twoCases, scase, rcase, goInt]

section
variable {I : MIn} {S : Loc → Prop} {b B : Nat}

theorem part_row (h : I.Ok S) {p : Nat} (hp : p < I.ps.length) : IntsAt S I.W (I.hd p) (I.part p) :=
  h.parts.row p (I.part p) (by unfold MIn.part; rw [List.getD_eq_getElem?_getD, List.getElem?_eq_getElem hp]; rfl)
theorem km_live {w : World} (h : KM I w) : WgLive 47 I.N w := h.live
theorem part_numbers (h : I.Ok S) (hB : I.N + 3 + I.ps.length ≤ B) {p : Nat} (hp : p < I.ps.length) : ∃ ap cp, I.hd p = .slice ap (I.part p).length cp ∧ Numbers (KM I) (fun l => StillM I S l ∧ ¬ (MS.feed []).said) B ap (I.part p) := by
  obtain ⟨ap, cp, e, hel, hS, _, hlen⟩ := part_row h hp
  refine ⟨ap, cp, e, ⟨fun j v hj => ?_, hlen⟩⟩
  obtain ⟨ad, h0, hc⟩ := hel j v hj
  have hlt : ad.block < I.N := by have := World.block_lt_of_cell? _ _ hc; rwa [addBlk24] at this
  refine ⟨ad, h0, by omega, ⟨.inl ⟨_, rfl, by rw [addBlk24]; exact hlt, hS ad h0 _ (addBlk24 _ _)⟩, fun h => h⟩, fun w k => ?_⟩
  rw [k.low.cell (by rw [addBlk24]; exact hlt)]
  exact hc

theorem test_stops (h : I.Ok S) {p : Nat} {ap : Option Addr} {cp : Nat} (e : I.hd p = .slice ap (I.part p).length cp) (hn : Numbers (KM I) (fun l => StillM I S l ∧ ¬ (MS.feed []).said) B ap (I.part p)) (j : Nat) (hj : j ≤ (I.part p).length)
    (j4 j5 j6 j7 j8 j9 j10 j11 j15 j16 j17 j18 j19 j20 j21 j22 j23 j24 j25 : Value) (w : World) : Goes Try.prog false (fun _ w₁ => KM I w₁) (DS (fun l => StillM I S l ∧ ¬ (MS.feed []).said) B) (fun g₁ _ => StopM (mcfg I S b B) p (.feed ((I.part p).drop j)) g₁) 50 (gTest24 ap (I.part p).length cp (I.N + 3 + p) (I.N + 1) I.N j j4 j5 j6 j7 j8 j9 j10 j11 j15 j16 j17 j18 j19 j20 j21 j22 j23 j24 j25) w := by
  refine send_test hn j hj (fun v hv j4 j5 j6 j7 j8 j9 j10 j11 j15 j16 j17 j21 j22 j23 j24 j25 w₁ _ => ?_) (fun e' T k w₁ _ => ?_) j4 j5 j6 j7 j8 j9 j10 j11 j15 j16 j17 j18 j19 j20 j21 j22 j23 j24 j25 w
  · obtain ⟨hlt, hv'⟩ := List.getElem?_eq_some_iff.1 hv
    rw [List.drop_eq_getElem_cons hlt, hv']
    refine ⟨rfl, .select, .int .i64 0, .agg #[], fun w _ => sel_is _ _ _ _ _ _ _ _ _ _ _ _ _ _ _ _ _ _ _ _ _ _ _ _ w, ?_, ?_⟩
    · refine ⟨ap, cp, e, .inr ⟨j, v, .bool false, .agg #[], j4, j5, j6, j7, j8, j9, j10, j11, j15, j16, j17, j22, j23, j24, j25, hlt, rfl, ?_⟩⟩
      show (core _).finishComm Try.prog _ .select 0 undef false = _
      rw [sel_past, two_result]
      rfl
    · refine ⟨ap, (I.part p).length, cp, j, v, .bool false, .agg #[], j4, j5, j6, j7, j8, j9, j10, j11, j15, j16, j17, j22, j23, j24, j25, ?_⟩
      show (core _).finishComm Try.prog _ .select 1 _ false = _
      rw [sel_past, two_result]
      rfl
  · rw [e', List.drop_length]
    exact send_close (C := mcfg I S b B) rfl rfl T k (done_says (C := mcfg0 I S b B) rfl rfl (fun w k => k.live) T k)

theorem mcfg_walk (h : I.Ok S) (hB : I.N + 3 + I.ps.length ≤ B) (p : Nat) (s : MS) (g : Goroutine) (hp : p < I.ps.length) (hs : s ≠ .gone) (hW : MergeWs I S b B p s g) : ∃ n, GoesM (mcfg I S b B) p s n g := by
  cases s with
  | gone => exact absurd rfl hs
  | done => obtain ⟨n, hn⟩ := hW; exact ⟨n, hn default⟩
  | rel => obtain ⟨n, hn⟩ := hW; exact ⟨n, hn default⟩
  | deaf => obtain ⟨n, hn⟩ := hW; exact ⟨n, hn default⟩
  | l2 => obtain ⟨n, hn⟩ := hW; exact ⟨n, hn default⟩
  | l3 => obtain ⟨n, hn⟩ := hW; exact ⟨n, hn default⟩
  | l4 => obtain ⟨n, hn⟩ := hW; exact ⟨n, hn default⟩
  | shut =>
    obtain ⟨ap, len, cp, j, v, b0, z0, j4, j5, j6, j7, j8, j9, j10, j11, j15, j16, j17, j22, j23, j24, j25, rfl⟩ := hW
    obtain ⟨n, hn⟩ := send_told (S := KM I) (Still := fun l => StillM I S l ∧ ¬ (MS.shut).said) (B := B) (Stop := fun g₁ _ => StopM (mcfg I S b B) p .shut g₁) (a0 := ap) (cap := cp) (c := I.N + 3 + p) (d := I.N + 1) (g := I.N) (len := len) (j := j)
      (fun T k w₁ _ => send_close (C := mcfg I S b B) rfl rfl T k (done_says (C := mcfg0 I S b B) rfl rfl (fun w k => k.live) T k)) v b0 z0 j4 j5 j6 j7 j8 j9 j10 j11 j15 j16 j17 j22 j23 j24 j25
    exact ⟨n, hn default⟩
  | feed r =>
    obtain ⟨ap, cp, e, hc⟩ := hW
    obtain ⟨ap', cp', e', hn⟩ := part_numbers (B := B) h hB hp
    rw [e] at e'
    simp only [Value.slice.injEq] at e'
    obtain ⟨rfl, _, rfl⟩ := e'
    rcases hc with ⟨rfl, rfl⟩ | ⟨j, v, b0, z0, j4, j5, j6, j7, j8, j9, j10, j11, j15, j16, j17, j22, j23, j24, j25, hj, rfl, rfl⟩
    · obtain ⟨n, h1⟩ := send_birth (S := KM I) (vs := I.part p) (Stop := fun g₁ _ => StopM (mcfg I S b B) p (.feed ((I.part p).drop 0)) g₁) (test_stops (b := b) h e hn 0 (Nat.zero_le _))
      exact ⟨n, h1 default⟩
    · obtain ⟨n, h1⟩ := send_next (S := KM I) (vs := I.part p) (Stop := fun g₁ _ => StopM (mcfg I S b B) p (.feed ((I.part p).drop (j + 1))) g₁) hj hn.len (test_stops (b := b) h e hn (j + 1) hj) v b0 z0 j4 j5 j6 j7 j8 j9 j10 j11 j15 j16 j17 j22 j23 j24 j25
      exact ⟨n, h1 default⟩

theorem KM.aside {w w₁ : World} {C : MCfg} {m : Nat} (hc : ∀ p, C.c p = I.N + 3 + p) (hw : C.Wg = I.N) (ht : C.ty = 47) (k : KM I w) (r : AsideM C m w w₁) : KM I w₁ :=
  ⟨⟨r.os.trans k.low.os, r.tape.trans k.low.tape, r.output.trans k.low.output, Nat.le_trans k.low.size (Nat.le_of_eq r.size.symm), fun i hi => (r.block i (by rw [hw]; have : i < I.N := hi; omega) fun p _ => by rw [hc]; have : i < I.N := hi; omega).trans (k.low.block i hi)⟩,
    by have := r.live; rw [hw, ht] at this; exact this k.live⟩

theorem mcfg_fine (h : I.Ok S) (hb : 0 < b) (hB : I.N + 3 + I.ps.length ≤ B) (h64 : I.ps.length ≤ 64) {Anch Fin : Goroutine → World → Prop} (ha : ∃ n, ∀ g w, Anch g w → Goes Try.prog true (AsideM (mcfg I S b B) I.ps.length) (D0 (mcfg I S b B) I.ps.length) (AtW1M (mcfg I S b B) Fin Anch) n g w) : (mcfg I S b B).Fine Anch Fin where
  inj p q e := by have e : I.N + 3 + p = I.N + 3 + q := e; omega
  cd p e := by have e : I.N + 3 + p = I.N + 1 := e; omega
  cw p e := by have e : I.N + 3 + p = I.N := e; omega
  dw e := by have e : I.N + 1 = I.N := e; omega
  low p hp := by have hp : p < I.ps.length := hp; show I.N + 3 + p < B; omega
  lowd := by show I.N + 1 < B; omega
  loww := by show I.N < B; omega
  obj p := .inr (.inl ⟨p, rfl⟩)
  objd := .inr (.inr rfl)
  mem l hl := by rcases hl with ⟨ad, rfl, _⟩ | ⟨p, rfl⟩ | rfl <;> rfl
  apart l hl hw := by
    obtain ⟨x, rfl, hx⟩ := hw
    rcases hl with ⟨ad, e, hlt, _⟩ | ⟨p, e⟩ | e
    · obtain rfl := Loc.cell.inj e
      have hx : x.block = I.N := hx
      omega
    · cases e
    · cases e
  apartS l hl hs := by
    rcases hl with ⟨ad, rfl, _, hn⟩ | ⟨p, rfl⟩ | rfl
    · exact hn hs
    · have : I.N + 3 + p < I.N := h.new _ hs; omega
    · have : I.N + 1 < I.N := h.new _ hs; omega
  stable w w₁ r k := KM.aside (C := mcfg I S b B) (fun _ => rfl) rfl rfl k r
  shut w s r k := ⟨⟨k.low.os, k.low.tape, k.low.output, by have := k.low.size; simpa [World.setChan, mcfg, mcfg0] using this, fun i hi => (heap_setChan_ne' (by show i ≠ I.N + 1; have : i < I.N := hi; omega)).trans (k.low.block i hi)⟩, by
    obtain ⟨st, sm, hw⟩ := k.live
    exact ⟨st, sm, hw.of_block (heap_setChan_ne' (by show I.N ≠ I.N + 1; omega))⟩⟩
  walk p s g hp hs hW := mcfg_walk h hB p s g hp hs hW
  quits p g hW := hW
  anch := ha
  pos := hb
  many := by show I.ps.length < 2147483647; omega
end
end Go.Proofs.Ytdpagejckahkkaa.Net
