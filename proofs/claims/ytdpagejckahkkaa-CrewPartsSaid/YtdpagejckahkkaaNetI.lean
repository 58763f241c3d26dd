/- Goroutine 0 beside goroutines that only leave: what it comes to, said without a bound on the blocks that it touches; a call that starts goroutines and joins them is one such coming. -/
import Derived.Test.YtdpagejckahkkaaNetH
import Derived.Conc.CompanyCalls
namespace Go.Proofs.Ytdpagejckahkkaa.Net
open Go Go.Conc
open Go.ConcN (sumTo upd upd_same upd_ne sumTo_congr sumTo_upd)

/-- What a step of goroutine 0's may list while nobody else does anything but leave. -/
def EvF (S : Loc → Prop) (e : Event) : Prop := (∀ x, (MemAct.ofEvent e).touch? = some x → S x.loc → x.kind ≠ .plain) ∧ e.loc ≠ .mark .disable ∧ e.loc ≠ .mark .enable
def DF (S : Loc → Prop) (_ _ : World) (es : Array Event) : Prop := ∀ e ∈ es, EvF S e
theorem termsF (S : Loc → Prop) : Terms AtRel (DF S) := ⟨atRel_trans, fun _ e he => by simp at he⟩

theorem evF_cell {S : Loc → Prop} (a : Addr) (wr : Bool) (h : ¬ S (.cell a)) : EvF S ⟨.cell a, wr, false⟩ :=
  ⟨fun x hx hs => by simp only [ofEvent_cell0, MemAct.touch?, Option.some.injEq] at hx; subst hx; exact absurd hs h, by simp, by simp⟩
theorem evF_neutral {S : Loc → Prop} {m : Mark} (h : Neutral m) : EvF S ⟨.mark m, false, true⟩ := by
  refine ⟨fun x hx => ?_, fun e => ?_, fun e => ?_⟩
  · cases m <;> simp [MemAct.ofEvent, MemAct.touch?] at hx <;> simp [Neutral] at h
  · cases e; simp [Neutral] at h
  · cases e; simp [Neutral] at h
/-- Whatever is listed lies below some bound. -/
theorem low_some (l : List Event) : ∃ B, ∀ e ∈ l, (MemAct.ofEvent e).low B := by
  induction l with
  | nil => exact ⟨0, by simp⟩
  | cons e l ih =>
    obtain ⟨B, hB⟩ := ih
    have : ∃ B', (MemAct.ofEvent e).low B' := by
      cases h : MemAct.ofEvent e with
      | access x =>
        obtain ⟨loc, k, b⟩ := x
        cases loc with
        | cell a => exact ⟨a.block + 1, Nat.lt_succ_self _⟩
        | obj r => exact ⟨r + 1, Nat.lt_succ_self _⟩
        | output => exact ⟨0, trivial⟩
        | goroutines => exact ⟨0, trivial⟩
        | mark m => exact ⟨0, trivial⟩
      | mark m =>
        cases m <;> first | exact ⟨0, trivial⟩ | (rename_i a; exact ⟨a.block + 1, Nat.lt_succ_self _⟩)
      | go _ => exact ⟨0, trivial⟩
      | start => exact ⟨0, trivial⟩
      | send c _ => exact ⟨c + 1, Nat.lt_succ_self _⟩
      | sendDone c _ => exact ⟨c + 1, Nat.lt_succ_self _⟩
      | recv c _ _ => exact ⟨c + 1, Nat.lt_succ_self _⟩
      | recvDone c _ => exact ⟨c + 1, Nat.lt_succ_self _⟩
      | close c => exact ⟨c + 1, Nat.lt_succ_self _⟩
      | recvClosed c => exact ⟨c + 1, Nat.lt_succ_self _⟩
    obtain ⟨B', hB'⟩ := this
    refine ⟨max B B', fun x hx => ?_⟩
    rcases List.mem_cons.1 hx with rfl | hx
    · exact MemAct.low_mono (Nat.le_max_right _ _) hB'
    · exact MemAct.low_mono (Nat.le_max_left _ _) (hB x hx)

theorem Past.free {S : Loc → Prop} {B : Nat} {t : Trace} (h : Past S B t) {fn : FuncId} {pos : String} {es : Array Event} (hes : ∀ e ∈ es, EvF S e) : ∃ B', Past S B' (t ++ MemOp.ofEvents 0 fn pos es) := by
  obtain ⟨B', hB⟩ := low_some es.toList
  refine ⟨max B B', (h.mono (Nat.le_max_left _ _)).own fun e he => ⟨(hes e he).1, (hes e he).2.1, (hes e he).2.2, MemAct.low_mono (Nat.le_max_right _ _) (hB e (by simpa using he))⟩⟩

/-- Goroutine 0 stands at a, in w (but for the count of draws), beside goroutines that only leave, which have m steps yet between them. -/
def StandsQ (P : Program) (S : Loc → Prop) (m : Nat) (M : Machine) (t : Trace) (a : Goroutine) (w : World) : Prop :=
  ∃ (gs : Array Goroutine) (sl : Option (Nat × Nat)) (q : Nat → Nat) (B d : Nat), M = crowd gs (w.at d) sl ∧ gs[0]? = some a ∧ Leavers P t gs q ∧ Past S B t ∧ m = sumTo gs.size q
def Stands (P : Program) (S : Loc → Prop) (M : Machine) (t : Trace) (a : Goroutine) (w : World) : Prop := ∃ m, StandsQ P S m M t a w

section
variable {P : Program} {S : Loc → Prop} {m : Nat} {M : Machine} {t : Trace} {a : Goroutine} {w : World}

theorem StandsQ.step {K : Goroutine → World → Prop} (hs : StandsQ P S m M t a w) (hrun : a.status = .running) (h : ∀ d, (stepG P true a (w.at d)).goes fun g' w' es => DF S (w.at d) w' es ∧ K g' w') :
    ∃ M' ops, stepT P M = (.next M', ops) ∧ ((∃ m', m' < m ∧ StandsQ P S m' M' (t ++ ops) a w) ∨ ∃ a' w', K a' w' ∧ StandsQ P S m M' (t ++ ops) a' w') := by
  obtain ⟨gs, sl, q, B, d0, rfl, h0, hL, hP, rfl⟩ := hs
  have hlt0 : 0 < gs.size := (Array.getElem?_eq_some_iff.1 h0).1
  have haw : ∀ g ∈ gs, awake g := fun g hg => by
    obtain ⟨i, hi, rfl⟩ := Array.mem_iff_getElem.1 hg
    rcases Nat.eq_zero_or_pos i with rfl | hpos
    · rw [show gs[0] = a by simpa [Array.getElem?_eq_getElem hi] using h0]; exact awake_of (.inl hrun)
    · exact awake_of ((hL.old i _ hpos (Array.getElem?_eq_getElem hi)).status.elim .inl fun x => .inr (.inr x))
  obtain ⟨i, g, d, sl', hi, hg, hst⟩ := crowd_pick (P := P) (w := w.at d0) (sl := sl) haw ⟨0, a, h0, hrun⟩
  change stepT P _ = runT P (crowd gs (w.at d) sl') i at hst
  rcases Nat.eq_zero_or_pos i with rfl | hpos
  · obtain rfl : g = a := by rw [h0] at hi; exact (Option.some.inj hi).symm
    have hs := h d
    cases hgo : stepG P true g (w.at d) with
    | go a' w' es =>
      rw [hgo, goes_go] at hs
      have hrunT := runT_crowd_go (P := P) (sl := sl') (i := 0) hi (show stepG P (0 == 0) g (w.at d) = _ from hgo)
      obtain ⟨B', hP'⟩ := Past.free (fn := g.frame.fn) (pos := g.frame.place) hP hs.1
      refine ⟨_, _, hst.trans hrunT, .inr ⟨a', w', hs.2, _, sl', q, B', w'.drawn, rfl, by simp [hlt0], ⟨fun j x hj hx => ?_, fun j hj => ?_⟩, hP', by simp⟩⟩
      · rw [Array.getElem?_setIfInBounds_ne (by omega), Array.getElem?_map] at hx
        obtain ⟨y, hy, rfl⟩ := Option.map_eq_some_iff.1 hx
        rw [woken_quitsD (hL.old j y hj hy), Deaf_other t (g := j) (g' := 0) (by omega) _ (fun op hop => by obtain ⟨e, _, rfl⟩ := Go.Conc.mem_ofEvents hop; rfl)]
        exact hL.old j y hj hy
      · rw [Deaf_other t (g' := 0) (by simp at hj; omega) _ (fun op hop => by obtain ⟨e, _, rfl⟩ := Go.Conc.mem_ofEvents hop; rfl)]
        exact hL.above j (by simpa using hj)
    | _ => rw [hgo] at hs; exact hs.elim
  · have hq := hL.old i g hpos hi
    have hi0 : (i == 0) = false := by simp; omega
    have hlt : i < gs.size := (Array.getElem?_eq_some_iff.1 hi).1
    cases hqi : q i with
    | zero => rw [hqi] at hq; rw [hq.1] at hg; cases hg
    | succ k =>
      rw [hqi] at hq
      rcases hq with ⟨hf, _⟩ | ⟨_, g', es, hm, hstp, hq'⟩
      · rw [hf] at hg; cases hg
      have hrunT := runT_crowd_go (P := P) (sl := sl') (i := i) hi (by rw [hi0]; exact hstp (w.at d))
      have hsum : sumTo gs.size (upd q i k) + (k + 1) = sumTo gs.size q + k := by
        have := sumTo_upd q k id hlt
        simpa [hqi] using this
      refine ⟨_, _, hst.trans hrunT, .inl ⟨sumTo gs.size (upd q i k), by omega, _, sl', upd q i k, B, d, rfl, ?_, ⟨fun j x hj hx => ?_, fun j hj => ?_⟩, hP.mute (by omega) hm, by simp⟩⟩
      · rw [Array.getElem?_setIfInBounds_ne (by omega), Array.getElem?_map, h0]
        simp [woken_run hrun]
      · by_cases hji : i = j
        · subst hji
          rw [Array.getElem?_setIfInBounds_self_of_lt (by simpa using hlt)] at hx
          obtain rfl := Option.some.inj hx
          rw [upd_same, Deaf_own]; exact hq'
        · rw [Array.getElem?_setIfInBounds_ne hji, Array.getElem?_map] at hx
          obtain ⟨y, hy, rfl⟩ := Option.map_eq_some_iff.1 hx
          rw [woken_quitsD (hL.old j y hj hy), upd_ne q k (Ne.symm hji), Deaf_other t (g := j) (g' := i) (by omega) _ (fun op hop => by obtain ⟨e, _, rfl⟩ := Go.Conc.mem_ofEvents hop; rfl)]
          exact hL.old j y hj hy
      · rw [Deaf_other t (g' := i) (by simp at hj; omega) _ (fun op hop => by obtain ⟨e, _, rfl⟩ := Go.Conc.mem_ofEvents hop; rfl)]
        exact hL.above j (by simpa using hj)

/-- GOROUTINE 0 COMES, ON WHATEVER TAPE, TO A STATE OF WHICH X HOLDS. -/
def Reach (P : Program) (S : Loc → Prop) (a : Goroutine) (w : World) (X : (Loc → Prop) → Goroutine → World → Prop) : Prop :=
  ∀ M t, Stands P S M t a w → ∃ N M' t' S' a' w', runNT P N M t = (.next M', t') ∧ Stands P S' M' t' a' w' ∧ X S' a' w'

theorem Reach.here {X : (Loc → Prop) → Goroutine → World → Prop} (h : X S a w) : Reach P S a w X := fun M t hs => ⟨0, M, t, S, a, w, rfl, hs, h⟩
theorem Reach.bind {X Y : (Loc → Prop) → Goroutine → World → Prop} (h : Reach P S a w X) (k : ∀ S' a' w', X S' a' w' → Reach P S' a' w' Y) : Reach P S a w Y := by
  intro M t hs
  obtain ⟨N, M', t', S', a', w', h1, h2, h3⟩ := h M t hs
  obtain ⟨N', M'', t'', S'', a'', w'', h4, h5, h6⟩ := k S' a' w' h3 M' t' h2
  exact ⟨N + N', M'', t'', S'', a'', w'', runNT_then h1 h4, h5, h6⟩

/-- THE WALK BESIDE LEAVERS. -/
theorem Reach.walk {X : (Loc → Prop) → Goroutine → World → Prop} {n : Nat} (h : Goes P true AtRel (DF S) (fun g w' => Reach P S g w' X) n a w) : Reach P S a w X := by
  suffices key : ∀ (n m : Nat) (a : Goroutine) (w : World) (M : Machine) (t : Trace), Goes P true AtRel (DF S) (fun g w' => Reach P S g w' X) n a w → StandsQ P S m M t a w →
      ∃ N M' t' S' a' w', runNT P N M t = (.next M', t') ∧ Stands P S' M' t' a' w' ∧ X S' a' w' from fun M t ⟨m, hs⟩ => key n m a w M t h hs
  intro n
  induction n with
  | zero => exact fun m a w M t h hs => h w (atRel_refl w) M t ⟨m, hs⟩
  | succ n ih =>
    intro m
    induction m using Nat.strongRecOn with
    | _ m ihm =>
      intro a w M t h hs
      rcases h with hstop | ⟨hrun, hstep⟩
      · exact hstop w (atRel_refl w) M t ⟨m, hs⟩
      obtain ⟨M', ops, hst, ⟨m', hlt, hs'⟩ | ⟨a', w', hK, hs'⟩⟩ := hs.step (K := fun g' w' => Goes P true AtRel (DF S) (fun g w' => Reach P S g w' X) n g' w') hrun fun d => hstep (w.at d) ⟨d, rfl⟩
      · obtain ⟨N, M'', t'', S'', a'', w'', h1, h2, h3⟩ := ihm m' hlt a w M' (t ++ ops) (.inr ⟨hrun, hstep⟩) hs'
        exact ⟨N + 1, M'', t'', S'', a'', w'', by rw [runNT_succ_next hst]; exact h1, h2, h3⟩
      · obtain ⟨N, M'', t'', S'', a'', w'', h1, h2, h3⟩ := ih m a' w' M' (t ++ ops) hK hs'
        exact ⟨N + 1, M'', t'', S'', a'', w'', by rw [runNT_succ_next hst]; exact h1, h2, h3⟩

theorem Stands.at {d : Nat} (h : Stands P S M t a (w.at d)) : Stands P S M t a w := by
  obtain ⟨m, gs, sl, q, B, d', rfl, h⟩ := h
  exact ⟨m, gs, sl, q, B, d', rfl, h⟩
theorem Reach.at {X : (Loc → Prop) → Goroutine → World → Prop} (h : Reach P S a w X) {w₁ : World} (r : AtRel w w₁) : Reach P S a w₁ X := by
  obtain ⟨d, rfl⟩ := r
  exact fun M t hs => h M t hs.at
/-- One own step. -/
theorem Reach.step {X : (Loc → Prop) → Goroutine → World → Prop} (hrun : a.status = .running) (h : ∀ w₁, AtRel w w₁ → (stepG P true a w₁).goes fun g' w' es => DF S w₁ w' es ∧ Reach P S g' w' X) : Reach P S a w X :=
  Reach.walk (n := 1) (Goes.step hrun fun w₁ r => by
    have := h w₁ r
    revert this
    cases stepG P true a w₁ <;> first | exact id | exact fun ⟨x, y⟩ => ⟨x, Goes.stop fun w₂ r => y.at r⟩)

/-! ### a call, said so -/

/-- A function called from wherever, in this world: goroutine 0 comes back with a value and in a world of which Post holds. -/
def CallsR (P : Program) (S : Loc → Prop) (f : FuncId) (args : Array Value) (w : World) (Post : (Loc → Prop) → Value → World → Prop) : Prop :=
  ∀ (b : Frame) (a : Act) (k : List Item) (cs : List Frame) (ops : Array Oper) (i : Nat) (rest : List Nat) (o : Oper) (xs : Array Operand) (ats : Array TypeId), ops[i]? = some o → Region.wanted o (yielded ops a.tmps) = true → b.kind ≠ .early →
    o.op = .call { callee := .value (.func f), args := xs, argTypes := ats } → xs.map a.eval = args →
    Reach P S (G (b.at a (.inRegion ops (i :: rest) :: k)) cs) w fun S' g w' => ∃ v, Post S' v w' ∧ g = G (b.at (a.put o.dst v) (.inRegion ops rest :: k)) cs

theorem CallsR.of_callsC {f : FuncId} {args : Array Value} {n : Nat} {Post : Value → World → Prop} (h : CallsC P true AtRel (DF S) f args n w Post) : CallsR P S f args w fun S' v w' => S' = S ∧ Post v w' := by
  intro b a k cs ops i rest o xs ats ho hw hk hop hx
  subst hx
  exact Reach.walk (n := 0 + n + 3) (Goes.call (termsF S) ho hw hk hop h fun v w' hp => Goes.stop fun w₁ r => Reach.at (w := w') (.here ⟨v, ⟨rfl, hp⟩, rfl⟩) r)

theorem CallsR.mono {f : FuncId} {args : Array Value} {Post Post' : (Loc → Prop) → Value → World → Prop} (h : CallsR P S f args w Post) (hp : ∀ S' v w', Post S' v w' → Post' S' v w') : CallsR P S f args w Post' :=
  fun b a k cs ops i rest o xs ats ho hw hk hop hx => (h b a k cs ops i rest o xs ats ho hw hk hop hx).bind fun _ _ _ ⟨v, hv, e⟩ => .here ⟨v, hp _ _ _ hv, e⟩

/-- The run's end: goroutine 0 stands at the step that ends it. -/
def AtLast (P : Program) (Post : Value → World → Prop) (_ : Loc → Prop) (g : Goroutine) (w : World) : Prop :=
  g.status = .running ∧ ∀ w₁, AtRel w w₁ → ∃ v, stepG P true g w₁ = .ended (.done v) w₁ #[] ∧ Post v w₁
theorem Reach.ends {Post : Value → World → Prop} (h : Reach P S a w (AtLast P Post)) (hs : Stands P S M t a w) :
    ∃ N last o w' t', runNT P (N + 1) M t = (.ended o w', t') ∧ runN P N M = .next last ∧ Go.step P last = .ended o w' ∧ Good P Post last o w' t' := by
  obtain ⟨N, M', t', S', a', w', h1, ⟨m, gs, sl, q, B, d, rfl, h0, hL, hP, _⟩, hr, he⟩ := h M t hs
  obtain ⟨N', last, o, w'', t'', e1, e2, e3, e4⟩ := beside_ends (P := P) (Shun := S') (B := B) (D := fun _ _ _ => False) (Post := Post) (n := 0) (sl := sl) (fun _ _ _ h => h.elim) h0 hL hP (fun w₁ r => ⟨hr, by
    obtain ⟨v, x, y⟩ := he w₁ (atRel_trans _ _ _ ⟨d, rfl⟩ r)
    exact ⟨v, #[], x, by simp, y⟩⟩)
  refine ⟨N + N', last, o, w'', t'', ?_, ?_, e3, e4⟩
  · rw [Nat.add_assoc, runNT_add, h1]; exact e1
  · rw [runN_add, ← runNT_fst P N M t, h1]; exact e2
/-- How a run begins. -/
theorem stands_first (a : Goroutine) (w : World) : Stands P (fun _ => False) (solo a w) #[] a w :=
  ⟨_, #[a], none, fun _ => 0, 0, w.drawn, by rw [solo_eq_crowd]; rfl, rfl, leavers_one _ _, past_nil, rfl⟩
end

/-! ### the words of control, and one operation -/
section
variable {P : Program} {S : Loc → Prop} {b : Frame} {a : Act} {k : List Item} {cs : List Frame} {w : World} {X : (Loc → Prop) → Goroutine → World → Prop}

theorem r_ctl {g g' : Goroutine} (hr : g.status = .running) (hs : ∀ w₁, stepG P true g w₁ = .go g' w₁ #[]) (h : Reach P S g' w X) : Reach P S g w X :=
  .step hr fun w₁ r => by rw [hs]; exact ⟨fun e he => by simp at he, h.at r⟩
theorem r_seq {x y : Code} (h : Reach P S (G (b.at a (.code x :: .code y :: k)) cs) w X) : Reach P S (G (b.at a (.code (.seq x y) :: k)) cs) w X := r_ctl rfl (fun w₁ => by rw [stepG_seq]) h
theorem r_skip (h : Reach P S (G (b.at a k) cs) w X) : Reach P S (G (b.at a (.code .skip :: k)) cs) w X := r_ctl rfl (fun w₁ => by rw [stepG_skip]) h
theorem r_label {l : Nat} (h : Reach P S (G (b.at a k) cs) w X) : Reach P S (G (b.at a (.code (.label l) :: k)) cs) w X := r_ctl rfl (fun w₁ => by rw [stepG_label]) h
theorem r_block {id : Nat} {c : Code} (h : Reach P S (G (b.at a (.code c :: .inBlock id :: k)) cs) w X) : Reach P S (G (b.at a (.code (.block id c) :: k)) cs) w X := r_ctl rfl (fun w₁ => by rw [stepG_block]) h
theorem r_inBlock {id : Nat} (h : Reach P S (G (b.at a k) cs) w X) : Reach P S (G (b.at a (.inBlock id :: k)) cs) w X := r_ctl rfl (fun w₁ => by rw [stepG_inBlock]) h
theorem r_loop {c : Code} (h : Reach P S (G (b.at a (.code c :: .inLoop c :: k)) cs) w X) : Reach P S (G (b.at a (.code (.loop c) :: k)) cs) w X := r_ctl rfl (fun w₁ => by rw [stepG_loop]) h
theorem r_inLoop {c : Code} (h : Reach P S (G (b.at a (.code c :: .inLoop c :: k)) cs) w X) : Reach P S (G (b.at a (.inLoop c :: k)) cs) w X := r_ctl rfl (fun w₁ => by rw [stepG_inLoop]) h
theorem r_exit {id : Nat} {k' : List Item} (hk : exitTo id k = some k') (h : Reach P S (G (b.at a k') cs) w X) : Reach P S (G (b.at a (.code (.exit id) :: k)) cs) w X := r_ctl rfl (fun w₁ => by rw [stepG_exit hk]) h
theorem r_region {id : Nat} {ops : Array Oper} (h : Reach P S (G (b.at a (.inRegion ops (List.range ops.size) :: k)) cs) w X) : Reach P S (G (b.at a (.code (.region id ops false) :: k)) cs) w X := r_ctl rfl (fun w₁ => by rw [stepG_region]) h
theorem r_end {ops : Array Oper} (h : Reach P S (G (b.at a k) cs) w X) : Reach P S (G (b.at a (.inRegion ops [] :: k)) cs) w X := r_ctl rfl (fun w₁ => by rw [stepG_region_end]) h
theorem r_cond {c : Operand} {x y : Code} {t : Bool} (hc : a.eval c = .bool t) (h : Reach P S (G (b.at a (.code (if t then x else y) :: k)) cs) w X) : Reach P S (G (b.at a (.code (.cond c x y) :: k)) cs) w X := r_ctl rfl (fun w₁ => by rw [stepG_cond hc]) h
theorem r_ret (h : Reach P S (G { b.at a (.code .ret :: k) with mode := .returning } cs) w X) : Reach P S (G (b.at a (.code .ret :: k)) cs) w X := r_ctl rfl (fun w₁ => by rw [stepG_ret']) h
theorem r_fall (h : Reach P S (G { b.at a [] with mode := .returning } cs) w X) : Reach P S (G (b.at a []) cs) w X := r_ctl rfl (fun w₁ => by rw [stepG_end]) h
theorem r_unwanted {ops : Array Oper} {i : Nat} {rest : List Nat} {o : Oper} (ho : ops[i]? = some o) (hw : Region.wanted o (yielded ops a.tmps) = false) (h : Reach P S (G (b.at (a.put o.dst undef) (.inRegion ops rest :: k)) cs) w X) :
    Reach P S (G (b.at a (.inRegion ops (i :: rest) :: k)) cs) w X := r_ctl rfl (fun w₁ => by rw [stepG_unwanted ho hw]) h

/-- One operation: what it yields is reckoned with what follows behind a variable. -/
theorem r_op {ops : Array Oper} {i : Nat} {rest : List Nat} {o : Oper} (ho : ops[i]? = some o) (hw : Region.wanted o (yielded ops a.tmps) = true) (hk : b.kind ≠ .early)
    (h : ∀ w₁, AtRel w w₁ → ∀ K : Act → World → Prop, (∀ a' w', DF S w₁ w' (listed P b.fn a o w₁) ∧ Reach P S (G (b.at a' (.inRegion ops rest :: k)) cs) w' X → K a' w') → uponK o a K ((execOp a.eval o).run P w₁)) :
    Reach P S (G (b.at a (.inRegion ops (i :: rest) :: k)) cs) w X :=
  .step rfl fun w₁ r => goes_oper_k ho hw hk fun K hK => h w₁ r K hK

/-- A call. -/
theorem r_call {ops : Array Oper} {i : Nat} {rest : List Nat} {o : Oper} {f : FuncId} {xs : Array Operand} {ats : Array TypeId} {Post : (Loc → Prop) → Value → World → Prop} (ho : ops[i]? = some o) (hw : Region.wanted o (yielded ops a.tmps) = true) (hk : b.kind ≠ .early)
    (hop : o.op = .call { callee := .value (.func f), args := xs, argTypes := ats }) (hc : CallsR P S f (xs.map a.eval) w Post) (h : ∀ S' v w', Post S' v w' → Reach P S' (G (b.at (a.put o.dst v) (.inRegion ops rest :: k)) cs) w' X) :
    Reach P S (G (b.at a (.inRegion ops (i :: rest) :: k)) cs) w X :=
  (hc b a k cs ops i rest o xs ats ho hw hk hop rfl).bind fun S' g w' ⟨v, hv, e⟩ => by subst e; exact h S' v w' hv

/-- The same, the arguments read beforehand. -/
theorem r_callx {ops : Array Oper} {i : Nat} {rest : List Nat} {o : Oper} {f : FuncId} {xs : Array Operand} {ats : Array TypeId} {args : Array Value} {Post : (Loc → Prop) → Value → World → Prop} (hc : CallsR P S f args w Post) (ho : ops[i]? = some o)
    (hw : Region.wanted o (yielded ops a.tmps) = true) (hk : b.kind ≠ .early) (hop : o.op = .call { callee := .value (.func f), args := xs, argTypes := ats }) (hx : xs.map a.eval = args)
    (h : ∀ S' v w', Post S' v w' → Reach P S' (G (b.at (a.put o.dst v) (.inRegion ops rest :: k)) cs) w' X) : Reach P S (G (b.at a (.inRegion ops (i :: rest) :: k)) cs) w X :=
  r_call ho hw hk hop (hx ▸ hc) h

/-- How a function of the program is entered and left. -/
theorem CallsR.enter {f : FuncId} {fn : Func} {c : Code} {args : Array Value} {Post : (Loc → Prop) → Value → World → Prop} (hf : P.funcs[f]? = some fn) (hname : (fn.name == "runtime.NumGoroutine") = false) (hb : fn.body = some c)
    (h : ∀ cs, Reach P S (G ((base f).at { tmps := args ++ Array.replicate (fn.ntmps - args.size) undef, defers := [] } [.code c]) cs) w fun S' g w' => ∃ a' todo v, g = G { (base f).at a' todo with mode := .returning } cs ∧ a'.defers = [] ∧ ResultsC P fn a'.tmps v ∧ Post S' v w') :
    CallsR P S f args w Post := by
  intro b a k cs ops i rest o xs ats ho hw hk hop hx
  subst hx
  have hfin : ∀ v, (b.at a (.inRegion ops (i :: rest) :: k)).finish v = b.at (a.put o.dst v) (.inRegion ops rest :: k) := fun v => by rw [Frame.finish_at, ho]; rfl
  refine .step rfl fun w₁ r => goes_call ho hw hk hop hf hname hb ⟨fun e he => by simp at he, Reach.at ((h _).bind fun S' g w' ⟨a', todo, v, e, hd, hr, hp⟩ => ?_) r⟩
  subst e
  refine .step rfl fun w₂ r₂ => ?_
  rw [stepG_leave (b := base f) rfl hd hf (hr w₂).1 (hr w₂).2, hfin]
  exact ⟨fun e he => by simp at he, Reach.at (w := w') (.here ⟨v, hp, rfl⟩) r₂⟩
end

#print axioms Reach.walk
end Go.Proofs.Ytdpagejckahkkaa.Net
