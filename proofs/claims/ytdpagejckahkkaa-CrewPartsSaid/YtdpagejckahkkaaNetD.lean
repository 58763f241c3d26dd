/- A chain of goroutines that hand numbers on: every step of the machine keeps what is held, and lowers the weight: the laws that all steps share; whoever only leaves; one of the chain by itself. -/
import Derived.Test.YtdpagejckahkkaaNetC
namespace Go.Proofs.Ytdpagejckahkkaa.Net
open Go Go.Conc
open Go.ConcN (sumTo upd upd_same upd_ne sumTo_congr sumTo_upd)

variable {C : Cfg} {Fin : Goroutine → World → Prop} {q : Nat → Nat} {gs : Array Goroutine} {w : World} {t : Trace} {m : Nat} {st : Nat → PS} {r : Nat → Nat}

theorem Crew.turn (H : Crew C q gs w t m st r) {D : Nat → Prop} {gs' : Array Goroutine} {w' : World} {u : Trace} {st' : Nat → PS} {r' q' : Nat → Nat}
    (hsz : gs'.size = gs.size) (hD : ∀ k, D k → k < gs.size) (hget : ∀ k, ¬ D k → gs'[k]? = gs[k]?)
    (hold : ∀ i g, D i → 0 < i → i < C.b0 → gs'[i]? = some g → QuitsD C.P (q' i) (Deaf (t ++ u) i) g) (hq : ∀ i, ¬ D i → q' i = q i)
    (hwk : ∀ p, p < m → D (C.b0 + p) → ∃ g, gs'[C.b0 + p]? = some g ∧ Sit C p (st' p) (r' p) g) (hsr : ∀ p, p < m → ¬ D (C.b0 + p) → st' p = st p ∧ r' p = r p)
    (hfit : ∀ p, p < m → D (C.b0 + p) → Net.fits p (st' p)) (hchan : ∀ p, p < m → ∃ s r, w'.heap[C.c p]? = some (.chan 0 #[] (isGone (st' p)) s r false))
    (hlink : ∀ p, p + 1 < m → (st' (p + 1) = .done ∨ st' (p + 1) = .gone) → st' p = .gone)
    (hmeet : ∀ p, p + 1 < m → st' (p + 1) = .want → r' (p + 1) = 0 → st' p ≠ .gone ∧ ¬ ((st' p).give.isSome ∧ r' p = 0))
    (hS : 0 < m → C.S w') (hdf : ∀ j, ¬ D j → Deaf (t ++ u) j = Deaf t j)
    (hpt : PT C.Shun C.Still C.B (Team C.b0 m) (fun g => g = 0 ∨ Team C.b0 m g) (t ++ u))
    (hkn : ∀ p, p < m → (p = 0 ∨ st' p = .done ∨ st' p = .gone) → KnowsOf (Upto C.b0 p) (C.b0 + p) (t ++ u))
    (hsh : ∀ p, p < m → st' p = .gone → ShutOf (Upto C.b0 p) (C.c p) (t ++ u)) : Crew C q' gs' w' (t ++ u) m st' r' := by
  refine ⟨hsz.trans H.size, H.mT, fun i g h1 h2 hg => ?_, fun j hj => ?_, fun p hp => ?_, fun p hp => ?_, hchan, hlink, hmeet, hS, hpt, hkn, hsh⟩
  · by_cases hd : D i
    · exact hold i g hd h1 h2 hg
    · rw [hget i hd] at hg
      rw [hq i hd, hdf i hd]
      exact H.old i g h1 h2 hg
  · rw [hdf j fun hd => by have := hD j hd; omega]
    exact H.above j (by omega)
  · by_cases hd : D (C.b0 + p)
    · exact hwk p hp hd
    · obtain ⟨g, hg, hs⟩ := H.work p hp
      exact ⟨g, by rw [hget _ hd]; exact hg, by rw [(hsr p hp hd).1, (hsr p hp hd).2]; exact hs⟩
  · by_cases hd : D (C.b0 + p)
    · exact hfit p hp hd
    · rw [(hsr p hp hd).1]; exact H.fits p hp

theorem get_one (gs : Array Goroutine) {i k : Nat} (x : Goroutine) (h : k ≠ i) : (gs.setIfInBounds i x)[k]? = gs[k]? := Array.getElem?_setIfInBounds_ne (fun e => h e.symm)
theorem get_self {gs : Array Goroutine} {i : Nat} {y : Goroutine} (x : Goroutine) (h : gs[i]? = some y) : (gs.setIfInBounds i x)[i]? = some x :=
  Array.getElem?_setIfInBounds_self_of_lt (Array.getElem?_eq_some_iff.1 h).1
theorem get_self' {gs : Array Goroutine} {i : Nat} {y : Goroutine} (f : Goroutine → Goroutine) (x : Goroutine) (h : gs[i]? = some y) : ((gs.map f).setIfInBounds i x)[i]? = some x :=
  Array.getElem?_setIfInBounds_self_of_lt (by simpa using (Array.getElem?_eq_some_iff.1 h).1)

theorem Crew.idx (H : Crew C q gs w t m st r) {k : Nat} {g : Goroutine} (hg : gs[k]? = some g) : k = 0 ∨ (0 < k ∧ k < C.b0) ∨ ∃ p, p < m ∧ k = C.b0 + p := by
  have hlt := (Array.getElem?_eq_some_iff.1 hg).1
  rw [H.size] at hlt
  rcases Nat.eq_zero_or_pos k with h | h
  · exact .inl h
  · rcases Nat.lt_or_ge k C.b0 with h1 | h1
    · exact .inr (.inl ⟨h, h1⟩)
    · exact .inr (.inr ⟨k - C.b0, by omega, by omega⟩)

/-- An own step of somebody's leaves all others as they are. -/
theorem Crew.still (H : Crew C q gs w t m st r) {i : Nat} {x x' : Goroutine} {w' : World} (hch : ∀ p, p < m → st p ≠ .gone → ∃ a b, w'.heap[C.c p]? = some (.chan 0 #[] false a b false))
    {a : Goroutine} (h0 : gs[0]? = some a) (ha : i ≠ 0 → woken C.P x x' w' a = a) : ∀ k, k ≠ i → ((gs.map (woken C.P x x' w')).setIfInBounds i x')[k]? = gs[k]? := by
  intro k hk
  rw [get_one _ _ hk, Array.getElem?_map]
  cases hg : gs[k]? with
  | none => rfl
  | some g =>
    simp only [Option.map_some, Option.some.injEq]
    rcases H.idx hg with rfl | ⟨h1, h2⟩ | ⟨p, hp, rfl⟩
    · rw [h0] at hg; obtain rfl := Option.some.inj hg; exact ha (Ne.symm hk)
    · exact woken_quitsD (H.old k g h1 h2 hg)
    · obtain ⟨g', hg', hs⟩ := H.work p hp
      rw [hg] at hg'
      obtain rfl := Option.some.inj hg'
      refine hs.woken (H.S (by omega)) (fun hne => hch p hp hne) fun hw hr => ?_
      cases p with
      | zero => have := H.fits 0 hp; rw [hw] at this; exact this.elim
      | succ p => exact hch p (by omega) (H.meet p hp hw hr).1

theorem Crew.open_ (H : Crew C q gs w t m st r) {w' : World} (h : ∀ p, p < m → w'.heap[C.c p]? = w.heap[C.c p]?) : ∀ p, p < m → st p ≠ .gone → ∃ a b, w'.heap[C.c p]? = some (.chan 0 #[] false a b false) := by
  intro p hp hne
  obtain ⟨s, r, hc⟩ := H.chan p hp
  exact ⟨s, r, by rw [h p hp, hc, isGone_false hne]⟩

/-! ### the invariant -/
variable (C Fin) in
structure Inv (gs : Array Goroutine) (w : World) (t : Trace) (m : Nat) (st : Nat → PS) (r q : Nat → Nat) (k : Nat) (l : Option (List Int)) (n : Nat) (a : Goroutine) : Prop where
  crew : Crew C q gs w t m st r
  main : gs[0]? = some a
  sit : MSit C Fin m k l n a w
  start : ∀ p, p + 1 = m → l = none → out C.a st p = full C.a C.vs p
  eat : ∀ l', l = some l' → out C.a st (C.T - 1) = l'
  fed : l ≠ none → n = 0 → st (C.T - 1) ≠ .gone ∧ ¬ ((st (C.T - 1)).give.isSome ∧ r (C.T - 1) = 0)

def mass (C : Cfg) (k m : Nat) (st : Nat → PS) : Nat := (C.vs.length + 4) * k + phi C.a st m
def fuel (C : Cfg) (n m : Nat) (r q : Nat → Nat) : Nat := n + sumTo m r + sumTo C.b0 q

variable (C Fin) in
def InvM (μ : Nat × Nat) (M : Machine) (t : Trace) : Prop :=
  ∃ gs w sl m st r q k l n a, M = crowd gs w sl ∧ Inv C Fin gs w t m st r q k l n a ∧ μ = (mass C k m st, fuel C n m r q)

variable (C Fin) in
def Done (M : Machine) (t : Trace) : Prop :=
  ∃ gs w sl a q, M = crowd gs w sl ∧ gs[0]? = some a ∧ Fin a w ∧ Leavers C.P t gs q ∧ Past C.Shun C.B t ∧ gs.size = C.b0 + C.T

variable {k n : Nat} {l : Option (List Int)} {a : Goroutine} {sl : Option (Nat × Nat)}

theorem Inv.mT_of (I : Inv C Fin gs w t m st r q k l n a) (h : l ≠ none) : m = C.T := by
  have := I.sit
  cases this with
  | sp => exact absurd rfl h
  | eat e => exact e
  | wait e => exact e

theorem Inv.awake (_ : C.Fine) (I : Inv C Fin gs w t m st r q k l n a) : ∀ g ∈ gs, awake g := by
  intro g hg
  obtain ⟨i, hi, rfl⟩ := Array.mem_iff_getElem.1 hg
  have hgi : gs[i]? = some gs[i] := Array.getElem?_eq_getElem hi
  rcases I.crew.idx hgi with rfl | ⟨h1, h2⟩ | ⟨p, hp, rfl⟩
  · rw [I.main] at hgi
    obtain rfl := Option.some.inj hgi
    exact awake_of (by rcases I.sit.status with h | h <;> simp [h.1])
  · exact awake_of ((I.crew.old i _ h1 h2 hgi).status.elim .inl fun x => .inr (.inr x))
  · obtain ⟨g', hg', hs⟩ := I.crew.work p hp
    rw [hgi] at hg'
    obtain h := Option.some.inj hg'
    rw [h]
    exact awake_of (hs.status (I.crew.S (by omega)))

/-- Somebody can always go on. -/
theorem Inv.some1 (F : C.Fine) (I : Inv C Fin gs w t m st r q k l n a) : ∃ (i : Nat) (g : Goroutine), gs[i]? = some g ∧ g.status = .running := by
  rcases I.sit.status with ⟨h, _⟩ | ⟨_, hn⟩
  · exact ⟨0, a, I.main, h⟩
  · have hl : l ≠ none := by
      have := I.sit
      cases this with
      | wait _ _ => simp
      | sp _ _ => omega
      | eat _ _ => omega
    have hm := I.mT_of hl
    have hT := F.posT
    obtain ⟨f1, f2⟩ := I.fed hl hn
    have hS := I.crew.S (by omega)
    have key : ∀ p, p < m → (∃ g, gs[C.b0 + p]? = some g ∧ g.status = .running) ∨ ((st p).give.isSome = true ∧ r p = 0) ∨ ((st p = .want ∧ r p = 0) ∧ 0 < p) ∨ st p = .gone := by
      intro p hp
      obtain ⟨g, hg, hs⟩ := I.crew.work p hp
      generalize hsp : st p = s at hs ⊢
      generalize hrp : r p = rp at hs ⊢
      cases hs with
      | gone _ => exact .inr (.inr (.inr rfl))
      | way _ hw => exact .inl ⟨g, hg, hw.running hS⟩
      | gives hgv _ => exact .inr (.inl ⟨by rw [hgv]; rfl, rfl⟩)
      | takes _ =>
        refine .inr (.inr (.inl ⟨⟨rfl, rfl⟩, ?_⟩))
        cases p with
        | zero => have := I.crew.fits 0 hp; rw [hsp] at this; exact this.elim
        | succ p => omega
    rcases key (C.T - 1) (by omega) with ⟨g, hg, hr⟩ | h | ⟨h, h0⟩ | h
    · exact ⟨_, g, hg, hr⟩
    · exact absurd h f2
    · obtain ⟨x, _, g, hg, hr⟩ := someone (st := st) (busy := fun p => ∃ g, gs[C.b0 + p]? = some g ∧ g.status = .running) (sends := fun p => (st p).give.isSome = true ∧ r p = 0) (takes := fun p => st p = .want ∧ r p = 0) key
        (fun p hp ⟨h1, h2⟩ => ⟨(I.crew.meet p hp h1 h2).2, (I.crew.meet p hp h1 h2).1⟩) (C.T - 1) (by omega) h h0
      exact ⟨_, g, hg, hr⟩
    · exact absurd h f1

theorem deafStep_other {g d : Nat} {op : MemOp} (h : op.g ≠ g) : deafStep g d op = d := by
  unfold deafStep
  split <;> simp [h]

/-- Whoever only leaves takes a step. -/
theorem Inv.old_step (F : C.Fine) (I : Inv C Fin gs w t m st r q k l n a) {i : Nat} {g : Goroutine} (h1 : 0 < i) (h2 : i < C.b0) (hg : gs[i]? = some g) (hrun : g.status = .running) (d : Nat) :
    ∃ M' ops μ', runT C.P (crowd gs (w.at d) sl) i = (.next M', ops) ∧ Prod.Lex (· < ·) (· < ·) μ' (mass C k m st, fuel C n m r q) ∧ InvM C Fin μ' M' (t ++ ops) := by
  have hq := I.crew.old i g h1 h2 hg
  have hi0 : (i == 0) = false := by simp; omega
  cases hqi : q i with
  | zero => rw [hqi] at hq; rw [hq.1] at hrun; cases hrun
  | succ z =>
    rw [hqi] at hq
    rcases hq with ⟨hf, _⟩ | ⟨_, g', es, hm, hstp, hq'⟩
    · rw [hf] at hrun; cases hrun
    have hrunT := runT_crowd_go (P := C.P) (sl := sl) (i := i) hg (by rw [hi0]; exact hstp (w.at d))
    have hop : ∀ op ∈ MemOp.ofEvents i g.frame.fn g.frame.place es, op.g = i ∧ op.act.touch? = none := fun op hop => by
      obtain ⟨e, he, rfl⟩ := Go.Conc.mem_ofEvents hop
      exact ⟨rfl, touch_mute (hm e he)⟩
    have hfed : ∀ p, p < m → st p ≠ .gone → ∃ a b, (w.at d).heap[C.c p]? = some (.chan 0 #[] false a b false) := I.crew.open_ fun _ _ => rfl
    have hwm : n = 0 → ∃ a b, (w.at d).heap[C.c (C.T - 1)]? = some (.chan 0 #[] false a b false) := fun hn => by
      have hl : l ≠ none := by rintro rfl; cases I.sit; omega
      have hmT := I.mT_of hl
      have := F.posT
      exact hfed _ (by omega) (I.fed hl hn).1
    have hstill := I.crew.still (i := i) (x := g) (x' := g') hfed I.main fun _ => I.sit.woken hwm
    have hsum : sumTo C.b0 (upd q i z) + (z + 1) = sumTo C.b0 q + z := by
      have := sumTo_upd q z id h2
      simpa [hqi] using this
    refine ⟨_, _, (mass C k m st, fuel C n m r (upd q i z)), hrunT, .right _ (by unfold fuel; omega), _, _, _, m, st, r, upd q i z, k, l, n, a, rfl, ⟨?_, by rw [hstill 0 (by omega)]; exact I.main, I.sit.rely (AsideN.at _ _ _ _), I.start, I.eat, I.fed⟩, rfl⟩
    have hu : ∀ op ∈ MemOp.ofEvents i g.frame.fn g.frame.place es, op.act.touch? = none ∨ op.g = 0 ∨ ∃ x, x < m ∧ op.g = C.b0 + x ∧ st x ≠ .gone := fun op h => .inl (hop op h).2
    refine I.crew.turn (D := fun j => j = i) (by simp) (fun k hk => by subst hk; exact (Array.getElem?_eq_some_iff.1 hg).1) hstill (fun j x hj _ _ hx => ?_) (fun j hj => upd_ne _ _ hj) (fun p _ hp => by omega) (fun p _ _ => ⟨rfl, rfl⟩) (fun p _ hp => by omega)
      I.crew.chan I.crew.link I.crew.meet (fun h => F.stable _ _ (AsideN.at _ _ _ _) (I.crew.S h)) (fun j hj => Deaf_other t (fun e => hj e.symm) _ fun op h => (hop op h).1)
      (I.crew.pt.mute (fun op h => (hop op h).2) (fun j hj op h d => deafStep_other (by
        rw [(hop op h).1]
        rcases hj with rfl | ⟨p, _, rfl⟩ <;> omega)) fun op h => by obtain ⟨e, he, rfl⟩ := Go.Conc.mem_ofEvents h; exact low_mute (hm e he) C.B)
      (fun p hp h => I.crew.kn_app hu F.pos hp h) (fun p hp h => I.crew.sh_app hu F.pos hp h)
    subst hj
    rw [get_self' _ _ hg] at hx
    obtain rfl := Option.some.inj hx
    rw [upd_same, Deaf_own]
    exact hq'

end Go.Proofs.Ytdpagejckahkkaa.Net
