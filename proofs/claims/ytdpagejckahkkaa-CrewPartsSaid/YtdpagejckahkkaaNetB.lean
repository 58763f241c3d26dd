/- A chain of goroutines that hand numbers on: plain law. Where each stands; what each has still to hand on; a weight that falls at every communication. -/
import Derived.Conc.CrowdBase
namespace Go.Proofs.Ytdpagejckahkkaa.Net
open Go
open Go.ConcN (sumTo upd upd_same upd_ne sumTo_congr)

/-- Where one of the chain stands: it feeds numbers; wants one; holds one; has found its source shut; is gone. -/
inductive PS where
  | feed (rest : List Int)
  | want
  | hold (v : Int)
  | done
  | gone

/-- What it hands on next, and where it stands behind that. -/
def PS.give : PS → Option (Int × PS)
  | .feed (v :: r) => some (v, .feed r)
  | .hold v => some (v, .want)
  | _ => none
def PS.shuts : PS → Prop
  | .feed [] => True
  | .done => True
  | _ => False
def PS.wt : PS → Nat
  | .feed _ => 1
  | .want => 2
  | .hold _ => 2
  | .done => 1
  | .gone => 0

/-- A number with number p's own added. -/
def plus (a : Nat → Int) (p : Nat) (v : Int) : Int := IntKind.wrap .i64 (v + a p)

/-- What number p has still to hand on. -/
def out (a : Nat → Int) (st : Nat → PS) : Nat → List Int
  | 0 => match st 0 with
    | .feed r => r
    | _ => []
  | p + 1 => match st (p + 1) with
    | .want => (out a st p).map (plus a (p + 1))
    | .hold v => v :: (out a st p).map (plus a (p + 1))
    | _ => []

def phi (a : Nat → Int) (st : Nat → PS) (m : Nat) : Nat := sumTo m fun p => (out a st p).length + (st p).wt

variable {a : Nat → Int} {st : Nat → PS}

theorem out_congr {st' : Nat → PS} : ∀ {p : Nat}, (∀ q, q ≤ p → st q = st' q) → out a st p = out a st' p
  | 0, h => by simp only [out, h 0 (Nat.le_refl 0)]
  | p + 1, h => by
    have ih := out_congr (p := p) fun q hq => h q (by omega)
    simp only [out, h (p + 1) (Nat.le_refl _), ih]
theorem out_above {p : Nat} {s : PS} {q : Nat} (h : q < p) : out a (upd st p s) q = out a st q :=
  out_congr fun r hr => upd_ne st s (by omega)
/-- A change at p that leaves what p hands on leaves what all hand on. -/
theorem out_keep {st' : Nat → PS} {p : Nat} (hp : out a st' p = out a st p) (hq : ∀ q, p < q → st' q = st q) : ∀ {q : Nat}, p ≤ q → out a st' q = out a st q
  | 0, h => by obtain rfl : p = 0 := by omega
               exact hp
  | q + 1, h => by
    rcases Nat.lt_or_ge q p with hlt | hge
    · obtain rfl : p = q + 1 := by omega
      exact hp
    · have ih := out_keep hp hq (q := q) hge
      simp only [out, hq (q + 1) (by omega), ih]

def fits : Nat → PS → Prop
  | 0, .feed _ => True
  | _ + 1, .want => True
  | _ + 1, .hold _ => True
  | _ + 1, .done => True
  | _, .gone => True
  | _, _ => False

theorem fits_give {p : Nat} {s s' : PS} {v : Int} (hf : fits p s) (hg : s.give = some (v, s')) : fits p s' := by
  cases p <;> cases s <;> simp_all [fits, PS.give]
  · rename_i r; cases r <;> simp_all; rw [← hg.2]; trivial
  · rw [← hg.2]; trivial

theorem out_give {p : Nat} {v : Int} {s' : PS} (hf : fits p (st p)) (hg : (st p).give = some (v, s')) : out a st p = v :: out a (upd st p s') p := by
  cases p with
  | zero =>
    cases h : st 0 with
    | feed r =>
      rw [h] at hg
      cases r with
      | nil => simp [PS.give] at hg
      | cons x r => simp [PS.give] at hg; obtain ⟨rfl, rfl⟩ := hg; simp [out, h, upd_same]
    | _ => rw [h] at hf; simp [fits] at hf <;> (rw [h] at hg; simp [PS.give] at hg)
  | succ p =>
    cases h : st (p + 1) with
    | hold x =>
      rw [h] at hg
      simp [PS.give] at hg
      obtain ⟨rfl, rfl⟩ := hg
      simp only [out, h, upd_same]
      rw [out_above (Nat.lt_succ_self p)]
    | feed r => rw [h] at hf; simp [fits] at hf
    | _ => rw [h] at hg; simp [PS.give] at hg

theorem wt_give {s s' : PS} {v : Int} (hg : s.give = some (v, s')) : s'.wt = s.wt := by
  cases s with
  | feed r => cases r <;> simp_all [PS.give]; rw [← hg.2]; rfl
  | hold x => simp [PS.give] at hg; rw [← hg.2]; rfl
  | _ => simp [PS.give] at hg

theorem sumTo_lt {f g : Nat → Nat} {p : Nat} : ∀ {m : Nat}, p < m → f p < g p → (∀ q, q < m → q ≠ p → f q ≤ g q) → sumTo m f < sumTo m g
  | m + 1, hp, h1, h2 => by
    have hle : ∀ {k : Nat}, (∀ q, q < k → f q ≤ g q) → sumTo k f ≤ sumTo k g := by
      intro k
      induction k with
      | zero => intro _; exact Nat.le_refl _
      | succ k ih =>
        intro h
        have := ih fun q hq => h q (by omega)
        have := h k (by omega)
        simp only [sumTo]; omega
    rcases Nat.lt_or_ge p m with hlt | hge
    · have := sumTo_lt (m := m) hlt h1 fun q hq hne => h2 q (by omega) hne
      have := h2 m (by omega) (by omega)
      simp only [sumTo]; omega
    · obtain rfl : p = m := by omega
      have := hle (k := p) fun q hq => h2 q (by omega) (by omega)
      simp only [sumTo]; omega
theorem sumTo_le' {f g : Nat → Nat} : ∀ {m : Nat}, (∀ q, q < m → f q ≤ g q) → sumTo m f ≤ sumTo m g
  | 0, _ => Nat.le_refl _
  | m + 1, h => by
    have := sumTo_le' (m := m) fun q hq => h q (by omega)
    have := h m (by omega)
    simp only [sumTo]; omega

/-- Number p hands a number to number p + 1. -/
def passed (a : Nat → Int) (st : Nat → PS) (p : Nat) (v : Int) (s' : PS) : Nat → PS := upd (upd st p s') (p + 1) (.hold (plus a (p + 1) v))
theorem passed_at (a : Nat → Int) (st : Nat → PS) (p : Nat) (v : Int) (s' : PS) : passed a st p v s' p = s' := by unfold passed; rw [upd_ne _ _ (by omega), upd_same]
theorem passed_next (a : Nat → Int) (st : Nat → PS) (p : Nat) (v : Int) (s' : PS) : passed a st p v s' (p + 1) = .hold (plus a (p + 1) v) := by unfold passed; rw [upd_same]
theorem passed_other (a : Nat → Int) (st : Nat → PS) {p q : Nat} (v : Int) (s' : PS) (h1 : q ≠ p) (h2 : q ≠ p + 1) : passed a st p v s' q = st q := by unfold passed; rw [upd_ne _ _ h2, upd_ne _ _ h1]

theorem out_passed {p : Nat} {v : Int} {s' : PS} (hf : fits p (st p)) (hg : (st p).give = some (v, s')) (hw : st (p + 1) = .want) {q : Nat} (hq : q ≠ p) : out a (passed a st p v s') q = out a st q := by
  have h1 : ∀ q, q ≤ p → passed a st p v s' q = upd st p s' q := fun q hq => by unfold passed; rw [upd_ne _ _ (by omega)]
  rcases Nat.lt_or_ge q p with hlt | hge
  · rw [out_congr (st' := upd st p s') fun r hr => h1 r (by omega), out_above hlt]
  · refine out_keep (p := p + 1) ?_ (fun r hr => passed_other a st v s' (by omega) (by omega)) (by omega)
    simp only [out, passed_next, hw]
    rw [out_congr (st' := upd st p s') fun r hr => h1 r hr, out_give hf hg]
    simp
theorem out_passed_at {p : Nat} {v : Int} {s' : PS} (hf : fits p (st p)) (hg : (st p).give = some (v, s')) : out a st p = v :: out a (passed a st p v s') p := by
  rw [out_give hf hg]
  congr 1
  refine out_congr fun q hq => ?_
  unfold passed; rw [upd_ne _ (PS.hold _) (show q ≠ p + 1 by omega)]
theorem phi_passed {p m : Nat} {v : Int} {s' : PS} (hf : fits p (st p)) (hg : (st p).give = some (v, s')) (hw : st (p + 1) = .want) (hp : p < m) : phi a (passed a st p v s') m < phi a st m := by
  refine sumTo_lt hp ?_ fun q hq hne => ?_
  · show (out a (passed a st p v s') p).length + (passed a st p v s' p).wt < _
    rw [out_passed_at (a := a) hf hg, passed_at, wt_give hg]; simp
  · show (out a (passed a st p v s') q).length + (passed a st p v s' q).wt ≤ _
    rw [out_passed hf hg hw hne]
    by_cases e : q = p + 1
    · subst e; rw [passed_next, hw]; simp [PS.wt]
    · rw [passed_other a st v s' hne e]; exact Nat.le_refl _

/-- Number p hands a number out of the chain. -/
theorem phi_gave {p m : Nat} {v : Int} {s' : PS} (hf : fits p (st p)) (hg : (st p).give = some (v, s')) (hp : p + 1 = m) : phi a (upd st p s') m < phi a st m := by
  refine sumTo_lt (p := p) (by omega) ?_ fun q hq hne => ?_
  · show (out a (upd st p s') p).length + (upd st p s' p).wt < _
    rw [out_give (a := a) hf hg, upd_same, wt_give hg]; simp
  · show (out a (upd st p s') q).length + (upd st p s' q).wt ≤ _
    rw [out_above (by omega), upd_ne _ _ hne]; exact Nat.le_refl _

/-- Number p finds its source shut. -/
theorem out_found {p : Nat} (hw : st (p + 1) = .want) (hz : st p = .gone) (q : Nat) : out a (upd st (p + 1) .done) q = out a st q := by
  have h0 : out a st p = [] := by cases p <;> simp [out, hz]
  rcases Nat.lt_or_ge q (p + 1) with hlt | hge
  · exact out_above hlt
  · refine out_keep (p := p + 1) ?_ (fun r hr => upd_ne _ _ (by omega)) hge
    simp only [out, upd_same, hw]
    rw [h0]; rfl
theorem phi_found {p m : Nat} (hw : st (p + 1) = .want) (hz : st p = .gone) (hp : p + 1 < m) : phi a (upd st (p + 1) .done) m < phi a st m := by
  refine sumTo_lt hp ?_ fun q hq hne => ?_
  · show (out a (upd st (p + 1) .done) (p + 1)).length + (upd st (p + 1) .done (p + 1)).wt < _
    rw [out_found hw hz, upd_same, hw]; simp [PS.wt]
  · show (out a (upd st (p + 1) .done) q).length + (upd st (p + 1) .done q).wt ≤ _
    rw [out_found hw hz, upd_ne _ _ hne]; exact Nat.le_refl _

/-- Number p shuts its channel. -/
theorem out_shut {p : Nat} (hf : fits p (st p)) (hs : (st p).shuts) (q : Nat) : out a (upd st p .gone) q = out a st q := by
  have h0 : out a st p = [] ∧ out a (upd st p .gone) p = [] := by
    cases p with
    | zero => cases h : st 0 with
      | feed r => rw [h] at hs; cases r with
        | nil => simp [out, h, upd_same]
        | cons _ _ => exact hs.elim
      | _ => rw [h] at hs; first | exact hs.elim | simp [out, h, upd_same]
    | succ p => cases h : st (p + 1) with
      | feed r => rw [h] at hf; exact hf.elim
      | _ => rw [h] at hs; first | exact hs.elim | simp [out, h, upd_same]
  rcases Nat.lt_or_ge q p with hlt | hge
  · exact out_above hlt
  · exact out_keep (p := p) (h0.2.trans h0.1.symm) (fun r hr => upd_ne _ _ (by omega)) hge
theorem phi_shut {p m : Nat} (hf : fits p (st p)) (hs : (st p).shuts) (hp : p < m) : phi a (upd st p .gone) m < phi a st m := by
  refine sumTo_lt hp ?_ fun q hq hne => ?_
  · show (out a (upd st p .gone) p).length + (upd st p .gone p).wt < _
    rw [out_shut hf hs, upd_same]
    cases h : st p <;> rw [h] at hs <;> first | exact hs.elim | simp [PS.wt]
  · show (out a (upd st p .gone) q).length + (upd st p .gone q).wt ≤ _
    rw [out_shut hf hs, upd_ne _ _ hne]; exact Nat.le_refl _

/-- A new one at the chain's end. -/
theorem phi_more (st : Nat → PS) (m : Nat) (s : PS) : phi a (upd st m s) (m + 1) = phi a st m + ((out a (upd st m s) m).length + s.wt) := by
  show sumTo m (fun p => (out a (upd st m s) p).length + (upd st m s p).wt) + ((out a (upd st m s) m).length + (upd st m s m).wt) = _
  rw [upd_same]
  congr 1
  exact sumTo_congr fun p hp => by rw [out_above hp, upd_ne _ _ (by omega)]

/-- What the whole chain of m hands on, of the numbers vs. -/
def full (a : Nat → Int) (vs : List Int) : Nat → List Int
  | 0 => vs
  | p + 1 => (full a vs p).map (plus a (p + 1))
theorem full_length (a : Nat → Int) (vs : List Int) : ∀ p, (full a vs p).length = vs.length
  | 0 => rfl
  | p + 1 => by simp [full, full_length a vs p]

/-- Where the chain has no one running, nobody waits to receive but behind one who waits to send: so goroutine 0 is not kept waiting for ever. -/
theorem someone {m : Nat} {busy : Nat → Prop} {sends takes : Nat → Prop} (h0 : ∀ p, p < m → busy p ∨ sends p ∨ (takes p ∧ 0 < p) ∨ st p = .gone) (h1 : ∀ p, p + 1 < m → takes (p + 1) → ¬ sends p ∧ st p ≠ .gone) :
    ∀ p, p < m → takes p → 0 < p → ∃ q, q < m ∧ busy q
  | 0, _, _, h => absurd h (Nat.lt_irrefl 0)
  | p + 1, hp, ht, _ => by
    obtain ⟨n1, n2⟩ := h1 p hp ht
    rcases h0 p (by omega) with h | h | ⟨h, hp0⟩ | h
    · exact ⟨p, by omega, h⟩
    · exact absurd h n1
    · exact someone h0 h1 p (by omega) h hp0
    · exact absurd h n2

end Go.Proofs.Ytdpagejckahkkaa.Net
