/- Many senders and one receiver, joined by a sync.WaitGroup: who offers what; a sender's communications; every step of a sender's. -/
import Derived.Test.YtdpagejckahkkaaMergeF
set_option linter.unusedVariables false
namespace Go.Proofs.Ytdpagejckahkkaa.Net
open Go Go.Conc
open Go.ConcN (ShN WgLive sumTo upd upd_same upd_ne sumTo_congr sumTo_upd)
open Go.ConcR (KK WgAt stA smA rd wr)

variable {C : MCfg} {Fin Anch : Goroutine → World → Prop} {L : List (Nat × Option Int)}
variable {t0 : Nat} {gs : Array Goroutine} {w : World} {t : Trace} {m : Nat} {st : Nat → MS} {r q : Nat → Nat} {ph : Ph} {n : Nat} {a : Goroutine} {sl : Option (Nat × Nat)}

theorem offersAt_none {g : Goroutine} (h : g.offers = none) (c : Nat) (b : Bool) : offersAt g c b = [] := by
  unfold offersAt
  rw [h]
  cases g.status <;> rfl

/-- A sender that is parked, or else offers nothing. -/
theorem SitM.parked {p x δ : Nat} {s : MS} {g : Goroutine} (hS : C.S w) (h : SitM C p s x δ g) : (x = 0 ∧ s ≠ .gone ∧ ∃ v rs g₀ sh z zd, s = .feed (v :: rs) ∧ g = Go.Conc.parked (core g₀) (twoCases (C.c p) (num v) z C.d zd) sh ∧ AtSel C p v (C.W p (.feed rs)) (C.W p .shut) g₀ ∧ C.W p (.feed rs) ((core g₀).finishComm C.P (twoCases (C.c p) (num v) z C.d zd) sh 0 undef false)) ∨
    (¬ (x = 0 ∧ s ≠ .gone) ∧ ∀ c b, offersAt g c b = []) := by
  cases h with
  | gone hq => exact .inr ⟨fun h => h.2 rfl, offersAt_of_not_blocked (by rcases hq.status with h | h <;> simp [h])⟩
  | way _ _ _ hg => exact .inr ⟨fun h => by omega, offersAt_of_not_blocked (by rw [hg.running hS]; simp)⟩
  | parks h1 h2 => exact .inl ⟨rfl, by simp, _, _, _, _, _, _, rfl, rfl, h1, h2⟩

theorem InvT.off (F : C.Fine Anch Fin) (I : InvT C Fin Anch L t0 gs w t m st r q ph n a) {j : Nat} {g : Goroutine} (hj : gs[j]? = some g) (c : Nat) (send : Bool) (h0 : j = 0 → send = false → ∀ x o l, ph = .turns ((x, o) :: l) → n = 0 → c ≠ C.c x)
    (h1 : ∀ z, z < m → j = C.b0 + z → (send = true → (c = C.c z → ¬ (r z = 0 ∧ st z ≠ .gone))) ∧ (send = false → c ≠ C.d)) : offersAt g c send = [] := by
  rcases I.idx hj with rfl | ⟨h2, h3⟩ | ⟨z, hz, rfl⟩
  · rw [I.main] at hj
    obtain rfl := Option.some.inj hj
    have hs := I.sit
    cases hs with
    | way _ hg => exact offersAt_of_not_blocked (by rw [hg.running]; simp) _ _
    | @park x o l g₀ _ _ =>
      cases send with
      | true => exact offersAt_parked_recv' _ _ _ _ _
      | false => rw [offersAt_parked_recv, if_neg fun e => h0 rfl rfl x o l rfl rfl e.symm]
    | @sem g₀ _ h => exact offersAt_none (g := { g₀ with status := .blocked }) (h w (AsideM.refl _ w)).2.1 _ _
  · exact offersAt_of_not_blocked (by rcases (I.old j g h2 h3 hj).status with h | h <;> simp [h]) _ _
  · obtain ⟨g', hg', hs⟩ := I.work z hz
    rw [hj] at hg'
    obtain rfl := Option.some.inj hg'
    rcases hs.parked I.S with ⟨hr, hne, v, rs, g₀, sh, z1, zd, hst, rfl, _⟩ | ⟨_, h⟩
    · cases send with
      | true => rw [offers_two_send, if_neg fun e => (h1 z hz rfl).1 rfl e.symm ⟨hr, hne⟩]
      | false => rw [offers_two_recv, if_neg fun e => (h1 z hz rfl).2 rfl e.symm]
    · exact h _ _

/-- Nobody waits to receive from sender p. -/
theorem InvT.no_taker' (F : C.Fine Anch Fin) (I : InvT C Fin Anch L t0 gs w t m st r q ph n a) (i p : Nat) (h : ∀ o l, ph = .turns ((p, o) :: l) → n ≠ 0) : partners (gs.setIfInBounds i Go.Conc.ph) (C.c p) false = [] := by
  refine partners_nil fun j g hj => ?_
  rcases getElem?_stand gs i j g hj with ⟨_, rfl⟩ | ⟨_, hj'⟩
  · exact offersAt_ph _ _
  · exact I.off F hj' _ _ (fun _ _ x o l e hn ec => by obtain rfl := F.inj _ _ ec; exact h o l e hn) fun z _ _ => ⟨(fun h => by cases h), fun _ => F.cd p⟩
/-- Nobody waits to send on sender p's channel. -/
theorem InvT.no_giver (F : C.Fine Anch Fin) (I : InvT C Fin Anch L t0 gs w t m st r q ph n a) (i p : Nat) (h : p < m → ¬ (r p = 0 ∧ st p ≠ .gone)) : partners (gs.setIfInBounds i Go.Conc.ph) (C.c p) true = [] := by
  refine partners_nil fun j g hj => ?_
  rcases getElem?_stand gs i j g hj with ⟨_, rfl⟩ | ⟨_, hj'⟩
  · exact offersAt_ph _ _
  · exact I.off F hj' _ _ (fun _ h => by cases h) fun z hz _ => ⟨fun _ ec => by obtain rfl := F.inj _ _ ec; exact h hz, fun h => by cases h⟩
/-- Nobody sends on the stop. -/
theorem InvT.no_stopper (F : C.Fine Anch Fin) (I : InvT C Fin Anch L t0 gs w t m st r q ph n a) (i : Nat) : partners (gs.setIfInBounds i Go.Conc.ph) C.d true = [] := by
  refine partners_nil fun j g hj => ?_
  rcases getElem?_stand gs i j g hj with ⟨_, rfl⟩ | ⟨_, hj'⟩
  · exact offersAt_ph _ _
  · exact I.off F hj' _ _ (fun _ h => by cases h) fun z hz _ => ⟨fun _ ec => absurd ec.symm (F.cd z), fun h => by cases h⟩
theorem InvT.one_giver (F : C.Fine Anch Fin) (I : InvT C Fin Anch L t0 gs w t m st r q ph n a) {i p : Nat} {g₀ : Goroutine} {v z zd : Value} {sh : CommShape} (hi : i ≠ C.b0 + p) (hj : gs[C.b0 + p]? = some (Go.Conc.parked (core g₀) (twoCases (C.c p) v z C.d zd) sh)) :
    partners (gs.setIfInBounds i Go.Conc.ph) (C.c p) true = [(C.b0 + p, 0)] := by
  rw [partners_one (j := C.b0 + p) (stand_get (Ne.symm hi) hj) fun j g hne hj' => ?_, offers_two_send, if_pos rfl]
  · rfl
  rcases getElem?_stand gs i j g hj' with ⟨_, rfl⟩ | ⟨_, hj''⟩
  · exact offersAt_ph _ _
  · exact I.off F hj'' _ _ (fun _ h => by cases h) fun z hz ej => ⟨fun _ ec => by obtain rfl := F.inj _ _ ec; exact absurd ej hne, fun h => by cases h⟩
theorem InvT.one_taker (F : C.Fine Anch Fin) (I : InvT C Fin Anch L t0 gs w t m st r q ph n a) {i p : Nat} {g₀ : Goroutine} {sh : CommShape} (hi : i ≠ 0) (ha : a = Go.Conc.parked (core g₀) #[rcase (C.c p) zer] sh) :
    partners (gs.setIfInBounds i Go.Conc.ph) (C.c p) false = [(0, 0)] := by
  subst ha
  rw [partners_one (j := 0) (stand_get (Ne.symm hi) I.main) fun j g hne hj' => ?_, offersAt_parked_recv, if_pos rfl]
  · rfl
  rcases getElem?_stand gs i j g hj' with ⟨_, rfl⟩ | ⟨_, hj''⟩
  · exact offersAt_ph _ _
  · exact I.off F hj'' _ _ (fun e => absurd e hne) fun z hz ej => ⟨(fun h => by cases h), fun _ => F.cd p⟩

/-- Where goroutine 0 is turned from one turn to the next, or stays. -/
def Ph.goes (ph ph' : Ph) : Prop := ph' = ph ∨ ∃ e l, ph = .turns (e :: l) ∧ ph' = .turns l
theorem Ph.goes_same {ph ph' : Ph} (h : ph.goes ph') (T : Nat) : ph'.upto T = ph.upto T ∧ ph'.stop = ph.stop ∧ ph'.x = ph.x ∧ ph'.hears = ph.hears ∧ (ph' = .w3 ↔ ph = .w3) ∧ (ph'.over ↔ ph.over) := by
  rcases h with rfl | ⟨e, l, rfl, rfl⟩
  · simp
  · simp [Ph.upto, Ph.stop, Ph.x, Ph.hears, Ph.over]
theorem Bell.goes {ph ph' : Ph} {a b : Nat} (h : Bell ph m st n a b) (hg : ph.goes ph') {n' : Nat} (hn : ph = .w3 → n ≤ n') : Bell ph' m st n' a b := by
  have e := (Ph.goes_same hg 0).2.2.2.2.1
  cases h with
  | calm h1 h2 => exact .calm (fun h => h1 (e.1 h)) h2
  | waits h1 h2 h3 => exact .waits (e.2 h1) h2 h3
  | last h1 h2 h3 h4 => exact .last (e.2 h1) h2 h3 h4
  | rings h1 h2 h3 h4 => exact .rings (e.2 h1) h2 h3 h4
  | rung h1 h2 h3 => exact .rung (e.2 h1) h2 (by have := hn h1; omega)

/-- A sender's communication, or its parking. -/
theorem InvT.comm (F : C.Fine Anch Fin) (I : InvT C Fin Anch L t0 gs w t m st r q ph n a) {p : Nat} (hp : p < m) {gs' : Array Goroutine} {w' : World} {u : Trace} {s' : MS} {x n' : Nat} {ph' : Ph} {g' a' : Goroutine} (hsz : gs'.size = gs.size) (hget : ∀ k, k ≠ 0 → k ≠ C.b0 + p → gs'[k]? = gs[k]?)
    (hgp : gs'[C.b0 + p]? = some g') (hsit : SitM C p s' x 0 g') (hg0 : gs'[0]? = some a') (hsit0 : SitP C Fin Anch L ph' n' a' w') (hA : AsideM C m w w') (hch : ∀ z, z ≠ p → w'.heap[C.c z]? = w.heap[C.c z]?) (hd : w'.heap[C.d]? = w.heap[C.d]?) (hw : w'.heap[C.Wg]? = w.heap[C.Wg]?)
    (hcp : ∃ a b, w'.heap[C.c p]? = some (.chan 0 #[] s'.closed a b false)) (hs : (∃ rs, s' = .feed rs) ∨ (s' = .shut ∧ ph.stop = true)) (hst : ∃ rs, st p = .feed rs) (hidle : x = 0 → ph.stop = false) (hph : ph.goes ph') (hn : ph' = ph → n' = n)
    (hu1 : ∀ op ∈ u, op.act.touch? = none) (hu2 : ∀ g, ∀ op ∈ u, ∀ d, deafStep g d op = d) (hu3 : ∀ op ∈ u, op.act.low C.B) (hu4 : ∀ op ∈ u, op.act ≠ .mark (.release (stA C.Wg)))
    (hagr : Agrees C.T (restOf (upd st p s')) (ph'.list L)) (hfed : ∀ y o l, ph' = .turns ((y, o) :: l) → n' = 0 → (upd st p s' y).closed = false ∧ upd r p x y ≠ 0) :
    InvT C Fin Anch L t0 gs' w' (t ++ u) m (upd st p s') (upd r p x) q ph' n' a' := by
  have hb := F.pos
  obtain ⟨e1, e2, e3, e4, e5, e6⟩ := Ph.goes_same hph C.T
  have hdf : ∀ j, Deaf (t ++ u) j = Deaf t j := fun j => Deaf_quiet (hu2 j)
  have hct : s'.counted = (st p).counted := by
    obtain ⟨rs, h⟩ := hst
    rw [h]
    rcases hs with ⟨rs', rfl⟩ | ⟨rfl, _⟩ <;> rfl
  have hl : s' ≠ .l2 ∧ s' ≠ .l3 ∧ s' ≠ .l4 ∧ s' ≠ .gone ∧ ¬ s'.said := by rcases hs with ⟨rs', rfl⟩ | ⟨rfl, _⟩ <;> simp [MS.said]
  refine ⟨by rw [hsz]; exact I.size, I.upto.trans e1.symm, fun i g h1 h2 hg => ?_, fun j hj => ?_, fun z hz => ?_, fun z hz => ?_, fun z hz => ?_, ?_, fun z hz e => ?_, fun z hz h1 h2 => ?_, ?_, fun h z hz => ?_, F.stable _ _ (hA.more I.mT) I.S, I.qt.mute hu1 (fun _ h => h.elim) hu3 hu4, fun z hz h => ?_, ?_, hg0, hsit0, hagr, hfed⟩
  · rw [hget i (by omega) (by omega)] at hg
    rw [hdf]; exact I.old i g h1 h2 hg
  · rw [hdf]; exact I.above j (by omega)
  · rw [hdf]
    by_cases e : z = p
    · subst e
      have hd0 : Deaf t (C.b0 + z) = 0 := by
        obtain ⟨g, _, h⟩ := I.work z hz
        obtain ⟨rs, h'⟩ := hst
        exact h.hears (by rw [h']; trivial)
      exact ⟨g', hgp, by rw [upd_same, upd_same, hd0]; exact hsit⟩
    · obtain ⟨g, hg, h⟩ := I.work z hz
      exact ⟨g, by rw [hget _ (by omega) (by omega)]; exact hg, by rw [upd_ne _ _ e, upd_ne _ _ e]; exact h⟩
  · rw [upd_ne _ _ (by omega)]; exact I.todo z hz
  · by_cases e : z = p
    · subst e; rw [upd_same]; exact hcp
    · rw [upd_ne _ _ e, hch z e]; exact I.chan z hz
  · rw [hd, e2]; exact I.halt
  · rw [e2]
    by_cases e' : z = p
    · subst e'; rw [upd_same] at e
      rcases hs with ⟨rs', rfl⟩ | ⟨_, h⟩
      · cases e
      · exact h
    · rw [upd_ne _ _ e'] at e; exact I.told z hz e
  · rw [e2]
    by_cases e' : z = p
    · subst e'; rw [upd_same] at h2; exact hidle h2
    · rw [upd_ne _ _ e'] at h1 h2; exact I.idle z hz h1 h2
  · obtain ⟨wt, sm, h1, h2⟩ := I.bell_same hw hp hct ⟨hl.1, hl.2.1, hl.2.2.1⟩ (.inr (by rcases hs with ⟨rs', rfl⟩ | ⟨rfl, _⟩ <;> rfl)) (by obtain ⟨rs, h⟩ := hst; rw [h]; simp) n (Nat.le_refl _)
    refine ⟨wt, sm, by rw [e3]; exact h1, h2.goes hph fun e => ?_⟩
    rcases hph with h | ⟨_, _, h, _⟩
    · rw [hn h]; exact Nat.le_refl _
    · rw [h] at e; cases e
  · have := I.over (e6.1 h) p hp
    obtain ⟨rs, h'⟩ := hst
    rw [h'] at this; cases this
  · by_cases e' : z = p
    · subst e'; rw [upd_same] at h; exact absurd h hl.2.2.2.2
    · rw [upd_ne _ _ e'] at h
      obtain ⟨r1, hr⟩ := I.rel z hz h
      exact ⟨r1, hr.other fun op hop _ => hu1 op hop⟩
  · rw [hdf, e4]; exact I.d0

/-- A number passes from a sender to goroutine 0. -/
theorem InvT.pass (F : C.Fine Anch Fin) {p : Nat} {o : Option Int} {l : List (Nat × Option Int)} (I : InvT C Fin Anch L t0 gs w t m st r q (.turns ((p, o) :: l)) n a) (hp : p < m) {v : Int} {rs : List Int} (hst : st p = .feed (v :: rs)) {gs' : Array Goroutine} {u : Trace} {x y : Goroutine}
    (hsz : gs'.size = gs.size) (hget : ∀ k, k ≠ 0 → k ≠ C.b0 + p → gs'[k]? = gs[k]?) (hx : gs'[C.b0 + p]? = some x) (hy : gs'[0]? = some y) (Wx : C.W p (.feed rs) x) (d s1 r1 : Nat) (hN : TurnsM C Anch l y ((w.at d).setChan (C.c p) 0 #[] false s1 r1 false))
    (hu1 : ∀ op ∈ u, op.act.touch? = none) (hu2 : ∀ g, ∀ op ∈ u, ∀ d, deafStep g d op = d) (hu3 : ∀ op ∈ u, op.act.low C.B) (hu4 : ∀ op ∈ u, op.act ≠ .mark (.release (stA C.Wg))) :
    ∃ μ', Prod.Lex (· < ·) (· < ·) μ' (massM C L m st (.turns ((p, o) :: l)), fuelM C n m r q) ∧ HoldsM C Fin Anch L t0 μ' (crowd gs' ((w.at d).setChan (C.c p) 0 #[] false s1 r1 false) sl) (t ++ u) := by
  have hmT := I.mT
  obtain ⟨n1, hn1⟩ := F.walk p _ x (by omega) (by simp) Wx
  obtain ⟨n2, hn2⟩ := gp_turns (Fin := Fin) (L := L) hN
  obtain ⟨s2, r2, hc⟩ := I.chan p hp
  have hag := I.agr
  refine ⟨_, .left _ _ ?_, gs', _, sl, m, upd st p (.feed rs), upd r p (n1 + 1), q, .turns l, n2 + 1, y, rfl,
    I.comm F hp hsz hget hx (.way (by simp) (fun _ => rfl) (fun h => absurd trivial h) hn1) hy (.way trivial hn2) ((AsideM.at _ _ _).trans (AsideM.setChan hp (F.cw p) _ _ _ _ _ _ _)) (fun z hz => heap_setChan_ne' fun h => hz (F.inj _ _ h)) (heap_setChan_ne' (Ne.symm (F.cd p))) (heap_setChan_ne' (Ne.symm (F.cw p)))
      ⟨s1, r1, heap_setChan_self' (w := w.at d) hc⟩ (.inl ⟨_, rfl⟩) ⟨_, hst⟩ (fun _ => rfl) (.inr ⟨_, _, rfl, rfl⟩) (fun e => ?_) hu1 hu2 hu3 hu4 ?_ (fun _ _ _ _ h => by omega), rfl⟩
  · have h1 := sumTo_ms MS.wt st (.feed rs) (show p < C.T by omega)
    rw [hst] at h1
    have e1 : (MS.feed (v :: rs)).wt = (MS.feed rs).wt + 2 := by simp only [MS.wt, List.length_cons]; omega
    unfold massM
    simp only [Ph.wt, List.length_cons]
    omega
  · have := congrArg (fun x : Ph => match x with | .turns l => l.length | _ => 0) e
    simp at this
  · rw [restOf_give hst]
    exact hag.2.2

/-- A sender is told to stop. -/
theorem InvT.told_ (F : C.Fine Anch Fin) (I : InvT C Fin Anch L t0 gs w t m st r q ph n a) {p : Nat} (hp : p < m) {v : Int} {rs : List Int} (hst : st p = .feed (v :: rs)) (hph : ph.stop = true) {g x : Goroutine} (hg : gs[C.b0 + p]? = some g) (Wx : C.W p .shut x) (d : Nat) (fn : FuncId) (pos : String) :
    ∃ μ', Prod.Lex (· < ·) (· < ·) μ' (massM C L m st ph, fuelM C n m r q) ∧ HoldsM C Fin Anch L t0 μ' (crowd (gs.setIfInBounds (C.b0 + p) x) (w.at d) sl) (t ++ #[{ g := C.b0 + p, fn, pos, act := .recvClosed C.d }]) := by
  have hmT := I.mT
  have hb := F.pos
  obtain ⟨n1, hn1⟩ := F.walk p _ x (by omega) (by simp) Wx
  obtain ⟨s2, r2, hc⟩ := I.chan p hp
  rw [hst] at hc
  have hlist : ph.list L = [] := by cases ph <;> first | rfl | cases hph
  have hnt : ∀ y o l, ph ≠ .turns ((y, o) :: l) := fun y o l e => by rw [e] at hph; cases hph
  refine ⟨_, .left _ _ ?_, _, _, sl, m, upd st p .shut, upd r p (n1 + 1), q, ph, n, a, rfl,
    I.comm F hp (by simp) (fun k _ hk => get_one _ _ hk) (get_self _ hg) (.way (by simp) (fun _ => rfl) (fun h => absurd trivial h) hn1) (by rw [get_one _ _ (by omega)]; exact I.main) (I.sit.rely (AsideM.at _ _ _)) (AsideM.at _ _ _) (fun z hz => rfl) rfl rfl
      ⟨s2, r2, hc⟩ (.inr ⟨rfl, hph⟩) ⟨_, hst⟩ (fun h => by omega) (.inl rfl) (fun _ => rfl) (fun op h => ?_) (fun g op h d => ?_) (fun op h => ?_) (fun op h => ?_) (by rw [hlist]; trivial) (fun y o l e => absurd e (hnt y o l)), rfl⟩
  · exact mass_less hp hmT (by rw [hst]; simp [MS.wt]) (.inl (by rw [hst]; rfl))
  all_goals simp only [List.mem_toArray, List.mem_cons, List.not_mem_nil, or_false] at h; subst h
  · rfl
  · rfl
  · exact F.lowd
  · simp

/-- A sender is parked. -/
theorem InvT.parks_ (F : C.Fine Anch Fin) (I : InvT C Fin Anch L t0 gs w t m st r q ph n a) {p : Nat} (hp : p < m) {v : Int} {rs : List Int} (hst : st p = .feed (v :: rs)) (hph : ph.stop = false) {g x : Goroutine} (hg : gs[C.b0 + p]? = some g) (hsit : SitM C p (.feed (v :: rs)) 0 0 x) (d : Nat) (hr : r p ≠ 0) (hno : ∀ o l, ph = .turns ((p, o) :: l) → n ≠ 0) :
    ∃ μ', Prod.Lex (· < ·) (· < ·) μ' (massM C L m st ph, fuelM C n m r q) ∧ HoldsM C Fin Anch L t0 μ' (crowd (gs.setIfInBounds (C.b0 + p) x) (w.at d) sl) (t ++ #[]) := by
  have hmT := I.mT
  have hb := F.pos
  obtain ⟨s2, r2, hc⟩ := I.chan p hp
  rw [hst] at hc
  have e0 : upd st p (.feed (v :: rs)) = st := by rw [← hst]; exact upd_self st p
  have hsum := sumTo_upd' r 0 hp
  refine ⟨(massM C L m (upd st p (.feed (v :: rs))) ph, fuelM C n m (upd r p 0) q), ?_, _, _, sl, m, upd st p (.feed (v :: rs)), upd r p 0, q, ph, n, a, rfl,
    I.comm F hp (by simp) (fun k _ hk => get_one _ _ hk) (get_self _ hg) hsit (by rw [get_one _ _ (by omega)]; exact I.main) (I.sit.rely (AsideM.at _ _ _)) (AsideM.at _ _ _) (fun z hz => rfl) rfl rfl
      ⟨s2, r2, hc⟩ (.inl ⟨_, rfl⟩) ⟨_, hst⟩ (fun _ => hph) (.inl rfl) (fun _ => rfl) (fun op h => by simp at h) (fun g op h d => by simp at h) (fun op h => by simp at h) (fun op h => by simp at h) (by rw [e0]; exact I.agr) (fun y o l e hn => ?_), rfl⟩
  · rw [e0]
    exact .right _ (by unfold fuelM; omega)
  · rw [e0]
    have hy : y ≠ p := by rintro rfl; exact hno o l e hn
    rw [upd_ne _ _ hy]
    exact I.fed y o l e hn

/-- What a communication lists. -/
theorem comm_ops (g1 g2 : Nat) (f1 f2 : FuncId) (p1 p2 : String) (c s1 r1 B Wg : Nat) (hB : c < B) {u : Trace} (hu : u = #[{ g := g1, fn := f1, pos := p1, act := .send c s1 }, { g := g2, fn := f2, pos := p2, act := .recv c r1 0 }, { g := g1, fn := f1, pos := p1, act := .sendDone c s1 }, { g := g2, fn := f2, pos := p2, act := .recvDone c r1 }]) :
    (∀ op ∈ u, op.act.touch? = none) ∧ (∀ g, ∀ op ∈ u, ∀ d, deafStep g d op = d) ∧ (∀ op ∈ u, op.act.low B) ∧ ∀ op ∈ u, op.act ≠ .mark (.release (stA Wg)) := by
  subst hu
  refine ⟨fun op h => ?_, fun j op h d => ?_, fun op h => ?_, fun op h => ?_⟩
  all_goals simp only [List.mem_toArray, List.mem_cons, List.not_mem_nil, or_false] at h
  · rcases h with rfl | rfl | rfl | rfl <;> rfl
  · rcases h with rfl | rfl | rfl | rfl <;> rfl
  · rcases h with rfl | rfl | rfl | rfl <;> exact hB
  · rcases h with rfl | rfl | rfl | rfl <;> simp

/-- Every step of a sender's. -/
theorem InvT.sender_step (F : C.Fine Anch Fin) (I : InvT C Fin Anch L t0 gs w t m st r q ph n a) {p : Nat} (hp : p < m) {g : Goroutine} (hg : gs[C.b0 + p]? = some g) (hrun : g.status = .running) (d : Nat) :
    ∃ M' ops μ', runT C.P (crowd gs (w.at d) sl) (C.b0 + p) = (.next M', ops) ∧ Prod.Lex (· < ·) (· < ·) μ' (massM C L m st ph, fuelM C n m r q) ∧ HoldsM C Fin Anch L t0 μ' M' (t ++ ops) := by
  have hb := F.pos
  have hmT := I.mT
  have hi0 : (C.b0 + p == 0) = false := by simp; omega
  have hSd := I.at F d
  obtain ⟨g', hg', hs⟩ := I.work p hp
  rw [hg] at hg'
  obtain rfl := Option.some.inj hg'
  generalize hsp : st p = s at hs
  generalize hrp : r p = rp at hs
  generalize hdp : Deaf t (C.b0 + p) = δ at hs
  cases hs with
  | parks _ _ => cases hrun
  | gone hq =>
    cases rp with
    | zero => rw [hq.1] at hrun; cases hrun
    | succ z =>
      rcases hq with ⟨h, _⟩ | ⟨_, g', es, hm, hw, hq'⟩
      · rw [h] at hrun; cases hrun
      · exact I.sender_leaves F hp hg d hsp (z := z) (by omega) (hw _) hm (by rw [hdp]; exact hq')
  | @way _ nn _ _ hne h0 h1 hW =>
    rcases Goes.cases hW with hstop | ⟨n', rfl, hstep⟩
    · have hat := hstop _ hSd
      cases s with
      | gone => exact absurd rfl hne
      | shut => exact I.sender_shuts F hp hg d (.inr hsp) (by rw [hdp]; exact h0 trivial) hat
      | done => exact I.sender_says F hp hg d hsp (by rw [hdp]; exact h0 trivial) hat
      | rel => exact I.sender_deaf F hp hg d hsp (by rw [hdp]; exact h0 trivial) hat
      | deaf => exact I.sender_adds F hp hg d hsp (by rw [hdp]; exact h1 (fun h => h)) hat
      | l2 => exact I.sender_l2 F hp hg d hsp (by rw [hdp]; exact h1 (fun h => h)) hat
      | l3 => exact I.sender_l3 F hp hg d hsp (by rw [hdp]; exact h1 (fun h => h)) hat
      | l4 => exact I.sender_l4 F hp hg d hsp (by rw [hdp]; exact h1 (fun h => h)) hat
      | feed rs0 =>
        cases rs0 with
        | nil => exact I.sender_shuts F hp hg d (.inl hsp) (by rw [hdp]; exact h0 trivial) hat
        | cons v rs =>
          have hat0 := hat
          obtain ⟨_, sh, z, zd, hcomm, hNS, hND⟩ := hat
          have hcm : stepG C.P (C.b0 + p == 0) g (w.at d) = .comm (core g) (twoCases (C.c p) (num v) z C.d zd) true sh (w.at d) #[] := by rw [hi0]; exact hcomm _ hSd
          obtain ⟨s1, r1, hc⟩ := I.chan p hp
          rw [hsp] at hc
          have hcd : (w.at d).heap[C.c p]? = some (.chan 0 #[] false s1 r1 false) := hc
          obtain ⟨s2, r2, hh⟩ := I.halt
          have hhd : (w.at d).heap[C.d]? = some (.chan 0 #[] ph.stop s2 r2 false) := hh
          cases hstp : ph.stop with
          | true =>
            rw [hstp] at hhd
            have hnt : ∀ o l, ph = .turns ((p, o) :: l) → n ≠ 0 := fun o l e => by rw [e] at hstp; cases hstp
            have hrt := crowd_sel_recv_closed (P := C.P) (sl := sl) (k := 1) hg hcm (c := C.d) (z := zd) rfl (fun k c' hk hc' => by
              match k, hk, hc' with
              | 0, _, hc' =>
                obtain rfl : scase (C.c p) (num v) z = c' := by simpa [twoCases] using hc'
                exact ways_send_none hcd (Nat.zero_le _) (I.no_taker' F _ p hnt)
              | 1, hk, _ => exact absurd rfl hk
              | k + 2, _, hc' => simp [twoCases] at hc') hhd (I.no_stopper F _)
            rw [Go.Conc.ofEvents_none, Array.empty_append] at hrt
            obtain ⟨μ', h2, h3⟩ := I.told_ F (sl := sl) hp hsp hstp hg hND d (core g).frame.fn (core g).frame.place
            exact ⟨_, _, μ', hrt, h2, h3⟩
          | false =>
            rw [hstp] at hhd
            by_cases hmeet : ∃ o l, ph = .turns ((p, o) :: l) ∧ n = 0
            · obtain ⟨o, l, rfl, hn⟩ := hmeet
              have hsit := I.sit
              have hmain := I.main
              have hag := I.agr
              generalize hnn : n = n0 at hsit hn
              cases hsit with
              | way _ _ => omega
              | @park _ _ _ g₀ _ hst =>
                obtain ⟨_, es, _, _, hN⟩ := hst (w.at d) (AsideM.at _ _ _)
                obtain ⟨_, ho, _⟩ := hag
                have ho' : o = some v := by rw [ho]; unfold restOf; rw [hsp]; rfl
                subst ho'
                have hrt := sel_send_meets (P := C.P) (sl := sl) (k := 0) (j := 0) (gj := core g₀) (zj := zer) (shj := .recv true) hg hcm (c := C.c p) (v := num v) (z := z) rfl (fun k c' hk hc' => by
                  match k, hk, hc' with
                  | 0, hk, _ => exact absurd rfl hk
                  | 1, _, hc' =>
                    obtain rfl : rcase C.d zd = c' := by simpa [twoCases] using hc'
                    exact ways_recv_none hhd (I.no_stopper F _)
                  | k + 2, _, hc' => simp [twoCases] at hc') hcd (by omega) hmain (I.one_taker F (by omega) rfl)
                rw [Go.Conc.ofEvents_none, Array.empty_append] at hrt
                obtain ⟨c1, c2, c3, c4⟩ := comm_ops (C.b0 + p) 0 (core g).frame.fn (core g₀).frame.fn (core g).frame.place (core g₀).frame.place (C.c p) s1 r1 C.B C.Wg (F.low p (by omega)) rfl
                obtain ⟨μ', h2, h3⟩ := I.pass F (sl := sl) hp hsp (gs' := (gs.setIfInBounds 0 (Go.Conc.served (core g₀) (found (some v)))).setIfInBounds (C.b0 + p) ((core g).finishComm C.P (twoCases (C.c p) (num v) z C.d zd) sh 0 undef false)) (by simp) (fun k hk1 hk2 => by rw [get_one _ _ hk2, get_one _ _ hk1]) (get_self _ (by rw [get_one _ _ (by omega)]; exact hg)) (by rw [get_one _ _ (by omega)]; exact get_self _ hmain) hNS d (s1 + 1) (r1 + 1)
                  (hN _ (AsideM.setChan (by omega) (F.cw p) _ _ _ _ _ _ _)) c1 c2 c3 c4
                exact ⟨_, _, μ', hrt, hnn ▸ h2, h3⟩
            · have hno : ∀ o l, ph = .turns ((p, o) :: l) → n ≠ 0 := fun o l e hn => hmeet ⟨o, l, e, hn⟩
              have hrt := crowd_waits (P := C.P) (sl := sl) hg hcm (fun cc hcc => by
                simp only [twoCases, List.mem_toArray, List.mem_cons, List.not_mem_nil, or_false] at hcc
                rcases hcc with rfl | rfl
                · exact ways_send_none hcd (Nat.zero_le _) (I.no_taker' F _ p hno)
                · exact ways_recv_none hhd (I.no_stopper F _))
              rw [Go.Conc.ofEvents_none] at hrt
              obtain ⟨μ', h2, h3⟩ := I.parks_ F (sl := sl) hp hsp hstp hg (.parks hat0 hNS) d (by omega) hno
              exact ⟨_, _, μ', hrt, h2, h3⟩
    · obtain ⟨g', w', es, hgo, ⟨rfl, hes⟩, hG⟩ := hstep _ hSd
      exact I.sender_way F hp hg d (by rw [hsp]; exact hne) (n' := n') (by omega) hgo (by rw [hsp]; exact hes) (by rw [hsp, hdp]; exact h0) (by rw [hsp, hdp]; exact h1) (by rw [hsp]; exact hG.anyWorld default)
end Go.Proofs.Ytdpagejckahkkaa.Net
