/- Many senders and one receiver, joined by a sync.WaitGroup: a sender takes a step of its own. -/
import Derived.Test.YtdpagejckahkkaaMergeD
set_option linter.unusedVariables false
namespace Go.Proofs.Ytdpagejckahkkaa.Net
open Go Go.Conc
open Go.ConcN (ShN WgLive sumTo upd upd_same upd_ne sumTo_congr sumTo_upd)
open Go.ConcR (KK WgAt stA smA rd wr mk)

variable {C : MCfg} {Fin Anch : Goroutine → World → Prop} {L : List (Nat × Option Int)}
variable {t0 : Nat} {gs : Array Goroutine} {w : World} {t : Trace} {m : Nat} {st : Nat → MS} {r q : Nat → Nat} {ph : Ph} {n : Nat} {a : Goroutine} {sl : Option (Nat × Nat)}

theorem upd_self (st : Nat → MS) (p : Nat) : upd st p (st p) = st := by
  funext z
  by_cases h : z = p
  · subst h; rw [upd_same]
  · rw [upd_ne _ _ h]
theorem sumTo_ms (φ : MS → Nat) (st : Nat → MS) (s' : MS) {p m : Nat} (h : p < m) : sumTo m (fun z => φ (upd st p s' z)) + φ (st p) = sumTo m (fun z => φ (st z)) + φ s' := by
  have e : (fun z => φ (upd st p s' z)) = upd (fun z => φ (st z)) p (φ s') := by
    funext z
    by_cases h : z = p
    · subst h; rw [upd_same, upd_same]
    · rw [upd_ne _ _ h, upd_ne _ _ h]
  rw [e]
  exact sumTo_upd' _ _ h
theorem count_upd (st : Nat → MS) (s' : MS) {p m : Nat} (h : p < m) : countOf (upd st p s') m + (st p).counted = countOf st m + s'.counted := sumTo_ms MS.counted st s' h
theorem Ph.wt_near (ph : Ph) (W a b : Nat) : ph.wt W a ≤ ph.wt W b + 2 := by
  cases ph <;> simp [Ph.wt]
  split <;> split <;> omega
theorem mass_less {s' : MS} {p : Nat} (hp : p < m) (hmT : m ≤ C.T) (h : s'.wt < (st p).wt) (hc : s'.counted = (st p).counted ∨ s'.wt + 4 ≤ (st p).wt ∨ ph = .w3) : massM C L m (upd st p s') ph < massM C L m st ph := by
  have h1 := sumTo_ms MS.wt st s' (show p < C.T by omega)
  have h2 := count_upd st s' hp
  have h3 := ph.wt_near (2 * L.length) (countOf (upd st p s') m) (countOf st m)
  unfold massM
  rcases hc with hc | hc | hc
  · rw [show countOf (upd st p s') m = countOf st m by omega]; omega
  · omega
  · subst hc; simp only [Ph.wt]; omega

set_option maxHeartbeats 1000000 in
/-- A sender's own step. -/
theorem InvT.sender_go (F : C.Fine Anch Fin) (I : InvT C Fin Anch L t0 gs w t m st r q ph n a) {p : Nat} (hp : p < m) {g g' : Goroutine} {w' : World} {es : Array Event} (hg : gs[C.b0 + p]? = some g) (d : Nat)
    (hgo : stepG C.P false g (w.at d) = .go g' w' es) (hA : AsideM C m w w') (hch : ∀ z, z ≠ p → w'.heap[C.c z]? = w.heap[C.c z]?) (hd : w'.heap[C.d]? = w.heap[C.d]?) {s' : MS} {x : Nat}
    (hcp : ∃ a b, w'.heap[C.c p]? = some (.chan 0 #[] s'.closed a b false)) (hsit : SitM C p s' x (deafBehind (Deaf t (C.b0 + p)) es) g') (hx : s' ≠ .gone → x ≠ 0)
    (hwk : (st p).closed = false → s'.closed = true → mayWake C.P g = true)
    (hbell : ∀ n', n ≤ n' → (mayWake C.P g = true → ph = .w3 → 0 < n') → ∃ wt sm : Nat, WgAt C.ty C.Wg w' (((countOf (upd st p s') m + ph.x : Nat) : Int) * KK + (wt : Int)) (sm : Int) ∧ Bell ph m (upd st p s') n' wt sm)
    (htold : s' = .shut → ph.stop = true) (hrest : s'.rest = (st p).rest)
    (hqt : QT C.Shun C.Still C.B C.Wg t0 (Team C.b0 m) (fun _ => False) (t ++ MemOp.ofEvents (C.b0 + p) g.frame.fn g.frame.place es))
    (hrel : s'.said → ∃ r, RelW C.Wg t0 (t ++ MemOp.ofEvents (C.b0 + p) g.frame.fn g.frame.place es) (C.b0 + p) r) (hover : ph.over → s' = .gone)
    (hμ : (s' = st p ∧ x < r p) ∨ (s'.wt < (st p).wt ∧ (s'.counted = (st p).counted ∨ s'.wt + 4 ≤ (st p).wt ∨ ph = .w3))) :
    ∃ M' ops μ', runT C.P (crowd gs (w.at d) sl) (C.b0 + p) = (.next M', ops) ∧ Prod.Lex (· < ·) (· < ·) μ' (massM C L m st ph, fuelM C n m r q) ∧ HoldsM C Fin Anch L t0 μ' M' (t ++ ops) := by
  have hb := F.pos
  have hmT := I.mT
  have hi0 : (C.b0 + p == 0) = false := by simp; omega
  have hrunT := runT_crowd_go (P := C.P) (sl := sl) (i := C.b0 + p) hg (by rw [hi0]; exact hgo)
  have hstill := I.still (i := C.b0 + p) (x := g) (x' := g') (w' := w') (fun z _ hz => hch z (by omega)) hd
  have hst' : g'.status = .running ∨ g'.status = .finished := by
    have h0 := hsit
    generalize deafBehind (Deaf t (C.b0 + p)) es = δ at h0
    cases h0 with
    | gone hq => exact hq.status
    | way _ _ _ hg => exact .inl (hg.running I.S)
    | parks _ _ => exact absurd rfl (hx (by simp))
  have hAu : AsideM C (ph.upto C.T) w w' := I.upto ▸ hA
  have hcA : ∀ z, z < m → ∃ s r, w'.heap[C.c z]? = some (.chan 0 #[] (upd st p s' z).closed s r false) := fun z hz => by
    by_cases e : z = p
    · subst e; rw [upd_same]; exact hcp
    · rw [upd_ne _ _ e, hch z e]; exact I.chan z hz
  obtain ⟨n', hs', h1, h2, h3⟩ := (I.sit.rely hAu).woken (x := g) (x' := g') fun y o l e hn => by
    have hm := I.all (.inr e)
    have hag := I.agr
    rw [e] at hag
    obtain ⟨s1, r1, h⟩ := hcA y (by rw [hm]; exact hag.1)
    exact ⟨_, s1, r1, h⟩
  have hsum := sumTo_upd' r x hp
  have hoth : ∀ j, j ≠ C.b0 + p → Deaf (t ++ MemOp.ofEvents (C.b0 + p) g.frame.fn g.frame.place es) j = Deaf t j := fun j hj => Deaf_other t (fun e => hj e.symm) _ fun op hop => by obtain ⟨e, _, rfl⟩ := Go.Conc.mem_ofEvents hop; rfl
  refine ⟨_, _, (massM C L m (upd st p s') ph, fuelM C n' m (upd r p x) q), hrunT, ?_, _, _, sl, m, upd st p s', upd r p x, q, ph, n', woken C.P g g' w' a, rfl, ⟨by simp [I.size], I.upto, fun i y h1 h2 hy => ?_, fun j hj => ?_, fun z hz => ?_, fun z hz => ?_, hcA, ?_, fun z hz e => ?_, fun z hz e1 e2 => ?_, ?_, fun ho z hz => ?_, F.stable _ _ (hA.more hmT) I.S, hqt, fun z hz hs => ?_, ?_, ?_, hs', ?_, fun y o l e hn => ?_⟩, rfl⟩
  · rcases hμ with ⟨rfl, hx⟩ | ⟨h4, h5⟩
    · rw [upd_self]
      exact .right _ (by unfold fuelM; omega)
    · exact .left _ _ (mass_less hp hmT h4 h5)
  · rw [hstill i h1 (by omega)] at hy
    rw [hoth i (by omega)]
    exact I.old i y h1 h2 hy
  · rw [hoth j (by have := I.size; simp at hj; omega)]
    exact I.above j (by simpa using hj)
  · by_cases e : z = p
    · subst e
      exact ⟨g', get_self' _ _ hg, by rw [upd_same, upd_same, Deaf_own]; exact hsit⟩
    · obtain ⟨y, hy, hs⟩ := I.work z hz
      exact ⟨y, by rw [hstill _ (by omega) (by omega)]; exact hy, by rw [upd_ne _ _ e, upd_ne _ _ e, hoth _ (by omega)]; exact hs⟩
  · rw [upd_ne _ _ (by omega)]; exact I.todo z hz
  · obtain ⟨s1, r1, h⟩ := I.halt
    exact ⟨s1, r1, by rw [hd]; exact h⟩
  · by_cases e' : z = p
    · subst e'; rw [upd_same] at e; exact htold e
    · rw [upd_ne _ _ e'] at e; exact I.told z hz e
  · by_cases e' : z = p
    · subst e'; rw [upd_same] at e1 e2; exact absurd e2 (hx e1)
    · rw [upd_ne _ _ e'] at e1 e2; exact I.idle z hz e1 e2
  · exact hbell n' h1 fun hw e => h3 hw hst' (.inl e)
  · by_cases e' : z = p
    · subst e'; rw [upd_same]; exact hover ho
    · rw [upd_ne _ _ e']; exact I.over ho z hz
  · by_cases e' : z = p
    · subst e'; rw [upd_same] at hs; exact hrel hs
    · rw [upd_ne _ _ e'] at hs
      obtain ⟨r1, hr⟩ := I.rel z hz hs
      exact ⟨r1, hr.other fun op hop e => by obtain ⟨e1, _, rfl⟩ := Go.Conc.mem_ofEvents hop; simp at e; omega⟩
  · rw [hoth 0 (by omega)]; exact I.d0
  · rw [get_one _ _ (by omega), Array.getElem?_map, I.main]; rfl
  · rw [restOf_upd hrest]; exact I.agr
  · obtain ⟨f1, f2⟩ := I.fed y o l e (by omega)
    by_cases e' : y = p
    · subst e'
      rw [upd_same, upd_same]
      have hcl : s'.closed = false := by
        cases hc : s'.closed with
        | false => rfl
        | true =>
          rw [hc] at hcp
          obtain ⟨s1, r1, h⟩ := hcp
          have := h3 (hwk f1 hc) hst' (.inr ⟨y, o, l, s1, r1, e, h⟩)
          omega
      exact ⟨hcl, hx (by intro e; rw [e] at hcl; cases hcl)⟩
    · rw [upd_ne _ _ e', upd_ne _ _ e']; exact ⟨f1, f2⟩

/-- The group's block, and what is held of it, where the group is left alone. -/
theorem InvT.bell_same (I : InvT C Fin Anch L t0 gs w t m st r q ph n a) {w' : World} (h : w'.heap[C.Wg]? = w.heap[C.Wg]?) {p : Nat} (hp : p < m) {s' : MS} (hc : s'.counted = (st p).counted) (hl : s' ≠ .l2 ∧ s' ≠ .l3 ∧ s' ≠ .l4)
    (hc1 : s' = .gone ∨ s'.counted = 1) (hs : st p ≠ .l2 ∧ st p ≠ .l3 ∧ st p ≠ .l4) :
    ∀ n', n ≤ n' → ∃ wt sm : Nat, WgAt C.ty C.Wg w' (((countOf (upd st p s') m + ph.x : Nat) : Int) * KK + (wt : Int)) (sm : Int) ∧ Bell ph m (upd st p s') n' wt sm := by
  intro n' hn
  obtain ⟨wt, sm, hw, hb⟩ := I.bell
  have he : countOf (upd st p s') m = countOf st m := by have := count_upd st s' hp; omega
  refine ⟨wt, sm, by rw [he]; exact hw.of_block h, ?_⟩
  have hgone : st p = .gone → s' = .gone := fun e => hc1.elim id fun h => by rw [hc, e] at h; cases h
  have hno : (∀ z, z < m → st z ≠ .l2 ∧ st z ≠ .l3 ∧ st z ≠ .l4) → ∀ z, z < m → upd st p s' z ≠ .l2 ∧ upd st p s' z ≠ .l3 ∧ upd st p s' z ≠ .l4 := fun h z hz => by
    by_cases e : z = p
    · subst e; rw [upd_same]; exact hl
    · rw [upd_ne _ _ e]; exact h z hz
  have hothers : ∀ {y}, y ≠ p → (∀ z, z < m → z ≠ y → st z = .gone) → ∀ z, z < m → z ≠ y → upd st p s' z = .gone := fun hy h z hz hzy => by
    by_cases e : z = p
    · subst e; rw [upd_same]; exact hgone (h z hz hzy)
    · rw [upd_ne _ _ e]; exact h z hz hzy
  cases hb with
  | calm h1 h2 => exact .calm h1 (hno h2)
  | waits h1 h2 h3 => exact .waits h1 (by omega) (hno h3)
  | @last y h1 h2 h3 h4 =>
    have hy : y ≠ p := by rintro rfl; rcases h3 with h | h; exact hs.1 h; exact hs.2.1 h
    exact .last h1 h2 (by rw [upd_ne _ _ hy]; exact h3) (hothers hy h4)
  | @rings y h1 h2 h3 h4 =>
    have hy : y ≠ p := by rintro rfl; exact hs.2.2 h3
    exact .rings h1 h2 (by rw [upd_ne _ _ hy]; exact h3) (hothers hy h4)
  | rung h1 h2 h3 =>
    refine .rung h1 (fun z hz => ?_) (by omega)
    by_cases e : z = p
    · subst e; rw [upd_same]; exact hgone (h2 z hz)
    · rw [upd_ne _ _ e]; exact h2 z hz
theorem InvT.bell_still (I : InvT C Fin Anch L t0 gs w t m st r q ph n a) {w' : World} (h : w'.heap[C.Wg]? = w.heap[C.Wg]?) {n' : Nat} (hn : n ≤ n') : ∃ wt sm : Nat, WgAt C.ty C.Wg w' (((countOf st m + ph.x : Nat) : Int) * KK + (wt : Int)) (sm : Int) ∧ Bell ph m st n' wt sm := by
  obtain ⟨wt, sm, hw, hb⟩ := I.bell
  exact ⟨wt, sm, hw.of_block h, hb.mono hn⟩

/-- It is on its way. -/
theorem InvT.sender_way (F : C.Fine Anch Fin) (I : InvT C Fin Anch L t0 gs w t m st r q ph n a) {p : Nat} (hp : p < m) {g g' : Goroutine} {es : Array Event} {n' : Nat} (hg : gs[C.b0 + p]? = some g) (d : Nat) (hne : st p ≠ .gone) (hlt : n' + 1 < r p)
    (hgo : stepG C.P false g (w.at d) = .go g' (w.at d) es) (hes : ∀ e ∈ es, EvC (fun l => C.Still l ∧ ¬ (st p).said) C.B e) (h0 : (st p).hears → Deaf t (C.b0 + p) = 0) (h1 : ¬ (st p).hears → Deaf t (C.b0 + p) = 1) (hs : GoesM C p (st p) n' g') :
    ∃ M' ops μ', runT C.P (crowd gs (w.at d) sl) (C.b0 + p) = (.next M', ops) ∧ Prod.Lex (· < ·) (· < ·) μ' (massM C L m st ph, fuelM C n m r q) ∧ HoldsM C Fin Anch L t0 μ' M' (t ++ ops) := by
  have hes' : ∀ e ∈ es, EvC C.Still C.B e := fun e he => let ⟨a, h1, h2, h3⟩ := hes e he; ⟨a, h1, h2.1, h3⟩
  obtain ⟨o1, o2, o3, o4⟩ := EvW.ops (g := C.b0 + p) (fn := g.frame.fn) (pos := g.frame.place) fun e he => evC_W (hes' e he)
  have o5 : deafBehind (Deaf t (C.b0 + p)) es = Deaf t (C.b0 + p) := by rw [← Deaf_own t (C.b0 + p) g.frame.fn g.frame.place es]; exact o4 t _
  have o6 : ∀ op ∈ MemOp.ofEvents (C.b0 + p) g.frame.fn g.frame.place es, op.act ≠ .mark (.release (stA C.Wg)) := fun op hop => by
    obtain ⟨e, he, rfl⟩ := Go.Conc.mem_ofEvents hop
    obtain ⟨ad, rfl, _, _⟩ := hes e he
    simp [MemAct.ofEvent]
  refine I.sender_go F hp hg d hgo (AsideM.at _ _ _) (fun _ _ => rfl) rfl (s' := st p) (x := n' + 1) (I.chan p hp) (.way hne (by rw [o5]; exact h0) (by rw [o5]; exact h1) hs) (fun _ => by omega) (fun e1 e2 => by rw [e1] at e2; cases e2)
    (fun n'' hn _ => by rw [upd_self]; exact I.bell_still rfl hn) (I.told p hp) rfl (I.qt.work F.apart ⟨p, hp, rfl⟩ o1 o2 (fun _ h => h.elim) o3 o6) (fun h => ?_) (fun h => I.over h p hp) (.inl ⟨rfl, hlt⟩)
  obtain ⟨r1, hr⟩ := I.rel p hp h
  refine ⟨r1, hr.other fun op hop _ => ?_⟩
  obtain ⟨e, he, rfl⟩ := Go.Conc.mem_ofEvents hop
  obtain ⟨_, _, hh, _⟩ := hes e he
  exact absurd h hh.2

theorem mute_norel {e : Event} (h : e.mute = true) (ad : Addr) : MemAct.ofEvent e ≠ .mark (.release ad) := by
  obtain ⟨loc, wr, sy⟩ := e
  cases loc <;> simp_all [Event.mute]
  rename_i m
  cases m <;> simp_all [MemAct.ofEvent]
/-- It only leaves. -/
theorem InvT.sender_leaves (F : C.Fine Anch Fin) (I : InvT C Fin Anch L t0 gs w t m st r q ph n a) {p : Nat} (hp : p < m) {g g' : Goroutine} {es : Array Event} {z : Nat} (hg : gs[C.b0 + p]? = some g) (d : Nat) (hst : st p = .gone) (hlt : z < r p)
    (hgo : stepG C.P false g (w.at d) = .go g' (w.at d) es) (hes : ∀ e ∈ es, Event.mute e = true) (hs : QuitsD C.P z (deafBehind (Deaf t (C.b0 + p)) es) g') :
    ∃ M' ops μ', runT C.P (crowd gs (w.at d) sl) (C.b0 + p) = (.next M', ops) ∧ Prod.Lex (· < ·) (· < ·) μ' (massM C L m st ph, fuelM C n m r q) ∧ HoldsM C Fin Anch L t0 μ' M' (t ++ ops) := by
  have o2 : ∀ op ∈ MemOp.ofEvents (C.b0 + p) g.frame.fn g.frame.place es, op.act.touch? = none := fun op hop => by obtain ⟨e, he, rfl⟩ := Go.Conc.mem_ofEvents hop; exact touch_mute (hes e he)
  have o3 : ∀ op ∈ MemOp.ofEvents (C.b0 + p) g.frame.fn g.frame.place es, op.act.low C.B := fun op hop => by obtain ⟨e, he, rfl⟩ := Go.Conc.mem_ofEvents hop; exact low_mute (hes e he) C.B
  have o6 : ∀ op ∈ MemOp.ofEvents (C.b0 + p) g.frame.fn g.frame.place es, op.act ≠ .mark (.release (stA C.Wg)) := fun op hop => by
    obtain ⟨e, he, rfl⟩ := Go.Conc.mem_ofEvents hop
    exact mute_norel (hes e he) _
  refine I.sender_go F hp hg d hgo (AsideM.at _ _ _) (fun _ _ => rfl) rfl (s' := st p) (x := z) (I.chan p hp) (by rw [hst]; exact .gone hs) (fun h => absurd hst h) (fun e1 e2 => by rw [e1] at e2; cases e2)
    (fun n'' hn _ => by rw [upd_self]; exact I.bell_still rfl hn) (I.told p hp) rfl (I.qt.mute o2 (fun _ h => h.elim) o3 o6) (fun h => ?_) (fun h => hst) (.inl ⟨rfl, hlt⟩)
  obtain ⟨r1, hr⟩ := I.rel p hp h
  exact ⟨r1, hr.other fun op hop _ => o2 op hop⟩

/-- It shuts its channel. -/
theorem InvT.sender_shuts (F : C.Fine Anch Fin) (I : InvT C Fin Anch L t0 gs w t m st r q ph n a) {p : Nat} (hp : p < m) {g : Goroutine} (hg : gs[C.b0 + p]? = some g) (d : Nat) (hst : st p = .feed [] ∨ st p = .shut) (hd0 : Deaf t (C.b0 + p) = 0) (hat : AtCloseM C p (C.W p .done) g) :
    ∃ M' ops μ', runT C.P (crowd gs (w.at d) sl) (C.b0 + p) = (.next M', ops) ∧ Prod.Lex (· < ·) (· < ·) μ' (massM C L m st ph, fuelM C n m r q) ∧ HoldsM C Fin Anch L t0 μ' M' (t ++ ops) := by
  have hmT := I.mT
  obtain ⟨_, hmw, g₂, hgo, hW⟩ := hat
  obtain ⟨s1, r1, hc⟩ := I.chan p hp
  have hcl : (st p).closed = false := by rcases hst with h | h <;> rw [h] <;> rfl
  rw [hcl] at hc
  obtain ⟨nw, hn⟩ := F.walk p _ g₂ (by omega) (by simp) hW
  have hcp : ((w.at d).setChan (C.c p) 0 #[] true s1 r1 false).heap[C.c p]? = some (.chan 0 #[] true s1 r1 false) := heap_setChan_self' (w := w.at d) hc
  have hu : ∀ op ∈ MemOp.ofEvents (C.b0 + p) g.frame.fn g.frame.place (closeEvents (C.c p)), op = { g := C.b0 + p, fn := g.frame.fn, pos := g.frame.place, act := .access ⟨.obj (C.c p), false, true⟩ } ∨ op = { g := C.b0 + p, fn := g.frame.fn, pos := g.frame.place, act := .close (C.c p) } := fun op h => by
    rw [closeOps] at h
    simpa only [List.mem_toArray, List.mem_cons, List.not_mem_nil, or_false] using h
  have hdf : deafBehind (Deaf t (C.b0 + p)) (closeEvents (C.c p)) = 0 := by
    rw [← Deaf_own t (C.b0 + p) g.frame.fn g.frame.place]
    rw [Deaf_quiet fun op h d => by rcases hu op h with rfl | rfl <;> rfl]
    exact hd0
  refine I.sender_go F hp hg d (hgo _ s1 r1 (I.at F d) hc) ((AsideM.at _ _ _).trans (AsideM.setChan hp (F.cw p) _ _ _ _ _ _ _)) (fun z hz => heap_setChan_ne' fun h => hz (F.inj _ _ h)) (heap_setChan_ne' (Ne.symm (F.cd p))) (s' := .done) (x := nw + 1) ⟨s1, r1, hcp⟩
    (.way (by simp) (fun _ => hdf) (fun h => absurd trivial h) hn) (fun _ => by omega) (fun _ _ => hmw) (fun n' hn' _ => I.bell_same (heap_setChan_ne' (Ne.symm (F.cw p))) hp (by rcases hst with h | h <;> rw [h] <;> rfl) (by simp) (.inr rfl) (by rcases hst with h | h <;> rw [h] <;> simp) n' hn')
    (by simp) (by rcases hst with h | h <;> rw [h] <;> rfl) (I.qt.work F.apart ⟨p, hp, rfl⟩ (fun op h => by rcases hu op h with rfl | rfl <;> rfl) (fun op h b hb => ?_) (fun _ h => h.elim) (fun op h => by rcases hu op h with rfl | rfl <;> exact F.low p (by omega)) (fun op h => by rcases hu op h with rfl | rfl <;> simp))
    (fun h => h.elim) (fun h => by have := I.over h p hp; rcases hst with e | e <;> rw [e] at this <;> cases this) (.inr ⟨by rcases hst with h | h <;> rw [h] <;> simp [MS.wt], .inl (by rcases hst with h | h <;> rw [h] <;> rfl)⟩)
  rcases hu op h with rfl | rfl
  · simp only [MemAct.touch?, Option.some.injEq] at hb
    subst hb
    exact ⟨rfl, F.obj p⟩
  · simp [MemAct.touch?] at hb

theorem ofEvents_one (g : Nat) (fn : FuncId) (pos : String) (e : Event) : MemOp.ofEvents g fn pos #[e] = #[{ g := g, fn := fn, pos := pos, act := .ofEvent e }] := by rw [ofEvents_eq]; simp
theorem ofEvent_mk (x : Mark) : MemAct.ofEvent (Go.ConcR.mk x) = .mark x := rfl

/-- It says its last word. -/
theorem InvT.sender_says (F : C.Fine Anch Fin) (I : InvT C Fin Anch L t0 gs w t m st r q ph n a) {p : Nat} (hp : p < m) {g : Goroutine} (hg : gs[C.b0 + p]? = some g) (d : Nat) (hst : st p = .done) (hd0 : Deaf t (C.b0 + p) = 0) (hat : AtMark C (.releaseMerge (stA C.Wg)) (C.W p .rel) g) :
    ∃ M' ops μ', runT C.P (crowd gs (w.at d) sl) (C.b0 + p) = (.next M', ops) ∧ Prod.Lex (· < ·) (· < ·) μ' (massM C L m st ph, fuelM C n m r q) ∧ HoldsM C Fin Anch L t0 μ' M' (t ++ ops) := by
  have hmT := I.mT
  obtain ⟨_, g', hgo, hW⟩ := hat
  obtain ⟨nw, hn⟩ := F.walk p _ g' (by omega) (by simp) hW
  have hcp := I.chan p hp
  rw [hst] at hcp
  refine I.sender_go F hp hg d (hgo _ (I.at F d)) (AsideM.at _ _ _) (fun z hz => rfl) rfl (s' := .rel) (x := nw + 1) hcp
    (.way (by simp) (fun _ => by rw [hd0]; rfl) (fun h => absurd trivial h) hn) (fun _ => by omega) (fun e _ => by rw [hst] at e; cases e) (fun n' hn' _ => I.bell_same rfl hp (by rw [hst]; rfl) (by simp) (.inr rfl) (by rw [hst]; simp) n' hn')
    (by simp) (by rw [hst]; rfl) (I.qt.mute (fun op h => ?_) (fun _ h => h.elim) (fun op h => ?_) (fun op h => ?_)) (fun _ => ⟨t.size, ?_⟩) (fun h => by have := I.over h p hp; rw [hst] at this; cases this) (.inr ⟨by rw [hst]; simp [MS.wt], .inl (by rw [hst]; rfl)⟩)
  · obtain ⟨e, he, rfl⟩ := Go.Conc.mem_ofEvents h
    simp at he; subst he; rfl
  · obtain ⟨e, he, rfl⟩ := Go.Conc.mem_ofEvents h
    simp at he; subst he; exact F.loww
  · obtain ⟨e, he, rfl⟩ := Go.Conc.mem_ofEvents h
    simp at he; subst he; rw [ofEvent_mk]; simp
  · rw [ofEvents_one]
    exact RelW.new rfl rfl hd0 I.qt.late

/-- It turns deaf. -/
theorem InvT.sender_deaf (F : C.Fine Anch Fin) (I : InvT C Fin Anch L t0 gs w t m st r q ph n a) {p : Nat} (hp : p < m) {g : Goroutine} (hg : gs[C.b0 + p]? = some g) (d : Nat) (hst : st p = .rel) (hd0 : Deaf t (C.b0 + p) = 0) (hat : AtMark C .disable (C.W p .deaf) g) :
    ∃ M' ops μ', runT C.P (crowd gs (w.at d) sl) (C.b0 + p) = (.next M', ops) ∧ Prod.Lex (· < ·) (· < ·) μ' (massM C L m st ph, fuelM C n m r q) ∧ HoldsM C Fin Anch L t0 μ' M' (t ++ ops) := by
  have hmT := I.mT
  obtain ⟨_, g', hgo, hW⟩ := hat
  obtain ⟨nw, hn⟩ := F.walk p _ g' (by omega) (by simp) hW
  have hcp := I.chan p hp
  rw [hst] at hcp
  have o1 : ∀ op ∈ MemOp.ofEvents (C.b0 + p) g.frame.fn g.frame.place #[Go.ConcR.mk .disable], op.act = .mark .disable := fun op h => by
    obtain ⟨e, he, rfl⟩ := Go.Conc.mem_ofEvents h
    simp at he; subst he; rfl
  refine I.sender_go F hp hg d (hgo _ (I.at F d)) (AsideM.at _ _ _) (fun z hz => rfl) rfl (s' := .deaf) (x := nw + 1) hcp
    (.way (by simp) (fun h => h.elim) (fun h => by rw [hd0]; rfl) hn) (fun _ => by omega) (fun e _ => by rw [hst] at e; cases e) (fun n' hn' _ => I.bell_same rfl hp (by rw [hst]; rfl) (by simp) (.inr rfl) (by rw [hst]; simp) n' hn')
    (by simp) (by rw [hst]; rfl) (I.qt.mute (fun op h => by rw [o1 op h]; rfl) (fun _ h => h.elim) (fun op h => by rw [o1 op h]; trivial) (fun op h => by rw [o1 op h]; simp)) (fun _ => ?_) (fun h => by have := I.over h p hp; rw [hst] at this; cases this) (.inr ⟨by rw [hst]; simp [MS.wt], .inl (by rw [hst]; rfl)⟩)
  obtain ⟨r1, hr⟩ := I.rel p hp (by rw [hst]; trivial)
  exact ⟨r1, hr.other fun op h _ => by rw [o1 op h]; rfl⟩

/-- What one that is deaf touches of the group. -/
theorem RelW.deaf {Wg t0 : Nat} {t : Trace} {k r0 : Nat} (h : RelW Wg t0 t k r0) (hd : Deaf t k = 1) {fn : FuncId} {pos : String} {es : Array Event} (hs : ∀ e ∈ es, ∀ b, (MemAct.ofEvent e).touch? = some b → ShN Wg b.loc ∧ b.kind = .atomic)
    (hq : ∀ j, j < es.size → 0 < deafBehind 1 (es.extract 0 j) ∨ ((es[j]?).map MemAct.ofEvent).bind MemAct.touch? = none) : RelW Wg t0 (t ++ MemOp.ofEvents k fn pos es) k r0 := by
  refine h.app fun i hi hg x hx => ?_
  obtain ⟨op, hop, e, hto⟩ := touch_new_op hx hg hi
  obtain ⟨ev, hev, rfl⟩ := Go.Conc.mem_ofEvents hop
  refine ⟨(hs ev hev x hto).1, (hs ev hev x hto).2, fun ⟨g', hg', hh⟩ => ?_⟩
  rw [hg] at hg'
  obtain rfl := Option.some.inj hg'
  obtain ⟨z, hz, hzt⟩ := touch_of hx
  have hlt := lt_size_of_getElem? hz
  have hsz : i - t.size < es.size := by
    simp [ofEvents_eq] at hlt
    omega
  rcases getElem?_append_cases hz with ⟨h1, _⟩ | ⟨_, _⟩
  · omega
  have e1 := deaf_inside t k fn pos es (i - t.size) (Nat.le_of_lt hsz)
  rw [show t.size + (i - t.size) = i by omega, hd] at e1
  rw [e1] at hh
  rcases hq (i - t.size) hsz with h0 | h0
  · omega
  · have hz2 : z = { g := k, fn := fn, pos := pos, act := .ofEvent es[i - t.size] } := by
      rw [Array.getElem?_append_right hi, ofEvents_eq, Array.getElem?_map, Array.getElem?_eq_getElem hsz] at hz
      simpa using hz.symm
    subst hz2
    rw [Array.getElem?_eq_getElem hsz] at h0
    simp at h0
    rw [h0] at hzt
    cases hzt

theorem rd_touch {Wg off : Nat} {b : Touch} (h : (MemAct.ofEvent (rd ⟨Wg, off, none⟩)).touch? = some b) : ShN Wg b.loc ∧ b.kind = .atomic := by
  simp [rd, MemAct.ofEvent, MemAct.touch?] at h
  subst h
  exact ⟨⟨_, rfl, rfl⟩, rfl⟩
theorem wr_touch {Wg off : Nat} {b : Touch} (h : (MemAct.ofEvent (wr ⟨Wg, off, none⟩)).touch? = some b) : ShN Wg b.loc ∧ b.kind = .atomic := by
  simp [wr, MemAct.ofEvent, MemAct.touch?] at h
  subst h
  exact ⟨⟨_, rfl, rfl⟩, rfl⟩
end Go.Proofs.Ytdpagejckahkkaa.Net
