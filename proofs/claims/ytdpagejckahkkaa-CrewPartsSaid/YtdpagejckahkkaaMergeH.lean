/- Many senders and one receiver, joined by a sync.WaitGroup: goroutine 0's steps, and those of who only leaves. -/
import Derived.Test.YtdpagejckahkkaaMergeG
set_option linter.unusedVariables false
namespace Go.Proofs.Ytdpagejckahkkaa.Net
open Go Go.Conc
open Go.ConcN (ShN WgLive sumTo upd upd_same upd_ne sumTo_congr sumTo_upd)
open Go.ConcR (KK WgAt stA smA rd wr)

variable {C : MCfg} {Fin Anch : Goroutine → World → Prop} {L : List (Nat × Option Int)}
variable {t0 : Nat} {gs : Array Goroutine} {w : World} {t : Trace} {m : Nat} {st : Nat → MS} {r q : Nat → Nat} {ph : Ph} {n : Nat} {a : Goroutine} {sl : Option (Nat × Nat)}

theorem Goes.bindR {P : Program} {main : Bool} {R : World → World → Prop} {D : World → World → Array Event → Prop} {Stop Stop' : Goroutine → World → Prop} {k : Nat} (refl : ∀ w, R w w) (h : ∀ g w, Stop g w → Goes P main R D Stop' k g w) :
    ∀ {n : Nat} {g : Goroutine} {w : World}, Goes P main R D Stop n g w → Goes P main R D Stop' (n + k) g w
  | 0, g, w, hg => (h g w (hg w (refl w))).mono (by omega)
  | n + 1, g, w, hg => by
    rcases hg with hs | ⟨hr, hst⟩
    · exact (h g w (hs w (refl w))).mono (by omega)
    · rw [show n + 1 + k = (n + k) + 1 by omega]
      refine .inr ⟨hr, fun w₁ r => ?_⟩
      obtain ⟨g', w', es, e, hd, hn⟩ := goes_elim (hst w₁ r)
      rw [e]
      exact ⟨hd, Goes.bindR refl h hn⟩
theorem gp_anch (F : C.Fine Anch Fin) {g : Goroutine} {w : World} (h : GP C C.T Anch g w) : ∃ n, GoP C Fin Anch L .w1 n g w := by
  obtain ⟨n, hn⟩ := h
  obtain ⟨k, hk⟩ := F.anch
  exact ⟨n + k, Goes.bindR (fun w => AsideM.refl _ w) hk hn⟩

/-- Whoever only leaves takes a step. -/
theorem InvT.old_step (F : C.Fine Anch Fin) (I : InvT C Fin Anch L t0 gs w t m st r q ph n a) {i : Nat} {g : Goroutine} (h1 : 0 < i) (h2 : i < C.b0) (hg : gs[i]? = some g) (hrun : g.status = .running) (d : Nat) :
    ∃ M' ops μ', runT C.P (crowd gs (w.at d) sl) i = (.next M', ops) ∧ Prod.Lex (· < ·) (· < ·) μ' (massM C L m st ph, fuelM C n m r q) ∧ HoldsM C Fin Anch L t0 μ' M' (t ++ ops) := by
  have hq := I.old i g h1 h2 hg
  have hi0 : (i == 0) = false := by simp; omega
  cases hqi : q i with
  | zero => rw [hqi] at hq; rw [hq.1] at hrun; cases hrun
  | succ z =>
    rw [hqi] at hq
    rcases hq with ⟨hf, _⟩ | ⟨_, g', es, hm, hstp, hq'⟩
    · rw [hf] at hrun; cases hrun
    have hrunT := runT_crowd_go (P := C.P) (sl := sl) (i := i) hg (by rw [hi0]; exact hstp (w.at d))
    have hop : ∀ op ∈ MemOp.ofEvents i g.frame.fn g.frame.place es, op.g = i ∧ op.act.touch? = none ∧ op.act.low C.B ∧ op.act ≠ .mark (.release (stA C.Wg)) := fun op hop => by
      obtain ⟨e, he, rfl⟩ := Go.Conc.mem_ofEvents hop
      exact ⟨rfl, touch_mute (hm e he), low_mute (hm e he) C.B, mute_norel (hm e he) _⟩
    have hstill := I.still (i := i) (x := g) (x' := g') (w' := w.at d) (fun _ _ _ => rfl) rfl
    obtain ⟨n', hs', k1, k2, k3⟩ := (I.sit.rely (AsideM.at _ _ d)).woken (x := g) (x' := g') fun y o l e hn => by
      have hm := I.all (.inr e)
      have hag := I.agr
      rw [e] at hag
      obtain ⟨s1, r1, h⟩ := I.chan y (by rw [hm]; exact hag.1)
      exact ⟨_, s1, r1, h⟩
    have hsum : sumTo C.b0 (upd q i z) + (z + 1) = sumTo C.b0 q + z := by
      have := sumTo_upd q z id h2
      simpa [hqi] using this
    have hoth : ∀ j, j ≠ i → Deaf (t ++ MemOp.ofEvents i g.frame.fn g.frame.place es) j = Deaf t j := fun j hj => Deaf_other t (fun e => hj e.symm) _ fun op h => (hop op h).1
    refine ⟨_, _, (massM C L m st ph, fuelM C n' m r (upd q i z)), hrunT, .right _ (by unfold fuelM; omega), _, _, _, m, st, r, upd q i z, ph, n', _, rfl, ⟨by simp [I.size], I.upto, fun j x k1 k2 hx => ?_, fun j hj => ?_, fun p hp => ?_, I.todo, I.chan, I.halt, I.told, I.idle, I.bell_still rfl k1, I.over, I.at F d, I.qt.mute (fun op h => (hop op h).2.1) (fun _ h => h.elim) (fun op h => (hop op h).2.2.1) (fun op h => (hop op h).2.2.2), fun p hp hs => ?_, ?_, ?_, hs', I.agr, fun x o l e hn => I.fed x o l e (by omega)⟩, rfl⟩
    · by_cases hj : j = i
      · subst hj
        rw [get_self' _ _ hg] at hx
        obtain rfl := Option.some.inj hx
        rw [upd_same, Deaf_own]
        exact hq'
      · rw [hstill j k1 hj] at hx
        rw [upd_ne _ _ hj, hoth j hj]
        exact I.old j x k1 k2 hx
    · have hlt := (Array.getElem?_eq_some_iff.1 hg).1
      rw [hoth j (by simp at hj; omega)]; exact I.above j (by simpa using hj)
    · obtain ⟨x, hx, hs⟩ := I.work p hp
      exact ⟨x, by rw [hstill _ (by omega) (by omega)]; exact hx, by rw [hoth _ (by omega)]; exact hs⟩
    · obtain ⟨r1, hr⟩ := I.rel p hp hs
      exact ⟨r1, hr.other fun op h _ => (hop op h).2.1⟩
    · rw [hoth 0 (by omega)]; exact I.d0
    · rw [get_one _ _ (by omega), Array.getElem?_map, I.main]; rfl

/-- Goroutine 0 does something; the senders stand. -/
theorem InvT.mains (F : C.Fine Anch Fin) (I : InvT C Fin Anch L t0 gs w t m st r q ph n a) {gs' : Array Goroutine} {w' : World} {u : Trace} {ph' : Ph} {n' : Nat} {a' : Goroutine} (hsz : gs'.size = gs.size) (hget : ∀ k, 0 < k → gs'[k]? = gs[k]?) (hmain : gs'[0]? = some a')
    (hch : ∀ z, z < m → w'.heap[C.c z]? = w.heap[C.c z]?) (hd : w'.heap[C.d]? = w.heap[C.d]?) (hup : ph'.upto C.T = ph.upto C.T) (hstop : ph'.stop = ph.stop)
    (hbell : ∃ wt sm : Nat, WgAt C.ty C.Wg w' (((countOf st m + ph'.x : Nat) : Int) * KK + (wt : Int)) (sm : Int) ∧ Bell ph' m st n' wt sm) (hover : ph'.over → ∀ p, p < m → st p = .gone) (hS : C.S w')
    (hqt : QT C.Shun C.Still C.B C.Wg t0 (Team C.b0 m) (fun _ => False) (t ++ u)) (hug : ∀ op ∈ u, op.g = 0) (hd0 : Deaf (t ++ u) 0 = if ph'.hears then 0 else 1) (hsit : SitP C Fin Anch L ph' n' a' w')
    (hagr : Agrees C.T (restOf st) (ph'.list L)) (hfed : ∀ x o l, ph' = .turns ((x, o) :: l) → n' = 0 → (st x).closed = false ∧ r x ≠ 0) : InvT C Fin Anch L t0 gs' w' (t ++ u) m st r q ph' n' a' := by
  have hb := F.pos
  have hoth : ∀ j, 0 < j → Deaf (t ++ u) j = Deaf t j := fun j hj => Deaf_other t (by omega) _ hug
  refine ⟨hsz.trans I.size, I.upto.trans hup.symm, fun i g h1 h2 hg => ?_, fun j hj => ?_, fun p hp => ?_, I.todo, fun p hp => ?_, ?_, fun p hp h => ?_, fun p hp h1 h2 => ?_, hbell, hover, hS, hqt, fun p hp hs => ?_, hd0, hmain, hsit, hagr, hfed⟩
  · rw [hget i h1] at hg
    rw [hoth i h1]; exact I.old i g h1 h2 hg
  · have := I.size
    rw [hoth j (by omega)]; exact I.above j (by omega)
  · obtain ⟨g, hg, hs⟩ := I.work p hp
    exact ⟨g, by rw [hget _ (by omega)]; exact hg, by rw [hoth _ (by omega)]; exact hs⟩
  · rw [hch p hp]; exact I.chan p hp
  · rw [hd, hstop]; exact I.halt
  · rw [hstop]; exact I.told p hp h
  · rw [hstop]; exact I.idle p hp h1 h2
  · obtain ⟨r1, hr⟩ := I.rel p hp hs
    exact ⟨r1, hr.other fun op h e => by rw [hug op h] at e; omega⟩

/-- A step of goroutine 0's own. -/
theorem InvT.main_go (F : C.Fine Anch Fin) (I : InvT C Fin Anch L t0 gs w t m st r q ph n a) (d : Nat) {w' : World} {es : Array Event} {ph' : Ph} {n' : Nat} {a' : Goroutine} (hgo : stepG C.P true a (w.at d) = .go a' w' es)
    (hch : ∀ z, z < m → w'.heap[C.c z]? = w.heap[C.c z]?) (hd : w'.heap[C.d]? = w.heap[C.d]?) (hup : ph'.upto C.T = ph.upto C.T) (hstop : ph'.stop = ph.stop)
    (hbell : ∃ wt sm : Nat, WgAt C.ty C.Wg w' (((countOf st m + ph'.x : Nat) : Int) * KK + (wt : Int)) (sm : Int) ∧ Bell ph' m st n' wt sm) (hover : ph'.over → ∀ p, p < m → st p = .gone) (hS : C.S w')
    (hqt : QT C.Shun C.Still C.B C.Wg t0 (Team C.b0 m) (fun _ => False) (t ++ MemOp.ofEvents 0 a.frame.fn a.frame.place es)) (hd0 : deafBehind (Deaf t 0) es = if ph'.hears then 0 else 1) (hsit : SitP C Fin Anch L ph' n' a' w')
    (hlist : ph'.list L = ph.list L) (hfed : ∀ x o l, ph' = .turns ((x, o) :: l) → n' ≠ 0)
    (hμ : (ph' = ph ∧ n' < n) ∨ ph'.wt (2 * L.length) (countOf st m) < ph.wt (2 * L.length) (countOf st m)) :
    ∃ M' ops μ', runT C.P (crowd gs (w.at d) sl) 0 = (.next M', ops) ∧ Prod.Lex (· < ·) (· < ·) μ' (massM C L m st ph, fuelM C n m r q) ∧ HoldsM C Fin Anch L t0 μ' M' (t ++ ops) := by
  have hrunT := runT_crowd_go (P := C.P) (sl := sl) (i := 0) I.main (show stepG C.P (0 == 0) a (w.at d) = _ from hgo)
  have hstill := I.still (i := 0) (x := a) (x' := a') (w' := w') (fun z hz _ => hch z hz) hd
  refine ⟨_, _, (massM C L m st ph', fuelM C n' m r q), hrunT, ?_, _, _, _, m, st, r, q, ph', n', a', rfl, I.mains F (by simp) (fun k hk => hstill k hk (by omega)) (get_self' _ _ I.main) hch hd hup hstop hbell hover hS hqt
    (fun op h => by obtain ⟨e, _, rfl⟩ := Go.Conc.mem_ofEvents h; rfl) (by rw [Deaf_own]; exact hd0) hsit (by rw [hlist]; exact I.agr) (fun x o l e h => absurd h (hfed x o l e)), rfl⟩
  rcases hμ with ⟨rfl, h⟩ | h
  · exact .right _ (by unfold fuelM; omega)
  · exact .left _ _ (by unfold massM; omega)

/-- What goroutine 0 lists by the way. -/
theorem InvT.qt_evs (I : InvT C Fin Anch L t0 gs w t m st r q ph n a) {fn : FuncId} {pos : String} {es : Array Event} (h : ∀ e ∈ es, EvM (fun l => C.Shun l ∨ ShN C.Wg l) C.Still C.B e ∧ e.loc ≠ .mark (.release (stA C.Wg))) :
    QT C.Shun C.Still C.B C.Wg t0 (Team C.b0 m) (fun _ => False) (t ++ MemOp.ofEvents 0 fn pos es) ∧ deafBehind (Deaf t 0) es = Deaf t 0 := by
  obtain ⟨o1, o2, o3, o4⟩ := EvM.ops (g := 0) (fn := fn) (pos := pos) fun e he => (h e he).1
  refine ⟨I.qt.main o1 o2 (fun _ h => h.elim) o3 fun op hop => ?_, deafBehind_still (fun e he => ⟨(h e he).1.2.1, (h e he).1.2.2.1⟩) _⟩
  obtain ⟨e, he, rfl⟩ := Go.Conc.mem_ofEvents hop
  have h2 := (h e he).2
  intro h3
  obtain ⟨loc, wr, sy⟩ := e
  cases loc with
  | mark x => simp only [MemAct.ofEvent, MemAct.mark.injEq] at h3; exact h2 (by rw [h3])
  | obj c => cases wr <;> cases sy <;> simp [MemAct.ofEvent] at h3
  | _ => simp [MemAct.ofEvent] at h3
/-- What it lists of the group. -/
theorem InvT.qt_group (F : C.Fine Anch Fin) (I : InvT C Fin Anch L t0 gs w t m st r q ph n a) {fn : FuncId} {pos : String} {es : Array Event} (O : OfGroup C es) :
    QT C.Shun C.Still C.B C.Wg t0 (Team C.b0 m) (fun _ => False) (t ++ MemOp.ofEvents 0 fn pos es) := by
  refine I.qt.main (fun op h => ?_) (fun op h b hb => ?_) (fun _ h => h.elim) (fun op h => ?_) (fun op h => ?_)
  · obtain ⟨e, he, rfl⟩ := Go.Conc.mem_ofEvents h; rfl
  · obtain ⟨e, he, rfl⟩ := Go.Conc.mem_ofEvents h
    obtain ⟨h1, h2⟩ := O.touch e he b hb
    exact ⟨fun _ => by rw [h2]; simp, fun hs => absurd h1 (F.apart _ hs)⟩
  · obtain ⟨e, he, rfl⟩ := Go.Conc.mem_ofEvents h; exact O.low e he
  · obtain ⟨e, he, rfl⟩ := Go.Conc.mem_ofEvents h; exact O.norel e he
/-- A mark of no place. -/
theorem InvT.qt_mark (I : InvT C Fin Anch L t0 gs w t m st r q ph n a) {fn : FuncId} {pos : String} {x : Mark} (hx : x = .disable ∨ x = .enable) :
    QT C.Shun C.Still C.B C.Wg t0 (Team C.b0 m) (fun _ => False) (t ++ MemOp.ofEvents 0 fn pos #[Go.ConcR.mk x]) := by
  have o1 : ∀ op ∈ MemOp.ofEvents 0 fn pos #[Go.ConcR.mk x], op.act = .mark x := fun op h => by
    obtain ⟨e, he, rfl⟩ := Go.Conc.mem_ofEvents h
    simp at he; subst he; rfl
  exact I.qt.mute (fun op h => by rw [o1 op h]; rcases hx with rfl | rfl <;> rfl) (fun _ h => h.elim) (fun op h => by rw [o1 op h]; rcases hx with rfl | rfl <;> trivial) (fun op h => by rw [o1 op h]; rcases hx with rfl | rfl <;> simp)

theorem Bell.pos {ph : Ph} {a b n' : Nat} (h : Bell ph m st n a b) (hn : 0 < n') : Bell ph m st n' a b := by
  cases h with
  | calm h1 h2 => exact .calm h1 h2
  | waits h1 h2 h3 => exact .waits h1 h2 h3
  | last h1 h2 h3 h4 => exact .last h1 h2 h3 h4
  | rings h1 h2 h3 h4 => exact .rings h1 h2 h3 h4
  | rung h1 h2 h3 => exact .rung h1 h2 hn
theorem InvT.calm_of (I : InvT C Fin Anch L t0 gs w t m st r q ph n a) (h : ph ≠ .w3) : WgAt C.ty C.Wg w (((countOf st m + ph.x : Nat) : Int) * KK) 0 ∧ ∀ p, p < m → st p ≠ .l2 ∧ st p ≠ .l3 ∧ st p ≠ .l4 := by
  obtain ⟨wt, sm, hw, hb⟩ := I.bell
  cases hb with
  | calm h1 h2 => exact ⟨by simpa using hw, h2⟩
  | waits h1 h2 h3 => exact absurd h1 h
  | last h1 h2 h3 h4 => exact absurd h1 h
  | rings h1 h2 h3 h4 => exact absurd h1 h
  | rung h1 h2 h3 => exact absurd h1 h
/-- A mark of goroutine 0's: from phase to phase. -/
theorem InvT.main_mark (F : C.Fine Anch Fin) (I : InvT C Fin Anch L t0 gs w t m st r q ph n a) (d : Nat) {x : Mark} {ph' : Ph} {n' : Nat} {a' : Goroutine} (hx : x = .disable ∨ x = .enable) (hgo : stepG C.P true a (w.at d) = .go a' (w.at d) #[Go.ConcR.mk x])
    (hup : ph'.upto C.T = ph.upto C.T) (hstop : ph'.stop = ph.stop) (hxx : ph'.x = ph.x) (h3 : ph ≠ .w3) (h3' : ph' ≠ .w3) (hover : ph'.over → ph.over) (hh : x = .disable ∧ ph.hears = true ∧ ph'.hears = false ∨ x = .enable ∧ ph.hears = false ∧ ph'.hears = true)
    (hsit : SitP C Fin Anch L ph' n' a' (w.at d)) (hlist : ph'.list L = ph.list L) (hfed : ∀ x o l, ph' ≠ .turns ((x, o) :: l)) (hμ : ph'.wt (2 * L.length) (countOf st m) < ph.wt (2 * L.length) (countOf st m)) :
    ∃ M' ops μ', runT C.P (crowd gs (w.at d) sl) 0 = (.next M', ops) ∧ Prod.Lex (· < ·) (· < ·) μ' (massM C L m st ph, fuelM C n m r q) ∧ HoldsM C Fin Anch L t0 μ' M' (t ++ ops) := by
  obtain ⟨hw, hno⟩ := I.calm_of h3
  refine I.main_go F d hgo (fun _ _ => rfl) rfl hup hstop ⟨0, 0, ?_, .calm h3' hno⟩ (fun h => I.over (hover h)) (I.at F d) (I.qt_mark hx) ?_ hsit hlist (fun x o l e => absurd e (hfed x o l)) (.inr hμ)
  · rw [hxx]
    have hw2 : WgAt C.ty C.Wg (w.at d) (((countOf st m + ph.x : Nat) : Int) * KK) 0 := hw
    simpa using hw2
  · have := I.d0
    rcases hh with ⟨rfl, h1, h2⟩ | ⟨rfl, h1, h2⟩
    · rw [h1] at this; rw [h2, this]; rfl
    · rw [h1] at this; rw [h2, this]; rfl
end Go.Proofs.Ytdpagejckahkkaa.Net
