/- Many senders and one receiver, joined by a sync.WaitGroup: THE THEOREM of the machine. Goroutine 0 starts senders (each sends its numbers, one by one, till it is told to stop), takes its turns, shuts the stop and waits for all, beside goroutines that only leave: whoever is picked, now and later, each turn finds the next number of its sender's, or its channel shut; there is no data race; all others only leave then. -/
import Derived.Test.YtdpagejckahkkaaMergeI
set_option linter.unusedVariables false
namespace Go.Proofs.Ytdpagejckahkkaa.Net
open Go Go.Conc
open Go.ConcN (ShN WgLive sumTo upd upd_same upd_ne sumTo_congr sumTo_upd)
open Go.ConcR (KK WgAt stA smA rd wr)

variable {C : MCfg} {Fin Anch : Goroutine → World → Prop} {L : List (Nat × Option Int)}
variable {t0 : Nat} {gs : Array Goroutine} {w : World} {t : Trace} {m : Nat} {st : Nat → MS} {r q : Nat → Nat} {ph : Ph} {n : Nat} {a : Goroutine} {sl : Option (Nat × Nat)}

theorem countOf_le (st : Nat → MS) : ∀ m, countOf st m ≤ m
  | 0 => Nat.le_refl _
  | m + 1 => by
    have e : countOf st (m + 1) = countOf st m + (st m).counted := rfl
    have h1 : (st m).counted ≤ 1 := by cases st m <;> simp [MS.counted]
    have := countOf_le st m
    omega
theorem wg_at {ty : TypeId} {Wg d : Nat} {s u : Int} (h : WgAt ty Wg w s u) : WgAt ty Wg (w.at d) s u := h
theorem all_gone (h : countOf st m = 0) (hno : ∀ p, p < m → st p ≠ .l2 ∧ st p ≠ .l3 ∧ st p ≠ .l4) : ∀ p, p < m → st p = .gone := fun p hp => counted_gone (count_zero h p hp) (hno p hp)

/-- It takes a step of its own. -/
theorem InvT.main_own (F : C.Fine Anch Fin) (I : InvT C Fin Anch L t0 gs w t m st r q ph n a) (d : Nat) {n' : Nat} {a' : Goroutine} {w' : World} {es : Array Event} (hgo : stepG C.P true a (w.at d) = .go a' w' es) (hd : D0 C (ph.upto C.T) (w.at d) w' es) (hlt : n' + 1 < n) (hroom : ph.room C.T) (hG : GoP C Fin Anch L ph n' a' w') :
    ∃ M' ops μ', runT C.P (crowd gs (w.at d) sl) 0 = (.next M', ops) ∧ Prod.Lex (· < ·) (· < ·) μ' (massM C L m st ph, fuelM C n m r q) ∧ HoldsM C Fin Anch L t0 μ' M' (t ++ ops) := by
  obtain ⟨h1, h2, h3, h4, h5⟩ := hd
  obtain ⟨q1, q2⟩ := I.qt_evs (fn := a.frame.fn) (pos := a.frame.place) h5
  obtain ⟨wt, sm, hw, hb⟩ := I.bell
  exact I.main_go F d hgo (fun z hz => h2 z (I.upto ▸ hz)) h3 rfl rfl ⟨wt, sm, (wg_at (d := d) hw).of_block h4, hb.pos (Nat.succ_pos n')⟩ I.over (h1 (I.at F d)) q1 (by rw [q2]; exact I.d0) (.way hroom hG) rfl (fun _ _ _ _ => by omega) (.inl ⟨rfl, hlt⟩)

/-- Every step of goroutine 0's. -/
theorem InvT.main_step (F : C.Fine Anch Fin) (I : InvT C Fin Anch L t0 gs w t m st r q ph n a) (hrun : a.status = .running) (d : Nat) :
    ∃ M' ops, runT C.P (crowd gs (w.at d) sl) 0 = (.next M', ops) ∧ (DoneT C Fin M' (t ++ ops) ∨ ∃ μ', Prod.Lex (· < ·) (· < ·) μ' (massM C L m st ph, fuelM C n m r q) ∧ HoldsM C Fin Anch L t0 μ' M' (t ++ ops)) := by
  have hb := F.pos
  have hmT := I.mT
  have hmany := F.many
  have hcm := countOf_le st m
  have hsit := I.sit
  have wrap : (∃ M' ops μ', runT C.P (crowd gs (w.at d) sl) 0 = (.next M', ops) ∧ Prod.Lex (· < ·) (· < ·) μ' (massM C L m st ph, fuelM C n m r q) ∧ HoldsM C Fin Anch L t0 μ' M' (t ++ ops)) →
      ∃ M' ops, runT C.P (crowd gs (w.at d) sl) 0 = (.next M', ops) ∧ (DoneT C Fin M' (t ++ ops) ∨ ∃ μ', Prod.Lex (· < ·) (· < ·) μ' (massM C L m st ph, fuelM C n m r q) ∧ HoldsM C Fin Anch L t0 μ' M' (t ++ ops)) :=
    fun ⟨M', ops, μ', h1, h2, h3⟩ => ⟨M', ops, h1, .inr ⟨μ', h2, h3⟩⟩
  cases hsit with
  | park _ => cases hrun
  | sem _ => cases hrun
  | @way _ n' _ _ hroom hG =>
    rcases Goes.cases hG with hstop | ⟨n'', rfl, hstep⟩
    · have hat := hstop _ (AsideM.at _ _ d)
      cases ph with
      | acq =>
        obtain ⟨M', ops, h1, h2⟩ := I.main_through F (sl := sl) d hat
        exact ⟨M', ops, h1, .inl h2⟩
      | sp k =>
        obtain ⟨_, g', hgo, n2, hn2⟩ := hat
        exact wrap (I.main_mark F d (.inl rfl) hgo (ph' := .sd k) rfl rfl rfl (by simp) (by simp) (fun h => h) (.inl ⟨rfl, rfl, rfl⟩) (.way hroom hn2) rfl (by simp) (by simp only [Ph.wt]; omega))
      | se k =>
        obtain ⟨_, g', hgo, n2, hn2⟩ := hat
        exact wrap (I.main_mark F d (.inr rfl) hgo (ph' := .sg k) rfl rfl rfl (by simp) (by simp) (fun h => h) (.inr ⟨rfl, rfl, rfl⟩) (.way hroom hn2) rfl (by simp) (by simp only [Ph.wt]; omega))
      | wd =>
        obtain ⟨_, g', hgo, hg⟩ := hat
        obtain ⟨n2, hn2⟩ := gp_anch (L := L) F hg
        exact wrap (I.main_mark F d (.inl rfl) hgo (ph' := .w1) rfl rfl rfl (by simp) (by simp) (fun h => h.elim) (.inl ⟨rfl, rfl, rfl⟩) (.way trivial hn2) rfl (by simp) (by simp only [Ph.wt]; omega))
      | ke =>
        obtain ⟨_, g', hgo, n2, hn2⟩ := hat
        exact wrap (I.main_mark F d (.inr rfl) hgo (ph' := .acq) rfl rfl rfl (by simp) (by simp) (fun _ => trivial) (.inr ⟨rfl, rfl, rfl⟩) (.way trivial hn2) rfl (by simp) (by simp only [Ph.wt]; omega))
      | sg k => exact wrap (I.main_spawn F d hat)
      | turns l =>
        cases l with
        | nil => exact wrap (I.main_stop F d hat)
        | cons e l =>
          obtain ⟨x, o⟩ := e
          exact wrap (I.main_turn F d (Nat.succ_pos _) hstop)
      | sd k =>
        obtain ⟨_, hadd⟩ := hat
        obtain ⟨hw, hno⟩ := I.calm_of (by simp)
        have hw1 : WgAt C.ty C.Wg (w.at d) ((countOf st m : Int) * KK) 0 := by simpa [Ph.x] using wg_at (d := d) hw
        obtain ⟨g', hgo, n2, hn2⟩ := hadd (countOf st m) (by omega) hw1
        have hA := AsideM.setSt (m := C.T) (w.at d) hw1 (((countOf st m : Int) + 1) * KK)
        refine wrap (I.main_go F d hgo (ph' := .se k) (fun z _ => heap_setCell_ne (F.cw z)) (heap_setCell_ne F.dw) rfl rfl ⟨0, 0, ?_, .calm (by simp) hno⟩ (fun h => h.elim) (F.stable _ _ hA (I.at F d)) (I.qt_group F (og_rdwr F)) (by rw [deaf_rdwr]; exact I.d0) (.way hroom hn2) rfl (by simp) (.inr (by simp only [Ph.wt]; omega)))
        have := WgAt.setSt hw1 (((countOf st m : Int) + 1) * KK)
        simpa [Ph.x] using this
      | w1 =>
        obtain ⟨_, hl⟩ := hat
        obtain ⟨hw, hno⟩ := I.calm_of (by simp)
        have hw1 : WgAt C.ty C.Wg (w.at d) ((countOf st m : Int) * KK) 0 := by simpa [Ph.x] using wg_at (d := d) hw
        obtain ⟨g', hgo, hz, hnz⟩ := hl (countOf st m) (by omega) hw1
        by_cases h0 : countOf st m = 0
        · obtain ⟨n2, hn2⟩ := hz h0
          exact wrap (I.main_go F d hgo (ph' := .ke) (fun z _ => rfl) rfl rfl rfl ⟨0, 0, by simpa [Ph.x] using hw1, .calm (by simp) hno⟩ (fun _ => all_gone h0 hno) (I.at F d) (I.qt_group F (og_rd F)) (by rw [deaf_rd]; exact I.d0) (.way trivial hn2) rfl (by simp) (.inr (by simp only [Ph.wt]; omega)))
        · obtain ⟨n2, hn2⟩ := hnz h0
          exact wrap (I.main_go F d hgo (ph' := .w2 (countOf st m)) (fun z _ => rfl) rfl rfl rfl ⟨0, 0, by simpa [Ph.x] using hw1, .calm (by simp) hno⟩ (fun h => h.elim) (I.at F d) (I.qt_group F (og_rd F)) (by rw [deaf_rd]; exact I.d0) (.way h0 hn2) rfl (by simp) (.inr (by simp only [Ph.wt, if_true]; omega)))
      | w2 vs =>
        obtain ⟨_, hl⟩ := hat
        obtain ⟨hw, hno⟩ := I.calm_of (by simp)
        have hw1 : WgAt C.ty C.Wg (w.at d) ((countOf st m : Int) * KK) 0 := by simpa [Ph.x] using wg_at (d := d) hw
        obtain ⟨hz, hnz⟩ := hl (countOf st m) (by omega) hw1
        by_cases h0 : countOf st m = vs
        · obtain ⟨g', hgo, n2, hn2⟩ := hz h0
          have hA := AsideM.setSt (m := C.T) (w.at d) hw1 ((countOf st m : Int) * KK + 1)
          have hvs : vs ≠ 0 := hroom
          refine wrap (I.main_go F d hgo (ph' := .w3) (fun z _ => heap_setCell_ne (F.cw z)) (heap_setCell_ne F.dw) rfl rfl ⟨1, 0, ?_, .waits rfl (by omega) hno⟩ (fun h => h.elim) (F.stable _ _ hA (I.at F d)) (I.qt_group F (og_rdwr F)) (by rw [deaf_rdwr]; exact I.d0) (.way trivial hn2) rfl (by simp) (.inr (by simp only [Ph.wt]; split <;> omega)))
          have := WgAt.setSt hw1 ((countOf st m : Int) * KK + 1)
          simpa [Ph.x] using this
        · obtain ⟨g', hgo, hg⟩ := hnz h0
          obtain ⟨n2, hn2⟩ := gp_anch (L := L) F hg
          exact wrap (I.main_go F d hgo (ph' := .w1) (fun z _ => rfl) rfl rfl rfl ⟨0, 0, by simpa [Ph.x] using hw1, .calm (by simp) hno⟩ (fun h => h.elim) (I.at F d) (I.qt_group F (og_rd F)) (by rw [deaf_rd]; exact I.d0) (.way trivial hn2) rfl (by simp) (.inr (by simp only [Ph.wt]; rw [if_neg (fun e => h0 e.symm)]; omega)))
      | w3 =>
        have hat0 := hat
        obtain ⟨hs, ho, hwait, htake⟩ := hat
        obtain ⟨wt, sm, hw, hbell⟩ := I.bell
        have hsleep : sm = 0 → ∃ M' ops μ', runT C.P (crowd gs (w.at d) sl) 0 = (.next M', ops) ∧ Prod.Lex (· < ·) (· < ·) μ' (massM C L m st .w3, fuelM C (n' + 1) m r q) ∧ HoldsM C Fin Anch L t0 μ' M' (t ++ ops) := fun h0 => by
          subst h0
          have hgo := hwait ⟨_, wg_at (d := d) hw⟩
          have hb2 : Bell .w3 m st 0 wt 0 := by
            cases hbell with
            | calm h1 h2 => exact absurd rfl h1
            | waits h1 h2 h3 => exact .waits h1 h2 h3
            | last h1 h2 h3 h4 => exact .last h1 h2 h3 h4
            | rings h1 h2 h3 h4 => exact .rings h1 h2 h3 h4
          exact I.main_go F d hgo (ph' := .w3) (n' := 0) (fun z _ => rfl) rfl rfl rfl ⟨wt, 0, wg_at (d := d) hw, hb2⟩ (fun h => h.elim) (I.at F d) (by rw [Go.Conc.ofEvents_none, Array.append_empty]; exact I.qt) (by rw [deafBehind_nil]; exact I.d0)
            (.sem fun w₁ h₁ => hstop w₁ ((AsideM.at _ _ _).trans h₁)) rfl (by simp) (.inl ⟨rfl, Nat.succ_pos _⟩)
        cases hbell with
        | calm h1 h2 => exact absurd rfl h1
        | waits _ _ _ => exact wrap (hsleep rfl)
        | last _ _ _ _ => exact wrap (hsleep rfl)
        | rings _ _ _ _ => exact wrap (hsleep rfl)
        | rung _ h2 _ =>
          have h0 : countOf st m = 0 := count_none fun z hz => by rw [h2 z hz]; rfl
          have hw1 : WgAt C.ty C.Wg (w.at d) 0 1 := by rw [h0] at hw; simpa [Ph.x] using wg_at (d := d) hw
          obtain ⟨g', hgo, n2, hn2⟩ := htake hw1
          have hA := AsideM.setSm (m := C.T) (w.at d) hw1 0
          refine wrap (I.main_go F d hgo (ph' := .w4) (fun z _ => heap_setCell_ne (F.cw z)) (heap_setCell_ne F.dw) rfl rfl ⟨0, 0, ?_, .calm (by simp) fun p hp => by rw [h2 p hp]; simp⟩ (fun _ => h2) (F.stable _ _ hA (I.at F d)) (I.qt_group F (og_sem F)) (by rw [deaf_sem]; exact I.d0) (.way trivial hn2) rfl (by simp) (.inr (by simp only [Ph.wt]; omega)))
          rw [h0]
          simpa [Ph.x] using WgAt.setSm hw1 0
      | w4 =>
        obtain ⟨_, hl⟩ := hat
        obtain ⟨hw, hno⟩ := I.calm_of (by simp)
        have hall := I.over trivial
        have h0 : countOf st m = 0 := count_none fun z hz => by rw [hall z hz]; rfl
        have hw1 : WgAt C.ty C.Wg (w.at d) 0 0 := by rw [h0] at hw; simpa [Ph.x] using wg_at (d := d) hw
        obtain ⟨g', hgo, n2, hn2⟩ := hl hw1
        exact wrap (I.main_go F d hgo (ph' := .ke) (fun z _ => rfl) rfl rfl rfl ⟨0, 0, by rw [h0]; simpa [Ph.x] using hw1, .calm (by simp) hno⟩ (fun _ => hall) (I.at F d) (I.qt_group F (og_rd F)) (by rw [deaf_rd]; exact I.d0) (.way trivial hn2) rfl (by simp) (.inr (by simp only [Ph.wt]; omega)))
    · obtain ⟨a', w', es, hgo, hd, hG'⟩ := hstep _ (AsideM.at _ _ d)
      exact wrap (I.main_own F d hgo hd (by omega) hroom hG')

theorem HoldsM.step (F : C.Fine Anch Fin) {μ : Nat × Nat} {M : Machine} {t : Trace} (h : HoldsM C Fin Anch L t0 μ M t) :
    ∃ M' ops, stepT C.P M = (.next M', ops) ∧ (DoneT C Fin M' (t ++ ops) ∨ ∃ μ', Prod.Lex (· < ·) (· < ·) μ' μ ∧ HoldsM C Fin Anch L t0 μ' M' (t ++ ops)) := by
  obtain ⟨gs, w, sl, m, st, r, q, ph, n, a, rfl, I, rfl⟩ := h
  obtain ⟨i, g, d, sl', hi, hg, hst⟩ := crowd_pick (P := C.P) (w := w) (sl := sl) I.awake I.some1
  rcases I.idx hi with rfl | ⟨h1, h2⟩ | ⟨p, hp, rfl⟩
  · rw [I.main] at hi
    obtain rfl := Option.some.inj hi
    obtain ⟨M', ops, h1, h2⟩ := I.main_step F (sl := sl') hg d
    exact ⟨M', ops, hst.trans h1, h2⟩
  · obtain ⟨M', ops, μ', h3, h4, h5⟩ := I.old_step F (sl := sl') h1 h2 hi hg d
    exact ⟨M', ops, hst.trans h3, .inr ⟨μ', h4, h5⟩⟩
  · obtain ⟨M', ops, μ', h3, h4, h5⟩ := I.sender_step F (sl := sl') hp hi hg d
    exact ⟨M', ops, hst.trans h3, .inr ⟨μ', h4, h5⟩⟩

theorem HoldsM.runs (F : C.Fine Anch Fin) : ∀ (μ : Nat × Nat) (M : Machine) (t : Trace), HoldsM C Fin Anch L t0 μ M t → ∃ N M' t', runNT C.P N M t = (.next M', t') ∧ DoneT C Fin M' t' := by
  intro μ
  induction μ using (Prod.lex Nat.lt_wfRel Nat.lt_wfRel).wf.induction with
  | _ μ ih =>
    intro M t h
    obtain ⟨M', ops, hs, hd | ⟨μ', hlt, hI⟩⟩ := h.step F
    · exact ⟨1, M', t ++ ops, by simp only [runNT, hs], hd⟩
    · obtain ⟨N, M'', t', h1, h2⟩ := ih μ' hlt M' (t ++ ops) hI
      exact ⟨N + 1, M'', t', by rw [runNT_succ_next hs]; exact h1, h2⟩

/-- THE THEOREM. -/
theorem merge (F : C.Fine Anch Fin) (hsw : ∀ l, C.Shun l → ¬ ShN C.Wg l) {gs : Array Goroutine} {a : Goroutine} {w : World} {sl : Option (Nat × Nat)} {t : Trace} {q : Nat → Nat} (hsz : gs.size = C.b0) (h0 : gs[0]? = some a)
    (hL : Leavers C.P t gs q) (hP : Past C.Shun C.B t) (hS : C.S w) (hd : ∃ s r, w.heap[C.d]? = some (.chan 0 #[] false s r false)) (hw : WgAt C.ty C.Wg w 0 0) (hag : Agrees C.T C.parts L) (h : StartsM C (TurnsM C Anch L) C.T a w) :
    ∃ N gs' a' w' sl' t' q', runNT C.P N (crowd gs w sl) t = (.next (crowd gs' w' sl'), t') ∧ gs'.size = C.b0 + C.T ∧ gs'[0]? = some a' ∧ Fin a' w' ∧ Leavers C.P t' gs' q' ∧ Past (fun l => C.Shun l ∨ ShN C.Wg l) C.B t' := by
  obtain ⟨ph, n, hsit, hup, hstop, hx, hh, h3, hov, hlist⟩ : ∃ ph n, SitP C Fin Anch L ph (n + 1) a w ∧ ph.upto C.T = 0 ∧ ph.stop = false ∧ ph.x = 0 ∧ ph.hears = true ∧ ph ≠ .w3 ∧ ¬ ph.over ∧ ph.list L = L := by
    cases hT : C.T with
    | zero =>
      rw [hT] at h
      obtain ⟨n, hn⟩ := gp_turns (Fin := Fin) (L := L) (show TurnsM C Anch L a w from h)
      exact ⟨.turns L, n, .way trivial hn, by simp [Ph.upto], rfl, rfl, rfl, by simp, (fun h => h), rfl⟩
    | succ T' =>
      rw [hT] at h
      obtain ⟨n, hn⟩ := gp_starts (Fin := Fin) h
      exact ⟨.sp T', n, .way (by simp [Ph.room]; omega) hn, by simp [Ph.upto], rfl, rfl, rfl, by simp, (fun h => h), rfl⟩
  have I : InvT C Fin Anch L t.size gs w t 0 (fun p => .feed (C.parts p)) (fun _ => 0) q ph (n + 1) a := by
    refine ⟨hsz, hup.symm, fun i g h1 _ hg => hL.old i g h1 hg, hL.above, fun p hp => absurd hp (Nat.not_lt_zero p), fun _ _ => rfl, fun p hp => absurd hp (Nat.not_lt_zero p), by rw [hstop]; exact hd, fun p hp => absurd hp (Nat.not_lt_zero p), fun p hp => absurd hp (Nat.not_lt_zero p), ⟨0, 0, ?_, .calm h3 fun p hp => absurd hp (Nat.not_lt_zero p)⟩, fun h => absurd h hov, hS,
      ((QT.ofPast hP F.mem F.apartS F.apart hsw).weaken (Hr' := fun _ => False) fun _ h => h.elim).team fun g => ⟨fun ⟨p, hp, _⟩ => absurd hp (Nat.not_lt_zero p), fun h => h.elim⟩, fun p hp => absurd hp (Nat.not_lt_zero p), by rw [hh]; exact hP.hears, h0, hsit, by rw [hlist]; exact hag, fun _ _ _ _ h => by omega⟩
    rw [hx]
    simpa [countOf, sumTo] using hw
  obtain ⟨N, M', t', h3, gs', w', sl', a', q', rfl, h4, h5, h6, h7, h8⟩ := HoldsM.runs F _ _ t ⟨gs, w, sl, 0, _, _, q, _, _, a, rfl, I, rfl⟩
  exact ⟨N, gs', a', w', sl', t', q', h3, h8, h4, h5, h6, h7⟩

#print axioms merge
end Go.Proofs.Ytdpagejckahkkaa.Net
