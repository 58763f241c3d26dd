/- Many senders and one receiver, joined by a sync.WaitGroup: a sender's last words to the group. -/
import Derived.Test.YtdpagejckahkkaaMergeE
set_option linter.unusedVariables false
namespace Go.Proofs.Ytdpagejckahkkaa.Net
open Go Go.Conc
open Go.ConcN (ShN WgLive sumTo upd upd_same upd_ne sumTo_congr sumTo_upd)
open Go.ConcR (KK WgAt stA smA rd wr)

variable {C : MCfg} {Fin Anch : Goroutine → World → Prop} {L : List (Nat × Option Int)}
variable {t0 : Nat} {gs : Array Goroutine} {w : World} {t : Trace} {m : Nat} {st : Nat → MS} {r q : Nat → Nat} {ph : Ph} {n : Nat} {a : Goroutine} {sl : Option (Nat × Nat)}

theorem count_none {st : Nat → MS} : ∀ {m : Nat}, (∀ z, z < m → (st z).counted = 0) → countOf st m = 0
  | 0, _ => rfl
  | m + 1, h => by
    have := count_none (m := m) fun z hz => h z (by omega)
    have := h m (by omega)
    show countOf st m + (st m).counted = 0
    omega
theorem count_zero {st : Nat → MS} : ∀ {m : Nat}, countOf st m = 0 → ∀ z, z < m → (st z).counted = 0
  | 0, _, z, hz => absurd hz (Nat.not_lt_zero z)
  | m + 1, h, z, hz => by
    have e : countOf st m + (st m).counted = 0 := h
    rcases Nat.lt_or_ge z m with h1 | h1
    · exact count_zero (by omega) z h1
    · obtain rfl : z = m := by omega
      omega
theorem counted_gone {s : MS} (h : s.counted = 0) (h1 : s ≠ .l2 ∧ s ≠ .l3 ∧ s ≠ .l4) : s = .gone := by
  cases s <;> simp_all [MS.counted]

/-- The one that was the last. -/
theorem InvT.bell_last (I : InvT C Fin Anch L t0 gs w t m st r q ph n a) {p : Nat} (hp : p < m) (h : st p = .l2 ∨ st p = .l3) : ph = .w3 ∧ (∀ z, z < m → z ≠ p → st z = .gone) ∧ WgAt C.ty C.Wg w 1 0 := by
  obtain ⟨wt, sm, hw, hb⟩ := I.bell
  have hng : st p ≠ .gone := by rcases h with h | h <;> rw [h] <;> simp
  cases hb with
  | calm h1 h2 => have := h2 p hp; rcases h with h | h; exact absurd h this.1; exact absurd h this.2.1
  | waits h1 h2 h3 => have := h3 p hp; rcases h with h | h; exact absurd h this.1; exact absurd h this.2.1
  | @last y h1 h2 h3 h4 =>
    have e : p = y := Classical.byContradiction fun e => hng (h4 p hp e)
    subst e
    have h0 : countOf st m = 0 := count_none fun z hz => by
      by_cases e : z = p
      · subst e; rcases h with h | h <;> rw [h] <;> rfl
      · rw [h4 z hz e]; rfl
    rw [h0, h1] at hw
    refine ⟨h1, h4, ?_⟩
    simpa [Ph.x] using hw
  | @rings y h1 h2 h3 h4 =>
    by_cases e : p = y
    · subst e; rw [h3] at h; rcases h with h | h <;> cases h
    · exact absurd (h4 p hp e) hng
  | rung h1 h2 h3 => exact absurd (h2 p hp) hng
theorem InvT.bell_rings (I : InvT C Fin Anch L t0 gs w t m st r q ph n a) {p : Nat} (hp : p < m) (h : st p = .l4) : ph = .w3 ∧ (∀ z, z < m → z ≠ p → st z = .gone) ∧ WgAt C.ty C.Wg w 0 0 := by
  obtain ⟨wt, sm, hw, hb⟩ := I.bell
  have hng : st p ≠ .gone := by rw [h]; simp
  cases hb with
  | calm h1 h2 => exact absurd h (h2 p hp).2.2
  | waits h1 h2 h3 => exact absurd h (h3 p hp).2.2
  | @last y h1 h2 h3 h4 =>
    by_cases e : p = y
    · subst e; rw [h] at h3; rcases h3 with h | h <;> cases h
    · exact absurd (h4 p hp e) hng
  | @rings y h1 h2 h3 h4 =>
    have e : p = y := Classical.byContradiction fun e => hng (h4 p hp e)
    subst e
    have h0 : countOf st m = 0 := count_none fun z hz => by
      by_cases e : z = p
      · subst e; rw [h]; rfl
      · rw [h4 z hz e]; rfl
    rw [h0, h1] at hw
    refine ⟨h1, h4, ?_⟩
    simpa [Ph.x] using hw
  | rung h1 h2 h3 => exact absurd (h2 p hp) hng
/-- While one is counted, the semaphore is nought. -/
theorem InvT.bell_counts (I : InvT C Fin Anch L t0 gs w t m st r q ph n a) {p : Nat} (hp : p < m) (h : (st p).counted = 1) :
    (∀ z, z < m → st z ≠ .l2 ∧ st z ≠ .l3 ∧ st z ≠ .l4) ∧ ((ph ≠ .w3 ∧ WgAt C.ty C.Wg w (((countOf st m + ph.x : Nat) : Int) * KK) 0) ∨ (ph = .w3 ∧ WgAt C.ty C.Wg w ((countOf st m : Int) * KK + 1) 0)) := by
  obtain ⟨wt, sm, hw, hb⟩ := I.bell
  have hng : st p ≠ .gone := by intro e; rw [e] at h; cases h
  cases hb with
  | calm h1 h2 => exact ⟨h2, .inl ⟨h1, by simpa using hw⟩⟩
  | waits h1 h2 h3 => exact ⟨h3, .inr ⟨h1, by rw [h1] at hw; simpa [Ph.x] using hw⟩⟩
  | @last y h1 h2 h3 h4 =>
    by_cases e : p = y
    · subst e; rcases h3 with h3 | h3 <;> (rw [h3] at h; cases h)
    · exact absurd (h4 p hp e) hng
  | @rings y h1 h2 h3 h4 =>
    by_cases e : p = y
    · subst e; rw [h3] at h; cases h
    · exact absurd (h4 p hp e) hng
  | rung h1 h2 h3 => exact absurd (h2 p hp) hng

theorem deaf_rdwr (x y : Addr) (d : Nat) : deafBehind d #[rd x, wr y] = d := by simp [deafBehind, rd, wr]
theorem deaf_rd (x : Addr) (d : Nat) : deafBehind d #[rd x] = d := by simp [deafBehind, rd]
theorem deaf_wr (x : Addr) (d : Nat) : deafBehind d #[wr x] = d := by simp [deafBehind, wr]
theorem deaf_sem (x : Addr) (d : Nat) : deafBehind d (semEvents x) = d := by simp [deafBehind, semEvents]

/-- What is listed of the group's cells, atomically. -/
structure OfGroup (C : MCfg) (es : Array Event) : Prop where
  touch : ∀ e ∈ es, ∀ b, (MemAct.ofEvent e).touch? = some b → ShN C.Wg b.loc ∧ b.kind = .atomic
  low : ∀ e ∈ es, (MemAct.ofEvent e).low C.B
  norel : ∀ e ∈ es, MemAct.ofEvent e ≠ .mark (.release (stA C.Wg))
  deaf : ∀ d, deafBehind d es = d
  hush : ∀ j, j < es.size → 0 < deafBehind 1 (es.extract 0 j) ∨ ((es[j]?).map MemAct.ofEvent).bind MemAct.touch? = none

theorem og_rdwr (F : C.Fine Anch Fin) : OfGroup C #[rd (stA C.Wg), wr (stA C.Wg)] := by
  refine ⟨fun e he b hb => ?_, fun e he => ?_, fun e he => ?_, deaf_rdwr _ _, fun j hj => ?_⟩
  · simp at he; rcases he with rfl | rfl; exact rd_touch hb; exact wr_touch hb
  · simp at he; rcases he with rfl | rfl <;> exact F.loww
  · simp at he; rcases he with rfl | rfl <;> simp [rd, wr, MemAct.ofEvent]
  · rcases (show j = 0 ∨ j = 1 by simp at hj; omega) with rfl | rfl
    · left; simp [deafBehind]
    · left; simp [deafBehind, rd]
theorem og_rd (F : C.Fine Anch Fin) : OfGroup C #[rd (stA C.Wg)] := by
  refine ⟨fun e he b hb => ?_, fun e he => ?_, fun e he => ?_, deaf_rd _, fun j hj => ?_⟩
  · simp at he; subst he; exact rd_touch hb
  · simp at he; subst he; exact F.loww
  · simp at he; subst he; simp [rd, MemAct.ofEvent]
  · obtain rfl : j = 0 := by simp at hj; omega
    left; simp [deafBehind]
theorem og_wr (F : C.Fine Anch Fin) : OfGroup C #[wr (stA C.Wg)] := by
  refine ⟨fun e he b hb => ?_, fun e he => ?_, fun e he => ?_, deaf_wr _, fun j hj => ?_⟩
  · simp at he; subst he; exact wr_touch hb
  · simp at he; subst he; exact F.loww
  · simp at he; subst he; simp [wr, MemAct.ofEvent]
  · obtain rfl : j = 0 := by simp at hj; omega
    left; simp [deafBehind]
theorem og_sem (F : C.Fine Anch Fin) : OfGroup C (semEvents (smA C.Wg)) := by
  refine ⟨fun e he b hb => ?_, fun e he => ?_, fun e he => ?_, deaf_sem _, fun j hj => ?_⟩
  · simp [semEvents] at he
    rcases he with rfl | rfl | rfl | rfl
    · simp [MemAct.ofEvent, MemAct.touch?] at hb
    · simp [MemAct.ofEvent, MemAct.touch?] at hb; subst hb; exact ⟨⟨_, rfl, rfl⟩, rfl⟩
    · simp [MemAct.ofEvent, MemAct.touch?] at hb; subst hb; exact ⟨⟨_, rfl, rfl⟩, rfl⟩
    · simp [MemAct.ofEvent, MemAct.touch?] at hb
  · simp [semEvents] at he
    rcases he with rfl | rfl | rfl | rfl <;> first | trivial | exact F.loww
  · simp [semEvents] at he
    rcases he with rfl | rfl | rfl | rfl <;> simp [MemAct.ofEvent]
  · rcases (show j = 0 ∨ j = 1 ∨ j = 2 ∨ j = 3 by simp [semEvents] at hj; omega) with rfl | rfl | rfl | rfl
    · left; simp [deafBehind]
    · left; simp [deafBehind, semEvents]
    · left; simp [deafBehind, semEvents]
    · right; simp [semEvents, MemAct.ofEvent, MemAct.touch?]

/-- A step of a deaf sender's that touches the group alone. -/
theorem InvT.sender_group (F : C.Fine Anch Fin) (I : InvT C Fin Anch L t0 gs w t m st r q ph n a) {p : Nat} (hp : p < m) {g g' : Goroutine} {w' : World} {es : Array Event} (hg : gs[C.b0 + p]? = some g) (d : Nat) (O : OfGroup C es)
    (hgo : stepG C.P false g (w.at d) = .go g' w' es) (hA : AsideM C m w w') (hw : ∀ k, k ≠ C.Wg → w'.heap[k]? = w.heap[k]?) (hd1 : Deaf t (C.b0 + p) = 1) {s' : MS} (hW : C.W p s' g') (hsaid : (st p).said) (hs' : ¬ s'.hears) (hcl : (st p).closed = s'.closed)
    (hbell : ∀ n', n ≤ n' → (mayWake C.P g = true → ph = .w3 → 0 < n') → ∃ wt sm : Nat, WgAt C.ty C.Wg w' (((countOf (upd st p s') m + ph.x : Nat) : Int) * KK + (wt : Int)) (sm : Int) ∧ Bell ph m (upd st p s') n' wt sm)
    (hrest : s'.rest = (st p).rest) (hng : st p ≠ .gone)
    (hμ : s'.wt < (st p).wt ∧ (s'.counted = (st p).counted ∨ s'.wt + 4 ≤ (st p).wt ∨ ph = .w3)) :
    ∃ M' ops μ', runT C.P (crowd gs (w.at d) sl) (C.b0 + p) = (.next M', ops) ∧ Prod.Lex (· < ·) (· < ·) μ' (massM C L m st ph, fuelM C n m r q) ∧ HoldsM C Fin Anch L t0 μ' M' (t ++ ops) := by
  have hmT := I.mT
  obtain ⟨x, hx, hsit⟩ : ∃ x, (s' ≠ .gone → x ≠ 0) ∧ SitM C p s' x (deafBehind (Deaf t (C.b0 + p)) es) g' := by
    rw [O.deaf, hd1]
    by_cases e : s' = .gone
    · subst e
      obtain ⟨z, hz⟩ := F.quits p g' hW
      exact ⟨z, fun h => absurd rfl h, .gone hz⟩
    · obtain ⟨nw, hn⟩ := F.walk p s' g' (by omega) e hW
      exact ⟨nw + 1, fun _ => by omega, .way e (fun h => absurd h hs') (fun _ => rfl) hn⟩
  have hcp := I.chan p hp
  rw [hcl] at hcp
  obtain ⟨a1, b1, hc1⟩ := hcp
  refine I.sender_go F hp hg d hgo hA (fun z hz => hw _ (F.cw z)) (hw _ F.dw) ⟨a1, b1, by rw [hw _ (F.cw p)]; exact hc1⟩ hsit hx (fun e1 e2 => by rw [hcl, e2] at e1; cases e1) hbell (fun e => by subst e; exact absurd trivial hs') hrest
    (I.qt.atomic F.apart ⟨p, hp, rfl⟩ (fun op h => ?_) (fun op h => ?_) (fun _ h => h.elim) (fun op h => ?_) (fun op h => ?_)) (fun _ => ?_) (fun h => absurd (I.over h p hp) hng) (.inr hμ)
  · obtain ⟨e, he, rfl⟩ := Go.Conc.mem_ofEvents h; rfl
  · obtain ⟨e, he, rfl⟩ := Go.Conc.mem_ofEvents h; exact O.touch e he
  · obtain ⟨e, he, rfl⟩ := Go.Conc.mem_ofEvents h; exact O.low e he
  · obtain ⟨e, he, rfl⟩ := Go.Conc.mem_ofEvents h; exact O.norel e he
  · obtain ⟨r1, hr⟩ := I.rel p hp hsaid
    exact ⟨r1, hr.deaf hd1 O.touch O.hush⟩

theorem upd_others {st : Nat → MS} {p : Nat} {s' : MS} (h : ∀ z, z < m → z ≠ p → st z = .gone) : ∀ z, z < m → z ≠ p → upd st p s' z = .gone := fun z hz e => by rw [upd_ne _ _ e]; exact h z hz e

theorem InvT.sender_adds (F : C.Fine Anch Fin) (I : InvT C Fin Anch L t0 gs w t m st r q ph n a) {p : Nat} (hp : p < m) {g : Goroutine} (hg : gs[C.b0 + p]? = some g) (d : Nat) (hst : st p = .deaf) (hd1 : Deaf t (C.b0 + p) = 1) (hat : AtAddNeg C (C.W p .l2) (C.W p .gone) g) :
    ∃ M' ops μ', runT C.P (crowd gs (w.at d) sl) (C.b0 + p) = (.next M', ops) ∧ Prod.Lex (· < ·) (· < ·) μ' (massM C L m st ph, fuelM C n m r q) ∧ HoldsM C Fin Anch L t0 μ' M' (t ++ ops) := by
  have hmT := I.mT
  have hmany := F.many
  obtain ⟨hno, hcase⟩ := I.bell_counts hp (by rw [hst]; rfl)
  have hcs : ∀ s' : MS, s'.counted = 0 → countOf (upd st p s') m + 1 = countOf st m := fun s' h => by
    have := count_upd st s' hp
    rw [hst, h] at this
    exact this
  have hle : ∀ k, k ≤ m → countOf st k ≤ k := by
    intro k
    induction k with
    | zero => intro _; exact Nat.le_refl _
    | succ k ih =>
      intro hk
      have e : countOf st (k + 1) = countOf st k + (st k).counted := rfl
      have h1 : (st k).counted ≤ 1 := by cases st k <;> simp [MS.counted]
      have := ih (by omega)
      omega
  have hm1 := hle m (Nat.le_refl _)
  obtain ⟨_, hadd⟩ := hat
  have hno' : ∀ z, z < m → upd st p .gone z ≠ .l2 ∧ upd st p .gone z ≠ .l3 ∧ upd st p .gone z ≠ .l4 := fun z hz => by
    by_cases e : z = p
    · subst e; rw [upd_same]; simp
    · rw [upd_ne _ _ e]; exact hno z hz
  have hx : ph.x ≤ 1 := by cases ph <;> simp [Ph.x]
  have hcg := hcs .gone rfl
  have hcl := hcs .l2 rfl
  rcases hcase with ⟨hph, hw⟩ | ⟨hph, hw⟩
  · have hx0 : countOf st m + ph.x - 1 < 2147483647 := by omega
    have e1 : ((countOf st m + ph.x : Nat) : Int) * KK = (((countOf st m + ph.x - 1 : Nat) : Int) + 1) * KK + ((0 : Nat) : Int) := by simp only [KK]; omega
    rw [e1] at hw
    obtain ⟨g', hgo, _, hG⟩ := hadd (w.at d) (I.at F d) (countOf st m + ph.x - 1) 0 (by omega) hx0 hw
    refine I.sender_group F hp hg d (og_rdwr F) hgo (AsideM.trans (AsideM.at m w d) (AsideM.setSt (w.at d) hw _)) (fun k hk => heap_setCell_ne hk) hd1 (s' := .gone) (hG (by omega)) (by rw [hst]; trivial) (fun h => h.elim) (by rw [hst]; rfl) (fun n' hn _ => ?_) (by rw [hst]; rfl) (by rw [hst]; simp) ⟨by rw [hst]; simp [MS.wt], .inr (.inl (by rw [hst]; simp [MS.wt]))⟩
    refine ⟨0, 0, ?_, .calm hph hno'⟩
    have := WgAt.setSt hw (((countOf st m + ph.x - 1 : Nat) : Int) * KK + ((0 : Nat) : Int))
    rw [show countOf (upd st p .gone) m + ph.x = countOf st m + ph.x - 1 by omega]
    exact this
  · have hxw : ph.x = 0 := by rw [hph]; rfl
    have hx0 : countOf st m - 1 < 2147483647 := by omega
    have e1 : (countOf st m : Int) * KK + 1 = (((countOf st m - 1 : Nat) : Int) + 1) * KK + ((1 : Nat) : Int) := by simp only [KK]; omega
    rw [e1] at hw
    obtain ⟨g', hgo, hL, hG⟩ := hadd (w.at d) (I.at F d) (countOf st m - 1) 1 (by omega) hx0 hw
    have hw' := WgAt.setSt hw (((countOf st m - 1 : Nat) : Int) * KK + ((1 : Nat) : Int))
    by_cases h0 : countOf st m - 1 = 0
    · refine I.sender_group F hp hg d (og_rdwr F) hgo (AsideM.trans (AsideM.at m w d) (AsideM.setSt (w.at d) hw _)) (fun k hk => heap_setCell_ne hk) hd1 (s' := .l2) (hL ⟨h0, rfl⟩) (by rw [hst]; trivial) (fun h => h.elim) (by rw [hst]; rfl) (fun n' hn _ => ?_) (by rw [hst]; rfl) (by rw [hst]; simp) ⟨by rw [hst]; simp [MS.wt], .inr (.inr hph)⟩
      refine ⟨1, 0, ?_, .last hph hp (.inl (upd_same _ _ _)) (upd_others fun z hz e => counted_gone ?_ (hno z hz))⟩
      · rw [show countOf (upd st p .l2) m + ph.x = countOf st m - 1 by omega]
        exact hw'
      · have := count_zero (st := upd st p .l2) (m := m) (by omega) z hz
        rwa [upd_ne _ _ e] at this
    · refine I.sender_group F hp hg d (og_rdwr F) hgo (AsideM.trans (AsideM.at m w d) (AsideM.setSt (w.at d) hw _)) (fun k hk => heap_setCell_ne hk) hd1 (s' := .gone) (hG (by omega)) (by rw [hst]; trivial) (fun h => h.elim) (by rw [hst]; rfl) (fun n' hn _ => ?_) (by rw [hst]; rfl) (by rw [hst]; simp) ⟨by rw [hst]; simp [MS.wt], .inr (.inr hph)⟩
      refine ⟨1, 0, ?_, .waits hph (by omega) hno'⟩
      rw [show countOf (upd st p .gone) m + ph.x = countOf st m - 1 by omega]
      exact hw'

theorem others_count {p : Nat} {s' : MS} (h : ∀ z, z < m → z ≠ p → st z = .gone) (h0 : s'.counted = 0) : countOf (upd st p s') m = 0 := count_none fun z hz => by
  by_cases e : z = p
  · subst e; rw [upd_same]; exact h0
  · rw [upd_ne _ _ e, h z hz e]; rfl

theorem InvT.sender_l2 (F : C.Fine Anch Fin) (I : InvT C Fin Anch L t0 gs w t m st r q ph n a) {p : Nat} (hp : p < m) {g : Goroutine} (hg : gs[C.b0 + p]? = some g) (d : Nat) (hst : st p = .l2) (hd1 : Deaf t (C.b0 + p) = 1) (hat : AtL2 C (C.W p .l3) g) :
    ∃ M' ops μ', runT C.P (crowd gs (w.at d) sl) (C.b0 + p) = (.next M', ops) ∧ Prod.Lex (· < ·) (· < ·) μ' (massM C L m st ph, fuelM C n m r q) ∧ HoldsM C Fin Anch L t0 μ' M' (t ++ ops) := by
  obtain ⟨hph, hoth, hw⟩ := I.bell_last hp (.inl hst)
  obtain ⟨_, hl⟩ := hat
  obtain ⟨g', hgo, hW⟩ := hl (w.at d) (I.at F d) hw
  refine I.sender_group F hp hg d (og_rd F) hgo (AsideM.at m w d) (fun k hk => rfl) hd1 (s' := .l3) hW (by rw [hst]; trivial) (fun h => h.elim) (by rw [hst]; rfl) (fun n' hn _ => ?_) (by rw [hst]; rfl) (by rw [hst]; simp) ⟨by rw [hst]; simp [MS.wt], .inl (by rw [hst]; rfl)⟩
  refine ⟨1, 0, ?_, .last hph hp (.inr (upd_same _ _ _)) (upd_others hoth)⟩
  rw [others_count hoth rfl, hph]
  have hw2 : WgAt C.ty C.Wg (w.at d) 1 0 := hw
  simpa [Ph.x] using hw2
theorem InvT.sender_l3 (F : C.Fine Anch Fin) (I : InvT C Fin Anch L t0 gs w t m st r q ph n a) {p : Nat} (hp : p < m) {g : Goroutine} (hg : gs[C.b0 + p]? = some g) (d : Nat) (hst : st p = .l3) (hd1 : Deaf t (C.b0 + p) = 1) (hat : AtL3 C (C.W p .l4) g) :
    ∃ M' ops μ', runT C.P (crowd gs (w.at d) sl) (C.b0 + p) = (.next M', ops) ∧ Prod.Lex (· < ·) (· < ·) μ' (massM C L m st ph, fuelM C n m r q) ∧ HoldsM C Fin Anch L t0 μ' M' (t ++ ops) := by
  obtain ⟨hph, hoth, hw⟩ := I.bell_last hp (.inr hst)
  obtain ⟨_, hl⟩ := hat
  obtain ⟨g', hgo, hW⟩ := hl (w.at d) (I.at F d) hw
  refine I.sender_group F hp hg d (og_wr F) hgo (AsideM.trans (AsideM.at m w d) (AsideM.setSt (w.at d) hw _)) (fun k hk => heap_setCell_ne hk) hd1 (s' := .l4) hW (by rw [hst]; trivial) (fun h => h.elim) (by rw [hst]; rfl) (fun n' hn _ => ?_) (by rw [hst]; rfl) (by rw [hst]; simp) ⟨by rw [hst]; simp [MS.wt], .inl (by rw [hst]; rfl)⟩
  refine ⟨0, 0, ?_, .rings hph hp (upd_same _ _ _) (upd_others hoth)⟩
  rw [others_count hoth rfl, hph]
  simpa [Ph.x] using WgAt.setSt (w := w.at d) hw 0
theorem InvT.sender_l4 (F : C.Fine Anch Fin) (I : InvT C Fin Anch L t0 gs w t m st r q ph n a) {p : Nat} (hp : p < m) {g : Goroutine} (hg : gs[C.b0 + p]? = some g) (d : Nat) (hst : st p = .l4) (hd1 : Deaf t (C.b0 + p) = 1) (hat : AtL4 C (C.W p .gone) g) :
    ∃ M' ops μ', runT C.P (crowd gs (w.at d) sl) (C.b0 + p) = (.next M', ops) ∧ Prod.Lex (· < ·) (· < ·) μ' (massM C L m st ph, fuelM C n m r q) ∧ HoldsM C Fin Anch L t0 μ' M' (t ++ ops) := by
  obtain ⟨hph, hoth, hw⟩ := I.bell_rings hp hst
  obtain ⟨_, hmw, hl⟩ := hat
  obtain ⟨g', hgo, hW⟩ := hl (w.at d) (I.at F d) hw
  refine I.sender_group F hp hg d (og_sem F) hgo (AsideM.trans (AsideM.at m w d) (AsideM.setSm (w.at d) hw _)) (fun k hk => heap_setCell_ne hk) hd1 (s' := .gone) hW (by rw [hst]; trivial) (fun h => h.elim) (by rw [hst]; rfl) (fun n' hn hwake => ?_) (by rw [hst]; rfl) (by rw [hst]; simp) ⟨by rw [hst]; simp [MS.wt], .inl (by rw [hst]; rfl)⟩
  refine ⟨0, 1, ?_, .rung hph (fun z hz => ?_) (hwake hmw hph)⟩
  · rw [others_count hoth rfl, hph]
    simpa [Ph.x] using WgAt.setSm (w := w.at d) hw 1
  · by_cases e : z = p
    · subst e; exact upd_same _ _ _
    · exact upd_others hoth z hz e
end Go.Proofs.Ytdpagejckahkkaa.Net
