/- Many senders and one receiver, joined by a sync.WaitGroup: goroutine 0 starts one more; takes a turn; shuts the stop; is through. -/
import Derived.Test.YtdpagejckahkkaaMergeH
set_option linter.unusedVariables false
namespace Go.Proofs.Ytdpagejckahkkaa.Net
open Go Go.Conc
open Go.ConcN (ShN WgLive sumTo upd upd_same upd_ne sumTo_congr sumTo_upd)
open Go.ConcR (KK WgAt stA smA rd wr)

variable {C : MCfg} {Fin Anch : Goroutine → World → Prop} {L : List (Nat × Option Int)}
variable {t0 : Nat} {gs : Array Goroutine} {w : World} {t : Trace} {m : Nat} {st : Nat → MS} {r q : Nat → Nat} {ph : Ph} {n : Nat} {a : Goroutine} {sl : Option (Nat × Nat)}

/-- It starts one more. -/
theorem InvT.main_spawn (F : C.Fine Anch Fin) {k : Nat} (I : InvT C Fin Anch L t0 gs w t m st r q (.sg k) n a) (d : Nat) (hat : AtGoM C (C.T - (k + 1)) (StartsM C (TurnsM C Anch L) k) a (w.at d)) :
    ∃ M' ops μ', runT C.P (crowd gs (w.at d) sl) 0 = (.next M', ops) ∧ Prod.Lex (· < ·) (· < ·) μ' (massM C L m st (.sg k), fuelM C n m r q) ∧ HoldsM C Fin Anch L t0 μ' M' (t ++ ops) := by
  have hb := F.pos
  have hup : m = C.T - (k + 1) := I.upto
  have hroom : k + 1 ≤ C.T := I.sit.room
  rw [← hup] at hat
  obtain ⟨_, g', child, hgo, hW, hS, hc, hN⟩ := hat
  have hrunT := runT_crowd_spawn (P := C.P) (sl := sl) (i := 0) I.main (show stepG C.P (0 == 0) a (w.at d) = _ from hgo)
  have e1 : ((MemOp.ofEvents 0 a.frame.fn a.frame.place #[]).push { g := 0, fn := a.frame.fn, pos := a.frame.place, act := .go gs.size } |>.push { g := gs.size, fn := child.frame.fn, pos := a.frame.place, act := .start }) = gone gs.size a.frame.fn a.frame.place child.frame.fn := by
    rw [Go.Conc.ofEvents_none]; rfl
  rw [e1] at hrunT
  have hsz := I.size
  have hmT : m < C.T := by omega
  obtain ⟨nc, hnc⟩ := F.walk m _ child hmT (by simp) hW
  have hst : st m = .feed (C.parts m) := I.todo m (Nat.le_refl _)
  -- where it goes on
  obtain ⟨ph', n', hs', hup', hstop', hx', hh', h3', hov', hlist', hwt', hfed'⟩ : ∃ ph' n', SitP C Fin Anch L ph' (n' + 1) g' (w.at d) ∧ ph'.upto C.T = m + 1 ∧ ph'.stop = false ∧ ph'.x = 0 ∧ ph'.hears = true ∧ ph' ≠ .w3 ∧ ¬ ph'.over ∧ ph'.list L = L ∧ (∀ c, ph'.wt (2 * L.length) c ≤ 2 * L.length + 13) ∧ True := by
    have h := hN (w.at d) (AsideM.refl _ _)
    cases k with
    | zero =>
      obtain ⟨n', hn'⟩ := gp_turns (Fin := Fin) (L := L) (show TurnsM C Anch L g' (w.at d) from h)
      exact ⟨.turns L, n', .way trivial hn', by simp [Ph.upto]; omega, rfl, rfl, rfl, by simp, (fun h => h), rfl, fun c => by simp only [Ph.wt]; omega, trivial⟩
    | succ k =>
      obtain ⟨n', hn'⟩ := gp_starts (Fin := Fin) h
      exact ⟨.sp k, n', .way (by simp [Ph.room]; omega) hn', by simp [Ph.upto]; omega, rfl, rfl, rfl, by simp, (fun h => h), rfl, fun c => by simp only [Ph.wt]; omega, trivial⟩
  have hqt : ∀ j, Deaf (t ++ gone gs.size a.frame.fn a.frame.place child.frame.fn) j = Deaf t j := fun j => Deaf_quiet (gone_quiet _ _ _ _ j)
  have hlow : ∀ z, z < gs.size → z ≠ 0 → ((gs.setIfInBounds 0 g').push child)[z]? = gs[z]? := fun z hz h0 => by
    rw [Array.getElem?_push, if_neg (by simp; omega), get_one _ _ h0]
  have hnew : ((gs.setIfInBounds 0 g').push child)[C.b0 + m]? = some child := by rw [Array.getElem?_push, if_pos (by simp; omega)]
  obtain ⟨hw, hno⟩ := I.calm_of (by simp)
  replace hw : WgAt C.ty C.Wg (w.at d) (((countOf st m + (Ph.sg k).x : Nat) : Int) * KK) 0 := hw
  have hcnt : countOf st (m + 1) = countOf st m + 1 := by
    show countOf st m + (st m).counted = _
    rw [hst]; rfl
  refine ⟨_, _, (massM C L (m + 1) st ph', fuelM C (n' + 1) (m + 1) (upd r m (nc + 1)) q), hrunT, .left _ _ ?_, _, _, _, m + 1, st, upd r m (nc + 1), q, ph', n' + 1, g', rfl,
    ⟨by simp [hsz]; omega, hup'.symm, fun i g h1 h2 hg => ?_, fun j hj => ?_, fun p hp => ?_, fun p hp => I.todo p (by omega), fun p hp => ?_, ?_, fun p hp h => ?_, fun p hp h1 h2 => hstop', ⟨0, 0, ?_, .calm h3' fun p hp => ?_⟩, fun h => absurd h hov', hS, ?_, fun p hp h => ?_, ?_, ?_, hs', by rw [hlist']; exact I.agr, fun _ _ _ _ h => by omega⟩, rfl⟩
  · have h1 := hwt' (countOf st (m + 1))
    have h2 : (Ph.sg k).wt (2 * L.length) (countOf st m) = 2 * L.length + 10 := rfl
    unfold massM
    rw [h2]
    omega
  · rw [hlow i (by omega) (by omega)] at hg
    rw [hqt]; exact I.old i g h1 h2 hg
  · rw [hqt]; exact I.above j (by simp at hj; omega)
  · rw [hqt]
    rcases Nat.lt_or_ge p m with hlt | hge
    · obtain ⟨g, hg, hs⟩ := I.work p hlt
      exact ⟨g, by rw [hlow _ (by omega) (by omega)]; exact hg, by rw [upd_ne _ _ (by omega)]; exact hs⟩
    · obtain rfl : p = m := by omega
      refine ⟨child, hnew, ?_⟩
      rw [upd_same, hst, I.above _ (by omega)]
      exact .way (by simp) (fun _ => rfl) (fun h => absurd trivial h) hnc
  · rcases Nat.lt_or_ge p m with hlt | hge
    · exact I.chan p hlt
    · obtain rfl : p = m := by omega
      exact ⟨0, 0, by rw [hst]; exact hc⟩
  · rw [hstop']; exact I.halt
  · rcases Nat.lt_or_ge p m with hlt | hge
    · have := I.told p hlt h
      cases this
    · obtain rfl : p = m := by omega
      rw [hst] at h; cases h
  · rw [hcnt, hx']
    simpa [Ph.x] using hw
  · rcases Nat.lt_or_ge p m with hlt | hge
    · exact hno p hlt
    · obtain rfl : p = m := by omega
      rw [hst]; simp
  · have h1 : QT C.Shun C.Still C.B C.Wg t0 (Team C.b0 m) (fun g => g = 0) t := I.qt.hearing fun g hg => by rw [hg]; exact I.d0
    have h2 := (h1.spawn (c := gs.size) rfl (I.above _ (Nat.le_refl _)) a.frame.fn a.frame.place child.frame.fn).weaken (Hr' := fun _ => False) fun _ h => h.elim
    refine h2.team fun g => ⟨fun ⟨p, hp, e⟩ => ?_, fun h => ?_⟩
    · rcases Nat.lt_or_ge p m with hlt | hge
      · exact .inl ⟨p, hlt, e⟩
      · exact .inr (by omega)
    · rcases h with ⟨p, hp, e⟩ | e
      · exact ⟨p, by omega, e⟩
      · exact ⟨m, by omega, by omega⟩
  · rcases Nat.lt_or_ge p m with hlt | hge
    · obtain ⟨r1, hr⟩ := I.rel p hlt h
      exact ⟨r1, hr.other fun op hop _ => gone_mute _ _ _ _ op hop⟩
    · obtain rfl : p = m := by omega
      rw [hst] at h; exact h.elim
  · rw [hqt, hh']; exact I.d0
  · rw [Array.getElem?_push, if_neg (by simp; omega), get_self _ I.main]

/-- It lists something. -/
theorem InvT.listed (F : C.Fine Anch Fin) (I : InvT C Fin Anch L t0 gs w t m st r q ph n a) {fn : FuncId} {pos : String} {es : Array Event} (h : ∀ e ∈ es, EvM (fun l => C.Shun l ∨ ShN C.Wg l) C.Still C.B e ∧ e.loc ≠ .mark (.release (stA C.Wg))) :
    InvT C Fin Anch L t0 gs w (t ++ MemOp.ofEvents 0 fn pos es) m st r q ph n a := by
  obtain ⟨h1, h2⟩ := I.qt_evs (fn := fn) (pos := pos) h
  exact I.mains F rfl (fun _ _ => rfl) I.main (fun _ _ => rfl) rfl rfl rfl I.bell I.over I.S h1 (fun op hop => by obtain ⟨e, _, rfl⟩ := Go.Conc.mem_ofEvents hop; rfl) (by rw [Deaf_own, h2]; exact I.d0) I.sit I.agr I.fed

/-- It takes its turn. -/
theorem InvT.main_turn (F : C.Fine Anch Fin) {x : Nat} {o : Option Int} {l : List (Nat × Option Int)} (I : InvT C Fin Anch L t0 gs w t m st r q (.turns ((x, o) :: l)) n a) (d : Nat) (hn : 0 < n) (hat : ∀ w₁, AsideM C C.T w w₁ → AtTurnM C x (TurnsM C Anch l) (found o) a w₁) :
    ∃ M' ops μ', runT C.P (crowd gs (w.at d) sl) 0 = (.next M', ops) ∧ Prod.Lex (· < ·) (· < ·) μ' (massM C L m st (.turns ((x, o) :: l)), fuelM C n m r q) ∧ HoldsM C Fin Anch L t0 μ' M' (t ++ ops) := by
  have hb := F.pos
  have hm : m = C.T := I.all (.inr rfl)
  obtain ⟨hxT, ho, hag⟩ := I.agr
  have hx : x < m := by omega
  obtain ⟨_, es, hcomm, hes, hN⟩ := hat (w.at d) (AsideM.at _ _ _)
  have hcm : stepG C.P (0 == 0) a (w.at d) = .comm (core a) #[rcase (C.c x) zer] true (.recv true) (w.at d) es := hcomm
  have I' := I.listed F (fn := a.frame.fn) (pos := a.frame.place) hes
  obtain ⟨s1, r1, hc⟩ := I.chan x hx
  have hcd : (w.at d).heap[C.c x]? = some (.chan 0 #[] (st x).closed s1 r1 false) := hc
  by_cases hpk : r x = 0 ∧ st x ≠ .gone
  · -- a number is there
    obtain ⟨g, hg, hs⟩ := I.work x hx
    rcases hs.parked I.S with ⟨_, _, v, rs, g₀, sh, z, zd, hst, rfl, _, hWn⟩ | ⟨h, _⟩
    · rw [hst] at hcd
      have ho' : o = some v := by rw [ho]; unfold restOf; rw [hst]; rfl
      subst ho'
      have hrt := recv_meets_sel (P := C.P) (sl := sl) (k := 0) I.main hcm hcd (by omega) hg (v := num v) (zj := z) rfl (I.one_giver F (by omega) hg)
      obtain ⟨c1, c2, c3, c4⟩ := comm_ops (C.b0 + x) 0 (core g₀).frame.fn (core a).frame.fn (core g₀).frame.place (core a).frame.place (C.c x) s1 r1 C.B C.Wg (F.low x (by omega)) rfl
      obtain ⟨μ', h2, h3⟩ := I'.pass F (sl := sl) hx hst (gs' := (gs.setIfInBounds (C.b0 + x) ((core g₀).finishComm C.P (twoCases (C.c x) (num v) z C.d zd) sh 0 undef false)).setIfInBounds 0 (Go.Conc.served (core a) (found (some v)))) (by simp) (fun k hk1 hk2 => by rw [get_one _ _ hk1, get_one _ _ hk2])
        (by rw [get_one _ _ (by omega)]; exact get_self _ hg) (get_self _ (by rw [get_one _ _ (by omega)]; exact I.main)) hWn d (s1 + 1) (r1 + 1) (hN _ (AsideM.setChan (by omega) (F.cw x) _ _ _ _ _ _ _)) c1 c2 c3 c4
      exact ⟨_, _, μ', hrt, h2, by rw [← Array.append_assoc]; exact h3⟩
    · exact absurd hpk h
  · cases hcl : (st x).closed with
    | true =>
      -- it is shut
      rw [hcl] at hcd
      have hnil : (st x).rest = [] := by cases h : st x <;> rw [h] at hcl <;> first | rfl | cases hcl
      have ho' : o = none := by rw [ho]; unfold restOf; rw [hnil]; rfl
      subst ho'
      have hrt := crowd_recv_closed (P := C.P) (sl := sl) I.main hcm hcd (I.no_giver F _ _ fun _ => hpk)
      obtain ⟨n2, hn2⟩ := gp_turns (Fin := Fin) (L := L) (hN (w.at d) (AsideM.refl _ _))
      obtain ⟨hw, hno⟩ := I.calm_of (by simp)
      replace hw : WgAt C.ty C.Wg (w.at d) (((countOf st m + (Ph.turns ((x, none) :: l)).x : Nat) : Int) * KK) 0 := hw
      refine ⟨_, _, (massM C L m st (.turns l), fuelM C (n2 + 1) m r q), hrt, .left _ _ ?_, _, _, sl, m, st, r, q, .turns l, n2 + 1, Go.Conc.served (core a) (found none), rfl, ?_, rfl⟩
      · unfold massM; simp only [Ph.wt, List.length_cons]; omega
      · rw [← Array.append_assoc]
        refine I'.mains F (by simp) (fun k hk => get_one _ _ (by omega)) (get_self _ I.main) (fun _ _ => rfl) rfl rfl rfl ⟨0, 0, by simpa [Ph.x] using hw, .calm (by simp) hno⟩ (fun h => h.elim) (I.at F d) (I'.qt.mute (fun op h => ?_) (fun _ h => h.elim) (fun op h => ?_) (fun op h => ?_)) (fun op h => ?_) ?_ (.way trivial hn2)
          (by show Agrees C.T (restOf st) l; rw [← restOf_none hnil]; exact hag) (fun _ _ _ _ h => by omega)
        · simp only [List.mem_toArray, List.mem_cons, List.not_mem_nil, or_false] at h; subst h; rfl
        · simp only [List.mem_toArray, List.mem_cons, List.not_mem_nil, or_false] at h; subst h; exact F.low x (by omega)
        · simp only [List.mem_toArray, List.mem_cons, List.not_mem_nil, or_false] at h; subst h; simp
        · simp only [List.mem_toArray, List.mem_cons, List.not_mem_nil, or_false] at h; subst h; rfl
        · rw [Deaf_quiet fun op h d => by simp only [List.mem_toArray, List.mem_cons, List.not_mem_nil, or_false] at h; subst h; rfl]
          exact I'.d0
    | false =>
      -- it waits
      rw [hcl] at hcd
      have hr0 : r x ≠ 0 := fun e => hpk ⟨e, by intro e'; rw [e'] at hcl; cases hcl⟩
      have hrt := crowd_waits (P := C.P) (sl := sl) I.main hcm (fun cc hcc => by
        simp only [List.mem_toArray, List.mem_cons, List.not_mem_nil, or_false] at hcc
        subst hcc
        exact ways_recv_none hcd (I.no_giver F _ _ fun _ => hpk))
      refine ⟨_, _, (massM C L m st (.turns ((x, o) :: l)), fuelM C 0 m r q), hrt, .right _ (by unfold fuelM; omega), _, _, sl, m, st, r, q, .turns ((x, o) :: l), 0, Go.Conc.parked (core a) #[rcase (C.c x) zer] (.recv true), rfl, ?_, rfl⟩
      have := I'.mains F (gs' := gs.setIfInBounds 0 (Go.Conc.parked (core a) #[rcase (C.c x) zer] (.recv true))) (w' := w.at d) (u := #[]) (ph' := .turns ((x, o) :: l)) (n' := 0) (by simp) (fun k hk => get_one _ _ (by omega)) (get_self _ I.main) (fun _ _ => rfl) rfl rfl rfl
        (by obtain ⟨hw, hno⟩ := I.calm_of (by simp); replace hw : WgAt C.ty C.Wg (w.at d) (((countOf st m + (Ph.turns ((x, o) :: l)).x : Nat) : Int) * KK) 0 := hw; exact ⟨0, 0, by simpa [Ph.x] using hw, .calm (by simp) hno⟩) (fun h => h.elim) (I.at F d) (by rw [Array.append_empty]; exact I'.qt) (fun op h => by simp at h) (by rw [Array.append_empty]; exact I'.d0)
        (.park fun w₁ h₁ => hat w₁ ((AsideM.at _ _ _).trans h₁)) I.agr (fun y o' l' e _ => by
          have e2 : (x, o) :: l = (y, o') :: l' := by simpa using e
          obtain ⟨e3, _⟩ := List.cons.inj e2
          obtain ⟨rfl, _⟩ := Prod.mk.inj e3
          exact ⟨hcl, hr0⟩)
      rwa [Array.append_empty] at this

/-- It shuts the stop. -/
theorem InvT.main_stop (F : C.Fine Anch Fin) (I : InvT C Fin Anch L t0 gs w t m st r q (.turns []) n a) (d : Nat) (hat : AtStopM C Anch a (w.at d)) :
    ∃ M' ops μ', runT C.P (crowd gs (w.at d) sl) 0 = (.next M', ops) ∧ Prod.Lex (· < ·) (· < ·) μ' (massM C L m st (.turns []), fuelM C n m r q) ∧ HoldsM C Fin Anch L t0 μ' M' (t ++ ops) := by
  have hb := F.pos
  have hm : m = C.T := I.all (.inr rfl)
  obtain ⟨_, hmw, g₂, hgo, hN⟩ := hat
  obtain ⟨s1, r1, hh⟩ := I.halt
  have hhd : (w.at d).heap[C.d]? = some (.chan 0 #[] false s1 r1 false) := hh
  have hgo' := hgo s1 r1 hhd
  have hrunT := runT_crowd_go (P := C.P) (sl := sl) (i := 0) I.main (show stepG C.P (0 == 0) a (w.at d) = _ from hgo')
  obtain ⟨n2, hn2⟩ := hN s1 r1 _ (AsideM.refl _ _)
  have hS' := F.shut _ s1 r1 (I.at F d)
  generalize hw' : (w.at d).setChan C.d 0 #[] true s1 r1 false = w' at hgo' hrunT hn2 hS'
  have hst2 : g₂.status = .running := hn2.running (fun _ _ h => h.1) w' (AsideM.refl _ _)
  have hdd : w'.heap[C.d]? = some (.chan 0 #[] true s1 r1 false) := by subst hw'; exact heap_setChan_self' (w := w.at d) hhd
  have hcz : ∀ z, w'.heap[C.c z]? = w.heap[C.c z]? := fun z => by subst hw'; exact heap_setChan_ne' (F.cd z)
  have hwg : w'.heap[C.Wg]? = w.heap[C.Wg]? := by subst hw'; exact heap_setChan_ne' (Ne.symm F.dw)
  have hu : ∀ op ∈ MemOp.ofEvents 0 a.frame.fn a.frame.place (closeEvents C.d), op = { g := 0, fn := a.frame.fn, pos := a.frame.place, act := .access ⟨.obj C.d, false, true⟩ } ∨ op = { g := 0, fn := a.frame.fn, pos := a.frame.place, act := .close C.d } := fun op h => by
    rw [closeOps] at h
    simpa only [List.mem_toArray, List.mem_cons, List.not_mem_nil, or_false] using h
  have hdf : ∀ j, Deaf (t ++ MemOp.ofEvents 0 a.frame.fn a.frame.place (closeEvents C.d)) j = Deaf t j := fun j => Deaf_quiet fun op h d => by rcases hu op h with rfl | rfl <;> rfl
  obtain ⟨hw, hno⟩ := I.calm_of (by simp)
  -- the senders
  have hsend : ∀ p, p < m → ∃ x g, ((gs.map (woken C.P a g₂ w')).setIfInBounds 0 g₂)[C.b0 + p]? = some g ∧ SitM C p (st p) x (Deaf t (C.b0 + p)) g ∧ (st p ≠ .gone → x ≠ 0) := fun p hp => by
    obtain ⟨g, hg, hs⟩ := I.work p hp
    have hgg : ((gs.map (woken C.P a g₂ w')).setIfInBounds 0 g₂)[C.b0 + p]? = some (woken C.P a g₂ w' g) := by rw [get_one _ _ (by omega), Array.getElem?_map, hg]; rfl
    generalize st p = s at hs
    generalize r p = x at hs
    generalize Deaf t (C.b0 + p) = δ at hs
    have hs0 := hs
    cases hs with
    | gone hq => exact ⟨x, g, by rw [hgg, woken_quitsD hq], hs0, fun h => absurd rfl h⟩
    | way _ _ _ hy => exact ⟨_, g, by rw [hgg, woken_running (hy.running I.S)], hs0, fun _ => by omega⟩
    | @parks v rs g₀ sh z zd h1 h2 =>
      have e2 : woken C.P a g₂ w' (Go.Conc.parked (core g₀) (twoCases (C.c p) (num v) z C.d zd) sh) = { Go.Conc.parked (core g₀) (twoCases (C.c p) (num v) z C.d zd) sh with status := .running } := by
        unfold Go.Conc.woken
        rw [if_pos (by simp [hmw, hst2])]
        exact again_two_stop hdd
      exact ⟨1, _, by rw [hgg, e2], .way (by simp) (fun _ => rfl) (fun h => absurd trivial h) (Goes.stop fun _ _ => h1.again), fun _ => by omega⟩
  have hchoice : ∀ p, ∃ x, p < m → ∃ g, ((gs.map (woken C.P a g₂ w')).setIfInBounds 0 g₂)[C.b0 + p]? = some g ∧ SitM C p (st p) x (Deaf t (C.b0 + p)) g ∧ (st p ≠ .gone → x ≠ 0) := fun p => by
    by_cases hp : p < m
    · obtain ⟨x, h⟩ := hsend p hp; exact ⟨x, fun _ => h⟩
    · exact ⟨0, fun h => absurd h hp⟩
  obtain ⟨r', hr'⟩ := Classical.axiomOfChoice hchoice
  refine ⟨_, _, (massM C L m st .wd, fuelM C (n2 + 1) m r' q), hrunT, .left _ _ ?_, _, w', sl, m, st, r', q, .wd, n2 + 1, g₂, rfl,
    ⟨by simp [I.size], hm, fun i g h1 h2 hg => ?_, fun j hj => ?_, fun p hp => ?_, I.todo, fun p hp => by rw [hcz p]; exact I.chan p hp, ⟨s1, r1, hdd⟩, fun _ _ _ => rfl, fun p hp h1 h2 => ?_, ⟨0, 0, ?_, .calm (by simp) hno⟩, fun h => h.elim, hS', I.qt.main (fun op h => by rcases hu op h with rfl | rfl <;> rfl) (fun op h b hb => ?_) (fun _ h => h.elim) (fun op h => by rcases hu op h with rfl | rfl <;> exact F.lowd) (fun op h => by rcases hu op h with rfl | rfl <;> simp), fun p hp h => ?_, by rw [hdf]; exact I.d0, get_self' _ _ I.main, .way trivial hn2, trivial, fun _ _ _ h _ => by cases h⟩, rfl⟩
  · unfold massM; simp only [Ph.wt, List.length_nil]; omega
  · rw [get_one _ _ (by omega), Array.getElem?_map] at hg
    obtain ⟨y, hy, rfl⟩ := Option.map_eq_some_iff.1 hg
    rw [woken_quitsD (I.old i y h1 h2 hy), hdf]
    exact I.old i y h1 h2 hy
  · rw [hdf]; exact I.above j (by simpa using hj)
  · rw [hdf]
    obtain ⟨g, h1, h2, _⟩ := hr' p hp
    exact ⟨g, h1, h2⟩
  · obtain ⟨g, _, _, h3⟩ := hr' p hp
    exact absurd h2 (h3 h1)
  · have hw2 : WgAt C.ty C.Wg w' (((countOf st m + (Ph.turns []).x : Nat) : Int) * KK) 0 := hw.of_block hwg
    simpa [Ph.x] using hw2
  · rcases hu op h with rfl | rfl
    · simp only [MemAct.touch?, Option.some.injEq] at hb
      subst hb
      exact ⟨fun _ => by simp, fun _ => rfl⟩
    · simp [MemAct.touch?] at hb
  · obtain ⟨r2, hr⟩ := I.rel p hp h
    exact ⟨r2, hr.other fun op hop e => by rcases hu op hop with rfl | rfl <;> (simp at e; omega)⟩

/-- It is through. -/
theorem InvT.main_through (F : C.Fine Anch Fin) (I : InvT C Fin Anch L t0 gs w t m st r q .acq n a) (d : Nat) (hat : AtAcqM C Fin a (w.at d)) :
    ∃ M' ops, runT C.P (crowd gs (w.at d) sl) 0 = (.next M', ops) ∧ DoneT C Fin M' (t ++ ops) := by
  have hb := F.pos
  have hm : m = C.T := I.all (l := []) (.inl rfl)
  obtain ⟨_, g', hgo, hF⟩ := hat
  have hrunT := runT_crowd_go (P := C.P) (sl := sl) (i := 0) I.main (show stepG C.P (0 == 0) a (w.at d) = _ from hgo)
  have hstill := I.still (i := 0) (x := a) (x' := g') (w' := w.at d) (fun _ _ _ => rfl) rfl
  have hall := I.over trivial
  rw [ofEvents_one, ofEvent_mk] at hrunT
  refine ⟨_, _, hrunT, _, _, sl, g', fun i => if i < C.b0 then q i else r (i - C.b0), rfl, get_self' _ _ I.main, hF, ⟨fun i g hi hg => ?_, fun j hj => ?_⟩, ?_, by simp [I.size, hm]⟩
  · rw [hstill i hi (by omega)] at hg
    rw [Deaf_quiet fun op h d => by simp only [List.mem_toArray, List.mem_cons, List.not_mem_nil, or_false] at h; subst h; rfl]
    rcases I.idx hg with e | ⟨h1, h2⟩ | ⟨p, hp, rfl⟩
    · omega
    · simp only [if_pos h2]; exact I.old i g h1 h2 hg
    · rw [if_neg (by omega), show C.b0 + p - C.b0 = p by omega]
      obtain ⟨x, hx, hs⟩ := I.work p hp
      rw [hg] at hx
      obtain rfl := Option.some.inj hx
      rw [hall p hp] at hs
      generalize r p = rp at hs
      generalize Deaf t (C.b0 + p) = δ at hs
      cases hs with
      | gone hq => exact hq
      | way h _ _ _ => exact absurd rfl h
  · rw [Deaf_quiet fun op h d => by simp only [List.mem_toArray, List.mem_cons, List.not_mem_nil, or_false] at h; subst h; rfl]
    exact I.above j (by simpa using hj)
  · have h1 : QT C.Shun C.Still C.B C.Wg t0 (Team C.b0 m) (fun g => g = 0) t := I.qt.hearing fun g hg => by rw [hg]; exact I.d0
    refine h1.acquire rfl rfl rfl F.loww (fun g ⟨p, hp, e⟩ => ?_) F.apart
    rw [e]
    exact I.rel p hp (by rw [hall p hp]; trivial)
end Go.Proofs.Ytdpagejckahkkaa.Net
