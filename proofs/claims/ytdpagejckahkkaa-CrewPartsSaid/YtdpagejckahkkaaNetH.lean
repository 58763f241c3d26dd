/- A chain of goroutines that hand numbers on: the theorem. Goroutine 0 starts a chain (the first feeds numbers, each other adds its own and hands on) beside goroutines that only leave, and receives what comes at the end: whoever is picked, now and later, it receives just the numbers, each with all that is added, and then finds the last channel shut; there is no data race; all others only leave then. -/
import Derived.Test.YtdpagejckahkkaaNetG
namespace Go.Proofs.Ytdpagejckahkkaa.Net
open Go Go.Conc
open Go.ConcN (sumTo upd upd_same upd_ne sumTo_congr sumTo_upd)

variable {C : Cfg} {Fin : Goroutine → World → Prop} {q : Nat → Nat} {gs : Array Goroutine} {w : World} {t : Trace} {m : Nat} {st : Nat → PS} {r : Nat → Nat}
variable {k n : Nat} {l : Option (List Int)} {a : Goroutine} {sl : Option (Nat × Nat)}

theorem parked_give {p : Nat} {s : PS} {rp : Nat} {g : Goroutine} (hs : Sit C p s rp g) (h1 : s.give.isSome = true) (h2 : rp = 0) : ∃ v s' g₂ z', s.give = some (v, s') ∧ g = parked g₂ #[scase (C.c p) (num v) z'] .send ∧ C.W p s' (Go.Conc.served g₂ undef) := by
  cases hs with
  | gone _ => simp [PS.give] at h1
  | way _ _ => omega
  | gives hg hW => exact ⟨_, _, _, _, hg, rfl, hW⟩
  | takes _ => simp [PS.give] at h1
theorem parked_take {p : Nat} {s : PS} {rp : Nat} {g : Goroutine} (hs : Sit C p s rp g) (h1 : s = .want) (h2 : rp = 0) : ∃ g₀, g = parked (core g₀) #[rcase (C.c (p - 1)) zer] (.recv true) ∧ StopW C p .want g₀ := by
  cases hs with
  | gone _ => cases h1
  | way _ _ => omega
  | gives hg _ => subst h1; simp [PS.give] at hg
  | takes h => exact ⟨_, rfl, h⟩

/-- Whatever step of one of the chain's. -/
theorem Inv.work_step (F : C.Fine) (I : Inv C Fin gs w t m st r q k l n a) {p : Nat} (hp : p < m) {g : Goroutine} (hg : gs[C.b0 + p]? = some g) (hrun : g.status = .running) (d : Nat) :
    ∃ M' ops μ', runT C.P (crowd gs (w.at d) sl) (C.b0 + p) = (.next M', ops) ∧ Prod.Lex (· < ·) (· < ·) μ' (mass C k m st, fuel C n m r q) ∧ InvM C Fin μ' M' (t ++ ops) := by
  have hb := F.pos
  have hmT := I.crew.mT
  have hi0 : (C.b0 + p == 0) = false := by simp; omega
  have hS := I.crew.S (by omega)
  have hSd : C.S (w.at d) := F.stable _ _ (AsideN.at _ _ _ _) hS
  obtain ⟨g', hg', hs⟩ := I.crew.work p hp
  rw [hg] at hg'
  obtain rfl := Option.some.inj hg'
  generalize hsp : st p = s at hs
  generalize hrp : r p = rp at hs
  have hs0 := hs
  cases hs with
  | gone hq =>
    cases rp with
    | zero => rw [show g.status = .finished from hq] at hrun; cases hrun
    | succ z =>
      rcases hq with h | ⟨_, g', hw, hq'⟩
      · rw [h] at hrun; cases hrun
      · exact I.work_own F hp hg d (n' := z) (by omega) (hw _) (by simp) (fun _ => rfl) (fun _ => hsp) (by rw [hsp]; exact .gone hq')
  | gives _ _ => cases hrun
  | takes _ => cases hrun
  | @way _ nn _ hne hW =>
    rcases Goes.cases hW with hstop | ⟨n', rfl, hstep⟩
    · have hat := hstop _ hSd
      rcases s.three with h | h | h | ⟨v, s', h⟩
      · exact absurd h hne
      · -- it wants one
        subst h
        obtain ⟨y, rfl⟩ : ∃ y, p = y + 1 := by
          cases p with
          | zero => have := I.crew.fits 0 hp; rw [hsp] at this; exact this.elim
          | succ y => exact ⟨y, rfl⟩
        obtain ⟨_, hcomm, hV, hC⟩ := hat
        have hcm : stepG C.P (C.b0 + (y + 1) == 0) g (w.at d) = .comm (core g) #[rcase (C.c y) zer] true (.recv true) (w.at d) #[] := by rw [hi0]; exact hcomm _ hSd
        obtain ⟨s1, r1, hc⟩ := I.crew.chan y (by omega)
        have hcd : (w.at d).heap[C.c y]? = some (.chan 0 #[] (isGone (st y)) s1 r1 false) := hc
        by_cases hz : st y = .gone
        · rw [hz] at hcd
          have hrt := crowd_recv_closed (P := C.P) (sl := sl) hg hcm hcd (I.no_giver F _ y fun _ _ => by rw [hz]; simp [PS.give])
          obtain ⟨μ', h1, h2⟩ := I.found F (sl := sl) hp hsp hz hg hC d (core g).frame.fn (core g).frame.place
          exact ⟨_, _, μ', hrt, h1, by rw [Go.Conc.ofEvents_none, Array.empty_append]; exact h2⟩
        · rw [isGone_false hz] at hcd
          by_cases hpk : (st y).give.isSome = true ∧ r y = 0
          · obtain ⟨x, hx, hsx⟩ := I.crew.work y (by omega)
            obtain ⟨v, s', g₂, z', hgv, rfl, hWx⟩ := parked_give hsx hpk.1 hpk.2
            have hrt := crowd_recv_meets (P := C.P) (sl := sl) hg hcm hcd (by omega) hx (I.one_giver F (by omega) hx)
            obtain ⟨μ', h1, h2⟩ := I.pass F (sl := sl) hp hgv hsp (gs' := (gs.setIfInBounds (C.b0 + y) (Go.Conc.served g₂ undef)).setIfInBounds (C.b0 + (y + 1)) (Go.Conc.served (core g) (.tuple #[num v, .bool true])))
              (u := #[{ g := C.b0 + y, fn := g₂.frame.fn, pos := g₂.frame.place, act := .send (C.c y) s1 }, { g := C.b0 + (y + 1), fn := (core g).frame.fn, pos := (core g).frame.place, act := .recv (C.c y) r1 0 },
                { g := C.b0 + y, fn := g₂.frame.fn, pos := g₂.frame.place, act := .sendDone (C.c y) s1 }, { g := C.b0 + (y + 1), fn := (core g).frame.fn, pos := (core g).frame.place, act := .recvDone (C.c y) r1 }])
              (by simp) (fun z h1 h2 => by rw [get_one _ _ h2, get_one _ _ h1]) (by rw [get_one _ _ (by omega), get_self _ hx]) (get_self _ (by rw [get_one _ _ (by omega)]; exact hg)) hWx (hV v) d (s1 + 1) (r1 + 1)
              (fun op h => by simp only [List.mem_toArray, List.mem_cons, List.not_mem_nil, or_false] at h; rcases h with rfl | rfl | rfl | rfl <;> rfl)
              (fun j op h d => by simp only [List.mem_toArray, List.mem_cons, List.not_mem_nil, or_false] at h; rcases h with rfl | rfl | rfl | rfl <;> rfl)
              (fun op h => by simp only [List.mem_toArray, List.mem_cons, List.not_mem_nil, or_false] at h; rcases h with rfl | rfl | rfl | rfl <;> exact F.low y (by omega))
            exact ⟨_, _, μ', hrt, h1, by rw [Go.Conc.ofEvents_none, Array.empty_append]; exact h2⟩
          · have hrt := crowd_waits (P := C.P) (sl := sl) hg hcm (fun cc hcc => by
              simp only [List.mem_toArray, List.mem_cons, List.not_mem_nil, or_false] at hcc
              subst hcc
              exact ways_recv_none hcd (I.no_giver F _ y fun _ _ => hpk))
            rw [Go.Conc.ofEvents_none] at hrt
            exact I.work_parks F hp hg d (by omega) (by rw [hsp]; exact .takes ⟨hrun, hcomm, hV, hC⟩) hrt (fun _ z hz' => (show y = z by omega) ▸ ⟨hz, hpk⟩) (fun h => by rw [hsp] at h; simp [PS.give] at h) (fun h => by rw [hsp] at h; simp [PS.give] at h) (by rw [hsp]; simp)
      · -- it shuts its channel
        obtain ⟨_, hmw, g₂, nq, hcl, hq⟩ := hat.shut h
        obtain ⟨s1, r1, hc⟩ := I.crew.chan p hp
        rw [hsp, isGone_false hne] at hc
        exact I.closes F hp (by rw [hsp]; exact h) hg hmw d s1 r1 hc (hcl _ s1 r1 hSd hc) hq
      · -- it hands one on
        obtain ⟨_, g₂, z', hcomm, hWn⟩ := hat.give h
        have hcm : stepG C.P (C.b0 + p == 0) g (w.at d) = .comm g₂ #[scase (C.c p) (num v) z'] true .send (w.at d) #[] := by rw [hi0]; exact hcomm _ hSd
        obtain ⟨s1, r1, hc⟩ := I.crew.chan p hp
        rw [hsp, isGone_false hne] at hc
        have hcd : (w.at d).heap[C.c p]? = some (.chan 0 #[] false s1 r1 false) := hc
        have hgv : (st p).give = some (v, s') := by rw [hsp]; exact h
        by_cases hA : p + 1 < m ∧ st (p + 1) = .want ∧ r (p + 1) = 0
        · obtain ⟨hp1, hw1, hr1⟩ := hA
          obtain ⟨x, hx, hsx⟩ := I.crew.work (p + 1) hp1
          obtain ⟨g₀, rfl, _, _, hV, _⟩ := parked_take hsx hw1 hr1
          have hrt := crowd_send_meets (P := C.P) (sl := sl) hg hcm hcd (by omega) hx (I.one_taker F (by omega) hx (by omega))
          obtain ⟨μ', h1, h2⟩ := I.pass F (sl := sl) hp1 hgv hw1 (gs' := (gs.setIfInBounds (C.b0 + (p + 1)) (Go.Conc.served (core g₀) (.tuple #[num v, .bool true]))).setIfInBounds (C.b0 + p) (Go.Conc.served g₂ undef))
            (u := #[{ g := C.b0 + p, fn := g₂.frame.fn, pos := g₂.frame.place, act := .send (C.c p) s1 }, { g := C.b0 + (p + 1), fn := (core g₀).frame.fn, pos := (core g₀).frame.place, act := .recv (C.c p) r1 0 },
              { g := C.b0 + p, fn := g₂.frame.fn, pos := g₂.frame.place, act := .sendDone (C.c p) s1 }, { g := C.b0 + (p + 1), fn := (core g₀).frame.fn, pos := (core g₀).frame.place, act := .recvDone (C.c p) r1 }])
            (by simp) (fun z h1 h2 => by rw [get_one _ _ h1, get_one _ _ h2]) (get_self _ (by rw [get_one _ _ (by omega)]; exact hg)) (by rw [get_one _ _ (by omega), get_self _ hx]) hWn (hV v) d (s1 + 1) (r1 + 1)
            (fun op h => by simp only [List.mem_toArray, List.mem_cons, List.not_mem_nil, or_false] at h; rcases h with rfl | rfl | rfl | rfl <;> rfl)
            (fun j op h d => by simp only [List.mem_toArray, List.mem_cons, List.not_mem_nil, or_false] at h; rcases h with rfl | rfl | rfl | rfl <;> rfl)
            (fun op h => by simp only [List.mem_toArray, List.mem_cons, List.not_mem_nil, or_false] at h; rcases h with rfl | rfl | rfl | rfl <;> exact F.low p (by omega))
          exact ⟨_, _, μ', hrt, h1, by rw [Go.Conc.ofEvents_none, Array.empty_append]; exact h2⟩
        · by_cases hB : p + 1 = C.T ∧ n = 0 ∧ l ≠ none
          · obtain ⟨hpT, hn, hl⟩ := hB
            have hm := I.mT_of hl
            have hpT' : C.T - 1 = p := by omega
            have hsit := I.sit
            have hmain := I.main
            have heat := I.eat
            generalize hnn : n = n0 at hsit hn
            generalize hll : l = l0 at hsit
            cases hsit with
            | sp _ _ => omega
            | eat _ _ => omega
            | @wait l' g₀ _ _ hst =>
              have hout := heat l' hll
              rw [hpT', out_give (I.crew.fits p hp) hgv] at hout
              subst hout
              have hrt := crowd_send_meets (P := C.P) (sl := sl) (j := 0) (gj := core g₀) (zj := zer) (shj := .recv true) hg hcm hcd (by omega) (by rw [hmain, hpT']) (I.one_eater F (gj := core g₀) (sh := .recv true) (by omega) (by rw [hpT']) (by omega))
              obtain ⟨_, es, _, _, hN⟩ := hst (w.at d) (AsideN.at _ _ _ _)
              obtain ⟨μ', h1, h2⟩ := I.feed F (sl := sl) hpT hm hgv hll (gs' := (gs.setIfInBounds 0 (Go.Conc.served (core g₀) (.tuple #[num v, .bool true]))).setIfInBounds (C.b0 + p) (Go.Conc.served g₂ undef))
                (u := #[{ g := C.b0 + p, fn := g₂.frame.fn, pos := g₂.frame.place, act := .send (C.c p) s1 }, { g := 0, fn := (core g₀).frame.fn, pos := (core g₀).frame.place, act := .recv (C.c p) r1 0 },
                  { g := C.b0 + p, fn := g₂.frame.fn, pos := g₂.frame.place, act := .sendDone (C.c p) s1 }, { g := 0, fn := (core g₀).frame.fn, pos := (core g₀).frame.place, act := .recvDone (C.c p) r1 }])
                (by simp) (fun z h1 h2 => by rw [get_one _ _ h2, get_one _ _ h1]) (get_self _ (by rw [get_one _ _ (by omega)]; exact hg)) (by rw [get_one _ _ (by omega), get_self _ hmain]) hWn d (s1 + 1) (r1 + 1) (hN _ (AsideN.setChan (by omega) _ _ _ _ _ _ _))
                (fun op h => by simp only [List.mem_toArray, List.mem_cons, List.not_mem_nil, or_false] at h; rcases h with rfl | rfl | rfl | rfl <;> rfl)
                (fun j op h d => by simp only [List.mem_toArray, List.mem_cons, List.not_mem_nil, or_false] at h; rcases h with rfl | rfl | rfl | rfl <;> rfl)
                (fun op h => by simp only [List.mem_toArray, List.mem_cons, List.not_mem_nil, or_false] at h; rcases h with rfl | rfl | rfl | rfl <;> exact F.low p (by omega))
              exact ⟨_, _, μ', hrt, hnn ▸ h1, by rw [Go.Conc.ofEvents_none, Array.empty_append]; exact h2⟩
          · have hrt := crowd_waits (P := C.P) (sl := sl) hg hcm (fun cc hcc => by
              simp only [List.mem_toArray, List.mem_cons, List.not_mem_nil, or_false] at hcc
              subst hcc
              exact ways_send_none hcd (Nat.zero_le _) (I.no_taker F _ p (fun h x => hA ⟨h, x⟩) hB))
            rw [Go.Conc.ofEvents_none] at hrt
            exact I.work_parks F hp hg d (by omega) (.gives hgv hWn) hrt (fun h => by rw [h] at hgv; simp [PS.give] at hgv) (fun _ h x => hA ⟨h, x⟩) (fun _ h x => hB ⟨h, x.2, x.1⟩) (by rw [hsp]; exact hne)
    · -- a step of its own
      obtain ⟨g', w', es, hgo, ⟨rfl, hes⟩, hG⟩ := hstep _ hSd
      exact I.work_own F hp hg d (n' := n' + 1) (by omega) hgo hes (fun h => absurd (hsp ▸ h) hne) (fun h => by omega) (by rw [hsp]; exact .way hne (hG.anyWorld default))

/-- Whatever step of goroutine 0's. -/
theorem Inv.main_step (F : C.Fine) (I : Inv C Fin gs w t m st r q k l n a) (hrun : a.status = .running) (d : Nat) :
    ∃ M' ops, runT C.P (crowd gs (w.at d) sl) 0 = (.next M', ops) ∧ (Done C Fin M' (t ++ ops) ∨ ∃ μ', Prod.Lex (· < ·) (· < ·) μ' (mass C k m st, fuel C n m r q) ∧ InvM C Fin μ' M' (t ++ ops)) := by
  have hb := F.pos
  have hT := F.posT
  have hA := AsideN.at C.c m w d
  have hsit := I.sit
  cases hsit with
  | @sp k' n' _ _ hk hG =>
    rcases Goes.cases hG with hstop | ⟨n'', rfl, hstep⟩
    · obtain ⟨M', ops, μ', h1, h2, h3⟩ := I.main_go F (sl := sl) d hk (hstop _ hA)
      exact ⟨M', ops, h1, .inr ⟨μ', h2, h3⟩⟩
    · obtain ⟨a', w', es, hgo, hd, hG'⟩ := hstep _ hA
      obtain ⟨M', ops, μ', h1, h2, h3⟩ := I.main_own F (sl := sl) (n' := n'' + 1) d hgo hd (by omega) (by omega) (.sp hk hG')
      exact ⟨M', ops, h1, .inr ⟨μ', h2, h3⟩⟩
  | @eat l' n' _ _ hm hG =>
    subst hm
    rcases Goes.cases hG with hstop | ⟨n'', rfl, hstep⟩
    · have hat := hstop _ hA
      obtain ⟨es, hcomm, hes⟩ := hat.comm
      obtain ⟨s1, r1, hc⟩ := I.crew.chan (C.T - 1) (by omega)
      have hcd : (w.at d).heap[C.c (C.T - 1)]? = some (.chan 0 #[] (isGone (st (C.T - 1))) s1 r1 false) := hc
      have hcm : stepG C.P (0 == 0) a (w.at d) = .comm (core a) #[rcase (C.c (C.T - 1)) zer] true (.recv true) (w.at d) es := hcomm
      have I' := I.listed F (fn := a.frame.fn) (pos := a.frame.place) hes
      by_cases hz : st (C.T - 1) = .gone
      · -- the chain has come to its end
        rw [hz] at hcd
        have hrt := crowd_recv_closed (P := C.P) (sl := sl) I.main hcm hcd (I.no_giver F _ _ fun _ _ => by rw [hz]; simp [PS.give])
        have hout := I.eat l' rfl
        have hnil : l' = [] := by
          rw [← hout]
          generalize C.T - 1 = p at hz
          cases p <;> simp [out, hz]
        subst hnil
        obtain ⟨_, es', _, _, hN⟩ := hat
        have hD := I'.ends F (sl := sl) rfl hz (y := Go.Conc.served (core a) (.tuple #[zer, .bool false])) d (hN _ (AsideN.refl _ _ _)) (core a).frame.fn (core a).frame.place
        exact ⟨_, _, hrt, .inl (by rw [← Array.append_assoc]; exact hD)⟩
      · rw [isGone_false hz] at hcd
        by_cases hpk : (st (C.T - 1)).give.isSome = true ∧ r (C.T - 1) = 0
        · -- a number is there
          obtain ⟨x, hx, hsx⟩ := I.crew.work (C.T - 1) (by omega)
          obtain ⟨v, s', g₂, z', hgv, rfl, hWx⟩ := parked_give hsx hpk.1 hpk.2
          have hrt := crowd_recv_meets (P := C.P) (sl := sl) I.main hcm hcd (by omega) hx (I.one_giver F (by omega) hx)
          have hout := I.eat l' rfl
          rw [out_give (I.crew.fits _ (by omega)) hgv] at hout
          subst hout
          obtain ⟨_, es', _, _, hN⟩ := hat
          obtain ⟨μ', h1, h2⟩ := I'.feed F (sl := sl) (p := C.T - 1) (by omega) rfl hgv rfl (gs' := (gs.setIfInBounds (C.b0 + (C.T - 1)) (Go.Conc.served g₂ undef)).setIfInBounds 0 (Go.Conc.served (core a) (.tuple #[num v, .bool true])))
            (u := #[{ g := C.b0 + (C.T - 1), fn := g₂.frame.fn, pos := g₂.frame.place, act := .send (C.c (C.T - 1)) s1 }, { g := 0, fn := (core a).frame.fn, pos := (core a).frame.place, act := .recv (C.c (C.T - 1)) r1 0 },
              { g := C.b0 + (C.T - 1), fn := g₂.frame.fn, pos := g₂.frame.place, act := .sendDone (C.c (C.T - 1)) s1 }, { g := 0, fn := (core a).frame.fn, pos := (core a).frame.place, act := .recvDone (C.c (C.T - 1)) r1 }])
            (by simp) (fun z h1 h2 => by rw [get_one _ _ h1, get_one _ _ h2]) (by rw [get_one _ _ (by omega), get_self _ hx]) (get_self _ (by rw [get_one _ _ (by omega)]; exact I.main)) hWx d (s1 + 1) (r1 + 1) (hN _ (AsideN.setChan (by omega) _ _ _ _ _ _ _))
            (fun op h => by simp only [List.mem_toArray, List.mem_cons, List.not_mem_nil, or_false] at h; rcases h with rfl | rfl | rfl | rfl <;> rfl)
            (fun j op h d => by simp only [List.mem_toArray, List.mem_cons, List.not_mem_nil, or_false] at h; rcases h with rfl | rfl | rfl | rfl <;> rfl)
            (fun op h => by simp only [List.mem_toArray, List.mem_cons, List.not_mem_nil, or_false] at h; rcases h with rfl | rfl | rfl | rfl <;> exact F.low _ (by omega))
          exact ⟨_, _, hrt, .inr ⟨μ', h1, by rw [← Array.append_assoc]; exact h2⟩⟩
        · -- it waits
          have hrt := crowd_waits (P := C.P) (sl := sl) I.main hcm (fun cc hcc => by
            simp only [List.mem_toArray, List.mem_cons, List.not_mem_nil, or_false] at hcc
            subst hcc
            exact ways_recv_none hcd (I.no_giver F _ _ fun _ _ => hpk))
          refine ⟨_, _, hrt, .inr ⟨(mass C 0 C.T st, fuel C 0 C.T r q), .right _ (by unfold fuel; omega), _, _, sl, C.T, st, r, q, 0, some l', 0, _, rfl, ⟨?_, get_self _ I.main, .wait rfl fun w₁ h₁ => hstop w₁ (hA.trans h₁), I.start, I.eat, fun _ _ => ⟨hz, hpk⟩⟩, rfl⟩⟩
          have I2 := I'.crew
          have := I2.turn (D := fun j => j = 0) (gs' := gs.setIfInBounds 0 (parked (core a) #[rcase (C.c (C.T - 1)) zer] (.recv true))) (w' := w.at d) (u := #[]) (st' := st) (r' := r) (q' := q) (by simp) (fun z hz => by have := I2.size; omega) (fun z hz => get_one _ _ hz) (fun j _ hj h1 _ _ => by omega) (fun _ _ => rfl) (fun z _ hz => by omega) (fun z _ _ => ⟨rfl, rfl⟩) (fun z hz _ => I2.fits z hz)
            I2.chan I2.link I2.meet (fun h => F.stable _ _ (AsideN.at _ _ _ _) (I2.S h)) (fun j _ => by rw [Array.append_empty]) (by rw [Array.append_empty]; exact I2.pt) (by rw [Array.append_empty]; exact I2.kn) (by rw [Array.append_empty]; exact I2.sh)
          rwa [Array.append_empty] at this
    · obtain ⟨a', w', es, hgo, hd, hG'⟩ := hstep _ hA
      obtain ⟨M', ops, μ', h1, h2, h3⟩ := I.main_own F (sl := sl) (n' := n'' + 1) d hgo hd (by omega) (by omega) (.eat rfl hG')
      exact ⟨M', ops, h1, .inr ⟨μ', h2, h3⟩⟩
  | wait _ _ => cases hrun

theorem InvM.step (F : C.Fine) {μ : Nat × Nat} {M : Machine} {t : Trace} (h : InvM C Fin μ M t) :
    ∃ M' ops, stepT C.P M = (.next M', ops) ∧ (Done C Fin M' (t ++ ops) ∨ ∃ μ', Prod.Lex (· < ·) (· < ·) μ' μ ∧ InvM C Fin μ' M' (t ++ ops)) := by
  obtain ⟨gs, w, sl, m, st, r, q, k, l, n, a, rfl, I, rfl⟩ := h
  obtain ⟨i, g, d, sl', hi, hg, hst⟩ := crowd_pick (P := C.P) (w := w) (sl := sl) (I.awake F) (I.some1 F)
  rcases I.crew.idx hi with rfl | ⟨h1, h2⟩ | ⟨p, hp, rfl⟩
  · rw [I.main] at hi
    obtain rfl := Option.some.inj hi
    obtain ⟨M', ops, h1, h2⟩ := I.main_step F (sl := sl') hg d
    exact ⟨M', ops, hst.trans h1, h2⟩
  · obtain ⟨M', ops, μ', h3, h4, h5⟩ := I.old_step F (sl := sl') h1 h2 hi hg d
    exact ⟨M', ops, hst.trans h3, .inr ⟨μ', h4, h5⟩⟩
  · obtain ⟨M', ops, μ', h3, h4, h5⟩ := I.work_step F (sl := sl') hp hi hg d
    exact ⟨M', ops, hst.trans h3, .inr ⟨μ', h4, h5⟩⟩

theorem InvM.runs (F : C.Fine) : ∀ (μ : Nat × Nat) (M : Machine) (t : Trace), InvM C Fin μ M t → ∃ N M' t', runNT C.P N M t = (.next M', t') ∧ Done C Fin M' t' := by
  intro μ
  induction μ using (Prod.lex Nat.lt_wfRel Nat.lt_wfRel).wf.induction with
  | _ μ ih =>
    intro M t h
    obtain ⟨M', ops, hs, hd | ⟨μ', hlt, hI⟩⟩ := h.step F
    · exact ⟨1, M', t ++ ops, by simp only [runNT, hs], hd⟩
    · obtain ⟨N, M'', t', h1, h2⟩ := ih μ' hlt M' (t ++ ops) hI
      exact ⟨N + 1, M'', t', by rw [runNT_succ_next hs]; exact h1, h2⟩

/-- THE THEOREM. -/
theorem chain (F : C.Fine) (hsm : ∀ l, C.Still l → l.isMemory = true) (hss : ∀ l, C.Still l → ¬ C.Shun l) {gs : Array Goroutine} {a : Goroutine} {w : World} {sl : Option (Nat × Nat)} {t : Trace} {q : Nat → Nat} (hsz : gs.size = C.b0) (h0 : gs[0]? = some a)
    (hL : Leavers C.P t gs q) (hP : Past C.Shun C.B t) (h : Spawns C (Eats C Fin (full C.a C.vs (C.T - 1))) C.T a w) :
    ∃ N gs' a' w' sl' t' q', runNT C.P N (crowd gs w sl) t = (.next (crowd gs' w' sl'), t') ∧ gs'.size = C.b0 + C.T ∧ gs'[0]? = some a' ∧ Fin a' w' ∧ Leavers C.P t' gs' q' ∧ Past C.Shun C.B t' := by
  have hT := F.posT
  obtain ⟨T', hT'⟩ : ∃ T', C.T = T' + 1 := ⟨C.T - 1, by omega⟩
  have h2 : Spawns C (Eats C Fin (full C.a C.vs (C.T - 1))) (T' + 1) a w := hT' ▸ h
  obtain ⟨n, hn⟩ := h2
  have hz : C.T - (T' + 1) = 0 := by omega
  rw [hz] at hn
  have I : Inv C Fin gs w t 0 (fun _ => .want) (fun _ => 0) q (T' + 1) none (n + 1) a := by
    refine ⟨⟨by omega, by omega, fun i g h1 _ hg => hL.old i g h1 hg, hL.above, fun p hp => absurd hp (Nat.not_lt_zero p), fun p hp => absurd hp (Nat.not_lt_zero p), fun p hp => absurd hp (Nat.not_lt_zero p), fun p hp => absurd hp (Nat.not_lt_zero _), fun p hp => absurd hp (Nat.not_lt_zero _), fun h => absurd h (Nat.lt_irrefl 0),
      (PT.ofPast hP hsm hss).congr (fun g => ⟨fun h => h.elim, fun ⟨p, hp, _⟩ => absurd hp (Nat.not_lt_zero p)⟩) (fun g h => h.elim id fun ⟨p, hp, _⟩ => absurd hp (Nat.not_lt_zero p)), fun p hp => absurd hp (Nat.not_lt_zero p), fun p hp => absurd hp (Nat.not_lt_zero p)⟩, h0, .sp (by omega) hn, fun p hp => by omega, (fun l' hl => by cases hl), fun h => absurd rfl h⟩
  obtain ⟨N, M', t', h3, gs', w', sl', a', q', rfl, h4, h5, h6, h7, h8⟩ := InvM.runs F _ _ t ⟨gs, w, sl, 0, _, _, q, _, _, _, a, rfl, I, rfl⟩
  exact ⟨N, gs', a', w', sl', t', q', h3, h8, h4, h5, h6, h7⟩

#print axioms chain
end Go.Proofs.Ytdpagejckahkkaa.Net
