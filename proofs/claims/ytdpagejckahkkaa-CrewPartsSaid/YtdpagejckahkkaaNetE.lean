/- A chain of goroutines that hand numbers on: who offers what at a channel; one of the chain takes a step. -/
import Derived.Test.YtdpagejckahkkaaNetD
namespace Go.Proofs.Ytdpagejckahkkaa.Net
open Go Go.Conc
open Go.ConcN (sumTo upd upd_same upd_ne sumTo_congr sumTo_upd)

variable {C : Cfg} {Fin : Goroutine → World → Prop} {q : Nat → Nat} {gs : Array Goroutine} {w : World} {t : Trace} {m : Nat} {st : Nat → PS} {r : Nat → Nat}
variable {k n : Nat} {l : Option (List Int)} {a : Goroutine} {sl : Option (Nat × Nat)}

/-! ### who offers -/
theorem Inv.off_main (F : C.Fine) (I : Inv C Fin gs w t m st r q k l n a) (p : Nat) (send : Bool) (h : send = false → ¬ (p + 1 = C.T ∧ n = 0 ∧ l ≠ none)) : offersAt a (C.c p) send = [] := by
  have hs := I.sit
  cases hs with
  | sp _ hg => exact offersAt_of_not_blocked (by rw [hg.running (fun _ _ h => h.1) w (AsideN.refl _ _ w)]; simp) _ _
  | eat _ hg => exact offersAt_of_not_blocked (by rw [hg.running (fun _ _ => StopE.running) w (AsideN.refl _ _ w)]; simp) _ _
  | wait _ _ =>
    cases send with
    | true => exact offersAt_parked_recv' _ _ _ _ _
    | false =>
      have hT := F.posT
      rw [offersAt_parked_recv, if_neg fun e => h rfl ⟨by have := F.inj _ _ e; omega, rfl, by simp⟩]
theorem Inv.off (F : C.Fine) (I : Inv C Fin gs w t m st r q k l n a) {j : Nat} {g : Goroutine} (hj : gs[j]? = some g) (p : Nat) (send : Bool) (h0 : j ≠ 0) (h : (send = false → j ≠ C.b0 + (p + 1)) ∧ (send = true → j ≠ C.b0 + p)) : offersAt g (C.c p) send = [] := by
  rcases I.crew.idx hj with e | ⟨h1, h2⟩ | ⟨x, hx, rfl⟩
  · exact absurd e h0
  · exact offersAt_of_not_blocked (by rcases (I.crew.old j g h1 h2 hj).status with h | h <;> simp [h]) _ _
  · obtain ⟨g', hg', hs⟩ := I.crew.work x hx
    rw [hj] at hg'
    obtain rfl := Option.some.inj hg'
    exact hs.offers F.inj (I.crew.S (by omega)) (I.crew.fits x hx) send ⟨fun e => by have := h.2 e; omega, fun e => by have := h.1 e; omega⟩

/-- Nobody waits to receive from number p. -/
theorem Inv.no_taker (F : C.Fine) (I : Inv C Fin gs w t m st r q k l n a) (i p : Nat) (h1 : p + 1 < m → ¬ (st (p + 1) = .want ∧ r (p + 1) = 0)) (h2 : ¬ (p + 1 = C.T ∧ n = 0 ∧ l ≠ none)) : partners (gs.setIfInBounds i ph) (C.c p) false = [] := by
  refine partners_nil fun j g hj => ?_
  rcases getElem?_stand gs i j g hj with ⟨_, rfl⟩ | ⟨_, hj'⟩
  · exact offersAt_ph _ _
  · rcases Nat.eq_zero_or_pos j with rfl | hpos
    · rw [I.main] at hj'; obtain rfl := Option.some.inj hj'
      exact I.off_main F p false fun _ => h2
    · by_cases e : j = C.b0 + (p + 1)
      · subst e
        have hx : p + 1 < m := by have := (Array.getElem?_eq_some_iff.1 hj').1; rw [I.crew.size] at this; omega
        obtain ⟨g', hg', hs⟩ := I.crew.work (p + 1) hx
        rw [hj'] at hg'
        obtain rfl := Option.some.inj hg'
        have hn := h1 hx
        generalize st (p + 1) = s at hs hn
        generalize r (p + 1) = rp at hs hn
        cases hs with
        | gone hq => exact offersAt_of_not_blocked (by rcases hq.status with h | h <;> simp [h]) _ _
        | way _ hg => exact offersAt_of_not_blocked (by rw [hg.running (I.crew.S (by omega))]; simp) _ _
        | gives _ _ => exact offersAt_parked_send' _ _ _ _ _ _
        | takes _ => exact absurd ⟨rfl, rfl⟩ hn
      · exact I.off F hj' p false (by omega) ⟨fun _ => e, fun h => by cases h⟩
/-- Nobody waits to send on number p's channel. -/
theorem Inv.no_giver (F : C.Fine) (I : Inv C Fin gs w t m st r q k l n a) (i p : Nat) (h1 : p < m → i ≠ C.b0 + p → ¬ ((st p).give.isSome ∧ r p = 0)) : partners (gs.setIfInBounds i ph) (C.c p) true = [] := by
  refine partners_nil fun j g hj => ?_
  rcases getElem?_stand gs i j g hj with ⟨_, rfl⟩ | ⟨hne, hj'⟩
  · exact offersAt_ph _ _
  · rcases Nat.eq_zero_or_pos j with rfl | hpos
    · rw [I.main] at hj'; obtain rfl := Option.some.inj hj'
      exact I.off_main F p true fun h => by cases h
    · by_cases e : j = C.b0 + p
      · subst e
        have hx : p < m := by have := (Array.getElem?_eq_some_iff.1 hj').1; rw [I.crew.size] at this; omega
        obtain ⟨g', hg', hs⟩ := I.crew.work p hx
        rw [hj'] at hg'
        obtain rfl := Option.some.inj hg'
        have hn := h1 hx (Ne.symm hne)
        generalize st p = s at hs hn
        generalize r p = rp at hs hn
        cases hs with
        | gone hq => exact offersAt_of_not_blocked (by rcases hq.status with h | h <;> simp [h]) _ _
        | way _ hg => exact offersAt_of_not_blocked (by rw [hg.running (I.crew.S (by omega))]; simp) _ _
        | gives hg _ => exact absurd ⟨by rw [hg]; rfl, rfl⟩ hn
        | takes _ => exact offersAt_parked_recv' _ _ _ _ _
      · exact I.off F hj' p true (by omega) ⟨(fun h => by cases h), fun _ => e⟩
theorem Inv.one_taker (F : C.Fine) (I : Inv C Fin gs w t m st r q k l n a) {i p : Nat} {gj : Goroutine} {sh : CommShape} (hi : i ≠ C.b0 + (p + 1)) (hj : gs[C.b0 + (p + 1)]? = some (parked gj #[rcase (C.c p) zer] sh)) (h2 : ¬ (p + 1 = C.T)) :
    partners (gs.setIfInBounds i ph) (C.c p) false = [(C.b0 + (p + 1), 0)] := by
  rw [partners_one (j := C.b0 + (p + 1)) (stand_get (Ne.symm hi) hj) fun j g hne hj' => ?_, offersAt_parked_recv, if_pos rfl]
  · rfl
  rcases getElem?_stand gs i j g hj' with ⟨_, rfl⟩ | ⟨_, hj''⟩
  · exact offersAt_ph _ _
  · rcases Nat.eq_zero_or_pos j with rfl | hpos
    · rw [I.main] at hj''; obtain rfl := Option.some.inj hj''
      exact I.off_main F p false fun _ h => h2 h.1
    · exact I.off F hj'' p false (by omega) ⟨fun _ => hne, fun h => by cases h⟩
theorem Inv.one_eater (F : C.Fine) (I : Inv C Fin gs w t m st r q k l n a) {i p : Nat} {gj : Goroutine} {sh : CommShape} (hi : i ≠ 0) (ha : a = parked gj #[rcase (C.c p) zer] sh) (hm : m ≤ p + 1) :
    partners (gs.setIfInBounds i ph) (C.c p) false = [(0, 0)] := by
  subst ha
  rw [partners_one (j := 0) (stand_get (Ne.symm hi) I.main) fun j g hne hj' => ?_, offersAt_parked_recv, if_pos rfl]
  · rfl
  rcases getElem?_stand gs i j g hj' with ⟨_, rfl⟩ | ⟨_, hj''⟩
  · exact offersAt_ph _ _
  · refine I.off F hj'' p false hne ⟨fun _ e => ?_, fun h => by cases h⟩
    have := (Array.getElem?_eq_some_iff.1 hj'').1
    rw [I.crew.size] at this
    omega
theorem Inv.one_giver (F : C.Fine) (I : Inv C Fin gs w t m st r q k l n a) {i p : Nat} {gj : Goroutine} {sh : CommShape} {v z : Value} (hi : i ≠ C.b0 + p) (hj : gs[C.b0 + p]? = some (parked gj #[scase (C.c p) v z] sh)) :
    partners (gs.setIfInBounds i ph) (C.c p) true = [(C.b0 + p, 0)] := by
  rw [partners_one (j := C.b0 + p) (stand_get (Ne.symm hi) hj) fun j g hne hj' => ?_, offersAt_parked_send, if_pos rfl]
  · rfl
  rcases getElem?_stand gs i j g hj' with ⟨_, rfl⟩ | ⟨_, hj''⟩
  · exact offersAt_ph _ _
  · rcases Nat.eq_zero_or_pos j with rfl | hpos
    · rw [I.main] at hj''; obtain rfl := Option.some.inj hj''
      exact I.off_main F p true fun h => by cases h
    · exact I.off F hj'' p true (by omega) ⟨(fun h => by cases h), fun _ => hne⟩

/-- A number in a function's place turned: the sum. -/
theorem sumTo_upd' (f : Nat → Nat) (x : Nat) {i j : Nat} (h : i < j) : sumTo j (upd f i x) + f i = sumTo j f + x := by
  have := sumTo_upd f x id h
  simpa using this

/-- One of the chain takes a step of its own: it is gone, or on its way. -/
theorem Inv.work_own (F : C.Fine) (I : Inv C Fin gs w t m st r q k l n a) {p : Nat} (hp : p < m) {g g' : Goroutine} {es : Array Event} {n' : Nat} (hg : gs[C.b0 + p]? = some g) (d : Nat) (hlt : n' < r p)
    (hgo : stepG C.P false g (w.at d) = .go g' (w.at d) es) (hes : ∀ e ∈ es, EvC C.Still C.B e) (hes0 : st p = .gone → es = #[]) (hn : n' = 0 → st p = .gone) (hs : Sit C p (st p) n' g') :
    ∃ M' ops μ', runT C.P (crowd gs (w.at d) sl) (C.b0 + p) = (.next M', ops) ∧ Prod.Lex (· < ·) (· < ·) μ' (mass C k m st, fuel C n m r q) ∧ InvM C Fin μ' M' (t ++ ops) := by
  have hb := F.pos
  have hi0 : (C.b0 + p == 0) = false := by simp; omega
  have hrunT := runT_crowd_go (P := C.P) (sl := sl) (i := C.b0 + p) hg (by rw [hi0]; exact hgo)
  have hfed : ∀ p, p < m → st p ≠ .gone → ∃ a b, (w.at d).heap[C.c p]? = some (.chan 0 #[] false a b false) := I.crew.open_ fun _ _ => rfl
  have hwm : n = 0 → ∃ a b, (w.at d).heap[C.c (C.T - 1)]? = some (.chan 0 #[] false a b false) := fun hn => by
    have hl : l ≠ none := by rintro rfl; cases I.sit; omega
    have hmT := I.mT_of hl
    have := F.posT
    exact hfed _ (by omega) (I.fed hl hn).1
  have hstill := I.crew.still (i := C.b0 + p) (x := g) (x' := g') hfed I.main fun _ => I.sit.woken hwm
  obtain ⟨o1, o2, o3, o4⟩ := EvW.ops (g := C.b0 + p) (fn := g.frame.fn) (pos := g.frame.place) fun e he => evC_W (hes e he)
  have hsum := sumTo_upd' r n' hp
  have hu : ∀ op ∈ MemOp.ofEvents (C.b0 + p) g.frame.fn g.frame.place es, op.act.touch? = none ∨ op.g = 0 ∨ ∃ x, x < m ∧ op.g = C.b0 + x ∧ st x ≠ .gone := fun op h => by
    by_cases e : st p = .gone
    · rw [hes0 e, Go.Conc.ofEvents_none] at h; simp at h
    · exact .inr (.inr ⟨p, hp, o1 op h, e⟩)
  refine ⟨_, _, (mass C k m st, fuel C n m (upd r p n') q), hrunT, .right _ (by unfold fuel; omega), _, _, _, m, st, upd r p n', q, k, l, n, a, rfl, ⟨?_, by rw [hstill 0 (by omega)]; exact I.main, I.sit.rely (AsideN.at _ _ _ _), I.start, I.eat, fun h1 h2 => ?_⟩, rfl⟩
  · refine I.crew.turn (D := fun j => j = C.b0 + p) (by simp) (fun k hk => by subst hk; exact (Array.getElem?_eq_some_iff.1 hg).1) hstill (fun j x hj h1 h2 _ => by omega) (fun _ _ => rfl) (fun x _ hx => ?_) (fun x _ hx => ⟨rfl, upd_ne _ _ (by omega)⟩) (fun x hx _ => I.crew.fits x hx)
      I.crew.chan I.crew.link (fun x hx h1 h2 => ?_) (fun h => F.stable _ _ (AsideN.at _ _ _ _) (I.crew.S h)) (fun j _ => o4 t j)
      (I.crew.pt.work (g := C.b0 + p) ⟨p, hp, rfl⟩ o1 o2 (fun g _ => o4 t g) o3)
      (fun p hp h => I.crew.kn_app hu hb hp h) (fun p hp h => I.crew.sh_app hu hb hp h)
    · obtain rfl : x = p := by omega
      exact ⟨g', get_self' _ _ hg, by rw [upd_same]; exact hs⟩
    · have h3 : r (x + 1) = 0 := by
        by_cases e : x + 1 = p
        · subst e; rw [upd_same] at h2; have := hn h2; rw [h1] at this; cases this
        · rwa [upd_ne _ _ e] at h2
      obtain ⟨f1, f2⟩ := I.crew.meet x hx h1 h3
      refine ⟨f1, fun ⟨z1, z2⟩ => ?_⟩
      by_cases e : x = p
      · subst e; rw [upd_same] at z2; exact f1 (hn z2)
      · rw [upd_ne _ _ e] at z2; exact f2 ⟨z1, z2⟩
  · obtain ⟨f1, f2⟩ := I.fed h1 h2
    refine ⟨f1, fun ⟨z1, z2⟩ => ?_⟩
    by_cases e : C.T - 1 = p
    · subst e; rw [upd_same] at z2; exact f1 (hn z2)
    · rw [upd_ne _ _ e] at z2; exact f2 ⟨z1, z2⟩

/-- One of the chain is parked. -/
theorem Inv.work_parks (F : C.Fine) (I : Inv C Fin gs w t m st r q k l n a) {p : Nat} (hp : p < m) {g x : Goroutine} (hg : gs[C.b0 + p]? = some g) (d : Nat) (hlt : 0 < r p) (hs : Sit C p (st p) 0 x)
    (hrun : runT C.P (crowd gs (w.at d) sl) (C.b0 + p) = (.next (crowd (gs.setIfInBounds (C.b0 + p) x) (w.at d) sl), #[]))
    (h1 : st p = .want → ∀ y, p = y + 1 → st y ≠ .gone ∧ ¬ ((st y).give.isSome ∧ r y = 0)) (h2 : (st p).give.isSome → p + 1 < m → ¬ (st (p + 1) = .want ∧ r (p + 1) = 0)) (h3 : (st p).give.isSome → p + 1 = C.T → ¬ (l ≠ none ∧ n = 0)) (hng : st p ≠ .gone) :
    ∃ M' ops μ', runT C.P (crowd gs (w.at d) sl) (C.b0 + p) = (.next M', ops) ∧ Prod.Lex (· < ·) (· < ·) μ' (mass C k m st, fuel C n m r q) ∧ InvM C Fin μ' M' (t ++ ops) := by
  have hb := F.pos
  have hsum := sumTo_upd' r 0 hp
  refine ⟨_, _, (mass C k m st, fuel C n m (upd r p 0) q), hrun, .right _ (by unfold fuel; omega), _, _, _, m, st, upd r p 0, q, k, l, n, a, rfl, ⟨?_, by rw [get_one _ _ (by omega)]; exact I.main, I.sit.rely (AsideN.at _ _ _ _), I.start, I.eat, fun f1 f2 => ?_⟩, rfl⟩
  · have hu : ∀ op ∈ (#[] : Trace), op.act.touch? = none ∨ op.g = 0 ∨ ∃ x, x < m ∧ op.g = C.b0 + x ∧ st x ≠ .gone := fun op h => by simp at h
    refine I.crew.turn (D := fun j => j = C.b0 + p) (by simp) (fun k hk => by subst hk; exact (Array.getElem?_eq_some_iff.1 hg).1) (fun k hk => get_one _ _ hk) (fun j x hj h1 h2 _ => by omega) (fun _ _ => rfl) (fun y _ hy => ?_) (fun y _ hy => ⟨rfl, upd_ne _ _ (by omega)⟩) (fun x hx _ => I.crew.fits x hx)
      I.crew.chan I.crew.link (fun y hy z1 z2 => ?_) (fun h => F.stable _ _ (AsideN.at _ _ _ _) (I.crew.S h)) (fun j _ => by rw [Array.append_empty]) (by rw [Array.append_empty]; exact I.crew.pt)
      (fun p hp h => I.crew.kn_app hu hb hp h) (fun p hp h => I.crew.sh_app hu hb hp h)
    · obtain rfl : y = p := by omega
      exact ⟨x, get_self _ hg, by rw [upd_same]; exact hs⟩
    · by_cases e : y + 1 = p
      · obtain ⟨u1, u2⟩ := h1 (e ▸ z1) y e.symm
        refine ⟨u1, fun ⟨v1, v2⟩ => ?_⟩
        rw [upd_ne _ _ (by omega)] at v2
        exact u2 ⟨v1, v2⟩
      · rw [upd_ne _ _ e] at z2
        obtain ⟨u1, u2⟩ := I.crew.meet y hy z1 z2
        refine ⟨u1, fun ⟨v1, v2⟩ => ?_⟩
        by_cases e' : y = p
        · subst e'; exact h2 v1 hy ⟨z1, z2⟩
        · rw [upd_ne _ _ e'] at v2; exact u2 ⟨v1, v2⟩
  · obtain ⟨u1, u2⟩ := I.fed f1 f2
    refine ⟨u1, fun ⟨v1, v2⟩ => ?_⟩
    by_cases e : C.T - 1 = p
    · subst e
      exact h3 v1 (by have := F.posT; omega) ⟨f1, f2⟩
    · rw [upd_ne _ _ e] at v2; exact u2 ⟨v1, v2⟩

end Go.Proofs.Ytdpagejckahkkaa.Net
