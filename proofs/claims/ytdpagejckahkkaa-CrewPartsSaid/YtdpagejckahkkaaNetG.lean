/- A chain of goroutines that hand numbers on: a number leaves the chain; goroutine 0's own steps; every step of one of the chain. -/
import Derived.Test.YtdpagejckahkkaaNetF
namespace Go.Proofs.Ytdpagejckahkkaa.Net
open Go Go.Conc
open Go.ConcN (sumTo upd upd_same upd_ne sumTo_congr sumTo_upd)

variable {C : Cfg} {Fin : Goroutine → World → Prop} {q : Nat → Nat} {gs : Array Goroutine} {w : World} {t : Trace} {m : Nat} {st : Nat → PS} {r : Nat → Nat}
variable {k n : Nat} {l : Option (List Int)} {a : Goroutine} {sl : Option (Nat × Nat)}

/-- What goroutine 0 lists. -/
theorem Inv.listed (F : C.Fine) (I : Inv C Fin gs w t m st r q k l n a) {fn : FuncId} {pos : String} {es : Array Event} (hes : ∀ e ∈ es, EvM C.Shun C.Still C.B e) : Inv C Fin gs w (t ++ MemOp.ofEvents 0 fn pos es) m st r q k l n a := by
  obtain ⟨o1, o2, o3, o4⟩ := EvM.ops (g := 0) (fn := fn) (pos := pos) hes
  have hu : ∀ op ∈ MemOp.ofEvents 0 fn pos es, op.act.touch? = none ∨ op.g = 0 ∨ ∃ x, x < m ∧ op.g = C.b0 + x ∧ st x ≠ .gone := fun op h => .inr (.inl (o1 op h))
  exact ⟨I.crew.turn (D := fun _ => False) rfl (fun _ h => h.elim) (fun _ _ => rfl) (fun _ _ h => h.elim) (fun _ _ => rfl) (fun _ _ h => h.elim) (fun _ _ _ => ⟨rfl, rfl⟩) (fun _ _ h => h.elim) I.crew.chan I.crew.link I.crew.meet I.crew.S (fun j _ => o4 t j)
    (I.crew.pt.main o1 o2 (fun j _ => o4 t j) o3) (fun p hp h => I.crew.kn_app hu F.pos hp h) (fun p hp h => I.crew.sh_app hu F.pos hp h), I.main, I.sit, I.start, I.eat, I.fed⟩

/-- A number leaves the chain. -/
theorem Inv.feed (F : C.Fine) (I : Inv C Fin gs w t m st r q k l n a) {p : Nat} (hp : p + 1 = C.T) (hm : m = C.T) {v : Int} {s' : PS} (hg : (st p).give = some (v, s')) {rest : List Int} (hl : l = some (v :: rest)) {gs' : Array Goroutine} {u : Trace} {x y : Goroutine}
    (hsz : gs'.size = gs.size) (hget : ∀ k, k ≠ 0 → k ≠ C.b0 + p → gs'[k]? = gs[k]?) (hx : gs'[C.b0 + p]? = some x) (hy : gs'[0]? = some y) (Wx : C.W p s' x) (d s1 r1 : Nat) (hE : Eats C Fin rest y ((w.at d).setChan (C.c p) 0 #[] false s1 r1 false))
    (hu1 : ∀ op ∈ u, op.act.touch? = none) (hu2 : ∀ g, ∀ op ∈ u, ∀ d, deafStep g d op = d) (hu3 : ∀ op ∈ u, op.act.low C.B) :
    ∃ μ', Prod.Lex (· < ·) (· < ·) μ' (mass C k m st, fuel C n m r q) ∧ InvM C Fin μ' (crowd gs' ((w.at d).setChan (C.c p) 0 #[] false s1 r1 false) sl) (t ++ u) := by
  have hb := F.pos
  subst hm
  obtain ⟨g1, g2, g3, g4, g5⟩ := give_ne hg
  obtain ⟨n1, hn1⟩ := F.walk p s' x (by omega) g4 Wx
  obtain ⟨n2, hn2⟩ := (eats_iff C Fin rest _ _).1 hE
  have hf := I.crew.fits p (by omega)
  have hA : AsideN C.c C.T w ((w.at d).setChan (C.c p) 0 #[] false s1 r1 false) := (AsideN.at C.c C.T w d).trans (AsideN.setChan (by omega) _ _ _ _ _ _ _)
  have hs3 : ∀ z, z ≠ p → upd st p s' z = st z := fun z h => upd_ne _ _ h
  have hk : k = 0 := by subst hl; cases I.sit <;> rfl
  subst hk
  have hu : ∀ op ∈ u, op.act.touch? = none ∨ op.g = 0 ∨ ∃ x, x < C.T ∧ op.g = C.b0 + x ∧ st x ≠ .gone := fun op h => .inl (hu1 op h)
  refine ⟨_, .left _ _ ?_, gs', _, sl, C.T, upd st p s', upd r p (n1 + 1), q, 0, some rest, n2 + 1, y, rfl, ⟨?_, hy, .eat rfl hn2, (fun z hz hl => by cases hl), fun l' hl' => ?_, fun _ f2 => by omega⟩, rfl⟩
  · have := phi_gave (a := C.a) hf hg hp
    unfold mass; omega
  · refine I.crew.turn (D := fun j => j = 0 ∨ j = C.b0 + p) hsz (fun z hz => by have := I.crew.size; omega) (fun z hz => hget z (fun e => hz (.inl e)) (fun e => hz (.inr e))) (fun j _ hj h1 h2 _ => by omega) (fun _ _ => rfl)
      (fun z _ hz => ?_) (fun z _ hz => ⟨hs3 z (by omega), upd_ne _ _ (by omega)⟩) (fun z _ hz => ?_) (fun z hz => ?_) (fun z hz h => ?_) (fun z hz h1 h2 => ?_) (fun h => F.stable _ _ hA (I.crew.S h)) (fun j _ => Deaf_quiet (hu2 j))
      (I.crew.pt.mute hu1 (fun g _ => hu2 g) hu3) (fun z hz h => ?_) (fun z hz h => ?_)
    · obtain rfl : z = p := by omega
      exact ⟨x, hx, by rw [upd_same, upd_same]; exact .way g4 hn1⟩
    · obtain rfl : z = p := by omega
      rw [upd_same]; exact fits_give hf hg
    · obtain ⟨s2, r2, hc⟩ := I.crew.chan z hz
      by_cases e : z = p
      · subst e
        exact ⟨s1, r1, by rw [heap_setChan_self' (w := w.at d) (o := .chan 0 #[] (isGone (st z)) s2 r2 false) hc, upd_same, isGone_false g4]⟩
      · exact ⟨s2, r2, by rw [heap_setChan_ne' (fun h => e (F.inj _ _ h)), show (w.at d).heap[C.c z]? = w.heap[C.c z]? from rfl, hc, hs3 z e]⟩
    · by_cases e1 : z + 1 = p
      · rw [e1, upd_same] at h; rcases h with h | h
        · exact absurd h g5
        · exact absurd h g4
      · rw [hs3 _ e1] at h
        rw [hs3 z (by omega)]
        exact I.crew.link z hz h
    · by_cases e1 : z + 1 = p
      · rw [e1, upd_same] at h2; omega
      · rw [hs3 _ e1] at h1
        rw [upd_ne _ _ e1] at h2
        rw [hs3 z (by omega), upd_ne _ _ (by omega)]
        exact I.crew.meet z hz h1 h2
    · refine I.crew.kn_app hu hb hz ?_
      rcases h with h | h
      · exact .inl h
      · by_cases e1 : z = p
        · subst e1; rw [upd_same] at h; rcases h with h | h
          · exact absurd h g5
          · exact absurd h g4
        · rw [hs3 z e1] at h; exact .inr h
    · refine I.crew.sh_app hu hb hz ?_
      by_cases e1 : z = p
      · subst e1; rw [upd_same] at h; exact absurd h g4
      · rw [hs3 z e1] at h; exact h
  · obtain rfl := Option.some.inj hl'
    have h1 := I.eat _ hl
    have h2 := out_give (a := C.a) hf hg
    have : C.T - 1 = p := by omega
    rw [this] at h1 ⊢
    rw [h2] at h1
    exact (List.cons.inj h1).2

/-- Goroutine 0 finds the chain's last channel shut. -/
theorem Inv.ends (F : C.Fine) (I : Inv C Fin gs w t m st r q k l n a) (hm : m = C.T) (hz : st (C.T - 1) = .gone) {y : Goroutine} (d : Nat) (hF : Fin y (w.at d)) (fn : FuncId) (pos : String) :
    Done C Fin (crowd (gs.setIfInBounds 0 y) (w.at d) sl) (t ++ #[{ g := 0, fn, pos, act := .recvClosed (C.c (C.T - 1)) }]) := by
  have hb := F.pos
  have hT := F.posT
  subst hm
  have hall : ∀ p, p < C.T → st p = .gone := fun p hp => by
    by_cases e : p = C.T - 1
    · rw [e]; exact hz
    · exact I.crew.back (p := C.T - 1) (by omega) (.inr hz) (by omega)
  generalize huu : (#[{ g := 0, fn, pos, act := .recvClosed (C.c (C.T - 1)) }] : Trace) = u
  have hu1 : ∀ op ∈ u, op.act.touch? = none := fun op h => by subst huu; simp at h; subst h; rfl
  have hu2 : ∀ g, ∀ op ∈ u, ∀ d, deafStep g d op = d := fun g op h d => by subst huu; simp at h; subst h; rfl
  have hu3 : ∀ op ∈ u, op.act.low C.B := fun op h => by subst huu; simp at h; subst h; exact F.low _ (by omega)
  have hk : KnowsOf (Upto C.b0 (C.T - 1)) 0 (t ++ u) := by
    subst huu
    exact KnowsOf.take (I.crew.sh (C.T - 1) (by omega) hz) rfl rfl (I.crew.pt.hears 0 (.inl rfl))
  refine ⟨_, _, sl, y, fun i => if i < C.b0 then q i else r (i - C.b0), rfl, get_self _ I.main, hF, ⟨fun i g hi hg => ?_, fun j hj => ?_⟩, ?_, by simp [I.crew.size]⟩
  · rw [get_one _ _ (by omega)] at hg
    rw [Deaf_quiet (hu2 i)]
    rcases I.crew.idx hg with e | ⟨h1, h2⟩ | ⟨p, hp, rfl⟩
    · omega
    · simp only [if_pos h2]; exact I.crew.old i g h1 h2 hg
    · rw [if_neg (by omega), show C.b0 + p - C.b0 = p by omega, I.crew.pt.hears _ (.inr ⟨p, hp, rfl⟩)]
      obtain ⟨g', hg', hs⟩ := I.crew.work p hp
      rw [hg] at hg'
      obtain rfl := Option.some.inj hg'
      have hgn := hall p hp
      generalize st p = s at hs hgn
      generalize r p = rp at hs
      cases hs with
      | gone hq => exact QuitsD.of_quitsIn hq
      | way hne _ => exact absurd hgn hne
      | gives hg _ => subst hgn; simp [PS.give] at hg
      | takes _ => cases hgn
  · rw [Deaf_quiet (hu2 j)]; exact I.crew.above j (by simpa using hj)
  · have hp := I.crew.pt.mute (u := u) hu1 (fun g _ => hu2 g) hu3
    haveI : DecidablePred (Team C.b0 C.T) := fun _ => Classical.propDecidable _
    exact hp.toPast (.inl rfl) (fun _ h => h) fun i b g h1 h2 ⟨x, hx, e⟩ => hk i b g h1 h2 ⟨x, by omega, e⟩

/-- Goroutine 0 takes a step of its own. -/
theorem Inv.main_own (F : C.Fine) (I : Inv C Fin gs w t m st r q k l n a) (d : Nat) {a' : Goroutine} {w' : World} {es : Array Event} {n' : Nat} (hgo : stepG C.P true a (w.at d) = .go a' w' es) (hd : DM C m (w.at d) w' es) (hlt : n' < n) (hn : 0 < n') (hs : MSit C Fin m k l n' a' w') :
    ∃ M' ops μ', runT C.P (crowd gs (w.at d) sl) 0 = (.next M', ops) ∧ Prod.Lex (· < ·) (· < ·) μ' (mass C k m st, fuel C n m r q) ∧ InvM C Fin μ' M' (t ++ ops) := by
  have hb := F.pos
  have hrunT := runT_crowd_go (P := C.P) (sl := sl) (i := 0) I.main (show stepG C.P (0 == 0) a (w.at d) = _ from hgo)
  have hch : ∀ p, p < m → w'.heap[C.c p]? = w.heap[C.c p]? := fun p hp => hd.2.1 p hp
  have hstill := I.crew.still (i := 0) (x := a) (x' := a') (I.crew.open_ hch) I.main fun h => absurd rfl h
  obtain ⟨o1, o2, o3, o4⟩ := EvM.ops (g := 0) (fn := a.frame.fn) (pos := a.frame.place) hd.2.2
  have hu : ∀ op ∈ MemOp.ofEvents 0 a.frame.fn a.frame.place es, op.act.touch? = none ∨ op.g = 0 ∨ ∃ x, x < m ∧ op.g = C.b0 + x ∧ st x ≠ .gone := fun op h => .inr (.inl (o1 op h))
  refine ⟨_, _, (mass C k m st, fuel C n' m r q), hrunT, .right _ (by unfold fuel; omega), _, _, _, m, st, r, q, k, l, n', a', rfl, ⟨?_, get_self' _ _ I.main, hs, I.start, I.eat, fun _ h => by omega⟩, rfl⟩
  exact I.crew.turn (D := fun j => j = 0) (by simp) (fun z hz => by have := I.crew.size; omega) hstill (fun j _ hj h1 _ _ => by omega) (fun _ _ => rfl) (fun z _ hz => by omega) (fun z _ _ => ⟨rfl, rfl⟩) (fun z hz _ => I.crew.fits z hz)
    (fun p hp => by rw [hch p hp]; exact I.crew.chan p hp) I.crew.link I.crew.meet (fun h => hd.1 (F.stable _ _ (AsideN.at _ _ _ _) (I.crew.S h))) (fun j _ => o4 t j) (I.crew.pt.main o1 o2 (fun j _ => o4 t j) o3) (fun p hp h => I.crew.kn_app hu hb hp h) (fun p hp h => I.crew.sh_app hu hb hp h)

theorem PT.congr {Shun Still : Loc → Prop} {B : Nat} {W W' Hr Hr' : Nat → Prop} {t : Trace} (H : PT Shun Still B W Hr t) (h : ∀ g, W g ↔ W' g) (h' : ∀ g, Hr' g → Hr g) : PT Shun Still B W' Hr' t :=
  ⟨H.clean, fun i a ha hm => (H.known i a ha hm).imp id (Or.imp id fun ⟨x, y, g, z, u⟩ => ⟨x, y, g, z, (h g).1 u⟩), fun i a ha hw hS g hg => H.wrote i a ha hw hS g (hg.imp id (h g).2), fun g hg => H.hears g (h' g hg), fun i g hg hne hw hc => H.over i g hg hne (fun x => hw ((h g).1 x)) hc, H.seen⟩

/-- Goroutine 0 starts one more. -/
theorem Inv.main_go (F : C.Fine) (I : Inv C Fin gs w t m st r q (k + 1) none n a) (d : Nat) (hk : m + (k + 1) = C.T) (hat : AtGoN C m (Spawns C (Eats C Fin (full C.a C.vs (C.T - 1))) k) a (w.at d)) :
    ∃ M' ops μ', runT C.P (crowd gs (w.at d) sl) 0 = (.next M', ops) ∧ Prod.Lex (· < ·) (· < ·) μ' (mass C (k + 1) m st, fuel C n m r q) ∧ InvM C Fin μ' M' (t ++ ops) := by
  have hb := F.pos
  obtain ⟨_, g', child, es, hgo, hes, hW, hS, hc, hN⟩ := hat
  have hrunT := runT_crowd_spawn (P := C.P) (sl := sl) (i := 0) I.main (show stepG C.P (0 == 0) a (w.at d) = _ from hgo)
  have e1 : ((MemOp.ofEvents 0 a.frame.fn a.frame.place es).push { g := 0, fn := a.frame.fn, pos := a.frame.place, act := .go gs.size } |>.push { g := gs.size, fn := child.frame.fn, pos := a.frame.place, act := .start }) = MemOp.ofEvents 0 a.frame.fn a.frame.place es ++ gone gs.size a.frame.fn a.frame.place child.frame.fn := by
    rw [Array.push_eq_append, Array.push_eq_append, Array.append_assoc]; rfl
  rw [e1] at hrunT
  have I' := I.listed F (fn := a.frame.fn) (pos := a.frame.place) hes
  have hsz := I.crew.size
  have hmT : m < C.T := by omega
  obtain ⟨nc, hnc⟩ := F.walk m _ child hmT (by unfold birth; split <;> simp) hW
  obtain ⟨l', n', hs', hl'⟩ : ∃ l' n', MSit C Fin (m + 1) k l' (n' + 1) g' (w.at d) ∧ (l' = if k = 0 then some (full C.a C.vs (C.T - 1)) else none) := by
    have h := hN (w.at d) (AsideN.refl _ _ _)
    cases k with
    | zero =>
      obtain ⟨n', hn'⟩ := (eats_iff C Fin _ _ _).1 h
      exact ⟨_, n', .eat (by omega) hn', rfl⟩
    | succ k =>
      obtain ⟨n', hn'⟩ := h
      refine ⟨none, n', .sp (by omega) ?_, rfl⟩
      rw [show C.T - (k + 1) = m + 1 by omega] at hn'
      exact hn'
  have hqt : ∀ j, Deaf (t ++ MemOp.ofEvents 0 a.frame.fn a.frame.place es ++ gone gs.size a.frame.fn a.frame.place child.frame.fn) j = Deaf (t ++ MemOp.ofEvents 0 a.frame.fn a.frame.place es) j := fun j => Deaf_quiet (gone_quiet _ _ _ _ j)
  have hlow : ∀ z, z < gs.size → z ≠ 0 → ((gs.setIfInBounds 0 g').push child)[z]? = gs[z]? := fun z hz h0 => by
    rw [Array.getElem?_push, if_neg (by simp; omega), get_one _ _ h0]
  have hnew : ((gs.setIfInBounds 0 g').push child)[C.b0 + m]? = some child := by rw [Array.getElem?_push, if_pos (by simp; omega)]
  have hu : ∀ op ∈ gone gs.size a.frame.fn a.frame.place child.frame.fn, op.act.touch? = none ∨ op.g = 0 ∨ ∃ x, x < m ∧ op.g = C.b0 + x ∧ st x ≠ .gone := fun op h => .inl (gone_mute _ _ _ _ op h)
  have hst : birth C m ≠ .done ∧ birth C m ≠ .gone := by unfold birth; split <;> simp
  refine ⟨_, _, (mass C k (m + 1) (upd st m (birth C m)), fuel C (n' + 1) (m + 1) (upd r m (nc + 1)) q), hrunT, .left _ _ ?_, _, _, _, m + 1, upd st m (birth C m), upd r m (nc + 1), q, k, l', n' + 1, g', rfl, ⟨?_, ?_, hs', fun z hz hl => ?_, fun l'' hl => ?_, fun _ h => by omega⟩, rfl⟩
  · unfold mass
    rw [phi_more]
    have h1 : (out C.a (upd st m (birth C m)) m).length ≤ C.vs.length := by
      cases m with
      | zero => simp [out, upd_same, birth]
      | succ m =>
        simp only [out, upd_same, birth, if_neg (Nat.succ_ne_zero m), List.length_map]
        rw [out_above (Nat.lt_succ_self m), I.start m rfl rfl, full_length]
        exact Nat.le_refl _
    have h2 : (birth C m).wt ≤ 2 := by unfold birth; split <;> simp [PS.wt]
    rw [Nat.mul_succ]; omega
  · rw [← Array.append_assoc]
    refine ⟨by simp [hsz]; omega, by omega, fun i g h1 h2 hg => ?_, fun j hj => ?_, fun p hp => ?_, fun p hp => ?_, fun p hp => ?_, fun p hp h => ?_, fun p hp h1 h2 => ?_, fun _ => hS, ?_, fun p hp h => ?_, fun p hp h => ?_⟩
    · rw [hlow i (by omega) (by omega)] at hg
      rw [hqt]; exact I'.crew.old i g h1 h2 hg
    · rw [hqt]; exact I'.crew.above j (by simp at hj; omega)
    · rcases Nat.lt_or_ge p m with hlt | hge
      · obtain ⟨g, hg, hs⟩ := I.crew.work p hlt
        exact ⟨g, by rw [hlow _ (by omega) (by omega)]; exact hg, by rw [upd_ne _ _ (by omega), upd_ne _ _ (by omega)]; exact hs⟩
      · obtain rfl : p = m := by omega
        exact ⟨child, hnew, by rw [upd_same, upd_same]; exact .way hst.2 hnc⟩
    · rcases Nat.lt_or_ge p m with hlt | hge
      · rw [upd_ne _ _ (by omega)]; exact I.crew.fits p hlt
      · obtain rfl : p = m := by omega
        rw [upd_same]; unfold birth; split
        · rename_i h; subst h; trivial
        · obtain ⟨x, rfl⟩ : ∃ x, p = x + 1 := ⟨p - 1, by omega⟩
          trivial
    · rcases Nat.lt_or_ge p m with hlt | hge
      · rw [upd_ne _ _ (by omega)]; exact I.crew.chan p hlt
      · obtain rfl : p = m := by omega
        exact ⟨0, 0, by rw [hc, upd_same, isGone_false hst.2]⟩
    · rcases Nat.lt_or_ge (p + 1) m with hlt | hge
      · rw [upd_ne _ _ (by omega)] at h ⊢; exact I.crew.link p hlt h
      · obtain rfl : p + 1 = m := by omega
        rw [upd_same] at h
        rcases h with h | h
        · exact absurd h hst.1
        · exact absurd h hst.2
    · rcases Nat.lt_or_ge (p + 1) m with hlt | hge
      · rw [upd_ne _ _ (by omega)] at h1 h2
        rw [upd_ne _ _ (by omega), upd_ne _ _ (by omega)]
        exact I.crew.meet p hlt h1 h2
      · obtain rfl : p + 1 = m := by omega
        rw [upd_same] at h2; omega
    · refine (I'.crew.pt.spawn (c := gs.size) (.inl rfl) (I'.crew.above _ (Nat.le_refl _)) _ _ _).congr (fun g => ⟨fun h => ?_, fun ⟨p, hp, e⟩ => ?_⟩) fun g h => ?_
      · rcases h with ⟨p, hp, e⟩ | e
        · exact ⟨p, by omega, e⟩
        · exact ⟨m, by omega, by omega⟩
      · rcases Nat.lt_or_ge p m with hlt | hge
        · exact .inl ⟨p, hlt, e⟩
        · exact .inr (by omega)
      · rcases h with e | ⟨p, hp, e⟩
        · exact .inl (.inl e)
        · rcases Nat.lt_or_ge p m with hlt | hge
          · exact .inl (.inr ⟨p, hlt, e⟩)
          · exact .inr (by omega)
    · rcases Nat.lt_or_ge p m with hlt | hge
      · rw [upd_ne _ _ (by omega)] at h; exact I'.crew.kn_app hu hb hlt h
      · obtain rfl : p = m := by omega
        rw [upd_same] at h
        rcases h with rfl | h | h
        · intro i b g hb' hg ⟨x, hx, e⟩
          obtain ⟨z, hz, _⟩ := touch_of hb'
          have := knows_own hz
          rwa [show z.g = C.b0 + 0 from by rw [g?_of hz] at hg; rw [Option.some.inj hg, e]; omega] at this
        · exact absurd h hst.1
        · exact absurd h hst.2
    · rcases Nat.lt_or_ge p m with hlt | hge
      · rw [upd_ne _ _ (by omega)] at h; exact I'.crew.sh_app hu hb hlt h
      · obtain rfl : p = m := by omega
        rw [upd_same] at h; exact absurd h hst.2
  · rw [Array.getElem?_push, if_neg (by simp; omega), get_self _ I.main]
  · obtain rfl : z = m := by omega
    cases z with
    | zero => simp [out, upd_same, birth, full]
    | succ z =>
      simp only [out, upd_same, birth, if_neg (Nat.succ_ne_zero z), full]
      rw [out_above (Nat.lt_succ_self z), I.start z rfl rfl]
  · rw [hl] at hl'
    split at hl'
    · rename_i hk0
      obtain rfl := Option.some.inj hl'
      have : C.T - 1 = m := by omega
      rw [this]
      cases m with
      | zero => simp [out, upd_same, birth, full]
      | succ z =>
        simp only [out, upd_same, birth, if_neg (Nat.succ_ne_zero z), full]
        rw [out_above (Nat.lt_succ_self z), I.start z rfl rfl]
    · cases hl'

end Go.Proofs.Ytdpagejckahkkaa.Net
