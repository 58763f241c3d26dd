/- A chain of goroutines that hand numbers on: a number passes within the chain; one finds its source shut; one shuts its channel; so: every step of one of the chain. -/
import Derived.Test.YtdpagejckahkkaaNetE
namespace Go.Proofs.Ytdpagejckahkkaa.Net
open Go Go.Conc
open Go.ConcN (sumTo upd upd_same upd_ne sumTo_congr sumTo_upd)

variable {C : Cfg} {Fin : Goroutine → World → Prop} {q : Nat → Nat} {gs : Array Goroutine} {w : World} {t : Trace} {m : Nat} {st : Nat → PS} {r : Nat → Nat}
variable {k n : Nat} {l : Option (List Int)} {a : Goroutine} {sl : Option (Nat × Nat)}

theorem KnowsOf.self {b0 p : Nat} {t : Trace} (h : KnowsOf (Upto b0 p) (b0 + (p + 1)) t) : KnowsOf (Upto b0 (p + 1)) (b0 + (p + 1)) t := by
  intro i a g ha hg ⟨x, hx, e⟩
  rcases Nat.lt_or_ge p x with hlt | hge
  · obtain rfl : x = p + 1 := by omega
    obtain ⟨z, hz, _⟩ := touch_of ha
    have := knows_own hz
    rwa [show z.g = b0 + (p + 1) from by rw [g?_of hz] at hg; rw [Option.some.inj hg, e]] at this
  · exact h i a g ha hg ⟨x, hge, e⟩

theorem give_ne {s s' : PS} {v : Int} (h : s.give = some (v, s')) : s ≠ .gone ∧ s ≠ .done ∧ s ≠ .want ∧ s' ≠ .gone ∧ s' ≠ .done := by
  cases s with
  | feed r => cases r <;> simp [PS.give] at h; obtain ⟨_, rfl⟩ := h; simp
  | hold x => simp [PS.give] at h; obtain ⟨_, rfl⟩ := h; simp
  | _ => simp [PS.give] at h
theorem heap_setChan_self' {w : World} {c cap s r : Nat} {buf : Array Value} {cl tm : Bool} {o : Obj} (h : w.heap[c]? = some o) : (w.setChan c cap buf cl s r tm).heap[c]? = some (.chan cap buf cl s r tm) := heap_put h
theorem heap_setChan_ne' {w : World} {c k cap s r : Nat} {buf : Array Value} {cl tm : Bool} (h : k ≠ c) : (w.setChan c cap buf cl s r tm).heap[k]? = w.heap[k]? := by simp [World.setChan, Ne.symm h]

/-- A number passes within the chain. -/
theorem Inv.pass (F : C.Fine) (I : Inv C Fin gs w t m st r q k l n a) {p : Nat} (hp : p + 1 < m) {v : Int} {s' : PS} (hg : (st p).give = some (v, s')) (hw : st (p + 1) = .want) {gs' : Array Goroutine} {u : Trace} {x y : Goroutine}
    (hsz : gs'.size = gs.size) (hget : ∀ k, k ≠ C.b0 + p → k ≠ C.b0 + (p + 1) → gs'[k]? = gs[k]?) (hx : gs'[C.b0 + p]? = some x) (hy : gs'[C.b0 + (p + 1)]? = some y) (Wx : C.W p s' x) (Wy : C.W (p + 1) (.hold (plus C.a (p + 1) v)) y) (d s1 r1 : Nat)
    (hu1 : ∀ op ∈ u, op.act.touch? = none) (hu2 : ∀ g, ∀ op ∈ u, ∀ d, deafStep g d op = d) (hu3 : ∀ op ∈ u, op.act.low C.B) :
    ∃ μ', Prod.Lex (· < ·) (· < ·) μ' (mass C k m st, fuel C n m r q) ∧ InvM C Fin μ' (crowd gs' ((w.at d).setChan (C.c p) 0 #[] false s1 r1 false) sl) (t ++ u) := by
  have hb := F.pos
  have hmT := I.crew.mT
  obtain ⟨g1, g2, g3, g4, g5⟩ := give_ne hg
  obtain ⟨n1, hn1⟩ := F.walk p s' x (by omega) g4 Wx
  obtain ⟨n2, hn2⟩ := F.walk (p + 1) _ y (by omega) (by simp) Wy
  have hf := I.crew.fits p (by omega)
  have hA : AsideN C.c m w ((w.at d).setChan (C.c p) 0 #[] false s1 r1 false) := (AsideN.at C.c m w d).trans (AsideN.setChan (by omega) _ _ _ _ _ _ _)
  have hr1 : upd (upd r p (n1 + 1)) (p + 1) (n2 + 1) p = n1 + 1 := by rw [upd_ne _ _ (by omega), upd_same]
  have hr2 : upd (upd r p (n1 + 1)) (p + 1) (n2 + 1) (p + 1) = n2 + 1 := upd_same _ _ _
  have hr3 : ∀ z, z ≠ p → z ≠ p + 1 → upd (upd r p (n1 + 1)) (p + 1) (n2 + 1) z = r z := fun z h1 h2 => by rw [upd_ne _ _ h2, upd_ne _ _ h1]
  have hs1 := passed_at C.a st p v s'
  have hs2 := passed_next C.a st p v s'
  have hs3 : ∀ z, z ≠ p → z ≠ p + 1 → passed C.a st p v s' z = st z := fun z h1 h2 => passed_other C.a st v s' h1 h2
  have hu : ∀ op ∈ u, op.act.touch? = none ∨ op.g = 0 ∨ ∃ x, x < m ∧ op.g = C.b0 + x ∧ st x ≠ .gone := fun op h => .inl (hu1 op h)
  refine ⟨_, .left _ _ ?_, gs', _, sl, m, passed C.a st p v s', upd (upd r p (n1 + 1)) (p + 1) (n2 + 1), q, k, l, n, a, rfl, ⟨?_, by rw [hget 0 (by omega) (by omega)]; exact I.main, I.sit.rely hA, fun z hz hl => ?_, fun l' hl => ?_, fun f1 f2 => ?_⟩, rfl⟩
  · have := phi_passed (a := C.a) hf hg hw (show p < m by omega)
    unfold mass; omega
  · refine I.crew.turn (D := fun j => j = C.b0 + p ∨ j = C.b0 + (p + 1)) hsz (fun z hz => by have := I.crew.size; omega) (fun z hz => hget z (fun e => hz (.inl e)) (fun e => hz (.inr e))) (fun j _ hj h1 h2 _ => by omega) (fun _ _ => rfl)
      (fun z _ hz => ?_) (fun z _ hz => ⟨hs3 z (by omega) (by omega), hr3 z (by omega) (by omega)⟩) (fun z _ hz => ?_) (fun z hz => ?_) (fun z hz h => ?_) (fun z hz h1 h2 => ?_) (fun h => F.stable _ _ (hA.more hmT) (I.crew.S h)) (fun j _ => Deaf_quiet (hu2 j))
      (I.crew.pt.mute hu1 (fun g _ => hu2 g) hu3) (fun z hz h => ?_) (fun z hz h => ?_)
    · rcases (show z = p ∨ z = p + 1 by omega) with rfl | rfl
      · exact ⟨x, hx, by rw [hs1, hr1]; exact .way g4 hn1⟩
      · exact ⟨y, hy, by rw [hs2, hr2]; exact .way (by simp) hn2⟩
    · rcases (show z = p ∨ z = p + 1 by omega) with rfl | rfl
      · rw [hs1]; exact fits_give hf hg
      · rw [hs2]; trivial
    · obtain ⟨s2, r2, hc⟩ := I.crew.chan z hz
      by_cases e : z = p
      · subst e
        exact ⟨s1, r1, by rw [heap_setChan_self' (w := w.at d) (o := .chan 0 #[] (isGone (st z)) s2 r2 false) hc, hs1, isGone_false g4]⟩
      · refine ⟨s2, r2, ?_⟩
        rw [heap_setChan_ne' (fun h => e (F.inj _ _ h)), show (w.at d).heap[C.c z]? = w.heap[C.c z]? from rfl, hc]
        by_cases e' : z = p + 1
        · subst e'; rw [hs2, hw]; rfl
        · rw [hs3 z e e']
    · by_cases e1 : z + 1 = p
      · rw [e1, hs1] at h; rcases h with h | h
        · exact absurd h g5
        · exact absurd h g4
      · by_cases e2 : z + 1 = p + 1
        · rw [e2, hs2] at h; rcases h with h | h <;> cases h
        · rw [hs3 _ e1 e2] at h
          have := I.crew.link z hz h
          rw [hs3 z (fun e => e2 (by omega)) (fun e => by subst e; rw [hw] at this; cases this)]
          exact this
    · by_cases e1 : z + 1 = p
      · rw [e1, hr1] at h2; omega
      · by_cases e2 : z + 1 = p + 1
        · rw [e2, hr2] at h2; omega
        · rw [hs3 _ e1 e2] at h1
          rw [hr3 _ e1 e2] at h2
          by_cases e3 : z = p + 1
          · subst e3; rw [hs2, hr2]; exact ⟨by simp, fun ⟨_, h⟩ => by omega⟩
          · have := I.crew.meet z hz h1 h2
            rw [hs3 z (by omega) e3, hr3 z (by omega) e3]
            exact this
    · refine I.crew.kn_app hu hb hz ?_
      rcases h with h | h
      · exact .inl h
      · by_cases e1 : z = p
        · subst e1; rw [hs1] at h; rcases h with h | h
          · exact absurd h g5
          · exact absurd h g4
        · by_cases e2 : z = p + 1
          · subst e2; rw [hs2] at h; rcases h with h | h <;> cases h
          · rw [hs3 z e1 e2] at h; exact .inr h
    · refine I.crew.sh_app hu hb hz ?_
      by_cases e1 : z = p
      · subst e1; rw [hs1] at h; exact absurd h g4
      · by_cases e2 : z = p + 1
        · subst e2; rw [hs2] at h; cases h
        · rw [hs3 z e1 e2] at h; exact h
  · rw [out_passed hf hg hw (by omega)]; exact I.start z hz hl
  · have := I.mT_of (by rw [hl]; simp)
    rw [out_passed hf hg hw (by omega)]; exact I.eat l' hl
  · have := I.mT_of f1
    obtain ⟨u1, u2⟩ := I.fed f1 f2
    by_cases e2 : C.T - 1 = p + 1
    · rw [e2, hs2, hr2]; exact ⟨by simp, fun ⟨_, h⟩ => by omega⟩
    · rw [hs3 _ (by omega) e2, hr3 _ (by omega) e2]; exact ⟨u1, u2⟩

/-- One of the chain finds its source shut. -/
theorem Inv.found (F : C.Fine) (I : Inv C Fin gs w t m st r q k l n a) {p : Nat} (hp : p + 1 < m) (hw : st (p + 1) = .want) (hz : st p = .gone) {y : Goroutine} {z0 : Goroutine} (hg0 : gs[C.b0 + (p + 1)]? = some z0) (Wy : C.W (p + 1) .done y) (d : Nat) (fn : FuncId) (pos : String) :
    ∃ μ', Prod.Lex (· < ·) (· < ·) μ' (mass C k m st, fuel C n m r q) ∧ InvM C Fin μ' (crowd (gs.setIfInBounds (C.b0 + (p + 1)) y) (w.at d) sl) (t ++ #[{ g := C.b0 + (p + 1), fn, pos, act := .recvClosed (C.c p) }]) := by
  have hb := F.pos
  have hmT := I.crew.mT
  obtain ⟨n2, hn2⟩ := F.walk (p + 1) _ y (by omega) (by simp) Wy
  generalize huu : (#[{ g := C.b0 + (p + 1), fn, pos, act := .recvClosed (C.c p) }] : Trace) = u
  have hu1 : ∀ op ∈ u, op.act.touch? = none := fun op h => by subst huu; simp at h; subst h; rfl
  have hu2 : ∀ g, ∀ op ∈ u, ∀ d, deafStep g d op = d := fun g op h d => by subst huu; simp at h; subst h; rfl
  have hu3 : ∀ op ∈ u, op.act.low C.B := fun op h => by subst huu; simp at h; subst h; exact F.low p (by omega)
  have hu : ∀ op ∈ u, op.act.touch? = none ∨ op.g = 0 ∨ ∃ x, x < m ∧ op.g = C.b0 + x ∧ st x ≠ .gone := fun op h => .inl (hu1 op h)
  have hs3 : ∀ z, z ≠ p + 1 → upd st (p + 1) .done z = st z := fun z h => upd_ne _ _ h
  refine ⟨_, .left _ _ ?_, _, _, sl, m, upd st (p + 1) .done, upd r (p + 1) (n2 + 1), q, k, l, n, a, rfl, ⟨?_, by rw [get_one _ _ (by omega)]; exact I.main, I.sit.rely (AsideN.at _ _ _ _), fun z hz' hl => ?_, fun l' hl => ?_, fun f1 f2 => ?_⟩, rfl⟩
  · have := phi_found (a := C.a) hw hz hp
    unfold mass; omega
  · refine I.crew.turn (D := fun j => j = C.b0 + (p + 1)) (by simp) (fun z hz => by have := I.crew.size; omega) (fun z hz => get_one _ _ hz) (fun j _ hj h1 h2 _ => by omega) (fun _ _ => rfl)
      (fun z _ hz => ?_) (fun z _ hz => ⟨hs3 z (by omega), upd_ne _ _ (by omega)⟩) (fun z _ hz => ?_) (fun z hz' => ?_) (fun z hz' h => ?_) (fun z hz' h1 h2 => ?_) (fun h => F.stable _ _ (AsideN.at _ _ _ _) (I.crew.S h)) (fun j _ => Deaf_quiet (hu2 j))
      (I.crew.pt.mute hu1 (fun g _ => hu2 g) hu3) (fun z hz' h => ?_) (fun z hz' h => ?_)
    · obtain rfl : z = p + 1 := by omega
      exact ⟨y, get_self _ hg0, by rw [upd_same, upd_same]; exact .way (by simp) hn2⟩
    · obtain rfl : z = p + 1 := by omega
      rw [upd_same]; trivial
    · obtain ⟨s2, r2, hc⟩ := I.crew.chan z hz'
      refine ⟨s2, r2, ?_⟩
      show w.heap[C.c z]? = _
      rw [hc]
      by_cases e' : z = p + 1
      · subst e'; rw [upd_same, hw]; rfl
      · rw [hs3 z e']
    · by_cases e2 : z = p
      · subst e2; rw [hs3 z (by omega)]; exact hz
      · rw [hs3 _ (by omega)] at h
        have := I.crew.link z hz' h
        rw [hs3 z (fun e => by subst e; rw [hw] at this; cases this)]
        exact this
    · by_cases e2 : z = p
      · subst e2; rw [upd_same] at h1; cases h1
      · rw [hs3 _ (by omega)] at h1
        rw [upd_ne _ _ (by omega)] at h2
        by_cases e3 : z = p + 1
        · subst e3; rw [upd_same, upd_same]; exact ⟨by simp, fun ⟨_, h⟩ => by omega⟩
        · rw [hs3 z e3, upd_ne _ _ e3]; exact I.crew.meet z hz' h1 h2
    · by_cases e2 : z = p + 1
      · subst e2; subst huu
        exact (KnowsOf.take (I.crew.sh p (by omega) hz) rfl rfl (I.crew.pt.hears _ (.inr ⟨p + 1, hp, rfl⟩))).self
      · rw [hs3 z e2] at h; exact I.crew.kn_app hu hb hz' h
    · by_cases e2 : z = p + 1
      · subst e2; rw [upd_same] at h; cases h
      · rw [hs3 z e2] at h; exact I.crew.sh_app hu hb hz' h
  · rw [out_found hw hz]; exact I.start z hz' hl
  · rw [out_found hw hz]; exact I.eat l' hl
  · have := I.mT_of f1
    obtain ⟨u1, u2⟩ := I.fed f1 f2
    by_cases e2 : C.T - 1 = p + 1
    · rw [e2, upd_same, upd_same]; exact ⟨by simp, fun ⟨_, h⟩ => by omega⟩
    · rw [hs3 _ e2, upd_ne _ _ e2]; exact ⟨u1, u2⟩

/-- What becomes of the one that receives there, when the channel is shut. -/
theorem Sit.rouse {p n : Nat} {s : PS} {g x x' : Goroutine} {w' : World} (hS : C.S w) (h : Sit C p s n g) (hx : mayWake C.P x = true) (hx' : x'.status = .running ∨ x'.status = .finished) (h1 : s ≠ .gone → ∃ a b, w'.heap[C.c p]? = some (.chan 0 #[] false a b false))
    (h2 : ∃ a b, w'.heap[C.c (p - 1)]? = some (.chan 0 #[] true a b false)) : ∃ n', Sit C p s n' (Go.Conc.woken C.P x x' w' g) ∧ (s = .want → 0 < n') := by
  cases h with
  | gone hq => exact ⟨n, by rw [woken_quits hq]; exact .gone hq, by simp⟩
  | way hne hg => exact ⟨_, by rw [woken_running (hg.running hS)]; exact .way hne hg, fun _ => Nat.succ_pos _⟩
  | gives hg hW => obtain ⟨a, b, hc⟩ := h1 (by rintro rfl; simp [PS.give] at hg); exact ⟨0, by rw [woken_send_open x x' hc]; exact .gives hg hW, by rintro rfl; simp [PS.give] at hg⟩
  | @takes g₀ hst =>
    obtain ⟨a, b, hc⟩ := h2
    have e : Go.Conc.woken C.P x x' w' (parked (core g₀) #[rcase (C.c (p - 1)) zer] (.recv true)) = { parked (core g₀) #[rcase (C.c (p - 1)) zer] (.recv true) with status := .running } := by
      unfold Go.Conc.woken
      rw [if_pos (by rcases hx' with h | h <;> simp [hx, h])]
      exact again_recv_closed hc
    exact ⟨1, by rw [e]; exact .way (by simp) fun _ _ => hst.again, fun _ => Nat.one_pos⟩

/-- One of the chain shuts its channel. -/
theorem Inv.closes (F : C.Fine) (I : Inv C Fin gs w t m st r q k l n a) {p : Nat} (hp : p < m) (hs : (st p).shuts) {g g₂ : Goroutine} {nq : Nat} (hg : gs[C.b0 + p]? = some g) (hmw : mayWake C.P g = true) (d s1 r1 : Nat) (hc : w.heap[C.c p]? = some (.chan 0 #[] false s1 r1 false))
    (hgo : stepG C.P false g (w.at d) = .go g₂ ((w.at d).setChan (C.c p) 0 #[] true s1 r1 false) (closeEvents (C.c p))) (hq : QuitsIn C.P nq g₂) :
    ∃ M' ops μ', runT C.P (crowd gs (w.at d) sl) (C.b0 + p) = (.next M', ops) ∧ Prod.Lex (· < ·) (· < ·) μ' (mass C k m st, fuel C n m r q) ∧ InvM C Fin μ' M' (t ++ ops) := by
  have hb := F.pos
  have hmT := I.crew.mT
  have hT := F.posT
  have hi0 : (C.b0 + p == 0) = false := by simp; omega
  have hrunT := runT_crowd_go (P := C.P) (sl := sl) (i := C.b0 + p) hg (by rw [hi0]; exact hgo)
  generalize hw' : (w.at d).setChan (C.c p) 0 #[] true s1 r1 false = w' at hgo hrunT
  have hA : AsideN C.c m w w' := by subst hw'; exact (AsideN.at C.c m w d).trans (AsideN.setChan (by omega) _ _ _ _ _ _ _)
  have hS := I.crew.S (by omega)
  have hcp : w'.heap[C.c p]? = some (.chan 0 #[] true s1 r1 false) := by subst hw'; exact heap_setChan_self' (w := w.at d) hc
  have hcz : ∀ z, z ≠ p → w'.heap[C.c z]? = w.heap[C.c z]? := fun z hz => by subst hw'; exact heap_setChan_ne' fun h => hz (F.inj _ _ h)
  have hng : st p ≠ .gone := by intro h; rw [h] at hs; exact hs
  have hnw : st p ≠ .want := by intro h; rw [h] at hs; exact hs
  have hop : ∀ z, z < m → z ≠ p → st z ≠ .gone → ∃ a b, w'.heap[C.c z]? = some (.chan 0 #[] false a b false) := fun z hz hne hng => by
    obtain ⟨s2, r2, h2⟩ := I.crew.chan z hz
    exact ⟨s2, r2, by rw [hcz z hne, h2, isGone_false hng]⟩
  have hst2 := hq.status
  -- the others
  have hget : ∀ z, z ≠ 0 → z ≠ C.b0 + p → z ≠ C.b0 + (p + 1) → ((gs.map (woken C.P g g₂ w')).setIfInBounds (C.b0 + p) g₂)[z]? = gs[z]? := by
    intro z h0 h1 h2
    rw [get_one _ _ h1, Array.getElem?_map]
    cases hgz : gs[z]? with
    | none => rfl
    | some x =>
      simp only [Option.map_some, Option.some.injEq]
      rcases I.crew.idx hgz with e | ⟨e1, e2⟩ | ⟨y, hy, rfl⟩
      · exact absurd e h0
      · exact woken_quitsD (I.crew.old z x e1 e2 hgz)
      · obtain ⟨g', hg', hs'⟩ := I.crew.work y hy
        rw [hgz] at hg'
        obtain rfl := Option.some.inj hg'
        refine hs'.woken hS (fun hne => hop y hy (by omega) hne) fun hw hr => ?_
        cases y with
        | zero => have := I.crew.fits 0 hy; rw [hw] at this; exact this.elim
        | succ y => exact hop y (by omega) (by omega) (I.crew.meet y hy hw hr).1
  have hnext : p + 1 < m → ∃ g' n', ((gs.map (woken C.P g g₂ w')).setIfInBounds (C.b0 + p) g₂)[C.b0 + (p + 1)]? = some g' ∧ Sit C (p + 1) (st (p + 1)) n' g' ∧ (st (p + 1) = .want → 0 < n') := fun h => by
    obtain ⟨x, hx, hs'⟩ := I.crew.work (p + 1) h
    obtain ⟨n', h1, h2⟩ := hs'.rouse (x := g) (x' := g₂) (w' := w') hS hmw hst2 (fun hne => hop (p + 1) h (by omega) hne) ⟨s1, r1, hcp⟩
    exact ⟨_, n', by rw [get_one _ _ (by omega), Array.getElem?_map, hx]; rfl, h1, h2⟩
  obtain ⟨r2, hr2⟩ : ∃ r2, (p + 1 < m → ∃ g', ((gs.map (woken C.P g g₂ w')).setIfInBounds (C.b0 + p) g₂)[C.b0 + (p + 1)]? = some g' ∧ Sit C (p + 1) (st (p + 1)) r2 g' ∧ (st (p + 1) = .want → 0 < r2)) := by
    by_cases h : p + 1 < m
    · obtain ⟨g', n', h1, h2, h3⟩ := hnext h
      exact ⟨n', fun _ => ⟨g', h1, h2, h3⟩⟩
    · exact ⟨0, fun h' => absurd h' h⟩
  have hmain : ∃ n', MSit C Fin m k l n' (woken C.P g g₂ w' a) w' ∧ (l ≠ none → n' = 0 → n = 0 ∧ C.T - 1 ≠ p) := by
    have hsit := I.sit.rely hA
    rcases I.sit.status with ⟨h1, h2⟩ | ⟨h1, h2⟩
    · exact ⟨n, by rw [woken_running h1]; exact hsit, fun _ e => by omega⟩
    · have hl : l ≠ none := by rintro rfl; cases I.sit; omega
      have hmT' := I.mT_of hl
      by_cases e : C.T - 1 = p
      · generalize hnn : n = n0 at hsit h2
        cases hsit with
        | sp _ _ => omega
        | eat _ _ => omega
        | @wait l' g₀ _ e1 hst =>
          have e2 : woken C.P g g₂ w' (parked (core g₀) #[rcase (C.c (C.T - 1)) zer] (.recv true)) = { parked (core g₀) #[rcase (C.c (C.T - 1)) zer] (.recv true) with status := .running } := by
            unfold Go.Conc.woken
            rw [if_pos (by rcases hst2 with h | h <;> simp [hmw, h])]
            exact again_recv_closed (by rw [e]; exact hcp)
          exact ⟨1, by rw [e2]; exact .eat e1 fun w₁ h₁ => (hst w₁ h₁).again, fun _ h => by omega⟩
      · exact ⟨n, by rw [I.sit.woken fun hn => hop (C.T - 1) (by omega) e (I.fed hl hn).1]; exact hsit, fun _ _ => ⟨h2, e⟩⟩
  obtain ⟨n', hsit', hn'⟩ := hmain
  have hu2 : ∀ j, ∀ op ∈ MemOp.ofEvents (C.b0 + p) g.frame.fn g.frame.place (closeEvents (C.c p)), ∀ d, deafStep j d op = d := fun j op h d => by
    rw [closeOps] at h
    simp only [List.mem_toArray, List.mem_cons, List.not_mem_nil, or_false] at h
    rcases h with rfl | rfl <;> rfl
  have hu3 : ∀ op ∈ MemOp.ofEvents (C.b0 + p) g.frame.fn g.frame.place (closeEvents (C.c p)), op.act.low C.B := fun op h => by
    rw [closeOps] at h
    simp only [List.mem_toArray, List.mem_cons, List.not_mem_nil, or_false] at h
    rcases h with rfl | rfl <;> exact F.low p (by omega)
  have hu4 : ∀ op ∈ MemOp.ofEvents (C.b0 + p) g.frame.fn g.frame.place (closeEvents (C.c p)), op.g = C.b0 + p := fun op h => by obtain ⟨e, _, rfl⟩ := Go.Conc.mem_ofEvents h; rfl
  have hu5 : ∀ op ∈ MemOp.ofEvents (C.b0 + p) g.frame.fn g.frame.place (closeEvents (C.c p)), ∀ b, op.act.touch? = some b → b.write = false ∧ C.Still b.loc := fun op h b hb => by
    rw [closeOps] at h
    simp only [List.mem_toArray, List.mem_cons, List.not_mem_nil, or_false] at h
    rcases h with rfl | rfl
    · simp only [MemAct.touch?, Option.some.injEq] at hb; subst hb; exact ⟨rfl, F.obj p⟩
    · simp [MemAct.touch?] at hb
  have hu : ∀ op ∈ MemOp.ofEvents (C.b0 + p) g.frame.fn g.frame.place (closeEvents (C.c p)), op.act.touch? = none ∨ op.g = 0 ∨ ∃ x, x < m ∧ op.g = C.b0 + x ∧ st x ≠ .gone := fun op h => .inr (.inr ⟨p, hp, hu4 op h, hng⟩)
  have hs3 : ∀ z, z ≠ p → upd st p .gone z = st z := fun z h => upd_ne _ _ h
  have hdn : p = 0 ∨ st p = .done := by
    cases hst : st p with
    | feed rs => cases p with
      | zero => exact .inl rfl
      | succ p => have := I.crew.fits _ hp; rw [hst] at this; exact this.elim
    | done => exact .inr rfl
    | _ => rw [hst] at hs; exact hs.elim
  have hkp : KnowsOf (Upto C.b0 p) (C.b0 + p) (t ++ MemOp.ofEvents (C.b0 + p) g.frame.fn g.frame.place (closeEvents (C.c p))) := I.crew.kn_app hu hb hp (hdn.imp id .inl)
  refine ⟨_, _, _, hrunT, .left _ _ ?_, _, w', sl, m, upd st p .gone, upd (upd r p nq) (p + 1) r2, q, k, l, n', woken C.P g g₂ w' a, rfl, ⟨?_, ?_, hsit', fun z hz' hl => ?_, fun l' hl => ?_, fun f1 f2 => ?_⟩, rfl⟩
  · have := phi_shut (a := C.a) (I.crew.fits p hp) hs hp
    unfold mass; omega
  · refine I.crew.turn (D := fun j => j = 0 ∨ j = C.b0 + p ∨ (j = C.b0 + (p + 1) ∧ p + 1 < m)) (by simp) (fun z hz => by have := I.crew.size; omega)
      (fun z hz => ?_) (fun j _ hj h1 h2 _ => by omega) (fun _ _ => rfl)
      (fun z hz' hz => ?_) (fun z hz' hz => ⟨hs3 z (by omega), by rw [upd_ne _ _ (by omega), upd_ne _ _ (by omega)]⟩) (fun z hz' hz => ?_) (fun z hz' => ?_) (fun z hz' h => ?_) (fun z hz' h1 h2 => ?_) (fun h => F.stable _ _ (hA.more hmT) (I.crew.S h)) (fun j _ => Deaf_quiet (hu2 j))
      (I.crew.pt.work (g := C.b0 + p) ⟨p, hp, rfl⟩ hu4 hu5 (fun j _ => Deaf_quiet (hu2 j)) hu3) (fun z hz' h => ?_) (fun z hz' h => ?_)
    · by_cases e : z = C.b0 + (p + 1)
      · subst e
        have hge : ¬ p + 1 < m := fun h => hz (.inr (.inr ⟨rfl, h⟩))
        have := I.crew.size
        rw [Array.getElem?_eq_none (by simp; omega), Array.getElem?_eq_none (by omega)]
      · exact hget z (fun e' => hz (.inl e')) (fun e' => hz (.inr (.inl e'))) e
    · rcases (show z = p ∨ z = p + 1 by omega) with rfl | rfl
      · exact ⟨g₂, get_self' _ _ hg, by rw [upd_same, upd_ne _ _ (by omega), upd_same]; exact .gone hq⟩
      · obtain ⟨g', h1, h2, _⟩ := hr2 hz'
        exact ⟨g', h1, by rw [hs3 _ (by omega), upd_same]; exact h2⟩
    · rcases (show z = p ∨ z = p + 1 by omega) with rfl | rfl
      · rw [upd_same]; cases z <;> trivial
      · rw [hs3 _ (by omega)]; exact I.crew.fits _ hz'
    · by_cases e : z = p
      · subst e; exact ⟨s1, r1, by rw [hcp, upd_same]; rfl⟩
      · obtain ⟨s2, r2', h2⟩ := I.crew.chan z hz'
        exact ⟨s2, r2', by rw [hcz z e, h2, hs3 z e]⟩
    · by_cases e : z = p
      · subst e; rw [upd_same]
      · rw [hs3 z e]
        by_cases e2 : z + 1 = p
        · subst e2
          rcases hdn with h0 | h0
          · omega
          · exact I.crew.link z hz' (.inl h0)
        · rw [hs3 _ e2] at h
          exact I.crew.link z hz' h
    · by_cases e : z = p
      · subst e
        rw [hs3 _ (by omega)] at h1
        rw [upd_same] at h2
        obtain ⟨_, _, _, h3⟩ := hr2 hz'
        have := h3 h1
        omega
      · by_cases e2 : z + 1 = p
        · rw [e2, upd_same] at h1; cases h1
        · rw [hs3 _ e2] at h1
          rw [upd_ne _ _ (by omega), upd_ne _ _ e2] at h2
          obtain ⟨v1, v2⟩ := I.crew.meet z hz' h1 h2
          refine ⟨by rw [hs3 z e]; exact v1, fun ⟨y1, y2⟩ => ?_⟩
          rw [hs3 z e] at y1
          by_cases e3 : z = p + 1
          · subst e3
            rw [upd_same] at y2
            subst y2
            -- it holds, and counts nought: it is parked at its send as before
            obtain ⟨g', y3, y4, _⟩ := hr2 (by omega)
            obtain ⟨x, y5, y6⟩ := I.crew.work (p + 1) (by omega)
            have hr0 : r (p + 1) ≠ 0 := fun e => v2 ⟨y1, e⟩
            generalize hsx : st (p + 1) = sx at y1 y4 y6
            generalize hrx : r (p + 1) = rx at y6 hr0
            cases y6 with
            | gone _ => simp [PS.give] at y1
            | way hne hw =>
              have hgz : ((gs.map (woken C.P g g₂ w')).setIfInBounds (C.b0 + p) g₂)[C.b0 + (p + 1)]? = some x := by
                rw [get_one _ _ (by omega), Array.getElem?_map, y5]
                simp [woken_running (hw.running hS)]
              rw [hgz] at y3
              obtain rfl := Option.some.inj y3
              have h4 := hw.running hS
              cases y4 with
              | gone _ => simp [PS.give] at y1
              | gives _ _ => cases h4
              | takes _ => simp [PS.give] at y1
            | gives _ _ => exact hr0 rfl
            | takes _ => simp [PS.give] at y1
          · rw [upd_ne _ _ e3, upd_ne _ _ e] at y2
            exact v2 ⟨y1, y2⟩
    · by_cases e : z = p
      · subst e; exact hkp
      · rw [hs3 z e] at h; exact I.crew.kn_app hu hb hz' h
    · by_cases e : z = p
      · subst e
        rw [closeOps]
        have e2 : (t ++ #[({ g := C.b0 + z, fn := g.frame.fn, pos := g.frame.place, act := .access ⟨.obj (C.c z), false, true⟩ } : MemOp), { g := C.b0 + z, fn := g.frame.fn, pos := g.frame.place, act := .close (C.c z) }]) = (t ++ #[{ g := C.b0 + z, fn := g.frame.fn, pos := g.frame.place, act := .access ⟨.obj (C.c z), false, true⟩ }]) ++ #[{ g := C.b0 + z, fn := g.frame.fn, pos := g.frame.place, act := .close (C.c z) }] := by rw [Array.append_assoc]; rfl
        rw [e2]
        refine ShutOf.new (j := C.b0 + z) ((I.crew.kn z hp (hdn.imp id .inl)).app fun op hop => ?_) rfl rfl ?_
        · simp only [List.mem_toArray, List.mem_cons, List.not_mem_nil, or_false] at hop; subst hop; exact .inr (.inl rfl)
        · rw [Deaf_quiet fun op hop d => by simp only [List.mem_toArray, List.mem_cons, List.not_mem_nil, or_false] at hop; subst hop; rfl]
          exact I.crew.pt.hears _ (.inr ⟨z, hp, rfl⟩)
      · rw [hs3 z e] at h; exact I.crew.sh_app hu hb hz' h
  · rw [get_one _ _ (by omega), Array.getElem?_map, I.main]; rfl
  · rw [out_shut (I.crew.fits p hp) hs]; exact I.start z hz' hl
  · rw [out_shut (I.crew.fits p hp) hs]; exact I.eat l' hl
  · obtain ⟨f3, f4⟩ := hn' f1 f2
    have := I.mT_of f1
    obtain ⟨u1, u2⟩ := I.fed f1 f3
    refine ⟨by rw [hs3 _ f4]; exact u1, fun ⟨y1, y2⟩ => ?_⟩
    rw [hs3 _ f4] at y1
    by_cases e3 : C.T - 1 = p + 1
    · rw [e3] at y1 y2 u2
      rw [upd_same] at y2
      subst y2
      obtain ⟨g', y3, y4, _⟩ := hr2 (by omega)
      obtain ⟨x, y5, y6⟩ := I.crew.work (p + 1) (by omega)
      have hr0 : r (p + 1) ≠ 0 := fun e => u2 ⟨y1, e⟩
      generalize hsx : st (p + 1) = sx at y1 y4 y6
      generalize hrx : r (p + 1) = rx at y6 hr0
      cases y6 with
      | gone _ => simp [PS.give] at y1
      | way hne hw =>
        have hgz : ((gs.map (woken C.P g g₂ w')).setIfInBounds (C.b0 + p) g₂)[C.b0 + (p + 1)]? = some x := by
          rw [get_one _ _ (by omega), Array.getElem?_map, y5]
          simp [woken_running (hw.running hS)]
        rw [hgz] at y3
        obtain rfl := Option.some.inj y3
        have h4 := hw.running hS
        cases y4 with
        | gone _ => simp [PS.give] at y1
        | gives _ _ => cases h4
        | takes _ => simp [PS.give] at y1
      | gives _ _ => exact hr0 rfl
      | takes _ => simp [PS.give] at y1
    · rw [upd_ne _ _ e3, upd_ne _ _ f4] at y2
      exact u2 ⟨y1, y2⟩

end Go.Proofs.Ytdpagejckahkkaa.Net
