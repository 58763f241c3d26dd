/- A team that says its last word to a sync.WaitGroup: what is held of the trace. The group's cells are touched by none plainly; who has said release-and-merge touches from then on, unheard, the group's cells alone; goroutine 0's acquire takes over all that they did. -/
import Derived.Test.YtdpagejckahkkaaNetA
import Derived.Conc.CrowdTrace
import Derived.Conc.CrowdSpec
namespace Go.Proofs.Ytdpagejckahkkaa.Net
open Go Go.Conc
open Go.ConcN (ShN)
open Go.ConcR (stA smA)

/-- One of the team has said release-and-merge of a, heard; behind it it touches the group's cells alone, atomically, unheard. -/
structure RelW (Wg t0 : Nat) (t : Trace) (k r : Nat) : Prop where
  late : t0 ≤ r
  act : t.act? r = some (.mark (.releaseMerge (stA Wg)))
  g : t.g? r = some k
  heard : t.heard r
  after : ∀ i, r < i → t.g? i = some k → ∀ x, touchAt t i = some x → ShN Wg x.loc ∧ x.kind = .atomic ∧ ¬ t.heard i

variable {Shun Still : Loc → Prop} {B Wg t0 : Nat} {W Hr : Nat → Prop} {t u : Trace}

theorem RelW.app {k r : Nat} (h : RelW Wg t0 t k r) (hu : ∀ i, t.size ≤ i → (t ++ u).g? i = some k → ∀ x, touchAt (t ++ u) i = some x → ShN Wg x.loc ∧ x.kind = .atomic ∧ ¬ (t ++ u).heard i) : RelW Wg t0 (t ++ u) k r := by
  have hr : r < t.size := lt_of_act? h.act
  refine ⟨h.late, by rw [act?_old hr]; exact h.act, by rw [g?_old hr]; exact h.g, (heard_old hr).2 h.heard, fun i hi hg x hx => ?_⟩
  rcases Nat.lt_or_ge i t.size with hlt | hge
  · rw [heard_old hlt]
    exact h.after i hi (by rw [← g?_old (u := u) hlt]; exact hg) x (by rwa [touchAt_old hlt] at hx)
  · exact hu i hge hg x hx
/-- Others' operations, and such as touch nothing, leave it. -/
theorem RelW.other {k r : Nat} (h : RelW Wg t0 t k r) (hu : ∀ op ∈ u, op.g = k → op.act.touch? = none) : RelW Wg t0 (t ++ u) k r := by
  refine h.app fun i hi hg x hx => ?_
  obtain ⟨op, hop, e, hto⟩ := touch_new_op hx hg hi
  rw [hu op hop e] at hto
  cases hto
/-- Its own atomic touches of the group, unheard. -/
theorem RelW.own {k r : Nat} (h : RelW Wg t0 t k r) (hd : 0 < Deaf t k) (hs : ∀ op ∈ u, ∀ b, op.act.touch? = some b → ShN Wg b.loc ∧ b.kind = .atomic) (hq : ∀ op ∈ u, ∀ d, deafStep k d op = d) : RelW Wg t0 (t ++ u) k r := by
  refine h.app fun i hi hg x hx => ?_
  obtain ⟨op, hop, e, hto⟩ := touch_new_op hx hg hi
  refine ⟨(hs op hop x hto).1, (hs op hop x hto).2, fun ⟨g', hg', hh⟩ => ?_⟩
  rw [hg] at hg'
  obtain rfl := Option.some.inj hg'
  have hsz : i - t.size ≤ u.size := by
    obtain ⟨z, hz, _⟩ := touch_of hx
    have := lt_size_of_getElem? hz
    simp at this
    omega
  have hdq := deaf_quiet (t := t) (u := u) (g := k) hq (i - t.size) hsz
  rw [show t.size + (i - t.size) = i by omega] at hdq
  rw [hdq] at hh
  omega

/-- The group's cells: whoever touched them plainly, all know it. -/
def QuietK (Wg : Nat) (W : Nat → Prop) (t : Trace) : Prop := ∀ i a, touchAt t i = some a → ShN Wg a.loc → (∀ g, (g = 0 ∨ W g) → Knows t g i) ∨ (a.kind ≠ .plain ∧ (a.kind = .said → t.g? i = some 0))
def NoRel (a : Addr) (t0 : Nat) (t : Trace) : Prop := ∀ i, t0 ≤ i → t.act? i ≠ some (.mark (.release a))
theorem NoRel.app {a : Addr} (h : NoRel a t0 t) (hu : ∀ op ∈ u, op.act ≠ .mark (.release a)) : NoRel a t0 (t ++ u) := by
  intro i h0 hi
  obtain ⟨op, ho, hoa⟩ := Option.map_eq_some_iff.1 hi
  rcases getElem?_append_cases ho with ⟨_, ho'⟩ | ⟨_, hou⟩
  · exact h i h0 (by rw [act?_of ho', hoa])
  · exact hu op hou hoa
theorem QuietK.app (h : QuietK Wg W t) (hu : ∀ op ∈ u, ∀ x, op.act.touch? = some x → ShN Wg x.loc → x.kind ≠ .plain ∧ (x.kind = .said → op.g = 0)) : QuietK Wg W (t ++ u) := by
  intro i a ha hS
  obtain ⟨x, hx, hxa⟩ := touch_of ha
  rcases getElem?_append_cases hx with ⟨_, hx'⟩ | ⟨_, hxu⟩
  · rcases h i a (by rw [touchAt_of hx']; exact hxa) hS with h1 | ⟨h1, h2⟩
    · exact .inl fun g hg => (h1 g hg).app u
    · exact .inr ⟨h1, fun e => by rw [g?_old (lt_size_of_getElem? hx')]; exact h2 e⟩
  · obtain ⟨h1, h2⟩ := hu x hxu a hxa hS
    exact .inr ⟨h1, fun e => by rw [g?_of hx, h2 e]⟩
theorem QuietK.knows {said : Bool} {b : Touch} {g : Nat} (h : QuietK Wg W t) (hg : g = 0 ∨ W g) (hb : ShN Wg b.loc) (hk : b.kind ≠ .plain) (hs : b.kind = .said → g = 0) : ∀ i a, touchAt t i = some a → a.conflicts said b → Knows t g i := by
  intro i a ha hc
  obtain ⟨hloc, _, _, hkind⟩ := hc
  rcases h i a ha (by rw [hloc]; exact hb) with h1 | ⟨h1, h2⟩
  · exact h1 g hg
  rcases hkind with e | e | ⟨_, e1, e2⟩
  · exact absurd e h1
  · exact absurd e hk
  · obtain ⟨x, hx, _⟩ := touch_of ha
    have h3 := h2 e1
    rw [g?_of hx] at h3
    have := knows_own hx
    rwa [Option.some.inj h3, ← hs e2] at this

structure QT (Shun Still : Loc → Prop) (B Wg t0 : Nat) (W Hr : Nat → Prop) (t : Trace) : Prop where
  pt : PT (fun l => Shun l ∨ ShN Wg l) Still B W Hr t
  quiet : QuietK Wg W t
  norel : NoRel (stA Wg) t0 t
  late : t0 ≤ t.size

/-- From the frame: no shunned place is the group's. -/
theorem QT.ofPast (H : Past Shun B t) (hS : ∀ l, Still l → l.isMemory = true) (hSS : ∀ l, Still l → ¬ Shun l) (hap : ∀ l, Still l → ¬ ShN Wg l) (hw : ∀ l, Shun l → ¬ ShN Wg l) : QT Shun Still B Wg t.size (fun _ => False) (fun g => g = 0) t := by
  refine ⟨⟨H.clean, fun i a ha hm => (H.known i a ha hm).imp id fun h => .inl ⟨.inl h.1, h.2⟩, fun i a ha _ hs g hg => ?_, fun _ hg => hg ▸ H.hears, fun i g hg hne _ hc => H.over i g hg hne hc, H.seen⟩, fun i a ha hs => ?_, fun i hi ha => ?_, Nat.le_refl _⟩
  · rcases hg with rfl | hg
    · exact (H.known i a ha (hS _ hs)).elim id fun x => absurd x.1 (hSS _ hs)
    · exact hg.elim
  · left
    intro g hg
    obtain rfl : g = 0 := hg.elim id False.elim
    refine (H.known i a ha ?_).elim id fun x => absurd hs (hw _ x.1)
    obtain ⟨ad, e, _⟩ := hs
    rw [e]; rfl
  · have := lt_of_act? ha
    omega

theorem QT.weaken {Hr' : Nat → Prop} (H : QT Shun Still B Wg t0 W Hr t) (h : ∀ g, Hr' g → Hr g) : QT Shun Still B Wg t0 W Hr' t :=
  ⟨⟨H.pt.clean, H.pt.known, H.pt.wrote, fun g hg => H.pt.hears g (h g hg), H.pt.over, H.pt.seen⟩, H.quiet, H.norel, H.late⟩
/-- Who hears now. -/
theorem QT.hearing {Hr' : Nat → Prop} (H : QT Shun Still B Wg t0 W Hr t) (h : ∀ g, Hr' g → Deaf t g = 0) : QT Shun Still B Wg t0 W Hr' t :=
  ⟨⟨H.pt.clean, H.pt.known, H.pt.wrote, h, H.pt.over, H.pt.seen⟩, H.quiet, H.norel, H.late⟩
theorem QT.team {W' : Nat → Prop} (H : QT Shun Still B Wg t0 W Hr t) (h : ∀ g, W' g ↔ W g) : QT Shun Still B Wg t0 W' Hr t := by
  obtain rfl : W' = W := funext fun g => propext (h g)
  exact H
theorem late_app (h : t0 ≤ t.size) : t0 ≤ (t ++ u).size := by simp; omega

/-- Operations that touch nothing. -/
theorem QT.mute (H : QT Shun Still B Wg t0 W Hr t) (hn : ∀ op ∈ u, op.act.touch? = none) (hq : ∀ g, Hr g → ∀ op ∈ u, ∀ d, deafStep g d op = d) (hl : ∀ op ∈ u, op.act.low B) (hr : ∀ op ∈ u, op.act ≠ .mark (.release (stA Wg))) : QT Shun Still B Wg t0 W Hr (t ++ u) :=
  ⟨H.pt.mute hn hq hl, H.quiet.app (fun op hop x hx => by rw [hn op hop] at hx; cases hx), H.norel.app hr, late_app H.late⟩

/-- Goroutine 0's own. -/
theorem QT.main (H : QT Shun Still B Wg t0 W Hr t) (hu : ∀ op ∈ u, op.g = 0) (hs : ∀ op ∈ u, ∀ b, op.act.touch? = some b → ((Shun b.loc ∨ ShN Wg b.loc) → b.kind ≠ .plain) ∧ (Still b.loc → b.write = false))
    (hd : ∀ g, Hr g → Deaf (t ++ u) g = Deaf t g) (hl : ∀ op ∈ u, op.act.low B) (hr : ∀ op ∈ u, op.act ≠ .mark (.release (stA Wg))) : QT Shun Still B Wg t0 W Hr (t ++ u) :=
  ⟨H.pt.main hu hs hd hl, H.quiet.app fun op hop x hx hS => ⟨(hs op hop x hx).1 (.inr hS), fun _ => hu op hop⟩, H.norel.app hr, late_app H.late⟩

/-- One of the team reads still places. -/
theorem QT.work {g : Nat} (H : QT Shun Still B Wg t0 W Hr t) (hap : ∀ l, Still l → ¬ ShN Wg l) (hg : W g) (hu : ∀ op ∈ u, op.g = g) (hrd : ∀ op ∈ u, ∀ b, op.act.touch? = some b → b.write = false ∧ Still b.loc)
    (hd : ∀ g, Hr g → Deaf (t ++ u) g = Deaf t g) (hl : ∀ op ∈ u, op.act.low B) (hr : ∀ op ∈ u, op.act ≠ .mark (.release (stA Wg))) : QT Shun Still B Wg t0 W Hr (t ++ u) :=
  ⟨H.pt.work hg hu hrd hd hl, H.quiet.app fun op hop x hx hS => absurd hS (hap _ (hrd op hop x hx).2), H.norel.app hr, late_app H.late⟩

/-- One of the team touches the group's cells atomically. -/
theorem QT.atomic {g : Nat} (H : QT Shun Still B Wg t0 W Hr t) (hap : ∀ l, Still l → ¬ ShN Wg l) (hg : W g) (hu : ∀ op ∈ u, op.g = g) (hat : ∀ op ∈ u, ∀ b, op.act.touch? = some b → ShN Wg b.loc ∧ b.kind = .atomic)
    (hd : ∀ g, Hr g → Deaf (t ++ u) g = Deaf t g) (hl : ∀ op ∈ u, op.act.low B) (hr : ∀ op ∈ u, op.act ≠ .mark (.release (stA Wg))) : QT Shun Still B Wg t0 W Hr (t ++ u) := by
  refine ⟨⟨fun said => noRace_append (H.pt.clean said) hu fun i a ha op hop b hb hc => ?_, fun i a ha hm => ?_, fun i a ha hw hS g' hg' => ?_, fun g hg => (hd g hg).trans (H.pt.hears g hg), over_app H.pt.over fun op hop => .inr (.inl (by rw [hu op hop]; exact hg)), seen_app H.pt.seen hl⟩,
    H.quiet.app fun op hop x hx hS => ⟨by rw [(hat op hop x hx).2]; simp, fun e => by rw [(hat op hop x hx).2] at e; cases e⟩, H.norel.app hr, late_app H.late⟩
  · obtain ⟨h1, h2⟩ := hat op hop b hb
    exact H.quiet.knows (.inr hg) h1 (by rw [h2]; simp) (fun e => by rw [h2] at e; cases e) i a ha hc
  · obtain ⟨x, hx, hxa⟩ := touch_of ha
    rcases getElem?_append_cases hx with ⟨_, hx'⟩ | ⟨_, hxu⟩
    · exact (H.pt.known i a (by rw [touchAt_of hx']; exact hxa) hm).imp (·.app u) (Or.imp id fun ⟨p, q, g, hg, hl⟩ => ⟨p, q, g, by rw [g?_old (lt_size_of_getElem? hx')]; exact hg, hl⟩)
    · exact .inr (.inl ⟨.inr (hat x hxu a hxa).1, (hat x hxu a hxa).2⟩)
  · obtain ⟨x, hx, hxa⟩ := touch_of ha
    rcases getElem?_append_cases hx with ⟨_, hx'⟩ | ⟨_, hxu⟩
    · exact (H.pt.wrote i a (by rw [touchAt_of hx']; exact hxa) hw hS g' hg').app u
    · exact absurd (hat x hxu a hxa).1 (hap _ hS)

/-- A go statement of goroutine 0's. -/
theorem QT.spawn {c : Nat} (H : QT Shun Still B Wg t0 W Hr t) (h0 : Hr 0) (hc0 : Deaf t c = 0) (fh : FuncId) (ph : String) (fc : FuncId) :
    QT Shun Still B Wg t0 (fun g => W g ∨ g = c) (fun g => Hr g ∨ g = c) (t ++ gone c fh ph fc) := by
  refine ⟨H.pt.spawn h0 hc0 fh ph fc, fun i a ha hS => ?_, H.norel.app fun op hop => by
    simp only [gone, List.mem_toArray, List.mem_cons, List.not_mem_nil, or_false] at hop
    rcases hop with rfl | rfl <;> simp, late_app H.late⟩
  obtain ⟨x, hx, hxa⟩ := touch_of ha
  rcases getElem?_append_cases hx with ⟨_, hx'⟩ | ⟨_, hxu⟩
  · rcases H.quiet i a (by rw [touchAt_of hx']; exact hxa) hS with h1 | ⟨h1, h2⟩
    · refine .inl fun g hg => ?_
      rcases hg with rfl | hg | rfl
      · exact (h1 0 (.inl rfl)).app _
      · exact (h1 g (.inr hg)).app _
      · exact Go.ConcN.fork_knows (x := { g := 0, fn := fh, pos := ph, act := .go g }) (y := { g := g, fn := fc, pos := ph, act := .start }) ⟨rfl, rfl⟩ ⟨rfl, rfl⟩ (H.pt.hears 0 h0) hc0 (h1 0 (.inl rfl))
    · exact .inr ⟨h1, fun e => by rw [g?_old (lt_size_of_getElem? hx')]; exact h2 e⟩
  · rw [gone_mute c fh ph fc x hxu] at hxa; cases hxa

/-- One of the team says its last word. -/
theorem RelW.new {k : Nat} {y : MemOp} (hy : y.g = k) (ha : y.act = .mark (.releaseMerge (stA Wg))) (hd : Deaf t k = 0) (h0 : t0 ≤ t.size) : RelW Wg t0 (t ++ #[y]) k t.size := by
  have e0 : (t ++ #[y])[t.size]? = some y := by simp
  refine ⟨h0, by rw [act?_of e0, ha], by rw [g?_of e0, hy], ⟨k, by rw [g?_of e0, hy], by rw [deaf_old (Nat.le_refl _)]; exact hd⟩, fun i hi hg x hx => ?_⟩
  obtain ⟨z, hz, _⟩ := touch_of hx
  have := lt_size_of_getElem? hz
  simp at this
  omega

/-- GOROUTINE 0's ACQUIRE: whoever has said its last word is behind; the frame stands, the group's cells being shunned. -/
theorem QT.acquire {y : MemOp} (H : QT Shun Still B Wg t0 W Hr t) (h0 : Hr 0) (hy : y.g = 0) (ha : y.act = .mark (.acquire (stA Wg))) (hB : Wg < B) (all : ∀ g, W g → ∃ r, RelW Wg t0 t g r) (hap : ∀ l, Still l → ¬ ShN Wg l) : Past (fun l => Shun l ∨ ShN Wg l) B (t ++ #[y]) := by
  have e0 : (t ++ #[y])[t.size]? = some y := by simp
  have hmute : ∀ op ∈ #[y], op.act.touch? = none := fun op hop => by
    obtain rfl : op = y := by simpa using hop
    rw [ha]; rfl
  have hquiet : ∀ g, ∀ op ∈ #[y], ∀ d, deafStep g d op = d := fun g op hop d => by
    obtain rfl : op = y := by simpa using hop
    simp [deafStep, ha]
  have H' : QT Shun Still B Wg t0 W Hr (t ++ #[y]) := H.mute hmute (fun g _ => hquiet g) (fun op hop => by
    obtain rfl : op = y := by simpa using hop
    rw [ha]; exact hB) (fun op hop => by
    obtain rfl : op = y := by simpa using hop
    rw [ha]; simp)
  have hheard : (t ++ #[y]).heard t.size := ⟨0, by rw [g?_of e0, hy], by rw [deaf_old (Nat.le_refl _)]; exact H.pt.hears 0 h0⟩
  have edge : ∀ g, W g → ∃ r, RelW Wg t0 (t ++ #[y]) g r ∧ HappensBefore (t ++ #[y]) r t.size := fun g hg => by
    obtain ⟨r, hr⟩ := all g hg
    have hr' : RelW Wg t0 (t ++ #[y]) g r := hr.other fun op hop _ => hmute op hop
    have hlt : r < t.size := lt_of_act? hr.act
    exact ⟨r, hr', .single (.inr ⟨.marked hlt (.inr hr'.act) (by rw [act?_of e0, ha]) (fun k hk _ => H'.norel k (Nat.le_trans hr'.late (Nat.le_of_lt hk))), hr'.heard, hheard⟩)⟩
  have take : ∀ i a g, touchAt (t ++ #[y]) i = some a → (t ++ #[y]).g? i = some g → W g → Knows (t ++ #[y]) 0 i ∨ (ShN Wg a.loc ∧ a.kind = .atomic ∧ ¬ (t ++ #[y]).heard i) := fun i a g hta hg hw => by
    obtain ⟨r, hr, hb⟩ := edge g hw
    rcases Nat.lt_or_ge r i with hlt | hge
    · exact .inr (hr.after i hlt hg a hta)
    · refine .inl ⟨t.size, y, e0, hy, .inr ?_⟩
      rcases Nat.lt_or_ge i r with h1 | h1
      · exact .trans (.single (.inl ⟨h1, g, hg, hr.g⟩)) hb
      · obtain rfl : i = r := by omega
        exact hb
  refine ⟨H'.pt.clean, fun i a hta hm => ?_, fun i g hg hne hc => ?_, H'.pt.hears 0 h0, H'.pt.seen⟩
  · rcases H'.pt.known i a hta hm with h | h | ⟨_, hS, g, hg, hw⟩
    · exact .inl h
    · exact .inr h
    · rcases take i a g hta hg hw with h | ⟨h, _⟩
      · exact .inl h
      · exact absurd h (hap _ hS)
  · by_cases hw : W g
    · obtain ⟨x, hx, hm, hk⟩ := hc
      rcases take i x g hx hg hw with ⟨q, z, h1, h2, h3⟩ | ⟨_, h1, h2⟩
      · rcases h3 with rfl | h3
        · rw [g?_of h1, h2] at hg; exact absurd (Option.some.inj hg).symm hne
        · exact ⟨q, by rw [g?_of h1, h2], h3⟩
      · exact hk.elim (fun h => absurd h1 h) fun h => absurd h h2
    · exact H'.pt.over i g hg hne hw hc
end Go.Proofs.Ytdpagejckahkkaa.Net
