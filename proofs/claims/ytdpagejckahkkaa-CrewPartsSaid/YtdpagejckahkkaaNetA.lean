/- A team of goroutines beside goroutine 0: what is held of the trace. No data race; goroutine 0 knows every touch of memory, but for atomic ones of shunned places and for reads of still places by the team; every write of a still place is known to all of them. -/
import Derived.Conc.TokenTrace
namespace Go.Proofs.Ytdpagejckahkkaa.Net
open Go Go.Conc

structure PT (Shun Still : Loc → Prop) (B : Nat) (W Hr : Nat → Prop) (t : Trace) : Prop where
  clean : ∀ said, ¬ Race said t
  known : ∀ i a, touchAt t i = some a → a.loc.isMemory = true → Knows t 0 i ∨ (Shun a.loc ∧ a.kind = .atomic) ∨ (a.write = false ∧ Still a.loc ∧ ∃ g, t.g? i = some g ∧ W g)
  wrote : ∀ i a, touchAt t i = some a → a.write = true → Still a.loc → ∀ g, (g = 0 ∨ W g) → Knows t g i
  hears : ∀ g, Hr g → Deaf t g = 0
  over : ∀ i g, t.g? i = some g → g ≠ 0 → ¬ W g → t.counts i → ∃ j, t.g? j = some 0 ∧ HappensBefore t i j
  seen : ∀ op ∈ t, op.act.low B

/-- What a step of goroutine 0's may list. -/
def EvM (Shun Still : Loc → Prop) (B : Nat) (e : Event) : Prop :=
  (∀ x, (MemAct.ofEvent e).touch? = some x → (Shun x.loc → x.kind ≠ .plain) ∧ (Still x.loc → x.write = false)) ∧ e.loc ≠ .mark .disable ∧ e.loc ≠ .mark .enable ∧ (MemAct.ofEvent e).low B

/-- What a step of one of the team's may list. -/
def EvW (Still : Loc → Prop) (B : Nat) (e : Event) : Prop :=
  (∀ x, (MemAct.ofEvent e).touch? = some x → x.write = false ∧ Still x.loc) ∧ e.loc ≠ .mark .disable ∧ e.loc ≠ .mark .enable ∧ (MemAct.ofEvent e).low B

variable {Shun Still : Loc → Prop} {B : Nat} {W Hr : Nat → Prop} {t u : Trace}

theorem PT.mono {B' : Nat} (H : PT Shun Still B W Hr t) (hB : B ≤ B') : PT Shun Still B' W Hr t :=
  ⟨H.clean, H.known, H.wrote, H.hears, H.over, fun op hop => MemAct.low_mono hB (H.seen op hop)⟩

/-- What strangers did stays handed over. -/
theorem over_app (h : ∀ i g, t.g? i = some g → g ≠ 0 → ¬ W g → t.counts i → ∃ j, t.g? j = some 0 ∧ HappensBefore t i j) (hu : ∀ op ∈ u, op.g = 0 ∨ W op.g ∨ op.act.touch? = none) :
    ∀ i g, (t ++ u).g? i = some g → g ≠ 0 → ¬ W g → (t ++ u).counts i → ∃ j, (t ++ u).g? j = some 0 ∧ HappensBefore (t ++ u) i j := by
  intro i g hg hne hw hc
  obtain ⟨x, hx, _⟩ := hc
  obtain ⟨op, hop, hox⟩ := touch_of hx
  rcases getElem?_append_cases hop with ⟨hi, hop'⟩ | ⟨_, hopu⟩
  · obtain ⟨j, hj, hb⟩ := h i g (by simpa [Trace.g?, getElem?_append_old hi] using hg) hne hw ((counts_old hi).1 ⟨x, hx, ‹_›⟩)
    have hjl : j < t.size := by
      unfold Trace.g? at hj
      obtain ⟨z, hz, _⟩ := Option.map_eq_some_iff.1 hj
      exact lt_size_of_getElem? hz
    exact ⟨j, by simpa [Trace.g?, getElem?_append_old hjl] using hj, hb_app u hb⟩
  · have e : op.g = g := by rw [g?_of hop] at hg; exact Option.some.inj hg
    rcases hu op hopu with h0 | h0 | h0
    · exact absurd (e ▸ h0) hne
    · exact absurd (e ▸ h0) hw
    · rw [h0] at hox; cases hox

/-- Operations that touch nothing and say nothing of deafness. -/
theorem PT.mute (H : PT Shun Still B W Hr t) (hn : ∀ op ∈ u, op.act.touch? = none) (hq : ∀ g, Hr g → ∀ op ∈ u, ∀ d, deafStep g d op = d) (hl : ∀ op ∈ u, op.act.low B) : PT Shun Still B W Hr (t ++ u) := by
  refine ⟨fun said => noRace_appendMute (H.clean said) hn, fun i a ha hm => ?_, fun i a ha hw hS g hg => ?_, fun g hg => (Deaf_quiet (hq g hg)).trans (H.hears g hg), over_app H.over fun op hop => .inr (.inr (hn op hop)), seen_app H.seen hl⟩
  · obtain ⟨x, hx, hxa⟩ := touch_of ha
    rcases getElem?_append_cases hx with ⟨_, hx'⟩ | ⟨_, hxu⟩
    · exact (H.known i a (by rw [touchAt_of hx']; exact hxa) hm).imp (·.app u) (Or.imp id fun ⟨p, q, g, hg, hl⟩ => ⟨p, q, g, by rw [g?_old (lt_size_of_getElem? hx')]; exact hg, hl⟩)
    · rw [hn x hxu] at hxa; cases hxa
  · obtain ⟨x, hx, hxa⟩ := touch_of ha
    rcases getElem?_append_cases hx with ⟨_, hx'⟩ | ⟨_, hxu⟩
    · exact (H.wrote i a (by rw [touchAt_of hx']; exact hxa) hw hS g hg).app u
    · rw [hn x hxu] at hxa; cases hxa

/-- Goroutine 0's own operations. -/
theorem PT.main (H : PT Shun Still B W Hr t) (hu : ∀ op ∈ u, op.g = 0) (hs : ∀ op ∈ u, ∀ b, op.act.touch? = some b → (Shun b.loc → b.kind ≠ .plain) ∧ (Still b.loc → b.write = false))
    (hd : ∀ g, Hr g → Deaf (t ++ u) g = Deaf t g) (hl : ∀ op ∈ u, op.act.low B) : PT Shun Still B W Hr (t ++ u) := by
  refine ⟨fun said => noRace_append (H.clean said) hu fun i a ha op hop b hb hc => ?_, fun i a ha hm => ?_, fun i a ha hw hS g hg => ?_, fun g hg => (hd g hg).trans (H.hears g hg), over_app H.over fun op hop => .inl (hu op hop), seen_app H.seen hl⟩
  · rcases H.known i a ha hc.2.1 with hk | ⟨hsa, hka⟩ | ⟨hw, hS, _⟩
    · exact hk
    · have hkb := (hs op hop b hb).1 (hc.1 ▸ hsa)
      obtain ⟨_, _, _, hcase⟩ := hc
      rw [hka] at hcase
      rcases hcase with x | x | ⟨_, x, _⟩
      · cases x
      · exact absurd x hkb
      · cases x
    · have hb0 := (hs op hop b hb).2 (hc.1 ▸ hS)
      rcases hc.2.2.1 with x | x
      · rw [hw] at x; cases x
      · rw [hb0] at x; cases x
  · obtain ⟨x, hx, hxa⟩ := touch_of ha
    rcases getElem?_append_cases hx with ⟨_, hx'⟩ | ⟨_, hxu⟩
    · exact (H.known i a (by rw [touchAt_of hx']; exact hxa) hm).imp (·.app u) (Or.imp id fun ⟨p, q, g, hg, hl⟩ => ⟨p, q, g, by rw [g?_old (lt_size_of_getElem? hx')]; exact hg, hl⟩)
    · have := knows_own hx
      rw [hu x hxu] at this
      exact .inl this
  · obtain ⟨x, hx, hxa⟩ := touch_of ha
    rcases getElem?_append_cases hx with ⟨_, hx'⟩ | ⟨_, hxu⟩
    · exact (H.wrote i a (by rw [touchAt_of hx']; exact hxa) hw hS g hg).app u
    · rw [(hs x hxu a hxa).2 hS] at hw; cases hw

/-- One of the team reads still places. -/
theorem PT.work {g : Nat} (H : PT Shun Still B W Hr t) (hg : W g) (hu : ∀ op ∈ u, op.g = g) (hr : ∀ op ∈ u, ∀ b, op.act.touch? = some b → b.write = false ∧ Still b.loc)
    (hd : ∀ g, Hr g → Deaf (t ++ u) g = Deaf t g) (hl : ∀ op ∈ u, op.act.low B) : PT Shun Still B W Hr (t ++ u) := by
  refine ⟨fun said => noRace_append (H.clean said) hu fun i a ha op hop b hb hc => ?_, fun i a ha hm => ?_, fun i a ha hw hS g' hg' => ?_, fun g hg => (hd g hg).trans (H.hears g hg), over_app H.over fun op hop => .inr (.inl (by rw [hu op hop]; exact hg)), seen_app H.seen hl⟩
  · obtain ⟨hb0, hbS⟩ := hr op hop b hb
    rcases hc.2.2.1 with x | x
    · exact H.wrote i a ha x (hc.1 ▸ hbS) g (.inr hg)
    · rw [hb0] at x; cases x
  · obtain ⟨x, hx, hxa⟩ := touch_of ha
    rcases getElem?_append_cases hx with ⟨_, hx'⟩ | ⟨_, hxu⟩
    · exact (H.known i a (by rw [touchAt_of hx']; exact hxa) hm).imp (·.app u) (Or.imp id fun ⟨p, q, g, hg, hl⟩ => ⟨p, q, g, by rw [g?_old (lt_size_of_getElem? hx')]; exact hg, hl⟩)
    · exact .inr (.inr ⟨(hr x hxu a hxa).1, (hr x hxu a hxa).2, g, by rw [g?_of hx, hu x hxu], hg⟩)
  · obtain ⟨x, hx, hxa⟩ := touch_of ha
    rcases getElem?_append_cases hx with ⟨_, hx'⟩ | ⟨_, hxu⟩
    · exact (H.wrote i a (by rw [touchAt_of hx']; exact hxa) hw hS g' hg').app u
    · rw [(hr x hxu a hxa).1] at hw; cases hw

/-- The two operations of a go statement. -/
def gone (c : Nat) (fh : FuncId) (ph : String) (fc : FuncId) : Trace := #[{ g := 0, fn := fh, pos := ph, act := .go c }, { g := c, fn := fc, pos := ph, act := .start }]
theorem gone_mute (c : Nat) (fh : FuncId) (ph : String) (fc : FuncId) : ∀ op ∈ gone c fh ph fc, op.act.touch? = none := by
  intro op hop
  simp only [gone, List.mem_toArray, List.mem_cons, List.not_mem_nil, or_false] at hop
  rcases hop with rfl | rfl <;> rfl
theorem gone_quiet (c : Nat) (fh : FuncId) (ph : String) (fc : FuncId) (g : Nat) : ∀ op ∈ gone c fh ph fc, ∀ d, deafStep g d op = d := by
  intro op hop d
  simp only [gone, List.mem_toArray, List.mem_cons, List.not_mem_nil, or_false] at hop
  rcases hop with rfl | rfl <;> rfl
theorem gone_low (c : Nat) (fh : FuncId) (ph : String) (fc : FuncId) (B : Nat) : ∀ op ∈ gone c fh ph fc, op.act.low B := by
  intro op hop
  simp only [gone, List.mem_toArray, List.mem_cons, List.not_mem_nil, or_false] at hop
  rcases hop with rfl | rfl <;> trivial

/-- A go statement of goroutine 0's: the child is one of the team. -/
theorem PT.spawn {c : Nat} (H : PT Shun Still B W Hr t) (h0 : Hr 0) (hc0 : Deaf t c = 0) (fh : FuncId) (ph : String) (fc : FuncId) :
    PT Shun Still B (fun g => W g ∨ g = c) (fun g => Hr g ∨ g = c) (t ++ gone c fh ph fc) := by
  have e0 : (t ++ gone c fh ph fc)[t.size]? = some { g := 0, fn := fh, pos := ph, act := .go c } := by simp [gone]
  have e1 : (t ++ gone c fh ph fc)[t.size + 1]? = some { g := c, fn := fc, pos := ph, act := .start } := by simp [gone]
  have edge : HappensBefore (t ++ gone c fh ph fc) t.size (t.size + 1) :=
    Relation.TransGen.single (.inr ⟨.spawn (act?_of e0) (act?_of e1) (g?_of e1), ⟨0, g?_of e0, by rw [deaf_old (Nat.le_refl _)]; exact H.hears 0 h0⟩, ⟨c, g?_of e1, by rw [deaf_quiet (gone_quiet c fh ph fc c) 1 (by simp [gone])]; exact hc0⟩⟩)
  have H' : PT Shun Still B W Hr (t ++ gone c fh ph fc) := H.mute (gone_mute c fh ph fc) (fun g _ => gone_quiet c fh ph fc g) (gone_low c fh ph fc B)
  refine ⟨H'.clean, fun i a ha hm => (H'.known i a ha hm).imp id (Or.imp id fun ⟨p, q, g, hg, hl⟩ => ⟨p, q, g, hg, .inl hl⟩), fun i a ha hw hS g hg => ?_, fun g hg => (Deaf_quiet (gone_quiet c fh ph fc g)).trans (hg.elim (H.hears g) fun e => e ▸ hc0), fun i g hg hne hw hc => H'.over i g hg hne (fun h => hw (.inl h)) hc, H'.seen⟩
  rcases hg with rfl | hg | rfl
  · exact H'.wrote i a ha hw hS 0 (.inl rfl)
  · exact H'.wrote i a ha hw hS g (.inr hg)
  · obtain ⟨x, hx, hxa⟩ := touch_of ha
    rcases getElem?_append_cases hx with ⟨_, hx'⟩ | ⟨_, hxu⟩
    · exact ⟨t.size + 1, _, e1, rfl, .inr (((H.wrote i a (by rw [touchAt_of hx']; exact hxa) hw hS 0 (.inl rfl)).hb_new (Nat.le_refl _) e0 rfl).trans edge)⟩
    · rw [gone_mute _ _ _ _ x hxu] at hxa; cases hxa

/-- From the frame: whatever places of memory, not shunned, may be called still. -/
theorem PT.ofPast (H : Past Shun B t) (hS : ∀ l, Still l → l.isMemory = true) (hSS : ∀ l, Still l → ¬ Shun l) : PT Shun Still B (fun _ => False) (fun g => g = 0) t :=
  ⟨H.clean, fun i a ha hm => (H.known i a ha hm).imp id .inl, fun i a ha _ hs g hg => by
    rcases hg with rfl | hg
    · exact (H.known i a ha (hS _ hs)).elim id fun x => absurd x.1 (hSS _ hs)
    · exact hg.elim, fun _ hg => hg ▸ H.hears, fun i g hg hne _ hc => H.over i g hg hne hc, H.seen⟩

/-- Back to the frame: all that the team touched is known to goroutine 0. -/
theorem PT.toPast {Shun' : Loc → Prop} (H : PT Shun Still B W Hr t) (h0 : Hr 0) (hS' : ∀ l, Shun l → Shun' l) (hk : ∀ i a g, touchAt t i = some a → t.g? i = some g → W g → Knows t 0 i) [DecidablePred W] : Past Shun' B t :=
  ⟨H.clean, fun i a ha hm => by
    rcases H.known i a ha hm with h | h | ⟨h1, _, g, h3, h4⟩
    · exact .inl h
    · exact .inr ⟨hS' _ h.1, h.2⟩
    · exact .inl (hk i a g ha h3 h4), fun i g hg hne hc => by
    by_cases hw : W g
    · obtain ⟨x, hx, _⟩ := hc
      obtain ⟨q, z, h1, h2, h3⟩ := hk i x g hx hg hw
      rcases h3 with rfl | h3
      · rw [g?_of h1, h2] at hg; exact absurd (Option.some.inj hg).symm hne
      · exact ⟨q, by rw [g?_of h1, h2], h3⟩
    · exact H.over i g hg hne hw hc, H.hears 0 h0, H.seen⟩

theorem EvM.ops {g : Nat} {fn : FuncId} {pos : String} {es : Array Event} (he : ∀ e ∈ es, EvM Shun Still B e) :
    (∀ op ∈ MemOp.ofEvents g fn pos es, op.g = g) ∧ (∀ op ∈ MemOp.ofEvents g fn pos es, ∀ b, op.act.touch? = some b → (Shun b.loc → b.kind ≠ .plain) ∧ (Still b.loc → b.write = false)) ∧ (∀ op ∈ MemOp.ofEvents g fn pos es, op.act.low B) ∧ ∀ (t : Trace) g', Deaf (t ++ MemOp.ofEvents g fn pos es) g' = Deaf t g' :=
  ⟨fun op hop => by obtain ⟨e, _, rfl⟩ := Go.Conc.mem_ofEvents hop; rfl, fun op hop b hb => by obtain ⟨e, h, rfl⟩ := Go.Conc.mem_ofEvents hop; exact (he e h).1 b hb, fun op hop => by obtain ⟨e, h, rfl⟩ := Go.Conc.mem_ofEvents hop; exact (he e h).2.2.2,
    fun t g' => by
      by_cases e : g' = g
      · subst e; rw [Deaf_own]; exact deafBehind_still (fun e h => ⟨(he e h).2.1, (he e h).2.2.1⟩) _
      · exact Deaf_other t (fun x => e x.symm) _ (fun op hop => by obtain ⟨e, _, rfl⟩ := Go.Conc.mem_ofEvents hop; rfl)⟩
theorem EvW.ops {g : Nat} {fn : FuncId} {pos : String} {es : Array Event} (he : ∀ e ∈ es, EvW Still B e) :
    (∀ op ∈ MemOp.ofEvents g fn pos es, op.g = g) ∧ (∀ op ∈ MemOp.ofEvents g fn pos es, ∀ b, op.act.touch? = some b → b.write = false ∧ Still b.loc) ∧ (∀ op ∈ MemOp.ofEvents g fn pos es, op.act.low B) ∧ ∀ (t : Trace) g', Deaf (t ++ MemOp.ofEvents g fn pos es) g' = Deaf t g' :=
  ⟨fun op hop => by obtain ⟨e, _, rfl⟩ := Go.Conc.mem_ofEvents hop; rfl, fun op hop b hb => by obtain ⟨e, h, rfl⟩ := Go.Conc.mem_ofEvents hop; exact (he e h).1 b hb, fun op hop => by obtain ⟨e, h, rfl⟩ := Go.Conc.mem_ofEvents hop; exact (he e h).2.2.2,
    fun t g' => by
      by_cases e : g' = g
      · subst e; rw [Deaf_own]; exact deafBehind_still (fun e h => ⟨(he e h).2.1, (he e h).2.2.1⟩) _
      · exact Deaf_other t (fun x => e x.symm) _ (fun op hop => by obtain ⟨e, _, rfl⟩ := Go.Conc.mem_ofEvents hop; rfl)⟩

/-! ### who knows what of the team's touches -/

/-- Goroutine j knows each touch of memory by a goroutine of Q's. -/
def KnowsOf (Q : Nat → Prop) (j : Nat) (t : Trace) : Prop := ∀ i a g, touchAt t i = some a → t.g? i = some g → Q g → Knows t j i
/-- Channel c was closed, heard, behind each touch of memory by a goroutine of Q's. -/
def ShutOf (Q : Nat → Prop) (c : Nat) (t : Trace) : Prop := ∃ m, t.act? m = some (.close c) ∧ t.heard m ∧ ∀ i a g, touchAt t i = some a → t.g? i = some g → Q g → Before t i m

theorem touchAt_app_old {i : Nat} {a : Touch} {g : Nat} (ha : touchAt (t ++ u) i = some a) (hg : (t ++ u).g? i = some g) (hi : i < t.size) : touchAt t i = some a ∧ t.g? i = some g :=
  ⟨by rwa [touchAt_old hi] at ha, by rwa [g?_old hi] at hg⟩
theorem touch_new_op {i : Nat} {a : Touch} {g : Nat} (ha : touchAt (t ++ u) i = some a) (hg : (t ++ u).g? i = some g) (hi : t.size ≤ i) : ∃ op ∈ u, op.g = g ∧ op.act.touch? = some a := by
  obtain ⟨x, hx, hxa⟩ := touch_of ha
  rcases getElem?_append_cases hx with ⟨h, _⟩ | ⟨_, hxu⟩
  · omega
  · exact ⟨x, hxu, by rw [g?_of hx] at hg; exact Option.some.inj hg, hxa⟩

theorem KnowsOf.app {Q : Nat → Prop} {j : Nat} (h : KnowsOf Q j t) (hu : ∀ op ∈ u, (op.act.touch? = none ∨ op.g = j ∨ ¬ Q op.g)) : KnowsOf Q j (t ++ u) := by
  intro i a g ha hg hq
  rcases Nat.lt_or_ge i t.size with hi | hi
  · obtain ⟨h1, h2⟩ := touchAt_app_old ha hg hi
    exact (h i a g h1 h2 hq).app u
  · obtain ⟨op, hop, rfl, hto⟩ := touch_new_op ha hg hi
    rcases hu op hop with h1 | h1 | h1
    · rw [h1] at hto; cases hto
    · obtain ⟨x, hx, _⟩ := touch_of ha
      have := knows_own hx
      rw [show x.g = j from by rw [g?_of hx] at hg; rw [Option.some.inj hg, h1]] at this
      exact this
    · exact absurd hq h1
theorem ShutOf.app {Q : Nat → Prop} {c : Nat} (h : ShutOf Q c t) (hu : ∀ op ∈ u, (op.act.touch? = none ∨ ¬ Q op.g)) : ShutOf Q c (t ++ u) := by
  obtain ⟨m, h1, h2, h3⟩ := h
  have hm := lt_of_act? h1
  refine ⟨m, by rw [act?_old hm]; exact h1, (heard_old hm).2 h2, fun i a g ha hg hq => ?_⟩
  rcases Nat.lt_or_ge i t.size with hi | hi
  · obtain ⟨h4, h5⟩ := touchAt_app_old ha hg hi
    exact (h3 i a g h4 h5 hq).app u
  · obtain ⟨op, hop, rfl, hto⟩ := touch_new_op ha hg hi
    rcases hu op hop with h1 | h1
    · rw [h1] at hto; cases hto
    · exact absurd hq h1

/-- A step that ends in the close of channel c. -/
theorem ShutOf.new {Q : Nat → Prop} {c j : Nat} {y : MemOp} (h : KnowsOf Q j t) (hy : y.g = j) (hc : y.act = .close c) (hd : Deaf t j = 0) : ShutOf Q c (t ++ #[y]) := by
  have e0 : (t ++ #[y])[t.size]? = some y := by simp
  refine ⟨t.size, by rw [act?_of e0, hc], ⟨j, by rw [g?_of e0, hy], by rw [deaf_old (Nat.le_refl _)]; exact hd⟩, fun i a g ha hg hq => ?_⟩
  rcases Nat.lt_or_ge i t.size with hi | hi
  · obtain ⟨h4, h5⟩ := touchAt_app_old ha hg hi
    exact .inr ((h i a g h4 h5 hq).hb_new (Nat.le_refl _) e0 hy)
  · obtain ⟨op, hop, rfl, hto⟩ := touch_new_op ha hg hi
    obtain rfl : op = y := by simpa using hop
    rw [hc] at hto; cases hto

/-- A receive that finds it closed. -/
theorem KnowsOf.take {Q : Nat → Prop} {c j : Nat} {y : MemOp} (h : ShutOf Q c t) (hy : y.g = j) (hc : y.act = .recvClosed c) (hd : Deaf t j = 0) : KnowsOf Q j (t ++ #[y]) := by
  have e0 : (t ++ #[y])[t.size]? = some y := by simp
  obtain ⟨m, h1, h2, h3⟩ := h
  have hm := lt_of_act? h1
  intro i a g ha hg hq
  rcases Nat.lt_or_ge i t.size with hi | hi
  · obtain ⟨h4, h5⟩ := touchAt_app_old ha hg hi
    refine ⟨t.size, y, e0, hy, .inr (((h3 i a g h4 h5 hq).app #[y]).hb (.single (.inr ⟨.closed (c := c) (by rw [act?_old hm]; exact h1) (by rw [act?_of e0, hc]), (heard_old hm).2 h2, ⟨j, by rw [g?_of e0, hy], by rw [deaf_old (Nat.le_refl _)]; exact hd⟩⟩)))⟩
  · obtain ⟨op, hop, rfl, hto⟩ := touch_new_op ha hg hi
    obtain rfl : op = y := by simpa using hop
    rw [hc] at hto; cases hto

end Go.Proofs.Ytdpagejckahkkaa.Net
