/- Many senders and one receiver, joined by a sync.WaitGroup: what is asked of each goroutine by itself. -/
import Derived.Test.YtdpagejckahkkaaMergeA
import Derived.Test.YtdpagejckahkkaaMergeB
import Derived.Test.YtdpagejckahkkaaNetC
namespace Go.Proofs.Ytdpagejckahkkaa.Net
open Go Go.Conc
open Go.ConcN (ShN WgLive)
open Go.ConcR (KK WgAt stA smA rd wr mk)

/-- Where a sender stands: numbers left to send; told to stop; its channel is shut; release-and-merge said; deaf; it was the last and goroutine 0 waits (three steps); it only leaves. -/
inductive MS where
  | feed (rest : List Int)
  | shut
  | done
  | rel
  | deaf
  | l2
  | l3
  | l4
  | gone

/-- It has said its last word. -/
def MS.said : MS → Prop
  | .feed _ | .shut | .done => False
  | _ => True

structure MCfg where
  P : Program
  S : World → Prop
  Still : Loc → Prop
  Shun : Loc → Prop
  B : Nat
  T : Nat
  c : Nat → Nat
  d : Nat
  Wg : Nat
  ty : TypeId
  parts : Nat → List Int
  W : Nat → MS → Goroutine → Prop
  b0 : Nat

section
variable (C : MCfg)

/-! ### a sender -/
def AtSel (p : Nat) (v : Int) (NextS NextD : Goroutine → Prop) (g : Goroutine) : Prop :=
  g.status = .running ∧ ∃ sh z zd, (∀ w, C.S w → stepG C.P false g w = .comm (core g) (twoCases (C.c p) (num v) z C.d zd) true sh w #[]) ∧
    NextS ((core g).finishComm C.P (twoCases (C.c p) (num v) z C.d zd) sh 0 undef false) ∧ NextD ((core g).finishComm C.P (twoCases (C.c p) (num v) z C.d zd) sh 1 zd false)
def AtCloseM (p : Nat) (Next : Goroutine → Prop) (g : Goroutine) : Prop :=
  g.status = .running ∧ mayWake C.P g = true ∧ ∃ g₂, (∀ w s r, C.S w → w.heap[C.c p]? = some (.chan 0 #[] false s r false) → stepG C.P false g w = .go g₂ (w.setChan (C.c p) 0 #[] true s r false) (closeEvents (C.c p))) ∧ Next g₂
def AtMark (m : Mark) (Next : Goroutine → Prop) (g : Goroutine) : Prop := g.status = .running ∧ ∃ g', (∀ w, C.S w → stepG C.P false g w = .go g' w #[mk m]) ∧ Next g'
def AtAddNeg (NextL NextG : Goroutine → Prop) (g : Goroutine) : Prop :=
  g.status = .running ∧ ∀ w, C.S w → ∀ v wt : Nat, wt ≤ 1 → v < 2147483647 → WgAt C.ty C.Wg w ((v + 1) * KK + wt) 0 →
    ∃ g', stepG C.P false g w = .go g' (w.setCell (stA C.Wg) (.int .u64 (v * KK + wt))) #[rd (stA C.Wg), wr (stA C.Wg)] ∧ ((v = 0 ∧ wt = 1) → NextL g') ∧ (¬ (v = 0 ∧ wt = 1) → NextG g')
def AtL2 (Next : Goroutine → Prop) (g : Goroutine) : Prop := g.status = .running ∧ ∀ w, C.S w → WgAt C.ty C.Wg w 1 0 → ∃ g', stepG C.P false g w = .go g' w #[rd (stA C.Wg)] ∧ Next g'
def AtL3 (Next : Goroutine → Prop) (g : Goroutine) : Prop := g.status = .running ∧ ∀ w, C.S w → WgAt C.ty C.Wg w 1 0 → ∃ g', stepG C.P false g w = .go g' (w.setCell (stA C.Wg) (.int .u64 0)) #[wr (stA C.Wg)] ∧ Next g'
def AtL4 (Next : Goroutine → Prop) (g : Goroutine) : Prop := g.status = .running ∧ mayWake C.P g = true ∧ ∀ w, C.S w → WgAt C.ty C.Wg w 0 0 → ∃ g', stepG C.P false g w = .go g' (w.setCell (smA C.Wg) (.int .u32 1)) (semEvents (smA C.Wg)) ∧ Next g'

def StopM (p : Nat) : MS → Goroutine → Prop
  | .feed (v :: r) => AtSel C p v (C.W p (.feed r)) (C.W p .shut)
  | .feed [] => AtCloseM C p (C.W p .done)
  | .shut => AtCloseM C p (C.W p .done)
  | .done => AtMark C (.releaseMerge (stA C.Wg)) (C.W p .rel)
  | .rel => AtMark C .disable (C.W p .deaf)
  | .deaf => AtAddNeg C (C.W p .l2) (C.W p .gone)
  | .l2 => AtL2 C (C.W p .l3)
  | .l3 => AtL3 C (C.W p .l4)
  | .l4 => AtL4 C (C.W p .gone)
  | .gone => fun _ => False
def GoesM (p : Nat) (s : MS) (n : Nat) (g : Goroutine) : Prop := Goes C.P false (fun _ w₁ => C.S w₁) (DS (fun l => C.Still l ∧ ¬ s.said) C.B) (fun g₁ _ => StopM C p s g₁) n g default

/-! ### goroutine 0 -/
/-- What the first m senders do to goroutine 0's world: their channels, the group's block, the count of draws. -/
structure AsideM (m : Nat) (w w₁ : World) : Prop where
  tape : w₁.tape = w.tape
  os : w₁.os = w.os
  output : w₁.output = w.output
  size : w₁.heap.size = w.heap.size
  block : ∀ k, k ≠ C.Wg → (∀ p, p < m → k ≠ C.c p) → w₁.heap[k]? = w.heap[k]?
  live : WgLive C.ty C.Wg w → WgLive C.ty C.Wg w₁
/-- What a step of goroutine 0's own does while m senders are started. -/
def D0 (m : Nat) (w w' : World) (es : Array Event) : Prop :=
  (C.S w → C.S w') ∧ (∀ p, p < m → w'.heap[C.c p]? = w.heap[C.c p]?) ∧ w'.heap[C.d]? = w.heap[C.d]? ∧ w'.heap[C.Wg]? = w.heap[C.Wg]? ∧ ∀ e ∈ es, EvM (fun l => C.Shun l ∨ ShN C.Wg l) C.Still C.B e ∧ e.loc ≠ .mark (.release (stA C.Wg))

section
variable (Fin Anch : Goroutine → World → Prop)
def GP (m : Nat) (Stop : Goroutine → World → Prop) (g : Goroutine) (w : World) : Prop := ∃ n, Goes C.P true (AsideM C m) (D0 C m) Stop n g w
def At0Mark (x : Mark) (Next : Goroutine → World → Prop) (g : Goroutine) (w : World) : Prop := g.status = .running ∧ ∃ g', stepG C.P true g w = .go g' w #[mk x] ∧ Next g' w
def AtAcqM : Goroutine → World → Prop := At0Mark C (.acquire (stA C.Wg)) Fin
def AtKeM : Goroutine → World → Prop := At0Mark C .enable (GP C C.T (AtAcqM C Fin))
def AtW4M (g : Goroutine) (w : World) : Prop := g.status = .running ∧ (WgAt C.ty C.Wg w 0 0 → ∃ g', stepG C.P true g w = .go g' w #[rd (stA C.Wg)] ∧ GP C C.T (AtKeM C Fin) g' w)
def AtW3M (g : Goroutine) (w : World) : Prop :=
  g.status = .running ∧ g.offers = none ∧ ((∃ st, WgAt C.ty C.Wg w st 0) → stepG C.P true g w = .go { g with status := .blocked } w #[]) ∧
    (WgAt C.ty C.Wg w 0 1 → ∃ g', stepG C.P true g w = .go g' (w.setCell (smA C.Wg) (.int .u32 0)) (semEvents (smA C.Wg)) ∧ GP C C.T (AtW4M C Fin) g' (w.setCell (smA C.Wg) (.int .u32 0)))
def AtW2M (vs : Nat) (g : Goroutine) (w : World) : Prop :=
  g.status = .running ∧ ∀ v : Nat, v < 2147483648 → WgAt C.ty C.Wg w (v * KK) 0 →
    (v = vs → ∃ g', stepG C.P true g w = .go g' (w.setCell (stA C.Wg) (.int .u64 (v * KK + 1))) #[rd (stA C.Wg), wr (stA C.Wg)] ∧ GP C C.T (AtW3M C Fin) g' (w.setCell (stA C.Wg) (.int .u64 (v * KK + 1)))) ∧
    (v ≠ vs → ∃ g', stepG C.P true g w = .go g' w #[rd (stA C.Wg)] ∧ GP C C.T Anch g' w)
def AtW1M (g : Goroutine) (w : World) : Prop :=
  g.status = .running ∧ ∀ v : Nat, v < 2147483648 → WgAt C.ty C.Wg w (v * KK) 0 → ∃ g', stepG C.P true g w = .go g' w #[rd (stA C.Wg)] ∧
    (v = 0 → GP C C.T (AtKeM C Fin) g' w) ∧ (v ≠ 0 → GP C C.T (AtW2M C Fin Anch v) g' w)
/-- It waits. -/
def WaitsM : Goroutine → World → Prop := GP C C.T (At0Mark C .disable (GP C C.T Anch))
/-- It shuts the stop, and waits. -/
def AtStopM (g : Goroutine) (w : World) : Prop :=
  g.status = .running ∧ mayWake C.P g = true ∧ ∃ g₂, (∀ s r, w.heap[C.d]? = some (.chan 0 #[] false s r false) → stepG C.P true g w = .go g₂ (w.setChan C.d 0 #[] true s r false) (closeEvents C.d)) ∧
    ∀ s r w₂, AsideM C C.T (w.setChan C.d 0 #[] true s r false) w₂ → WaitsM C Anch g₂ w₂
/-- It takes its turns: from which sender, and what it finds. -/
def AtTurnM (t : Nat) (Next : Goroutine → World → Prop) (r : Value) (g : Goroutine) (w : World) : Prop :=
  g.status = .running ∧ ∃ es, stepG C.P true g w = .comm (core g) #[rcase (C.c t) zer] true (.recv true) w es ∧ (∀ e ∈ es, EvM (fun l => C.Shun l ∨ ShN C.Wg l) C.Still C.B e ∧ e.loc ≠ .mark (.release (stA C.Wg))) ∧ ∀ w₂, AsideM C C.T w w₂ → Next (Go.Conc.served (core g) r) w₂
def found : Option Int → Value
  | some v => .tuple #[num v, .bool true]
  | none => .tuple #[zer, .bool false]
def TurnsM : List (Nat × Option Int) → Goroutine → World → Prop
  | [], g, w => GP C C.T (AtStopM C Anch) g w
  | (t, o) :: l, g, w => GP C C.T (AtTurnM C t (TurnsM l) (found o)) g w
/-- It starts the senders. -/
def AtGoM (m : Nat) (Next : Goroutine → World → Prop) (g : Goroutine) (w : World) : Prop :=
  g.status = .running ∧ ∃ g' child, stepG C.P true g w = .spawn g' child w #[] ∧ C.W m (.feed (C.parts m)) child ∧ C.S w ∧ w.heap[C.c m]? = some (.chan 0 #[] false 0 0 false) ∧ ∀ w₂, AsideM C (m + 1) w w₂ → Next g' w₂
def AtAddM (m : Nat) (Next : Goroutine → World → Prop) (g : Goroutine) (w : World) : Prop :=
  g.status = .running ∧ ∀ v : Nat, v < 2147483647 → WgAt C.ty C.Wg w (v * KK) 0 →
    ∃ g', stepG C.P true g w = .go g' (w.setCell (stA C.Wg) (.int .u64 ((v + 1) * KK))) #[rd (stA C.Wg), wr (stA C.Wg)] ∧ GP C m (At0Mark C .enable (GP C m (AtGoM C m Next))) g' (w.setCell (stA C.Wg) (.int .u64 ((v + 1) * KK)))
def StartsM (Next : Goroutine → World → Prop) : Nat → Goroutine → World → Prop
  | 0, g, w => Next g w
  | k + 1, g, w => GP C (C.T - (k + 1)) (At0Mark C .disable (GP C (C.T - (k + 1)) (AtAddM C (C.T - (k + 1)) (StartsM Next k)))) g w
end

/-- What is asked of them together. -/
structure MCfg.Fine (Anch Fin : Goroutine → World → Prop) : Prop where
  inj : ∀ p q, C.c p = C.c q → p = q
  cd : ∀ p, C.c p ≠ C.d
  cw : ∀ p, C.c p ≠ C.Wg
  dw : C.d ≠ C.Wg
  low : ∀ p, p < C.T → C.c p < C.B
  lowd : C.d < C.B
  loww : C.Wg < C.B
  obj : ∀ p, C.Still (.obj (C.c p))
  objd : C.Still (.obj C.d)
  mem : ∀ l, C.Still l → l.isMemory = true
  apart : ∀ l, C.Still l → ¬ ShN C.Wg l
  apartS : ∀ l, C.Still l → ¬ C.Shun l
  stable : ∀ w w₁, AsideM C C.T w w₁ → C.S w → C.S w₁
  shut : ∀ w s r, C.S w → C.S (w.setChan C.d 0 #[] true s r false)
  walk : ∀ p s g, p < C.T → s ≠ .gone → C.W p s g → ∃ n, GoesM C p s n g
  quits : ∀ p g, C.W p .gone g → ∃ q, QuitsD C.P q 1 g
  anch : ∃ n, ∀ g w, Anch g w → Goes C.P true (AsideM C C.T) (D0 C C.T) (AtW1M C Fin Anch) n g w
  pos : 0 < C.b0
  many : C.T < 2147483647
end

/-! ### what the senders do to goroutine 0's world -/
section
variable {C : MCfg} {m : Nat}
theorem AsideM.refl (m : Nat) (w : World) : AsideM C m w w := ⟨rfl, rfl, rfl, rfl, fun _ _ _ => rfl, id⟩
theorem AsideM.trans {a b d : World} (h : AsideM C m a b) (h' : AsideM C m b d) : AsideM C m a d :=
  ⟨h'.tape.trans h.tape, h'.os.trans h.os, h'.output.trans h.output, h'.size.trans h.size, fun k hk hp => (h'.block k hk hp).trans (h.block k hk hp), fun x => h'.live (h.live x)⟩
theorem AsideM.at (m : Nat) (w : World) (d : Nat) : AsideM C m w (w.at d) := ⟨rfl, rfl, rfl, rfl, fun _ _ _ => rfl, id⟩
theorem AsideM.more {m' : Nat} (hm : m ≤ m') {w w₁ : World} (h : AsideM C m w w₁) : AsideM C m' w w₁ :=
  ⟨h.tape, h.os, h.output, h.size, fun k hk hp => h.block k hk fun p h => hp p (by omega), h.live⟩
theorem AsideM.setChan {p : Nat} (hp : p < m) (hw : C.c p ≠ C.Wg) (w : World) (cap : Nat) (buf : Array Value) (cl : Bool) (s r : Nat) (tm : Bool) : AsideM C m w (w.setChan (C.c p) cap buf cl s r tm) :=
  ⟨rfl, rfl, rfl, by simp [World.setChan], fun k _ hk => by simp [World.setChan, Ne.symm (hk p hp)], fun ⟨st, sm, h⟩ => ⟨st, sm, by
    unfold WgAt at h ⊢
    rw [← h]
    simp [World.setChan, hw]⟩⟩
theorem heap_setCell_ne {w : World} {a : Addr} {v : Value} {k : Nat} (h : k ≠ a.block) : (w.setCell a v).heap[k]? = w.heap[k]? := by
  unfold World.setCell
  split <;> simp [Array.getElem?_modify, Ne.symm h]
theorem size_setCell (w : World) (a : Addr) (v : Value) : (w.setCell a v).heap.size = w.heap.size := by
  unfold World.setCell
  split <;> simp
theorem AsideM.setSt {st sm : Int} (w : World) (h : WgAt C.ty C.Wg w st sm) (v : Int) : AsideM C m w (w.setCell (stA C.Wg) (.int .u64 v)) :=
  ⟨by unfold World.setCell; split <;> rfl, by unfold World.setCell; split <;> rfl, by unfold World.setCell; split <;> rfl, size_setCell _ _ _, fun k hk _ => heap_setCell_ne hk, fun _ => ⟨v, sm, h.setSt v⟩⟩
theorem AsideM.setSm {st sm : Int} (w : World) (h : WgAt C.ty C.Wg w st sm) (v : Int) : AsideM C m w (w.setCell (smA C.Wg) (.int .u32 v)) :=
  ⟨by unfold World.setCell; split <;> rfl, by unfold World.setCell; split <;> rfl, by unfold World.setCell; split <;> rfl, size_setCell _ _ _, fun k hk _ => heap_setCell_ne hk, fun _ => ⟨st, v, h.setSm v⟩⟩
end
end Go.Proofs.Ytdpagejckahkkaa.Net
