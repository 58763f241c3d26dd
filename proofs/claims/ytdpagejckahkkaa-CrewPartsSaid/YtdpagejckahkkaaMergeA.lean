/- Many senders, each at a select of its send and a stop, and one receiver: what a communication between them makes. -/
import Derived.Test.YtdpagejckahkkaaNetI
import Derived.Conc.CrowdSel
set_option linter.unusedSimpArgs false
namespace Go.Proofs.Ytdpagejckahkkaa.Net
open Go Go.Conc

section
variable {P : Program} {gs : Array Goroutine} {w w₁ : World} {sl : Option (Nat × Nat)} {i j k : Nat} {g g₂ gj : Goroutine} {es : Array Event} {c cap s r : Nat} {buf : Array Value} {tm closed : Bool} {v z zj : Value}
  {blocking : Bool} {shape shj : CommShape} {cs cases : Array CommCase}

/-- One that comes to a select, whose k-th case is a send, meets the one that is parked at the receive there; no other case has a way. -/
theorem sel_send_meets (hi : gs[i]? = some g) (h : stepG P (i == 0) g w = .comm g₂ cases blocking shape w₁ es) (hk : cases[k]? = some (scase c v z))
    (ho : ∀ (m : Nat) (c' : CommCase), m ≠ k → cases[m]? = some c' → NoWays w₁ (gs.setIfInBounds i ph) c')
    (hc : w₁.heap[c]? = some (.chan cap buf false s r tm)) (hij : j ≠ i) (hj : gs[j]? = some (parked gj #[rcase c zj] shj)) (hp : partners (gs.setIfInBounds i ph) c false = [(j, 0)]) :
    runT P (crowd gs w sl) i = (.next (crowd ((gs.setIfInBounds j (gj.finishComm P #[rcase c zj] shj 0 v true)).setIfInBounds i (g₂.finishComm P cases shape k undef false)) (w₁.setChan c cap buf false (s + 1) (r + 1) tm) sl),
      MemOp.ofEvents i g.frame.fn g.frame.place es ++ #[{ g := i, fn := g₂.frame.fn, pos := g₂.frame.place, act := .send c s }, { g := j, fn := gj.frame.fn, pos := gj.frame.place, act := .recv c r cap },
        { g := i, fn := g₂.frame.fn, pos := g₂.frame.place, act := .sendDone c s }, { g := j, fn := gj.frame.fn, pos := gj.frame.place, act := .recvDone c r }]) := by
  have hw : ways w₁ (gs.setIfInBounds i ph) (scase c v z) = [.partner j 0] := by simp [ways, scase, hc, hp]
  have hj' := stand_get (i := i) hij hj
  have hfp := finishPartner_at P (gs.setIfInBounds i ph) hj' (cs := #[rcase c zj]) (sh := shj) rfl 0 v
  have hgd : (gs.setIfInBounds i ph).getD j default = parked gj #[rcase c zj] shj := by rw [Array.getD_eq_getD_getElem?, hj']; rfl
  rw [runT_crowd_comm hi h]
  unfold communicate
  simp only [ready_one hk (by rw [hw]; simp) ho, hw]
  rw [if_neg]
  · simp [choose, Sem.run, Question.forced, bind, Sem.bind, pure, scase, crowd, hc, hfp, hgd, set_stand2, finishComm_parked, rcase, parked, World.setChan]
    rfl
  · rw [Bool.not_eq_true]; exact any_ill (made_of_one hk (made_send v z hc) ho)

/-- One that comes to a receive meets the one that is parked at a select whose k-th case is a send there. -/
theorem recv_meets_sel (hi : gs[i]? = some g) (h : stepG P (i == 0) g w = .comm g₂ #[rcase c z] blocking shape w₁ es) (hc : w₁.heap[c]? = some (.chan cap #[] closed s r tm))
    (hij : j ≠ i) (hj : gs[j]? = some (parked gj cs shj)) (hk : cs[k]? = some (scase c v zj)) (hp : partners (gs.setIfInBounds i ph) c true = [(j, k)]) :
    runT P (crowd gs w sl) i = (.next (crowd ((gs.setIfInBounds j (gj.finishComm P cs shj k undef false)).setIfInBounds i (g₂.finishComm P #[rcase c z] shape 0 v true)) (w₁.setChan c cap #[] closed (s + 1) (r + 1) tm) sl),
      MemOp.ofEvents i g.frame.fn g.frame.place es ++ #[{ g := j, fn := gj.frame.fn, pos := gj.frame.place, act := .send c s }, { g := i, fn := g₂.frame.fn, pos := g₂.frame.place, act := .recv c r cap },
        { g := j, fn := gj.frame.fn, pos := gj.frame.place, act := .sendDone c s }, { g := i, fn := g₂.frame.fn, pos := g₂.frame.place, act := .recvDone c r }]) := by
  have hj' := stand_get (i := i) hij hj
  have hfp := finishPartner_at P (gs.setIfInBounds i ph) hj' (cs := cs) (sh := shj) rfl k undef
  have hgd : (gs.setIfInBounds i ph).getD j default = parked gj cs shj := by rw [Array.getD_eq_getD_getElem?, hj']; rfl
  have hov : offeredValue (gs.setIfInBounds i ph) j k = v := by simp [offeredValue, hj', parked, hk, scase]
  rw [runT_crowd_comm hi h]
  simp [communicate, ways, rcase, hc, hp, choose, Sem.run, Question.forced, bind, Sem.bind, pure, World.setChan, crowd, hfp, hgd, hov, set_stand2, finishComm_parked, scase, parked, hk]
  rfl
end

section
variable {g : Goroutine} {w : World} {c d : Nat} {v z zd : Value} {sh : CommShape}
/-- The two cases of one that sends till it is told to stop. -/
def twoCases (c : Nat) (v z : Value) (d : Nat) (zd : Value) : Array CommCase := #[scase c v z, rcase d zd]
theorem again_two_open {cap s r cap' s' r' : Nat} {buf buf' : Array Value} {tm tm' : Bool} (hc : w.heap[c]? = some (.chan cap buf false s r tm)) (hd : w.heap[d]? = some (.chan cap' buf' false s' r' tm')) : (parked g (twoCases c v z d zd) sh).again w = parked g (twoCases c v z d zd) sh := by
  simp [Goroutine.again, parked, twoCases]
  exact ⟨by simp [scase, hc], by simp [rcase, hd]⟩
theorem again_two_stop {cap s r : Nat} {buf : Array Value} {tm : Bool} (hd : w.heap[d]? = some (.chan cap buf true s r tm)) : (parked g (twoCases c v z d zd) sh).again w = { parked g (twoCases c v z d zd) sh with status := .running } :=
  again_some_closed (k := 1) rfl hd
theorem offers_two_send (r : Nat) : offersAt (parked g (twoCases c v z d zd) sh) r true = if c = r then [0] else [] := by
  by_cases h : c = r <;> simp [offersAt, parked, twoCases, scase, rcase, h]
theorem offers_two_recv (r : Nat) : offersAt (parked g (twoCases c v z d zd) sh) r false = if d = r then [1] else [] := by
  by_cases h : d = r <;> simp [offersAt, parked, twoCases, scase, rcase, h]
end
end Go.Proofs.Ytdpagejckahkkaa.Net
