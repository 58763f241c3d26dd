/- The calls of crew.Relay and crew.Merge, and what is kept beside them, while the places of finished groups are shunned. -/
import Derived.Test.YtdpagejckahkkaaMergeN
import Derived.Test.YtdpagejckahkkaaSeqI
import Derived.Test.YtdpagejckahkkaaLaw
set_option linter.unusedSimpArgs false
set_option linter.unusedVariables false
namespace Go.Proofs.Ytdpagejckahkkaa.Net
open Go Go.Conc Go.RowKit
open Go.ConcN (ShN)

/-- What is shunned are groups that were made. -/
def SL (S : Loc → Prop) (w : World) : Prop := ∀ l, S l → ∃ n, ShN n l ∧ n < w.heap.size
theorem SL.low {S : Loc → Prop} {w : World} (h : SL S w) : ∀ l, S l → l.low w.heap.size := fun l hl => by
  obtain ⟨n, ⟨a, rfl, e⟩, hn⟩ := h l hl
  show a.block < w.heap.size
  omega
theorem SL.new {S : Loc → Prop} {w : World} (h : SL S w) : ∀ z : Addr, w.heap.size ≤ z.block → ¬ S (.cell z) := fun z hz hs => by
  have : z.block < w.heap.size := h.low _ hs
  omega
theorem SL.up {S : Loc → Prop} {w w' : World} (h : SL S w) (hs : w.heap.size ≤ w'.heap.size) : SL S w' := fun l hl => by
  obtain ⟨n, h1, h2⟩ := h l hl
  exact ⟨n, h1, by omega⟩
/-- One group more, beyond the heap of w. -/
def More (S S' : Loc → Prop) (w w' : World) : Prop := ∀ l, S' l → S l ∨ ∃ n, ShN n l ∧ w.heap.size ≤ n ∧ n < w'.heap.size
theorem More.same (S : Loc → Prop) (w w' : World) : More S S w w' := fun _ h => .inl h
theorem More.sl {S S' : Loc → Prop} {w w' : World} (h : SL S w) (m : More S S' w w') (hs : w.heap.size ≤ w'.heap.size) : SL S' w' := fun l hl => by
  rcases m l hl with h1 | ⟨n, h1, _, h2⟩
  · exact h.up hs l h1
  · exact ⟨n, h1, h2⟩
theorem More.trans {S S' S'' : Loc → Prop} {a b c : World} (m : More S S' a b) (k : More S' S'' b c) (h1 : a.heap.size ≤ b.heap.size) (h2 : b.heap.size ≤ c.heap.size) : More S S'' a c := fun l hl => by
  rcases k l hl with h | ⟨n, h3, h4, h5⟩
  · rcases m l h with h | ⟨n, h3, h4, h5⟩
    · exact .inl h
    · exact .inr ⟨n, h3, h4, by omega⟩
  · exact .inr ⟨n, h3, by omega, h5⟩
theorem More.clear {S S' : Loc → Prop} {w w' : World} (m : More S S' w w') {k : Nat} (hk : k < w.heap.size) (h : ∀ x : Addr, x.block = k → ¬ S (.cell x)) : ∀ x : Addr, x.block = k → ¬ S' (.cell x) := fun x hx hs => by
  rcases m _ hs with h1 | ⟨n, ⟨a, e, h1⟩, h2, _⟩
  · exact h x hx h1
  · obtain rfl := Loc.cell.inj e
    omega

theorem IntsAt.shun {S S' : Loc → Prop} {w w' w₀ w₁ : World} {v : Value} {xs : List Int} (h : IntsAt S w v xs) (hg : w.grownBy w' none) (m : More S S' w₀ w₁) (hb : ∀ k, v.ownBlock = some k → k < w₀.heap.size) : IntsAt S' w' v xs := by
  obtain ⟨a0, cap, rfl, h1, h2, h3, h4⟩ := IntsAt.kept h hg fun k _ e => by cases e
  exact ⟨a0, cap, rfl, h1, fun ad e x hx => m.clear (hb ad.block (by rw [e]; rfl)) (h2 ad e) x hx, h3, h4⟩

theorem relay_at {S : Loc → Prop} {w : World} {v u : Value} {vs ys : List Int} (hv : IntsAt S w v vs) (hvb : ∀ k, v.ownBlock = some k → k < w.heap.size) (hu : IntsAt S w u ys) (hub : ∀ k, u.ownBlock = some k → k < w.heap.size) (hl1 : vs.length * 8 ≤ 140737488355328) (hl2 : ys.length * 8 ≤ 140737488355328) (hS : SL S w) :
    CallsR Try.prog S 8 #[v, u] w (fun S' r w' => S' = S ∧ w'.ownsRow w.heap.size 3 1 r (relayL vs ys).length ((relayL vs ys).map num) ∧ w.grownBy w' none) := by
  obtain ⟨a0, cap, rfl, h1, h2, _⟩ := hv
  obtain ⟨a1, cap1, rfl, h3, h4, _⟩ := hu
  have hI : (⟨w, a0, cap, vs, a1, cap1, ys⟩ : RIn).Ok S := ⟨h1, h3, hl1, hl2, fun ad h => ⟨hvb _ (by have h : a0 = some ad := h; rw [h]; rfl), h2 ad h⟩, fun ad h => ⟨hub _ (by have h : a1 = some ad := h; rw [h]; rfl), h4 ad h⟩, hS.low⟩
  exact (relay_calls _ hI).mono fun S' r w' h => ⟨h.1, h.2.1, ⟨h.2.2.os, h.2.2.tape, h.2.2.output, h.2.2.size, fun k hk _ => h.2.2.block k hk⟩⟩

theorem merge_at {S : Loc → Prop} {w : World} {a0 : Option Addr} {ca : Nat} {ps : List (List Int)} {hd : Nat → Value} {vt : Value} {ts : List Int} (hP : PartsAt S w a0 ps hd) (ht : IntsAt S w vt ts) (hl : ts.length * 8 ≤ 140737488355328) (hS : SL S w) :
    CallsR Try.prog S 14 #[.slice a0 ps.length ca, vt] w (fun S' r w' => More S S' w w' ∧ w'.ownsRow (w.heap.size + 1) 3 1 r (mergeR ps ts).length ((mergeR ps ts).map num) ∧ w.grownBy w' none ∧ ∀ k, r.ownBlock = some k → ∀ x : Addr, x.block = k → ¬ S' (.cell x)) := by
  obtain ⟨b0, cb, rfl, h1, h2, _⟩ := ht
  have hI : (⟨w, a0, ca, ps, hd, b0, cb, ts⟩ : MIn).Ok S := ⟨hP, h1, h2, hl, hS.low⟩
  refine (merge_calls _ hI).mono fun S' r w' h => ⟨fun l hl => ?_, h.2.1, ⟨h.2.2.os, h.2.2.tape, h.2.2.output, h.2.2.size, fun k hk _ => h.2.2.block k hk⟩, fun k hk x hx hs => ?_⟩
  · rcases h.1 l hl with h0 | ⟨h0, h3⟩
    · exact .inl h0
    · exact .inr ⟨_, h0, Nat.le_refl _, h3⟩
  · have hlt : w.heap.size + 1 ≤ k := (h.2.1.lt k hk).1
    rcases h.1 _ hs with h0 | ⟨⟨a, e, h0⟩, _⟩
    · have : x.block < w.heap.size := hS.low _ h0
      omega
    · obtain rfl := Loc.cell.inj e
      have h0 : x.block = w.heap.size := h0
      omega

/-- A literal list of ints. -/
theorem lit_ints {S : Loc → Prop} {w : World} {k : Nat} (xs : List Int) {t : TypeId} (h : w.heap[k]? = some (.cells (xs.map num).toArray t)) (hS : ∀ z : Addr, z.block = k → ¬ S (.cell z)) (hl : xs.length ≤ 4611686018427387904) : IntsAt S w (.slice (some ⟨k, 0, none⟩) xs.length xs.length) xs := by
  refine ⟨some ⟨k, 0, none⟩, xs.length, rfl, fun j u hj => ⟨_, rfl, ?_⟩, fun ad e => ?_, (fun h => by cases h), hl⟩
  · have hu : (xs.map num).toArray[j]? = some (num u) := by simp [hj]
    by_cases h0 : j = 0
    · subst h0
      simpa [World.cell?, Addr.add, h] using hu
    · simpa [World.cell?, Addr.add, h0, h] using hu
  · cases e; exact hS
/-- A row of one's own stays so, shunned what may be. -/
theorem row_ints {S' : Loc → Prop} {w w' : World} {base n : Nat} {v : Value} {xs : List Int} (h : w.ownsRow base 3 1 v n (xs.map num)) (hg : w.grownBy w' none) (hS : ∀ k, v.ownBlock = some k → ∀ x : Addr, x.block = k → ¬ S' (.cell x)) (hm : n ≤ 4611686018427387904) : IntsAt S' w' v xs :=
  IntsAt.own' (h.kept hg (by cases v.ownBlock <;> simp)) (fun x hx => hS _ hx x rfl) hm
theorem grown_heap {w w' : World} {k : Nat} {o : Obj} (h : w.heap[k]? = some o) (hg : w.grownBy w' none) : w'.heap[k]? = some o := (hg.block k (Array.getElem?_eq_some_iff.1 h).1 (by simp)).trans h

theorem alive_relay : relayL [1, 2, 3] [10, 100] = [111, 112, 113] := by decide
theorem alive_merge : mergeR [[1, 2], [7, 8, 9]] [1, 0, 1, 1, 1, 0, 0] = [7, 1, 8, 9, 2] := by decide
end Go.Proofs.Ytdpagejckahkkaa.Net
