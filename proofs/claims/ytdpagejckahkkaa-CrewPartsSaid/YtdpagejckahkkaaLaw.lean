/- What comes out of the chain is what the document says: each number with the sum of all that is added. -/
import Derived.Test.YtdpagejckahkkaaRelay5
import Derived.Test.YtdpagejckahkkaaSeqF
import Derived.Test.YtdpagejckahkkaaSeqE
namespace Go.Proofs.Ytdpagejckahkkaa.Net
open Go Go.Conc

def InR (v : Int) : Prop := -9223372036854775808 ≤ v ∧ v < 9223372036854775808
theorem wrap_in (x : Int) : InR (IntKind.wrap .i64 x) := by rw [IntKind.wrap_i64]; unfold InR; omega
theorem wrap_of {x : Int} (h : InR x) : IntKind.wrap .i64 x = x := by rw [IntKind.wrap_i64]; unfold InR at h; omega
theorem wrap_add (x y : Int) : IntKind.wrap .i64 (IntKind.wrap .i64 x + y) = IntKind.wrap .i64 (x + y) := by simp only [IntKind.wrap_i64]; omega
theorem wrap_add' (x y : Int) : IntKind.wrap .i64 (x + IntKind.wrap .i64 y) = IntKind.wrap .i64 (x + y) := by simp only [IntKind.wrap_i64]; omega

theorem sumL_in {s : Int} (h : InR s) (ys : List Int) : InR (sumL s ys) := by
  unfold sumL
  induction ys generalizing s with
  | nil => exact h
  | cons y ys ih => exact ih (wrap_in _)
theorem sumL_wrap (s : Int) (ys : List Int) : IntKind.wrap .i64 (sumL s ys) = IntKind.wrap .i64 (s + ys.foldl (· + ·) 0) := by
  have gen : ∀ (ys : List Int) (s t : Int), IntKind.wrap .i64 (sumL s ys + t) = IntKind.wrap .i64 (s + ys.foldl (· + ·) t) := by
    intro ys
    induction ys with
    | nil => intro s t; rfl
    | cons y ys ih =>
      intro s t
      have h := ih (IntKind.wrap .i64 (s + y)) t
      show IntKind.wrap .i64 (sumL (IntKind.wrap .i64 (s + y)) ys + t) = IntKind.wrap .i64 (s + ys.foldl (· + ·) (t + y))
      rw [h, wrap_add]
      have e : ∀ (l : List Int) (a b : Int), l.foldl (· + ·) (a + b) = l.foldl (· + ·) a + b := by
        intro l
        induction l with
        | nil => intro a b; rfl
        | cons x l ih => intro a b; simp only [List.foldl_cons]; rw [show a + b + x = a + x + b by omega]; exact ih _ _
      rw [e, show s + y + ys.foldl (· + ·) t = s + (ys.foldl (· + ·) t + y) by omega]
  have := gen ys s 0
  rwa [Int.add_zero] at this
theorem sumL_add {v : Int} (h : InR v) (ys : List Int) : sumL v ys = IntKind.wrap .i64 (v + sumL 0 ys) := by
  have h0 : InR (0 : Int) := by unfold InR; omega
  rw [← wrap_of (sumL_in h ys), sumL_wrap, ← wrap_of (sumL_in h0 ys), sumL_wrap, wrap_add', Int.zero_add]

theorem full_take (vs ys : List Int) : ∀ n, n ≤ ys.length → full (fun p => ys.getD (p - 1) 0) vs n = vs.map fun v => sumL v (ys.take n)
  | 0, _ => by simp [full, sumL]
  | n + 1, h => by
    have hn : n < ys.length := by omega
    rw [full, full_take vs ys n (by omega), List.map_map]
    refine List.map_congr_left fun v _ => ?_
    show plus _ (n + 1) (sumL v (ys.take n)) = _
    rw [List.take_add_one, List.getElem?_eq_getElem hn]
    unfold sumL
    rw [List.foldl_append]
    simp [plus, List.getD, hn]

/-- THE PLAIN LAW. -/
theorem relayL_eq {vs ys : List Int} (h : ∀ v ∈ vs, InR v) : relayL vs ys = refL vs ys := by
  unfold relayL refL
  split
  · rfl
  · unfold chainL
    rw [full_take vs ys _ (Nat.le_refl _), List.take_length]
    exact List.map_congr_left fun v hv => sumL_add (h v hv) ys
theorem refL_length (vs ys : List Int) : (refL vs ys).length ≤ vs.length := by unfold refL; split <;> simp

/-- crew.Relay, given two rows of one's own. -/
theorem relay_own {w : World} {b1 b2 : Nat} {v u : Value} {vs ys : List Int} (hv : w.ownsRow b1 3 1 v vs.length (vs.map num)) (hu : w.ownsRow b2 3 1 u ys.length (ys.map num)) (hl1 : vs.length * 8 ≤ 140737488355328) (hl2 : ys.length * 8 ≤ 140737488355328) :
    CallsR Try.prog (fun _ => False) 8 #[v, u] w (fun S' r w' => S' = (fun _ => False) ∧ w'.ownsRow w.heap.size 3 1 r (relayL vs ys).length ((relayL vs ys).map num) ∧ w.grownBy w' none) := by
  have sh : ∀ {b : Nat} {v : Value} {vs : List Int}, w.ownsRow b 3 1 v vs.length (vs.map num) → ∃ a0 cap, v = .slice a0 vs.length cap ∧ (∀ (j : Nat) x, vs[j]? = some x → ∃ ad, a0 = some ad ∧ w.cell? (ad.add j) = some (num x)) ∧ ∀ ad, a0 = some ad → ad.block < w.heap.size := by
    intro b v vs h
    rcases h.2 with ⟨rfl, h0⟩ | ⟨g, cap, cur, rfl, hb, hg, _⟩
    · have e : vs = [] := List.eq_nil_of_length_eq_zero h0
      subst e
      exact ⟨none, 0, rfl, (fun j x hj => by simp at hj), (fun ad h => by cases h)⟩
    · exact ⟨_, cap, rfl, fun j x hj => ⟨_, rfl, h.cells rfl j (num x) (by simp [hj])⟩, fun ad e => by cases e; exact (h.lt g rfl).2⟩
  obtain ⟨a0, cap, rfl, h1, h2⟩ := sh hv
  obtain ⟨a1, cap1, rfl, h3, h4⟩ := sh hu
  have hI : (⟨w, a0, cap, vs, a1, cap1, ys⟩ : RIn).Ok (fun _ => False) := ⟨h1, h3, hl1, hl2, fun ad h => ⟨h2 ad h, fun _ _ => id⟩, fun ad h => ⟨h4 ad h, fun _ _ => id⟩, fun l h => h.elim⟩
  exact (relay_calls _ hI).mono fun S' r w' h => ⟨h.1, h.2.1, ⟨h.2.2.os, h.2.2.tape, h.2.2.output, h.2.2.size, fun k hk _ => h.2.2.block k hk⟩⟩
end Go.Proofs.Ytdpagejckahkkaa.Net
