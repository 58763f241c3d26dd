/- Lists of numbers that are held while groups are shunned; the calls of Relay, joined, same on them. -/
import Derived.Test.YtdpagejckahkkaaAlive
set_option linter.unusedSimpArgs false
set_option linter.unusedVariables false
namespace Go.Proofs.Ytdpagejckahkkaa.Net
open Go Go.Conc Go.RowKit
open Go.ConcN (ShN)

/-- A list that is held: it reads so, and its block is there. -/
def Held (S : Loc → Prop) (w : World) (v : Value) (xs : List Int) : Prop := IntsAt S w v xs ∧ ∀ k, v.ownBlock = some k → k < w.heap.size
theorem Held.kept {S : Loc → Prop} {w w' : World} {v : Value} {xs : List Int} (h : Held S w v xs) (hg : w.grownBy w' none) : Held S w' v xs := ⟨h.1.kept hg (fun k _ e => by cases e), fun k hk => Nat.lt_of_lt_of_le (h.2 k hk) hg.size⟩
theorem Held.shun {S S' : Loc → Prop} {w w' : World} {v : Value} {xs : List Int} (h : Held S w v xs) (hg : w.grownBy w' none) (m : More S S' w w') : Held S' w' v xs := ⟨h.1.shun hg m h.2, fun k hk => Nat.lt_of_lt_of_le (h.2 k hk) hg.size⟩
theorem Held.own {S : Loc → Prop} {w : World} {base n : Nat} {v : Value} {xs : List Int} (h : w.ownsRow base 3 1 v n (xs.map num)) (hS : ∀ x : Addr, v.ownBlock = some x.block → ¬ S (.cell x)) (hm : n ≤ 4611686018427387904) : Held S w v xs := ⟨IntsAt.own' h hS hm, fun k hk => (h.lt k hk).2⟩
theorem held_nil (S : Loc → Prop) (w : World) : Held S w (.slice none 0 0) [] := ⟨⟨none, 0, rfl, (fun j u hj => by simp at hj), (fun ad h => by cases h), (fun _ => rfl), by simp⟩, fun k hk => by cases hk⟩
theorem relayL_le (vs ys : List Int) : (relayL vs ys).length ≤ vs.length := by
  unfold relayL
  split
  · simp
  · unfold chainL
    rw [full_take vs ys _ (Nat.le_refl _)]
    simp
theorem relay_held {S : Loc → Prop} {w : World} {v u : Value} {vs ys : List Int} (hv : Held S w v vs) (hu : Held S w u ys) (hl1 : vs.length * 8 ≤ 140737488355328) (hl2 : ys.length * 8 ≤ 140737488355328) (hS : SL S w) :
    CallsR Try.prog S 8 #[v, u] w (fun S' r w' => S' = S ∧ Held S w' r (relayL vs ys) ∧ w.grownBy w' none) :=
  (relay_at hv.1 hv.2 hu.1 hu.2 hl1 hl2 hS).mono fun S' r w' h => ⟨h.1, Held.own h.2.1 (fun x hx => hS.new x (h.2.1.lt _ hx).1) (by have := relayL_le vs ys; omega), h.2.2⟩
theorem joined_held {S : Loc → Prop} {w : World} {v u : Value} {xs ys : List Int} (hx : Held S w v xs) (hy : Held S w u ys) (hb : (xs.length + ys.length) * 8 ≤ 140737488355328) (hS : SL S w) :
    CallsR Try.prog S 16 #[v, u] w (fun S' r w' => S' = S ∧ Held S w' r (xs ++ ys) ∧ w.grownBy w' none) :=
  (joined_calls hx.1 hy.1 hb hS.new).mono fun S' r w' h => ⟨h.1, Held.own h.2.1 (fun x hx => hS.new x (h.2.1.lt _ hx).1) (by omega), h.2.2⟩
theorem same_held {S : Loc → Prop} {w : World} {v u : Value} {xs ys : List Int} (hx : Held S w v xs) (hy : Held S w u ys) (e : xs = ys) : CallsR Try.prog S 17 #[v, u] w (fun S' r w' => S' = S ∧ r = .bool true ∧ AtRel w w') :=
  (same17_calls hx.1 hy.1).mono fun S' r w' h => ⟨h.1, by rw [h.2.1, decide_eq_true e], h.2.2⟩

/-- THE PLAIN LAW of rows. -/
theorem relay_relay {vs us bs : List Int} (hr : ∀ v ∈ vs, InR v) (hl : us.length + bs.length ≤ 64) : relayL (relayL vs us) bs = relayL vs (us ++ bs) := by
  have hr1 : ∀ v ∈ relayL vs us, InR v := by
    rw [relayL_eq hr]
    unfold refL
    split
    · simp
    · intro v hv
      obtain ⟨x, _, rfl⟩ := List.mem_map.1 hv
      exact wrap_in _
  rw [relayL_eq hr1, relayL_eq hr, relayL_eq hr]
  unfold refL
  rw [if_neg (by omega), if_neg (by omega), if_neg (by simp; omega), List.map_map]
  refine List.map_congr_left fun v _ => ?_
  show IntKind.wrap .i64 (IntKind.wrap .i64 (v + sumL 0 us) + sumL 0 bs) = _
  have h0 : InR (0 : Int) := by unfold InR; omega
  rw [show sumL 0 (us ++ bs) = sumL (sumL 0 us) bs by unfold sumL; rw [List.foldl_append], sumL_add (sumL_in h0 us) bs, wrap_add, wrap_add', Int.add_assoc]
theorem relay_comm {vs us bs : List Int} (hr : ∀ v ∈ vs, InR v) : relayL vs (bs ++ us) = relayL vs (us ++ bs) := by
  rw [relayL_eq hr, relayL_eq hr]
  unfold refL
  have e : (bs ++ us).length = (us ++ bs).length := by simp; omega
  rw [e]
  split
  · rfl
  · have h0 : InR (0 : Int) := by unfold InR; omega
    have s : sumL 0 (bs ++ us) = sumL 0 (us ++ bs) := by
      rw [show sumL 0 (us ++ bs) = sumL (sumL 0 us) bs by unfold sumL; rw [List.foldl_append], show sumL 0 (bs ++ us) = sumL (sumL 0 bs) us by unfold sumL; rw [List.foldl_append], sumL_add (sumL_in h0 us) bs, sumL_add (sumL_in h0 bs) us, Int.add_comm]
    rw [s]
theorem relay_nil {vs : List Int} (hr : ∀ v ∈ vs, InR v) : relayL vs [] = vs := by
  rw [relayL_eq hr]
  unfold refL
  rw [if_neg (by simp)]
  refine (List.map_congr_left fun v hv => ?_).trans (List.map_id vs)
  show IntKind.wrap .i64 (v + 0) = v
  rw [Int.add_zero]
  exact wrap_of (hr v hv)
end Go.Proofs.Ytdpagejckahkkaa.Net
