/- A list of rows that the call itself has made: what append makes of it. -/
import Derived.Test.YtdpagejckahkkaaSeqB
namespace Go.Proofs.Ytdpagejckahkkaa.Net
open Go Go.Conc Go.RowKit

theorem Try.info22 : (Try.prog.info? 22).map (fun i => (i.zero, i.size, i.bytes)) = some (some (.slice none 0 0), 1, 24) := by kernel_rfl

/-- append, onto a list of rows that is one's own: in the same row, or in one new block. -/
theorem append_rows (w : World) (base : Nat) (ty : TypeId) (v : Value) (n : Nat) (xs : List Value) (hown : w.ownsRow base 22 1 v n xs) (a : Addr) (m c : Nat) (news : List Value) (hl : news.length = m)
    (hnews : ∀ (j : Nat) u, news[j]? = some u → w.cell? (a.add j) = some u) (h1 : ∀ u ∈ news, u.oneCell' = true) (hb : (n + m) * 24 ≤ 140737488355328) (hbase : base ≤ w.heap.size) :
    ∃ v' w', (Builtin.append_ #[28, 28] ty #[v, .slice (some a) m c]).run Try.prog w = .ok v' w' ∧ w'.ownsRow base 22 1 v' (n + m) (xs ++ news) ∧ w.grownBy w' v.ownBlock ∧ w'.heap.size ≤ w.heap.size + 1 ∧
      (v'.ownBlock = v.ownBlock ∨ (v'.ownBlock = some w.heap.size ∧ w.grownBy w' none)) ∧
      ∀ ev ∈ (Builtin.append_ #[28, 28] ty #[v, .slice (some a) m c]).events Try.prog w #[], EvA a.block v.ownBlock ev := by
  obtain ⟨i, hi, hz, hs, hby⟩ := info_parts Try.info22
  have hl1 : news.length = m * 1 := by omega
  have h63 : n + m ≤ maxLen := by simp only [maxLen]; omega
  obtain ⟨v', w', hr, ho, hg, _⟩ := run_append_own (P := Try.prog) w base 28 ty 22 i (.slice none 0 0) 1 24 Try.underlying28 hi hz hs hby rfl (by decide) v n xs hown a m c news hl1 hnews h1 h63 hb hbase
  have hev := events_append_where (P := Try.prog) w base 28 ty 22 i (.slice none 0 0) 1 24 Try.underlying28 hi hz hs hby v n xs hown a m c news hl1 hnews h1 h63 hb
  have hli : news.length = m * i.size := by rw [hs]; omega
  have key : w'.heap.size ≤ w.heap.size + 1 ∧ (v'.ownBlock = v.ownBlock ∨ (v'.ownBlock = some w.heap.size ∧ w.grownBy w' none)) := by
    rcases hown.2 with ⟨rfl, rfl⟩ | ⟨g, cap, cur, rfl, hbg, hgg, hnc, hcm, hcs, htake⟩
    · rcases Nat.eq_zero_or_pos m with rfl | hm
      · have hr2 : (Builtin.append_ #[28, 28] ty #[.slice none 0 0, .slice (some a) 0 c]).run Try.prog w = .ok (.slice none 0 0) w := by
          simp [Builtin.append_, run_underlying Try.underlying28, sizeOf, typeInfo, hi, Builtin.lenOf, Builtin.firstCells, loadCells, loadCellsFrom]
        rw [hr2] at hr
        obtain ⟨rfl, rfl⟩ := Result.ok.inj hr
        exact ⟨by omega, .inl rfl⟩
      · have hr2 := run_append_nil (P := Try.prog) w 28 ty 22 i (.slice none 0 0) Try.underlying28 hi hz a m c news hli hnews hm (by omega) (by rw [hby]; omega)
        rw [hr2] at hr
        obtain ⟨rfl, rfl⟩ := Result.ok.inj hr
        exact ⟨by simp, .inr ⟨rfl, ⟨rfl, rfl, rfl, by simp, fun k hk _ => heap_alloc_old w.drew _ k hk⟩⟩⟩
    · by_cases hroom : n + m ≤ cap
      · have hr2 := run_append_room (P := Try.prog) w 28 ty 22 i Try.underlying28 hi g n cap cur hgg a m c news hli hnews h1 hroom (by rw [hs, hl, hcs]; omega)
        rw [hr2] at hr
        obtain ⟨rfl, rfl⟩ := Result.ok.inj hr
        exact ⟨by simp, .inl rfl⟩
      · have holds : ∀ (j : Nat) u, xs[j]? = some u → w.cell? ((⟨g, 0, none⟩ : Addr).add j) = some u := hown.cells (g := g) rfl
        have hr2 := run_append_grow (P := Try.prog) w 28 ty 22 i (.slice none 0 0) Try.underlying28 hi hz ⟨g, 0, none⟩ n cap xs (by rw [hs]; exact hown.1) holds a m c news hli hnews (by omega) (by omega) (by rw [hby]; exact growslice_fits (by omega) hb)
        rw [hr2] at hr
        obtain ⟨rfl, rfl⟩ := Result.ok.inj hr
        exact ⟨by simp, .inr ⟨rfl, ⟨rfl, rfl, rfl, by simp, fun k hk _ => heap_alloc_old w.drew _ k hk⟩⟩⟩
  exact ⟨v', w', hr, ho, hg, key.1, key.2, hev⟩

/-- append, onto a list of rows of one's own, at goroutine 0's walk. -/
theorem r_appendR {S : Loc → Prop} {b : Frame} {a : Act} {k : List Item} {cs : List Frame} {w : World} {X : (Loc → Prop) → Goroutine → World → Prop} {ops : Array Oper} {i : Nat} {rest : List Nat} {o : Oper} (s x : Operand) {v : Value} {base n m c : Nat} {xs news : List Value} {ad : Addr}
    (ho : ops[i]? = some o) (hw : Region.wanted o (yielded ops a.tmps) = true) (hk : b.kind ≠ .early) (hop : o.op = .call { callee := .builtin .append, args := #[s, x], argTypes := #[28, 28] }) (hs : a.eval s = v) (hx : a.eval x = .slice (some ad) m c)
    (hown : w.ownsRow base 22 1 v n xs) (hl : news.length = m) (hnews : ∀ (j : Nat) u, news[j]? = some u → w.cell? (ad.add j) = some u) (h1 : ∀ u ∈ news, u.oneCell' = true) (hb : (n + m) * 24 ≤ 140737488355328) (hbase : base ≤ w.heap.size)
    (hS1 : ∀ z : Addr, z.block = ad.block → ¬ S (.cell z)) (hS2 : ∀ z : Addr, v.ownBlock = some z.block → ¬ S (.cell z))
    (h : ∀ v' w', w'.ownsRow base 22 1 v' (n + m) (xs ++ news) → w.grownBy w' v.ownBlock → w'.heap.size ≤ w.heap.size + 1 → (v'.ownBlock = v.ownBlock ∨ (v'.ownBlock = some w.heap.size ∧ w.grownBy w' none)) → Reach Try.prog S (G (b.at (a.put o.dst v') (.inRegion ops rest :: k)) cs) w' X) :
    Reach Try.prog S (G (b.at a (.inRegion ops (i :: rest) :: k)) cs) w X := by
  refine r_op ho hw hk (fun w₁ h₁ K hK => ?_)
  obtain ⟨dd, rfl⟩ := h₁
  obtain ⟨v', w₂, hr, hown', hgrow, hmost, hblk, hevs⟩ := append_rows (w.at dd) base o.type v n xs hown ad m c news hl hnews h1 hb hbase
  refine uponK_append s x 28 hop hs hx hr (hK _ _ ⟨fun e he => ?_, h v' w₂ hown' ⟨hgrow.os, hgrow.tape, hgrow.output, hgrow.size, hgrow.block⟩ hmost (hblk.imp id fun h => ⟨h.1, ⟨h.2.os, h.2.tape, h.2.output, h.2.size, h.2.block⟩⟩)⟩)
  have hm' := mem_listed he
  rw [events_append_op s x 28 hop hs hx] at hm'
  exact evF_append (hevs e hm') hS1 fun k hk z hz => hS2 z (by rw [hz]; exact hk)
end Go.Proofs.Ytdpagejckahkkaa.Net
