/- A slice of ints that the call itself has made: what append makes of it, and what it lists. -/
import Derived.Test.YtdpagejckahkkaaNetI
import Derived.Test.YtdpagejckahkkaaChecked
import Derived.Laws.AppendOwn
import Derived.Laws.OwnMore
import Derived.OwnWalk
import Derived.Conc.AppendWalk
import Derived.KernelRfl
namespace Go.Proofs.Ytdpagejckahkkaa.Net
open Go Go.Conc

theorem Try.info3 : (Try.prog.info? 3).map (fun i => (i.zero, i.size, i.bytes)) = some (some (.int .i64 0), 1, 8) := by kernel_rfl

/-- An event of append's: a read of the source, or an access to the row that is grown, or no access. -/
def EvA (src : Nat) (own : Option Nat) (e : Event) : Prop := (∃ ad, e.loc = .cell ad ∧ ((e.write = false ∧ ad.block = src) ∨ some ad.block = own)) ∨ ∃ m, e = ⟨.mark m, false, true⟩ ∧ Neutral m

/-- append, onto a row of ints that is one's own: in the same row, or in one new block. -/
theorem append_ints (w : World) (base : Nat) (ty : TypeId) (v : Value) (n : Nat) (xs : List Value) (hown : w.ownsRow base 3 1 v n xs) (a : Addr) (m c : Nat) (news : List Value) (hl : news.length = m)
    (hnews : ∀ (j : Nat) u, news[j]? = some u → w.cell? (a.add j) = some u) (h1 : ∀ u ∈ news, u.oneCell' = true) (hb : (n + m) * 8 ≤ 140737488355328) (hbase : base ≤ w.heap.size) :
    ∃ v' w', (Builtin.append_ #[22, 22] ty #[v, .slice (some a) m c]).run Try.prog w = .ok v' w' ∧ w'.ownsRow base 3 1 v' (n + m) (xs ++ news) ∧ w.grownBy w' v.ownBlock ∧ w'.heap.size ≤ w.heap.size + 1 ∧
      (v'.ownBlock = v.ownBlock ∨ (v'.ownBlock = some w.heap.size ∧ w.grownBy w' none)) ∧
      ∀ ev ∈ (Builtin.append_ #[22, 22] ty #[v, .slice (some a) m c]).events Try.prog w #[], EvA a.block v.ownBlock ev := by
  obtain ⟨i, hi, hz, hs, hby⟩ := info_parts Try.info3
  have hl1 : news.length = m * 1 := by omega
  have h63 : n + m ≤ maxLen := by simp only [maxLen]; omega
  obtain ⟨v', w', hr, ho, hg, _⟩ := run_append_own (P := Try.prog) w base 22 ty 3 i (.int .i64 0) 1 8 Try.underlying22 hi hz hs hby rfl (by decide) v n xs hown a m c news hl1 hnews h1 h63 hb hbase
  have hev := events_append_where (P := Try.prog) w base 22 ty 3 i (.int .i64 0) 1 8 Try.underlying22 hi hz hs hby v n xs hown a m c news hl1 hnews h1 h63 hb
  have hli : news.length = m * i.size := by rw [hs]; omega
  have key : w'.heap.size ≤ w.heap.size + 1 ∧ (v'.ownBlock = v.ownBlock ∨ (v'.ownBlock = some w.heap.size ∧ w.grownBy w' none)) := by
    rcases hown.2 with ⟨rfl, rfl⟩ | ⟨g, cap, cur, rfl, hbg, hgg, hnc, hcm, hcs, htake⟩
    · rcases Nat.eq_zero_or_pos m with rfl | hm
      · have hr2 : (Builtin.append_ #[22, 22] ty #[.slice none 0 0, .slice (some a) 0 c]).run Try.prog w = .ok (.slice none 0 0) w := by
          simp [Builtin.append_, run_underlying Try.underlying22, sizeOf, typeInfo, hi, Builtin.lenOf, Builtin.firstCells, loadCells, loadCellsFrom]
        rw [hr2] at hr
        obtain ⟨rfl, rfl⟩ := Result.ok.inj hr
        exact ⟨by omega, .inl rfl⟩
      · have hr2 := run_append_nil (P := Try.prog) w 22 ty 3 i (.int .i64 0) Try.underlying22 hi hz a m c news hli hnews hm (by omega) (by rw [hby]; omega)
        rw [hr2] at hr
        obtain ⟨rfl, rfl⟩ := Result.ok.inj hr
        exact ⟨by simp, .inr ⟨rfl, ⟨rfl, rfl, rfl, by simp, fun k hk _ => heap_alloc_old w.drew _ k hk⟩⟩⟩
    · by_cases hroom : n + m ≤ cap
      · have hr2 := run_append_room (P := Try.prog) w 22 ty 3 i Try.underlying22 hi g n cap cur hgg a m c news hli hnews h1 hroom (by rw [hs, hl, hcs]; omega)
        rw [hr2] at hr
        obtain ⟨rfl, rfl⟩ := Result.ok.inj hr
        exact ⟨by simp, .inl rfl⟩
      · have holds : ∀ (j : Nat) u, xs[j]? = some u → w.cell? ((⟨g, 0, none⟩ : Addr).add j) = some u := hown.cells (g := g) rfl
        have hr2 := run_append_grow (P := Try.prog) w 22 ty 3 i (.int .i64 0) Try.underlying22 hi hz ⟨g, 0, none⟩ n cap xs (by rw [hs]; exact hown.1) holds a m c news hli hnews (by omega) (by omega) (by rw [hby]; exact growslice_fits (by omega) hb)
        rw [hr2] at hr
        obtain ⟨rfl, rfl⟩ := Result.ok.inj hr
        exact ⟨by simp, .inr ⟨rfl, ⟨rfl, rfl, rfl, by simp, fun k hk _ => heap_alloc_old w.drew _ k hk⟩⟩⟩
  exact ⟨v', w', hr, ho, hg, key.1, key.2, hev⟩

/-- append of nothing. -/
theorem append_none (w : World) (base : Nat) (ty : TypeId) (v : Value) (n : Nat) (xs : List Value) (hown : w.ownsRow base 3 1 v n xs) :
    (Builtin.append_ #[22, 22] ty #[v, .slice none 0 0]).run Try.prog w = .ok v w ∧ (Builtin.append_ #[22, 22] ty #[v, .slice none 0 0]).events Try.prog w #[] = #[] := by
  obtain ⟨i, hi, hz, hs, hby⟩ := info_parts Try.info3
  refine ⟨run_append_owned_none (P := Try.prog) (w := w) base 22 ty 3 i 1 Try.underlying22 hi v n xs hown, ?_⟩
  rcases hown.2 with ⟨rfl, rfl⟩ | ⟨g, cap, cur, rfl, _, _, hnc, _⟩
  · simp [Builtin.append_, run_underlying Try.underlying22, sizeOf, typeInfo, hi, Builtin.lenOf, Builtin.firstCells]
  · simp [Builtin.append_, run_underlying Try.underlying22, sizeOf, typeInfo, hi, Builtin.lenOf, Builtin.firstCells, hnc, storeCells]
end Go.Proofs.Ytdpagejckahkkaa.Net
