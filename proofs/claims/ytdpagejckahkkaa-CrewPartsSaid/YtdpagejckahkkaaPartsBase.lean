/- A list of rows that the call itself has made: what append makes of it. · A region that draws its order and holds calls, on goroutine 0's way beside leavers: every order that can be drawn. · The law's own helper pick beside goroutines that only leave: a number from 0 to n - 1 out of any. · CrewMerge's first loop: the parts are copied, each a new row. · CrewMerge's second loop: each part is as it was. · CrewMerge: what is held through its calls. -/
import Derived.Test.YtdpagejckahkkaaSeqB
import Derived.Test.YtdpagejckahkkaaNetI
import Derived.Conc.CompanyMem
import Derived.Test.YtdpagejckahkkaaHold
set_option linter.unusedSimpArgs false
set_option linter.unusedVariables false
set_option maxRecDepth 100000
namespace Go.Proofs.Ytdpagejckahkkaa.Net
open Go Go.Conc Go.RowKit

theorem Try.info22 : (Try.prog.info? 22).map (fun i => (i.zero, i.size, i.bytes)) = some (some (.slice none 0 0), 1, 24) := by kernel_rfl

/-- append, onto a list of rows that is one's own: in the same row, or in one new block. -/
theorem append_rows (w : World) (base : Nat) (ty : TypeId) (v : Value) (n : Nat) (xs : List Value) (hown : w.ownsRow base 22 1 v n xs) (a : Addr) (m c : Nat) (news : List Value) (hl : news.length = m)
    (hnews : ∀ (j : Nat) u, news[j]? = some u → w.cell? (a.add j) = some u) (h1 : ∀ u ∈ news, u.oneCell' = true) (hb : (n + m) * 24 ≤ 140737488355328) (hbase : base ≤ w.heap.size) :
    ∃ v' w', (Builtin.append_ #[28, 28] ty #[v, .slice (some a) m c]).run Try.prog w = .ok v' w' ∧ w'.ownsRow base 22 1 v' (n + m) (xs ++ news) ∧ w.grownBy w' v.ownBlock ∧ w'.heap.size ≤ w.heap.size + 1 ∧
      (v'.ownBlock = v.ownBlock ∨ (v'.ownBlock = some w.heap.size ∧ w.grownBy w' none)) ∧
      ∀ ev ∈ (Builtin.append_ #[28, 28] ty #[v, .slice (some a) m c]).events Try.prog w #[], EvA a.block v.ownBlock ev := by
  obtain ⟨i, hi, hz, hs, hby⟩ := info_parts Try.info22
  have hl1 : news.length = m * 1 := by omega
  have h63 : n + m ≤ maxLen := by simp only [maxLen]; omega
  obtain ⟨v', w', hr, ho, hg, _⟩ := run_append_own (P := Try.prog) w base 28 ty 22 i (.slice none 0 0) 1 24 Try.underlying28 hi hz hs hby rfl (by decide) v n xs hown a m c news hl1 hnews h1 h63 hb hbase
  have hev := events_append_where (P := Try.prog) w base 28 ty 22 i (.slice none 0 0) 1 24 Try.underlying28 hi hz hs hby v n xs hown a m c news hl1 hnews h1 h63 hb
  have hli : news.length = m * i.size := by rw [hs]; omega
  have key : w'.heap.size ≤ w.heap.size + 1 ∧ (v'.ownBlock = v.ownBlock ∨ (v'.ownBlock = some w.heap.size ∧ w.grownBy w' none)) := by
    rcases hown.2 with ⟨rfl, rfl⟩ | ⟨g, cap, cur, rfl, hbg, hgg, hnc, hcm, hcs, htake⟩
    · rcases Nat.eq_zero_or_pos m with rfl | hm
      · have hr2 : (Builtin.append_ #[28, 28] ty #[.slice none 0 0, .slice (some a) 0 c]).run Try.prog w = .ok (.slice none 0 0) w := by
          simp [Builtin.append_, run_underlying Try.underlying28, sizeOf, typeInfo, hi, Builtin.lenOf, Builtin.firstCells, loadCells, loadCellsFrom]
        rw [hr2] at hr
        obtain ⟨rfl, rfl⟩ := Result.ok.inj hr
        exact ⟨by omega, .inl rfl⟩
      · have hr2 := run_append_nil (P := Try.prog) w 28 ty 22 i (.slice none 0 0) Try.underlying28 hi hz a m c news hli hnews hm (by omega) (by rw [hby]; omega)
        rw [hr2] at hr
        obtain ⟨rfl, rfl⟩ := Result.ok.inj hr
        exact ⟨by simp, .inr ⟨rfl, ⟨rfl, rfl, rfl, by simp, fun k hk _ => heap_alloc_old w.drew _ k hk⟩⟩⟩
    · by_cases hroom : n + m ≤ cap
      · have hr2 := run_append_room (P := Try.prog) w 28 ty 22 i Try.underlying28 hi g n cap cur hgg a m c news hli hnews h1 hroom (by rw [hs, hl, hcs]; omega)
        rw [hr2] at hr
        obtain ⟨rfl, rfl⟩ := Result.ok.inj hr
        exact ⟨by simp, .inl rfl⟩
      · have holds : ∀ (j : Nat) u, xs[j]? = some u → w.cell? ((⟨g, 0, none⟩ : Addr).add j) = some u := hown.cells (g := g) rfl
        have hr2 := run_append_grow (P := Try.prog) w 28 ty 22 i (.slice none 0 0) Try.underlying28 hi hz ⟨g, 0, none⟩ n cap xs (by rw [hs]; exact hown.1) holds a m c news hli hnews (by omega) (by omega) (by rw [hby]; exact growslice_fits (by omega) hb)
        rw [hr2] at hr
        obtain ⟨rfl, rfl⟩ := Result.ok.inj hr
        exact ⟨by simp, .inr ⟨rfl, ⟨rfl, rfl, rfl, by simp, fun k hk _ => heap_alloc_old w.drew _ k hk⟩⟩⟩
  exact ⟨v', w', hr, ho, hg, key.1, key.2, hev⟩

/-- append, onto a list of rows of one's own, at goroutine 0's walk. -/
theorem r_appendR {S : Loc → Prop} {b : Frame} {a : Act} {k : List Item} {cs : List Frame} {w : World} {X : (Loc → Prop) → Goroutine → World → Prop} {ops : Array Oper} {i : Nat} {rest : List Nat} {o : Oper} (s x : Operand) {v : Value} {base n m c : Nat} {xs news : List Value} {ad : Addr}
    (ho : ops[i]? = some o) (hw : Region.wanted o (yielded ops a.tmps) = true) (hk : b.kind ≠ .early) (hop : o.op = .call { callee := .builtin .append, args := #[s, x], argTypes := #[28, 28] }) (hs : a.eval s = v) (hx : a.eval x = .slice (some ad) m c)
    (hown : w.ownsRow base 22 1 v n xs) (hl : news.length = m) (hnews : ∀ (j : Nat) u, news[j]? = some u → w.cell? (ad.add j) = some u) (h1 : ∀ u ∈ news, u.oneCell' = true) (hb : (n + m) * 24 ≤ 140737488355328) (hbase : base ≤ w.heap.size)
    (hS1 : ∀ z : Addr, z.block = ad.block → ¬ S (.cell z)) (hS2 : ∀ z : Addr, v.ownBlock = some z.block → ¬ S (.cell z))
    (h : ∀ v' w', w'.ownsRow base 22 1 v' (n + m) (xs ++ news) → w.grownBy w' v.ownBlock → w'.heap.size ≤ w.heap.size + 1 → (v'.ownBlock = v.ownBlock ∨ (v'.ownBlock = some w.heap.size ∧ w.grownBy w' none)) → Reach Try.prog S (G (b.at (a.put o.dst v') (.inRegion ops rest :: k)) cs) w' X) :
    Reach Try.prog S (G (b.at a (.inRegion ops (i :: rest) :: k)) cs) w X := by
  refine r_op ho hw hk (fun w₁ h₁ K hK => ?_)
  obtain ⟨dd, rfl⟩ := h₁
  obtain ⟨v', w₂, hr, hown', hgrow, hmost, hblk, hevs⟩ := append_rows (w.at dd) base o.type v n xs hown ad m c news hl hnews h1 hb hbase
  refine uponK_append s x 28 hop hs hx hr (hK _ _ ⟨fun e he => ?_, h v' w₂ hown' ⟨hgrow.os, hgrow.tape, hgrow.output, hgrow.size, hgrow.block⟩ hmost (hblk.imp id fun h => ⟨h.1, ⟨h.2.os, h.2.tape, h.2.output, h.2.size, h.2.block⟩⟩)⟩)
  have hm' := mem_listed he
  rw [events_append_op s x 28 hop hs hx] at hm'
  exact evF_append (hevs e hm') hS1 fun k hk z hz => hS2 z (by rw [hz]; exact hk)
end Go.Proofs.Ytdpagejckahkkaa.Net

namespace Go.Proofs.Ytdpagejckahkkaa.Net
open Go Go.Conc

section
variable {P : Program} {S : Loc → Prop} {b : Frame} {k : List Item} {cs : List Frame} {X : (Loc → Prop) → Goroutine → World → Prop} {ops : Array Oper} {md : Region.Mode} {C : World → Prop}

theorem CallsR.at {f : FuncId} {args : Array Value} {w w₁ : World} {Post : (Loc → Prop) → Value → World → Prop} (h : CallsR P S f args w Post) (r : AtRel w w₁) : CallsR P S f args w₁ Post :=
  fun b a k cs ops i rest o xs ats ho hw hk hop hx => (h b a k cs ops i rest o xs ats ho hw hk hop hx).at r

/-- Operation number i comes up; K is asked of the state in which it ends. -/
def OpJ (P : Program) (S : Loc → Prop) (fn : FuncId) (ops : Array Oper) (i : Nat) (K : Act → World → Prop) (a : Act) (w : World) : Prop :=
  ∃ o, ops[i]? = some o ∧ ((Region.wanted o (yielded ops a.tmps) = true ∧
      ((∃ f xs ats, o.op = .call { callee := .value (.func f), args := xs, argTypes := ats } ∧ CallsR P S f (xs.map a.eval) w (fun S' v w' => S' = S ∧ K (a.put o.dst v) w')) ∨
        ∀ w₁, AtRel w w₁ → uponK o a (fun a' w' => DF S w₁ w' (listed P fn a o w₁) ∧ K a' w') ((execOp a.eval o).run P w₁))) ∨
    (Region.wanted o (yielded ops a.tmps) = false ∧ K (a.put o.dst undef) w))

theorem OpJ.mono {fn : FuncId} {i : Nat} {a : Act} {w : World} {K K' : Act → World → Prop} (h : ∀ a w, K a w → K' a w) (hh : OpJ P S fn ops i K a w) : OpJ P S fn ops i K' a w := by
  obtain ⟨o, ho, ⟨hw, (⟨f, xs, ats, hop, hc⟩ | hc)⟩ | ⟨hw, hk⟩⟩ := hh
  · exact ⟨o, ho, .inl ⟨hw, .inl ⟨f, xs, ats, hop, hc.mono fun S' v w' x => ⟨x.1, h _ _ x.2⟩⟩⟩⟩
  · exact ⟨o, ho, .inl ⟨hw, .inr fun w₁ r => uponK_mono (fun a' w' x => ⟨x.1, h _ _ x.2⟩) (hc w₁ r)⟩⟩
  · exact ⟨o, ho, .inr ⟨hw, h _ _ hk⟩⟩

theorem OpJ.goes {i : Nat} {rest : List Nat} {a : Act} {w : World} (hk : b.kind ≠ .early) (h : OpJ P S b.fn ops i (fun a' w' => Reach P S (G (b.at a' (.inRegion ops rest :: k)) cs) w' X) a w) : Reach P S (G (b.at a (.inRegion ops (i :: rest) :: k)) cs) w X := by
  obtain ⟨o, ho, ⟨hw, (⟨f, xs, ats, hop, hc⟩ | hc)⟩ | ⟨hw, hh⟩⟩ := h
  · exact r_call ho hw hk hop hc fun S' v w' x => by obtain ⟨rfl, x⟩ := x; exact x
  · exact r_op ho hw hk fun w₁ r K hK => uponK_mono hK (hc w₁ r)
  · exact r_unwanted ho hw hh

theorem OpJ.rely {fn : FuncId} {i : Nat} {a : Act} {w w₁ : World} {K : Act → World → Prop} (hK : ∀ a x y, K a x → AtRel x y → K a y) (hh : OpJ P S fn ops i K a w) (r : AtRel w w₁) : OpJ P S fn ops i K a w₁ := by
  obtain ⟨o, ho, ⟨hw, (⟨f, xs, ats, hop, hc⟩ | hc)⟩ | ⟨hw, hk⟩⟩ := hh
  · exact ⟨o, ho, .inl ⟨hw, .inl ⟨f, xs, ats, hop, hc.at r⟩⟩⟩
  · exact ⟨o, ho, .inl ⟨hw, .inr fun w₂ r₂ => hc w₂ (atRel_trans _ _ _ r r₂)⟩⟩
  · exact ⟨o, ho, .inr ⟨hw, hK _ _ _ hk r⟩⟩

theorem OpJ.of_yields (hC : ∀ x y, C x → AtRel x y → C y) {fn : FuncId} {i : Nat} {o : Oper} {v : Value} {a : Act} (hi : ops[i]? = some o) (hy : YieldsIfC P (DF S) fn ops C o v a)
    {K : Act → World → Prop} (hK : ∀ a x y, K a x → AtRel x y → K a y) {w : World} (hS : C w) (h : K (a.put o.dst v) w) : OpJ P S fn ops i K a w := by
  rcases hy with ⟨hw, hv⟩ | ⟨hw, rfl⟩
  · refine ⟨o, hi, .inl ⟨hw, .inr fun w₁ h₁ => ?_⟩⟩
    rw [(hv w₁ (hC _ _ hS h₁)).1]
    exact ⟨(hv w₁ (hC _ _ hS h₁)).2, hK _ _ _ h h₁⟩
  · exact ⟨o, hi, .inr ⟨hw, h⟩⟩

theorem OpJ.putIf {fn : FuncId} {j : Nat} {oi oj : Oper} {v : Value} (hj : ops[j]? = some oj) (hap : oi.apart ops oj = true)
    (hsi : ∀ cs b, oi.op ≠ .select cs b) (hsj : ∀ cs b, oj.op ≠ .select cs b) {K : Act → World → Prop} {a : Act} {w : World}
    (hy : YieldsIfC P (DF S) fn ops C oi v a) (h : OpJ P S fn ops j K (a.put oi.dst v) w) :
    OpJ P S fn ops j (fun a' w' => YieldsIfC P (DF S) fn ops C oi v a' ∧ K (a'.put oi.dst v) w') a w := by
  obtain ⟨h1, h2, h3⟩ := Oper.apart_spec hap
  have keep : ∀ (a : Act), YieldsIfC P (DF S) fn ops C oi v a → ∀ u, YieldsIfC P (DF S) fn ops C oi v (a.put oj.dst u) := fun a hy u =>
    hy.of_same (execOp_put oi hsi a oj.dst u h3) (wanted_put oi a oj.dst u h3)
  obtain ⟨o, ho, h⟩ := h
  rw [hj] at ho
  obtain rfl := Option.some.inj ho
  rw [wanted_put oj a oi.dst v h1] at h
  refine ⟨oj, hj, ?_⟩
  rcases h with ⟨hw, (⟨f, xs, ats, hop, hc⟩ | hc)⟩ | ⟨hw, h⟩
  · have e : xs.map (a.put oi.dst v).eval = xs.map a.eval := Array.map_congr_left fun x hx => Act.eval_put fun d hd hxd => h1 d hd (by
      subst hxd
      refine List.mem_append_left _ (List.mem_filterMap.2 ⟨.tmp d, ?_, rfl⟩)
      rw [hop]
      simp [Op.operands, Call.operands, hx])
    rw [e] at hc
    refine .inl ⟨hw, .inl ⟨f, xs, ats, hop, hc.mono fun S' u w' x => ⟨x.1, keep a hy u, ?_⟩⟩⟩
    rw [← Act.put_comm a v u h2]
    exact x.2
  · refine .inl ⟨hw, .inr fun w₁ h₁ => ?_⟩
    have h := hc w₁ h₁
    unfold listed at *
    rw [execOp_put oj hsj a oi.dst v h1] at h
    generalize (execOp a.eval oj).run P w₁ = r at *
    cases r with
    | ok n w' =>
      cases n <;> simp only [uponK] at h ⊢
      case value u => exact ⟨h.1, keep a hy u, by rw [← Act.put_comm a v u h2]; exact h.2⟩
      case skip => exact ⟨h.1, keep a hy _, by rw [← Act.put_comm a v undef h2]; exact h.2⟩
    | halt x w' => simp only [uponK] at h
  · exact .inr ⟨hw, keep a hy _, by rw [← Act.put_comm a v undef h2]; exact h⟩

/-- Whatever order is picked from here on. -/
def AnyJ (P : Program) (S : Loc → Prop) (fn : FuncId) (md : Region.Mode) (ops : Array Oper) (Q : Act → World → Prop) (C : World → Prop) : Nat → Array Bool → Act → World → Prop
  | 0, listed, a, w => Region.ready md ops listed = [] ∧ Q a w
  | fuel + 1, listed, a, w =>
    (Region.ready md ops listed = [] → Q a w) ∧
    ∀ i ∈ Region.ready md ops listed, OpJ P S fn ops i (fun a' w' => C w' ∧ AnyJ P S fn md ops Q C fuel (listed.setIfInBounds i true) a' w') a w

variable {fn : FuncId} {Q : Act → World → Prop}
theorem AnyJ.rely (hC : ∀ x y, C x → AtRel x y → C y) (hQ : ∀ a x y, Q a x → AtRel x y → Q a y) :
    ∀ (fuel : Nat) (listed : Array Bool) (a : Act) (w w₁ : World), AnyJ P S fn md ops Q C fuel listed a w → AtRel w w₁ → AnyJ P S fn md ops Q C fuel listed a w₁
  | 0, _, _, _, _, h, r => ⟨h.1, hQ _ _ _ h.2 r⟩
  | fuel + 1, _, _, _, _, h, r => ⟨fun e => hQ _ _ _ (h.1 e) r, fun i hi => (h.2 i hi).rely (fun _ _ _ h r => ⟨hC _ _ h.1 r, AnyJ.rely hC hQ fuel _ _ _ _ h.2 r⟩) r⟩

theorem anyJ_sound (hk : b.kind ≠ .early) : ∀ (fuel t : Nat) (listed : Array Bool) (a : Act) (w : World), AnyJ P S b.fn md ops (fun a' w' => Reach P S (G (b.at a' (.inRegion ops [] :: k)) cs) w' X) C fuel listed a w →
    Reach P S (G (b.at a (.inRegion ops (Region.linearise.go md ops fuel t listed []) :: k)) cs) w X := by
  intro fuel
  induction fuel with
  | zero => intro t listed a w h; simpa [Region.linearise.go] using h.2
  | succ fuel ih =>
    intro t listed a w h
    obtain ⟨h₀, h₁⟩ := h
    simp only [Region.linearise.go]
    change Reach P S (G (b.at a (.inRegion ops (match (Region.ready md ops listed)[t % (Region.ready md ops listed).length]? with
      | some i => Region.linearise.go md ops fuel (t / (Region.ready md ops listed).length) (listed.setIfInBounds i true) [i]
      | none => [].reverse) :: k)) cs) w X
    cases hi : (Region.ready md ops listed)[t % (Region.ready md ops listed).length]? with
    | none =>
      have hnil : Region.ready md ops listed = [] := by
        cases hr : Region.ready md ops listed with
        | nil => rfl
        | cons x xs =>
          rw [hr] at hi
          have hlt : t % (x :: xs).length < (x :: xs).length := Nat.mod_lt _ (by simp)
          simp at hi
          simp at hlt
          omega
      exact h₀ hnil
    | some i =>
      simp only []
      rw [linearise_go_acc, List.reverse_singleton, List.singleton_append]
      exact OpJ.goes hk ((h₁ i (List.mem_of_getElem? hi)).mono fun a' w' x => ih _ _ a' w' x.2)

theorem anyJ_first (hC : ∀ x y, C x → AtRel x y → C y) (hQ : ∀ a x y, Q a x → AtRel x y → Q a y) {i : Nat} {oi : Oper} {v : Value} (hi : ops[i]? = some oi)
    (hsel : ∀ (j : Nat) (o : Oper) cs b, ops[j]? = some o → o.op ≠ .select cs b) :
    ∀ (fuel : Nat) (listed : Array Bool) (a : Act) (w : World),
      (∀ j oj, ops[j]? = some oj → j ≠ i → listed.getD j true = false → (∀ e ∈ oj.after, Region.binds md e = true → e.on ≠ i) → oi.apart ops oj = true) →
      i ∈ Region.ready md ops listed → YieldsIfC P (DF S) fn ops C oi v a → C w →
      AnyJ P S fn md ops Q C fuel (listed.setIfInBounds i true) (a.put oi.dst v) w → AnyJ P S fn md ops Q C (fuel + 1) listed a w := by
  have hK : ∀ fuel listed, ∀ a x y, (C x ∧ AnyJ P S fn md ops Q C fuel listed a x) → AtRel x y → (C y ∧ AnyJ P S fn md ops Q C fuel listed a y) :=
    fun fuel listed a x y h r => ⟨hC _ _ h.1 r, AnyJ.rely hC hQ fuel listed a x y h.2 r⟩
  intro fuel
  induction fuel with
  | zero =>
    intro listed a w _ hr hy hS H
    refine ⟨fun h => (by rw [h] at hr; cases hr), fun j hj => ?_⟩
    by_cases hji : j = i
    · subst hji; exact OpJ.of_yields hC hi hy (hK _ _) hS ⟨hS, H⟩
    · have := ready_mono hj hji
      rw [H.1] at this
      cases this
  | succ fuel ih =>
    intro listed a w hfree hr hy hS H
    refine ⟨fun h => (by rw [h] at hr; cases hr), fun j hj => ?_⟩
    by_cases hji : j = i
    · subst hji; exact OpJ.of_yields hC hi hy (hK _ _) hS ⟨hS, H⟩
    · have h1 := H.2 j (ready_mono hj hji)
      obtain ⟨hjun, oj, hoj, hall⟩ := mem_ready.1 hj
      have hnot : ∀ e ∈ oj.after, Region.binds md e = true → e.on ≠ i := fun e he hb heq => by
        have h1 := hall e he hb
        have h0 := (mem_ready.1 hr).1
        rw [heq] at h1
        rcases Nat.lt_or_ge i listed.size with h' | h'
        · simp [h'] at h0 h1; rw [h0] at h1; cases h1
        · simp [Array.getElem?_eq_none h'] at h1
      have h2 := OpJ.putIf hoj (hfree j oj hoj hji hjun hnot) (fun cs b => hsel i oi cs b hi) (fun cs b => hsel j oj cs b hoj) hy h1
      have hfree' : ∀ k ok, ops[k]? = some ok → k ≠ i → (listed.setIfInBounds j true).getD k true = false →
          (∀ e ∈ ok.after, Region.binds md e = true → e.on ≠ i) → oi.apart ops ok = true := fun k ok hk hki hun hno => by
        refine hfree k ok hk hki ?_ hno
        by_cases hjk : j = k
        · subst hjk; exact hjun
        · rw [getD_set_ne true hjk] at hun; exact hun
      refine h2.mono fun a' w' h3 => ⟨h3.2.1, ih (listed.setIfInBounds j true) a' w' hfree' (ready_mono hr (Ne.symm hji)) h3.1 h3.2.1 ?_⟩
      rw [Array.setIfInBounds_comm _ _ hji]
      exact h3.2.2

/-- Take number i first. -/
theorem anyJ_take (hC : ∀ x y, C x → AtRel x y → C y) (hQ : ∀ a x y, Q a x → AtRel x y → Q a y) {i : Nat} {oi : Oper} {v : Value} {fuel : Nat} {listed : Array Bool} {a : Act} {w : World} (hi : ops[i]? = some oi)
    (hs : Region.noSelect ops = true) (hf : Region.free md ops listed i = true) (hr : (Region.ready md ops listed).contains i = true)
    (hy : YieldsIfC P (DF S) fn ops C oi v a) (hS : C w) (h : AnyJ P S fn md ops Q C fuel (listed.setIfInBounds i true) (a.put oi.dst v) w) : AnyJ P S fn md ops Q C (fuel + 1) listed a w :=
  anyJ_first hC hQ hi (Region.noSelect_spec hs) fuel listed a w (Region.free_spec hi hf) (by simpa using hr) hy hS h
/-- One alone may come up, a call. -/
theorem anyJ_call {i : Nat} {o : Oper} {f : FuncId} {xs : Array Operand} {ats : Array TypeId} {args : Array Value} {Post : (Loc → Prop) → Value → World → Prop} {fuel : Nat} {listed : Array Bool} {a : Act} {w : World} (hc : CallsR P S f args w Post) (hr : Region.ready md ops listed = [i])
    (ho : ops[i]? = some o) (hw : Region.wanted o (yielded ops a.tmps) = true) (hop : o.op = .call { callee := .value (.func f), args := xs, argTypes := ats }) (hx : xs.map a.eval = args)
    (h : ∀ S' v w', Post S' v w' → S' = S ∧ C w' ∧ AnyJ P S fn md ops Q C fuel (listed.setIfInBounds i true) (a.put o.dst v) w') : AnyJ P S fn md ops Q C (fuel + 1) listed a w := by
  refine ⟨fun e => ?_, fun j hj => ?_⟩
  · rw [hr] at e; cases e
  · rw [hr] at hj
    obtain rfl := List.mem_singleton.1 hj
    subst hx
    exact ⟨o, ho, .inl ⟨hw, .inl ⟨f, xs, ats, hop, hc.mono h⟩⟩⟩
/-- All have come up. -/
theorem anyJ_done {listed : Array Bool} {a : Act} {w : World} (hr : Region.ready md ops listed = []) (h : Q a w) : ∀ fuel, AnyJ P S fn md ops Q C fuel listed a w
  | 0 => ⟨hr, h⟩
  | _ + 1 => ⟨fun _ => h, fun i hi => by rw [hr] at hi; cases hi⟩
/-- The beginning. -/
theorem r_drawn (hk : b.kind ≠ .early) {id : Nat} {a : Act} {w : World} (C : World → Prop) (hm : P.follows .mixedOrders = true)
    (h : ∀ d, AnyJ P S b.fn .any ops (fun a' w' => Reach P S (G (b.at a' (.inRegion ops [] :: k)) cs) w' X) C ops.size (Array.replicate ops.size false) a (w.at d)) : Reach P S (G (b.at a (.code (.region id ops true) :: k)) cs) w X :=
  .step rfl fun w₁ r => by
    rw [stepG_region_draw]
    refine ⟨fun e he => by simp at he, ?_⟩
    obtain ⟨d, rfl⟩ := r
    simp only [Region.schedule, hm, Bool.true_or, if_true]
    exact anyJ_sound hk ops.size _ _ a _ (h _)
/-- The same at a region on goroutine 0's way. -/
theorem r_take {w₀ : World} {i : Nat} {oi : Oper} {v : Value} {fuel : Nat} {listed : Array Bool} {a : Act} {w : World} (hi : ops[i]? = some oi)
    (hs : Region.noSelect ops = true) (hf : Region.free md ops listed i = true) (hr : (Region.ready md ops listed).contains i = true)
    (hy : YieldsIfC P (DF S) b.fn ops (AtRel w₀) oi v a) (hS : AtRel w₀ w) (h : AnyJ P S b.fn md ops (fun a' w' => Reach P S (G (b.at a' (.inRegion ops [] :: k)) cs) w' X) (AtRel w₀) fuel (listed.setIfInBounds i true) (a.put oi.dst v) w) :
    AnyJ P S b.fn md ops (fun a' w' => Reach P S (G (b.at a' (.inRegion ops [] :: k)) cs) w' X) (AtRel w₀) (fuel + 1) listed a w :=
  anyJ_take (C := AtRel w₀) (Q := fun a' w' => Reach P S (G (b.at a' (.inRegion ops [] :: k)) cs) w' X) (fun _ _ h r => atRel_trans _ _ _ h r) (fun _ _ _ h r => Reach.at h r) hi hs hf hr hy hS h
end
end Go.Proofs.Ytdpagejckahkkaa.Net

namespace Go.Proofs.Ytdpagejckahkkaa.Net
open Go Go.Conc Go.RowKit

set_option maxRecDepth 100000 in
set_option maxHeartbeats 2000000 in
theorem pick_calls {S : Loc → Prop} {w : World} {k n : Int} (hn : 0 < n) (hn2 : n < 1000000) (hk : -9223372036854775808 ≤ k ∧ k < 9223372036854775808) : CallsR Try.prog S 18 #[.int .i64 k, .int .i64 n] w (fun S' v w' => S' = S ∧ v = .int .i64 (k % n) ∧ AtRel w w') := by
  refine CallsR.enter Try.func18 (by rfl) rfl fun cs => ?_
  have hn0 : ¬ n = 0 := by omega
  simp only [Try.f18, Option.getD_some, Nat.reduceSub, Array.replicate_succ, Array.replicate_zero, List.push_toArray, List.append_toArray, List.nil_append, List.cons_append, List.size_toArray, List.length_cons, List.length_nil, Nat.reduceAdd, Nat.zero_add]
  repeat (first
      | refine r_end ?_ | refine r_skip ?_ | (refine r_region ?_; simp only [List.size_toArray, List.length_cons, List.length_nil, Nat.reduceAdd, Nat.zero_add, List.range, List.range.loop])
      | refine r_seq ?_
      | (refine r_op rfl rfl (by decide) (fun w₁ h₁ K hK => ?_); obtain ⟨dd, hdd⟩ := h₁; subst hdd; (try simp only [at_at']); go_simp
         refine hK _ _ ⟨fun e he => (by have hm := mem_listed he; simp [go_sem, *] at hm), ?_⟩; clear hK K; try walk_nrm))
  have ht : k.tmod n = if 0 ≤ k then k % n else -((-k) % n) := by
    split
    · rename_i h; exact Int.tmod_eq_emod_of_nonneg h
    · have h := Int.neg_tmod (-k) n
      rw [Int.neg_neg] at h
      rw [h, Int.tmod_eq_emod_of_nonneg (by omega)]
  have hlo : 0 ≤ k % n := Int.emod_nonneg _ (by omega)
  have hhi : k % n < n := Int.emod_lt_of_pos _ hn
  have hlo2 : 0 ≤ (-k) % n := Int.emod_nonneg _ (by omega)
  have hhi2 : (-k) % n < n := Int.emod_lt_of_pos _ hn
  have hneg : ¬ 0 ≤ k → k % n = if (-k) % n = 0 then 0 else n - (-k) % n := by
    intro h
    have e1 := Int.emod_add_mul_ediv (-k) n
    have e2 : k = -((-k) % n) + n * (-((-k) / n)) := by rw [Int.mul_neg]; omega
    split
    · rename_i h0
      rw [h0, Int.neg_zero, Int.zero_add] at e2
      rw [e2]; exact Int.mul_emod_right _ _
    · have e3 : k = (n - (-k) % n) + n * (-((-k) / n) - 1) := by rw [Int.mul_sub, Int.mul_one]; omega
      have e4 : ((n - (-k) % n) + n * (-((-k) / n) - 1)) % n = n - (-k) % n := by
        rw [Int.add_mul_emod_self_left]
        exact Int.emod_eq_of_lt (by omega) (by omega)
      exact (congrArg (· % n) e3).trans e4
  generalize k.tmod n = t at ht ⊢
  by_cases hneg' : t < 0
  · have e : t + n = k % n := by
      split at ht
      · omega
      · rename_i h
        have := hneg h
        split at this <;> omega
    have ew : IntKind.i64.wrap (k % n) = k % n := by rw [IntKind.wrap_i64]; omega
    clear ht hneg
    refine r_cond (t := true) (by simp [Act.eval, hneg']) ?_; simp only [if_true, if_false, Bool.false_eq_true, ↓reduceIte]
    repeat (first
      | refine r_end ?_ | refine r_skip ?_ | (refine r_region ?_; simp only [List.size_toArray, List.length_cons, List.length_nil, Nat.reduceAdd, Nat.zero_add, List.range, List.range.loop])
      | refine r_seq ?_
      | (refine r_op rfl rfl (by decide) (fun w₁ h₁ K hK => ?_); obtain ⟨dd, hdd⟩ := h₁; subst hdd; (try simp only [at_at']); go_simp
         refine hK _ _ ⟨fun e he => (by have hm := mem_listed he; simp [go_sem] at hm), ?_⟩; clear hK K; try walk_nrm))
    refine r_ret ?_
    exact .here ⟨_, _, _, rfl, rfl, resultsC_tmp rfl _, rfl, (by first | rfl | (show Value.int .i64 _ = _; rw [ew])), ⟨_, rfl⟩⟩
  · have e : t = k % n := by
      split at ht
      · exact ht
      · rename_i h
        have := hneg h
        split at this <;> omega
    clear ht hneg
    subst e
    refine r_cond (t := false) (by simp [Act.eval]; omega) ?_; simp only [if_true, if_false, Bool.false_eq_true, ↓reduceIte]
    repeat (first
      | refine r_end ?_ | refine r_skip ?_ | (refine r_region ?_; simp only [List.size_toArray, List.length_cons, List.length_nil, Nat.reduceAdd, Nat.zero_add, List.range, List.range.loop])
      | refine r_seq ?_
      | (refine r_op rfl rfl (by decide) (fun w₁ h₁ K hK => ?_); obtain ⟨dd, hdd⟩ := h₁; subst hdd; (try simp only [at_at']); go_simp
         refine hK _ _ ⟨fun e he => (by have hm := mem_listed he; simp [go_sem] at hm), ?_⟩; clear hK K; try walk_nrm))
    refine r_ret ?_
    exact .here ⟨_, _, _, rfl, rfl, resultsC_tmp rfl _, rfl, rfl, ⟨_, rfl⟩⟩
end Go.Proofs.Ytdpagejckahkkaa.Net

namespace Go.Proofs.Ytdpagejckahkkaa.Net
open Go Go.Conc Go.RowKit

noncomputable def body5 : Code := Try.f5.body.getD .skip
noncomputable def tail5 : Nat → Code
  | 0 => body5
  | n + 1 => match tail5 n with | .seq _ r => r | _ => .skip
noncomputable def L5a : Code := match tail5 3 with | .seq (.seq _ (.block _ (.loop c))) _ => c | _ => .skip
noncomputable def L5b : Code := match tail5 9 with | .seq (.seq _ (.block _ (.loop c))) _ => c | _ => .skip

/-- i of the parts are copied, in the list p. -/
def Cop (W0 : World) (ps : List (List Int)) (i : Nat) (p : Value) (w : World) : Prop :=
  W0.grownBy w none ∧ ∃ hs : List Value, hs.length = i ∧ w.ownsRow W0.heap.size 22 1 p i hs ∧ (∀ u ∈ hs, u.oneCell' = true) ∧ ∀ (j : Nat) u xs, hs[j]? = some u → ps[j]? = some xs → w.ownsRow W0.heap.size 3 1 u xs.length (xs.map num) ∧ ∀ k, u.ownBlock = some k → p.ownBlock ≠ some k
theorem Cop.more {W0 w w1 w2 : World} {ps : List (List Int)} {i : Nat} {p p' u : Value} {hs : List Value} {xs : List Int} (hg : W0.grownBy w none) (hl : hs.length = i) (hown : w.ownsRow W0.heap.size 22 1 p i hs) (h1 : ∀ u ∈ hs, u.oneCell' = true) (hrow : ∀ (j : Nat) u xs, hs[j]? = some u → ps[j]? = some xs → w.ownsRow W0.heap.size 3 1 u xs.length (xs.map num) ∧ ∀ k, u.ownBlock = some k → p.ownBlock ≠ some k)
    (hx : ps[i]? = some xs) (hu : w1.ownsRow w.heap.size 3 1 u xs.length (xs.map num)) (hu1 : u.oneCell' = true) (g1 : w.grownBy w1 none) (o : Obj) (hp' : w2.ownsRow W0.heap.size 22 1 p' (i + 1) (hs ++ [u])) (g2 : (w1.alloc o).grownBy w2 p.ownBlock) (hb : p'.ownBlock = p.ownBlock ∨ (p'.ownBlock = some (w1.alloc o).heap.size ∧ (w1.alloc o).grownBy w2 none)) : Cop W0 ps (i + 1) p' w2 := by
  have hg1 : W0.grownBy w1 none := grown_trans hg g1
  have ga := World.grownBy_alloc w1 o none
  have gs := g1.size
  have hpb : ∀ k, p.ownBlock = some k → W0.heap.size ≤ k ∧ k < w.heap.size := fun k hk => hown.lt k hk
  have g0 : W0.grownBy w2 none := ⟨g2.os.trans (ga.os.trans hg1.os), g2.tape.trans (ga.tape.trans hg1.tape), g2.output.trans (ga.output.trans hg1.output), Nat.le_trans hg1.size (Nat.le_trans ga.size g2.size),
    fun k hk _ => (g2.block k (Nat.lt_of_lt_of_le hk (Nat.le_trans hg1.size ga.size)) (fun e => by have := (hpb k e.symm).1; omega)).trans ((ga.block k (Nat.lt_of_lt_of_le hk hg1.size) (by simp)).trans (hg1.block k hk (by simp)))⟩
  have kept : ∀ {x : World} {b : Nat} {v : Value} {n : Nat} {ys : List Int}, w1.ownsRow b 3 1 v n (ys.map num) → (∀ k, v.ownBlock = some k → p.ownBlock ≠ some k) → w2.ownsRow b 3 1 v n (ys.map num) := fun {x b v n ys} h hne => (h.kept ga (by cases v.ownBlock <;> simp)).kept g2 (by
    cases e : v.ownBlock with
    | none => exact .inl rfl
    | some k => exact .inr fun e' => hne k e (by rw [← e']))
  have rise : ∀ {x y : Nat} {v : Value} {n : Nat} {ys : List Value}, x ≤ y → w2.ownsRow y 3 1 v n ys → w2.ownsRow x 3 1 v n ys := fun hxy h => ⟨h.1, h.2.imp id fun ⟨g, cap, cur, e, hb, r⟩ => ⟨g, cap, cur, e, Nat.le_trans hxy hb, r⟩⟩
  have away : ∀ k, k < w1.heap.size → p.ownBlock ≠ some k → p'.ownBlock ≠ some k := fun k hk hn e => by
    rcases hb with h | ⟨h, _⟩
    · exact hn (h ▸ e)
    · rw [h] at e
      obtain rfl := Option.some.inj e
      have := ga.size
      omega
  refine ⟨g0, hs ++ [u], by simp [hl], hp', fun v hv => ?_, fun j v ys hj hy => ?_⟩
  · rcases List.mem_append.1 hv with h | h
    · exact h1 v h
    · rw [List.mem_singleton.1 h]; exact hu1
  · rcases Nat.lt_or_ge j i with hji | hji
    · rw [List.getElem?_append_left (by omega)] at hj
      obtain ⟨k1, k2⟩ := hrow j v ys hj hy
      exact ⟨kept (x := w1) (k1.kept g1 (by cases v.ownBlock <;> simp)) k2, fun k hk => away k (by have := (k1.lt k hk).2; omega) (k2 k hk)⟩
    · rw [List.getElem?_append_right (by omega)] at hj
      obtain rfl : j = i := by
        rcases Nat.lt_or_ge (j - hs.length) 1 with h | h
        · omega
        · rw [List.getElem?_eq_none (by simpa using h)] at hj; cases hj
      rw [hl, Nat.sub_self] at hj
      obtain rfl := Option.some.inj hj
      rw [hx] at hy
      obtain rfl := Option.some.inj hy
      have k2 : ∀ k, u.ownBlock = some k → p.ownBlock ≠ some k := fun k hk e => by have := (hu.lt k hk).1; have := (hpb k e).2; omega
      exact ⟨rise (by have := hg.size; omega) (kept (x := w1) hu k2), fun k hk => away k (hu.lt k hk).2 (k2 k hk)⟩

section
variable {cs : List Frame} {X : (Loc → Prop) → Goroutine → World → Prop} {a0 : Option Addr} {ca n : Nat} {vt want : Value}
set_option maxHeartbeats 8000000 in
theorem copy_loop {W0 : World} {ps : List (List Int)} {hd : Nat → Value} (hn : ps.length = n) (hmax : n * 24 ≤ 140737488351232) (hP : PartsAt (fun _ => False) W0 a0 ps hd) (hlen : ∀ xs ∈ ps, xs.length * 8 ≤ 140737488351232)
    (h : ∀ (p : Value) (w : World) (j2 j3 j8 j9 j10 j11 j12 j13 j14 j15 j16 j17 j18 j19 j20 j21 j22 j23 j24 j25 j26 j27 j28 j29 j30 j31 j32 j33 j34 j35 j36 j37 j38 j39 j40 j41 j42 j43 j44 j45 j46 j47 j48 j49 j50 j51 j52 j53 j54 j55 j56 j57 j58 j59 j60 j61 j62 j63 j64 j65 j66 j67 j68 j69 j70 : Value) (d : Nat), Cop W0 ps n p w → Reach Try.prog (fun _ => False) (G ((base 5).at ⟨#[.slice a0 n ca, vt, j2, j3, .bool false, want, p, num n, j8, j9, j10, j11, j12, j13, j14, j15, j16, j17, j18, j19, j20, j21, j22, j23, j24, j25, j26, j27, j28, j29, j30, j31, j32, j33, j34, j35, j36, j37, j38, j39, j40, j41, j42, j43, j44, j45, j46, j47, j48, j49, j50, j51, j52, j53, j54, j55, j56, j57, j58, j59, j60, j61, j62, j63, j64, j65, j66, j67, j68, j69, j70], []⟩ [.code (tail5 4)]) cs) (w.at d) X) :
    ∀ (k i : Nat) (w : World) (p : Value), i + k = n → Cop W0 ps i p w → ∀ (j2 j3 j8 j9 j10 j11 j12 j13 j14 j15 j16 j17 j18 j19 j20 j21 j22 j23 j24 j25 j26 j27 j28 j29 j30 j31 j32 j33 j34 j35 j36 j37 j38 j39 j40 j41 j42 j43 j44 j45 j46 j47 j48 j49 j50 j51 j52 j53 j54 j55 j56 j57 j58 j59 j60 j61 j62 j63 j64 j65 j66 j67 j68 j69 j70 : Value) (d : Nat), Reach Try.prog (fun _ => False) (G ((base 5).at ⟨#[.slice a0 n ca, vt, j2, j3, .bool false, want, p, num i, j8, j9, j10, j11, j12, j13, j14, j15, j16, j17, j18, j19, j20, j21, j22, j23, j24, j25, j26, j27, j28, j29, j30, j31, j32, j33, j34, j35, j36, j37, j38, j39, j40, j41, j42, j43, j44, j45, j46, j47, j48, j49, j50, j51, j52, j53, j54, j55, j56, j57, j58, j59, j60, j61, j62, j63, j64, j65, j66, j67, j68, j69, j70], []⟩ [.code L5a, .inLoop L5a, .inBlock 0, .code (tail5 4)]) cs) (w.at d) X := by
  intro k
  induction k with
  | zero =>
    intro i w p hi hC j2 j3 j8 j9 j10 j11 j12 j13 j14 j15 j16 j17 j18 j19 j20 j21 j22 j23 j24 j25 j26 j27 j28 j29 j30 j31 j32 j33 j34 j35 j36 j37 j38 j39 j40 j41 j42 j43 j44 j45 j46 j47 j48 j49 j50 j51 j52 j53 j54 j55 j56 j57 j58 j59 j60 j61 j62 j63 j64 j65 j66 j67 j68 j69 j70 d
    obtain rfl : i = n := by omega
    have h := fun j2 j3 j8 j9 j10 j11 j12 j13 j14 j15 j16 j17 j18 j19 j20 j21 j22 j23 j24 j25 j26 j27 j28 j29 j30 j31 j32 j33 j34 j35 j36 j37 j38 j39 j40 j41 j42 j43 j44 j45 j46 j47 j48 j49 j50 j51 j52 j53 j54 j55 j56 j57 j58 j59 j60 j61 j62 j63 j64 j65 j66 j67 j68 j69 j70 d => h p w j2 j3 j8 j9 j10 j11 j12 j13 j14 j15 j16 j17 j18 j19 j20 j21 j22 j23 j24 j25 j26 j27 j28 j29 j30 j31 j32 j33 j34 j35 j36 j37 j38 j39 j40 j41 j42 j43 j44 j45 j46 j47 j48 j49 j50 j51 j52 j53 j54 j55 j56 j57 j58 j59 j60 j61 j62 j63 j64 j65 j66 j67 j68 j69 j70 d hC
    clear hC hP hlen
    simp only [tail5, body5, L5a, L5b, Try.f5, Option.getD_some, num] at h ⊢
    refine r_seq ?_
    refine r_seq ?_
    (refine r_region ?_; simp only [List.size_toArray, List.length_cons, List.length_nil, Nat.reduceAdd, Nat.zero_add, List.range, List.range.loop])
    repeat (refine r_op rfl rfl (by decide) (fun w₁ h₁ K hK => ?_); obtain ⟨dd, hdd⟩ := h₁; subst hdd; (try simp only [at_at', alloc_at']); go_simp
            refine hK _ _ ⟨fun e he => (by have hm := mem_listed he; clear hK he; simp [go_sem] at hm), ?_⟩; clear hK K; try walk_nrm)
    refine r_end ?_
    refine r_cond (t := false) (by simp [Act.eval]) ?_; simp only [if_true, if_false, Bool.false_eq_true, ↓reduceIte]
    refine r_exit rfl ?_
    exact h _ _ _ _ _ _ _ _ _ _ _ _ _ _ _ _ _ _ _ _ _ _ _ _ _ _ _ _ _ _ _ _ _ _ _ _ _ _ _ _ _ _ _ _ _ _ _ _ _ _ _ _ _ _ _ _ _ _ _ _ _ _ _ _ _ _
  | succ k ih =>
    intro i w p hi hC j2 j3 j8 j9 j10 j11 j12 j13 j14 j15 j16 j17 j18 j19 j20 j21 j22 j23 j24 j25 j26 j27 j28 j29 j30 j31 j32 j33 j34 j35 j36 j37 j38 j39 j40 j41 j42 j43 j44 j45 j46 j47 j48 j49 j50 j51 j52 j53 j54 j55 j56 j57 j58 j59 j60 j61 j62 j63 j64 j65 j66 j67 j68 j69 j70 d
    have hlt : i < n := by omega
    have hlt' : (i : Int) < (n : Int) := by omega
    have ew : IntKind.i64.wrap ((i : Int) + 1) = ((i + 1 : Nat) : Int) := by rw [IntKind.wrap_i64]; omega
    obtain ⟨hg, hs, hl, hown, h1, hrow⟩ := hC
    obtain ⟨xs, hx⟩ : ∃ xs, ps[i]? = some xs := ⟨_, List.getElem?_eq_getElem (by omega)⟩
    obtain ⟨ad, rfl, hc0⟩ := hP.cell i (by omega)
    have hcx : w.cell? (ad.add i) = some (hd i) := hg.cell hc0 (by simp)
    have hI : IntsAt (fun _ => False) w (hd i) xs := (hP.row i _ hx).kept hg fun k _ e => by cases e
    have hlx : xs.length * 8 ≤ 140737488351232 := hlen _ (List.mem_of_getElem? hx)
    have hclear : ∀ x : Addr, x.block = ad.block → ¬ (fun _ : Loc => False) (.cell x) := fun _ _ => id
    have HI := Lib.hid hI
    have HX := Lib.hid hx
    have HOWN := Lib.hid hown
    have HG := Lib.hid hg
    have HR := Lib.hid hrow
    have H1 := Lib.hid h1
    have HP := Lib.hid hP
    have HL := Lib.hid hl
    have HN := Lib.hid hn
    have HLEN := Lib.hid hlen
    have HLX := Lib.hid hlx
    have H := Lib.hid @h
    have IH := Lib.hid @ih
    clear hI hx hown hg hrow h1 hP hl hn hlen hlx hc0 h ih
    simp only [tail5, body5, L5a, L5b, Try.f5, Option.getD_some, num] at hcx ⊢
    repeat (first
      | refine r_end ?_ | refine r_skip ?_ | (refine r_region ?_; simp only [List.size_toArray, List.length_cons, List.length_nil, Nat.reduceAdd, Nat.zero_add, List.range, List.range.loop])
      | (refine r_cond (t := true) (by simp [Act.eval, hlt, hlt']) ?_; simp only [if_true, if_false, Bool.false_eq_true, ↓reduceIte])
      | refine r_seq ?_ | refine r_block ?_ | refine r_inBlock ?_
      | (refine r_op rfl rfl (by decide) (fun w₁ h₁ K hK => ?_); obtain ⟨dd, hdd⟩ := h₁; subst hdd; (try simp only [at_at', alloc_at']); go_simp
         refine hK _ _ ⟨fun e he => (by have hm := mem_listed he; clear hK he; simp [go_sem, *] at hm; first | done | (subst hm; exact evF_cell _ _ id)), ?_⟩; clear hK K; try walk_nrm))
    refine r_callx (ints_calls (w := w.at _) (HI.out.kept (rel_grown ⟨_, rfl⟩ none) fun k _ e => by cases e) (by have := HLX.out; omega) (fun _ _ => id)) rfl rfl (by decide) rfl (by simp only [List.map_toArray, List.map_cons, List.map_nil]; rfl) (fun S' u w1 hp => ?_)
    obtain ⟨hS', hu, g1, _⟩ := hp
    have hS' := hS'.symm; subst hS'
    have g1 : w.grownBy w1 none := ⟨g1.os, g1.tape, g1.output, g1.size, g1.block⟩
    have hu : w1.ownsRow w.heap.size 3 1 u xs.length (xs.map num) := hu
    obtain ⟨u0, ul, uc, rfl⟩ : ∃ u0 ul uc, u = .slice u0 ul uc := by
      rcases hu.2 with ⟨rfl, _⟩ | ⟨_, _, _, rfl, _⟩ <;> exact ⟨_, _, _, rfl⟩
    have hu1 : (Value.slice u0 ul uc).oneCell' = true := rfl
    have HU := Lib.hid hu
    have HU1 := Lib.hid hu1
    have G1 := Lib.hid g1
    clear hu hu1 g1
    try walk_nrm
    refine r_op rfl rfl (by decide) (fun w₁ h₁ K hK => ?_); obtain ⟨dd, hdd⟩ := h₁; subst hdd; (try simp only [at_at', alloc_at']); go_simp
    refine hK _ _ ⟨fun e he => (by have hm := mem_listed he; clear hK he; simp [go_sem] at hm), ?_⟩; clear hK K; try walk_nrm
    try simp only [at_at', alloc_at']
    have hown1 : (w1.alloc (.cells #[.slice u0 ul uc] 22)).ownsRow W0.heap.size 22 1 p i hs := (HOWN.out.kept G1.out (by cases p.ownBlock <;> simp)).kept (World.grownBy_alloc w1 _ none) (by cases p.ownBlock <;> simp)
    have hcell : ∀ (j : Nat) v, [Value.slice u0 ul uc][j]? = some v → (w1.alloc (.cells #[.slice u0 ul uc] 22)).cell? ((⟨w1.heap.size, 0, none⟩ : Addr).add j) = some v := fun j v hj => by
      cases j with
      | zero =>
        cases hj
        have e := World.alloc_heap_new w1 (.cells #[.slice u0 ul uc] 22)
        simp only [Addr.add, if_true, ↓reduceIte, World.cell?]
        rw [e]
        rfl
      | succ j => simp at hj
    refine r_appendR (.tmp 23) (.tmp 29) (base := W0.heap.size) (news := [.slice u0 ul uc]) rfl rfl (by decide) rfl rfl rfl (hown1.kept (rel_grown ⟨_, rfl⟩ none) (by cases p.ownBlock <;> simp)) rfl hcell (fun v hv => by rw [List.mem_singleton.1 hv]; exact HU1.out) (by omega) (Nat.le_trans HG.out.size (Nat.le_trans G1.out.size (World.grownBy_alloc w1 (.cells #[.slice u0 ul uc] 22) none).size)) (fun _ _ => id) (fun _ _ => id) (fun p' w2 hp' g2 _ hb => ?_)
    have hp' : w2.ownsRow W0.heap.size 22 1 p' (i + 1) (hs ++ [.slice u0 ul uc]) := hp'
    have g2 : (w1.alloc (.cells #[.slice u0 ul uc] 22)).grownBy w2 p.ownBlock := ⟨g2.os, g2.tape, g2.output, g2.size, g2.block⟩
    have hb : p'.ownBlock = p.ownBlock ∨ (p'.ownBlock = some (w1.alloc (.cells #[.slice u0 ul uc] 22)).heap.size ∧ (w1.alloc (.cells #[.slice u0 ul uc] 22)).grownBy w2 none) := hb.imp id fun h => ⟨h.1, ⟨h.2.os, h.2.tape, h.2.output, h.2.size, h.2.block⟩⟩
    have HC := Lib.hid (Cop.more HG.out HL.out HOWN.out H1.out HR.out HX.out HU.out HU1.out G1.out _ hp' g2 hb)
    clear hp' g2 hb hown1 hcell HG HL HOWN H1 HR HX HU HU1 G1 hcx
    try walk_nrm
    repeat (first
      | refine r_end ?_ | refine r_skip ?_ | (refine r_region ?_; simp only [List.size_toArray, List.length_cons, List.length_nil, Nat.reduceAdd, Nat.zero_add, List.range, List.range.loop])
      | refine r_seq ?_ | refine r_block ?_ | refine r_inBlock ?_
      | (refine r_op rfl rfl (by decide) (fun w₁ h₁ K hK => ?_); obtain ⟨dd, hdd⟩ := h₁; subst hdd; (try simp only [at_at', alloc_at']); go_simp
         refine hK _ _ ⟨fun e he => (by have hm := mem_listed he; clear hK he; simp [go_sem, *] at hm; first | done | (subst hm; exact evF_cell _ _ id)), ?_⟩; clear hK K; try walk_nrm))
    refine r_inLoop ?_
    have l := IH.out (i + 1) w2 p' (by omega) HC.out
    simp only [tail5, body5, L5a, L5b, Try.f5, Option.getD_some, num] at l
    exact l _ _ _ _ _ _ _ _ _ _ _ _ _ _ _ _ _ _ _ _ _ _ _ _ _ _ _ _ _ _ _ _ _ _ _ _ _ _ _ _ _ _ _ _ _ _ _ _ _ _ _ _ _ _ _ _ _ _ _ _ _ _ _ _ _ _
end
end Go.Proofs.Ytdpagejckahkkaa.Net

namespace Go.Proofs.Ytdpagejckahkkaa.Net
open Go Go.Conc Go.RowKit

noncomputable def in5b : Code := match L5b with | .seq _ (.seq (.block _ c) _) => c | _ => .skip
noncomputable def post5b : Code := match L5b with | .seq _ (.seq _ c) => c | _ => .skip

section
variable {S : Loc → Prop} {cs : List Frame} {X : (Loc → Prop) → Goroutine → World → Prop} {a0 p0 : Option Addr} {ca cp n : Nat} {vt vu : Value} {w : World}
set_option maxHeartbeats 4000000 in
/-- The test of one part, whose order is drawn. -/
theorem back_test {i : Nat} {ad pd : Addr} {x y : Value} (hi : i < n) (hx : w.cell? (pd.add i) = some x) (hy : w.cell? (ad.add i) = some y) (hxS : ∀ z : Addr, z.block = pd.block → ¬ S (.cell z)) (hyS : ∀ z : Addr, z.block = ad.block → ¬ S (.cell z))
    (hsame : CallsR Try.prog S 12 #[x, y] w (fun S' v w' => S' = S ∧ v = .bool true ∧ AtRel w w')) {k : List Item}
    (h : ∀ (j2 j3 j5 j7 j9 j10 j11 j14 j15 j16 j17 j18 j19 j20 j21 j22 j23 j24 j25 j26 j27 j28 j29 j30 j31 j32 j33 j34 j35 j36 j37 j38 j39 j40 j41 j42 j43 j44 j45 j46 j47 j48 j49 j50 j51 j52 j53 j54 j55 j56 j57 j58 j59 j60 j61 j62 j63 j64 j65 j66 j67 j68 j69 j70 : Value) (d : Nat), Reach Try.prog S (G ((base 5).at ⟨#[.slice (some ad) n ca, vt, j2, j3, .bool false, j5, .slice (some pd) n cp, j7, vu, j9, j10, j11, .bool true, num i, j14, j15, j16, j17, j18, j19, j20, j21, j22, j23, j24, j25, j26, j27, j28, j29, j30, j31, j32, j33, j34, j35, j36, j37, j38, j39, j40, j41, j42, j43, j44, j45, j46, j47, j48, j49, j50, j51, j52, j53, j54, j55, j56, j57, j58, j59, j60, j61, j62, j63, j64, j65, j66, j67, j68, j69, j70], []⟩ k) cs) (w.at d) X) :
    ∀ (j2 j3 j5 j7 j9 j10 j11 j14 j15 j16 j17 j18 j19 j20 j21 j22 j23 j24 j25 j26 j27 j28 j29 j30 j31 j32 j33 j34 j35 j36 j37 j38 j39 j40 j41 j42 j43 j44 j45 j46 j47 j48 j49 j50 j51 j52 j53 j54 j55 j56 j57 j58 j59 j60 j61 j62 j63 j64 j65 j66 j67 j68 j69 j70 : Value) (d : Nat), Reach Try.prog S (G ((base 5).at ⟨#[.slice (some ad) n ca, vt, j2, j3, .bool false, j5, .slice (some pd) n cp, j7, vu, j9, j10, j11, .bool true, num i, j14, j15, j16, j17, j18, j19, j20, j21, j22, j23, j24, j25, j26, j27, j28, j29, j30, j31, j32, j33, j34, j35, j36, j37, j38, j39, j40, j41, j42, j43, j44, j45, j46, j47, j48, j49, j50, j51, j52, j53, j54, j55, j56, j57, j58, j59, j60, j61, j62, j63, j64, j65, j66, j67, j68, j69, j70], []⟩ (.code in5b :: k)) cs) (w.at d) X := by
  intro j2 j3 j5 j7 j9 j10 j11 j14 j15 j16 j17 j18 j19 j20 j21 j22 j23 j24 j25 j26 j27 j28 j29 j30 j31 j32 j33 j34 j35 j36 j37 j38 j39 j40 j41 j42 j43 j44 j45 j46 j47 j48 j49 j50 j51 j52 j53 j54 j55 j56 j57 j58 j59 j60 j61 j62 j63 j64 j65 j66 j67 j68 j69 j70 d
  have hi3 : (i : Int) < (n : Int) := by omega
  have H := Lib.hid @h
  have HS := Lib.hid hsame
  clear h hsame
  simp only [in5b, L5b, tail5, body5, Try.f5, Option.getD_some, num] at hx hy ⊢
  refine r_drawn (by decide) (AtRel w) (by kernel_rfl) fun dd => ?_
  have hF : AtRel w ((w.at d).at dd) := ⟨dd, rfl⟩
  simp only [List.size_toArray, List.length_cons, List.length_nil, Nat.reduceAdd, Nat.zero_add]
  co_applyP r_take (i := 0) rfl (by first | kernel_rfl | decide +kernel) (by first | kernel_rfl | decide +kernel) (by first | kernel_rfl | decide +kernel) (.inl ⟨by rfl, fun _ hw => ⟨run_eq_of ?run0, ?guar0⟩⟩) hF ?rest0
  case run0 =>
    intro K hK
    go_simp
    exact hK
  case guar0 =>
    rw [listed_nil (by simp [go_sem])]; exact Terms.idle (termsF S) _
  try walk_nrm
  co_applyP r_take (i := 1) rfl (by first | kernel_rfl | decide +kernel) (by first | kernel_rfl | decide +kernel) (by first | kernel_rfl | decide +kernel) (.inl ⟨by rfl, fun _ hw => ⟨run_eq_of ?run1, ?guar1⟩⟩) hF ?rest1
  case run1 =>
    intro K hK
    go_simp
    exact hK
  case guar1 =>
    rw [listed_nil (by simp [go_sem])]; exact Terms.idle (termsF S) _
  try walk_nrm
  co_applyP r_take (i := 2) rfl (by first | kernel_rfl | decide +kernel) (by first | kernel_rfl | decide +kernel) (by first | kernel_rfl | decide +kernel) (.inl ⟨by rfl, fun _ hw => ⟨run_eq_of ?run2, ?guar2⟩⟩) hF ?rest2
  case run2 =>
    intro K hK
    go_simp
    exact hK
  case guar2 =>
    rw [listed_nil (by simp [go_sem])]; exact Terms.idle (termsF S) _
  try walk_nrm
  co_applyP r_take (i := 3) rfl (by first | kernel_rfl | decide +kernel) (by first | kernel_rfl | decide +kernel) (by first | kernel_rfl | decide +kernel) (.inl ⟨by rfl, fun _ hw => ⟨run_eq_of ?run3, ?guar3⟩⟩) hF ?rest3
  case run3 =>
    intro K hK
    go_simp
    exact hK
  case guar3 =>
    rw [listed_nil (by simp [go_sem])]; exact Terms.idle (termsF S) _
  try walk_nrm
  co_applyP r_take (i := 4) rfl (by first | kernel_rfl | decide +kernel) (by first | kernel_rfl | decide +kernel) (by first | kernel_rfl | decide +kernel) (.inl ⟨by rfl, fun _ hw => ⟨run_eq_of ?run4, ?guar4⟩⟩) hF ?rest4
  case run4 =>
    intro K hK
    go_simp
    exact hK
  case guar4 =>
    rw [listed_nil (by simp [go_sem, *])]; exact Terms.idle (termsF S) _
  try walk_nrm
  co_applyP r_take (i := 5) rfl (by first | kernel_rfl | decide +kernel) (by first | kernel_rfl | decide +kernel) (by first | kernel_rfl | decide +kernel) (.inl ⟨by rfl, fun _ hw => ⟨run_eq_of ?run5, ?guar5⟩⟩) hF ?rest5
  case run5 =>
    intro K hK
    obtain ⟨dd', hdd⟩ := hw; subst hdd
    go_simp
    exact hK
  case guar5 =>
    obtain ⟨dd', hdd⟩ := hw; subst hdd
    (intro e he; have hm := mem_listed he; simp [go_sem, *] at hm; try (subst hm; exact evF_cell _ _ (hxS _ (addBlk' _ _))))
  try walk_nrm
  co_applyP r_take (i := 6) rfl (by first | kernel_rfl | decide +kernel) (by first | kernel_rfl | decide +kernel) (by first | kernel_rfl | decide +kernel) (.inl ⟨by rfl, fun _ hw => ⟨run_eq_of ?run6, ?guar6⟩⟩) hF ?rest6
  case run6 =>
    intro K hK
    go_simp
    exact hK
  case guar6 =>
    rw [listed_nil (by simp [go_sem])]; exact Terms.idle (termsF S) _
  try walk_nrm
  co_applyP r_take (i := 7) rfl (by first | kernel_rfl | decide +kernel) (by first | kernel_rfl | decide +kernel) (by first | kernel_rfl | decide +kernel) (.inl ⟨by rfl, fun _ hw => ⟨run_eq_of ?run7, ?guar7⟩⟩) hF ?rest7
  case run7 =>
    intro K hK
    go_simp
    exact hK
  case guar7 =>
    rw [listed_nil (by simp [go_sem])]; exact Terms.idle (termsF S) _
  try walk_nrm
  co_applyP r_take (i := 8) rfl (by first | kernel_rfl | decide +kernel) (by first | kernel_rfl | decide +kernel) (by first | kernel_rfl | decide +kernel) (.inl ⟨by rfl, fun _ hw => ⟨run_eq_of ?run8, ?guar8⟩⟩) hF ?rest8
  case run8 =>
    intro K hK
    go_simp
    exact hK
  case guar8 =>
    rw [listed_nil (by simp [go_sem, *])]; exact Terms.idle (termsF S) _
  try walk_nrm
  co_applyP r_take (i := 9) rfl (by first | kernel_rfl | decide +kernel) (by first | kernel_rfl | decide +kernel) (by first | kernel_rfl | decide +kernel) (.inl ⟨by rfl, fun _ hw => ⟨run_eq_of ?run9, ?guar9⟩⟩) hF ?rest9
  case run9 =>
    intro K hK
    obtain ⟨dd', hdd⟩ := hw; subst hdd
    go_simp
    exact hK
  case guar9 =>
    obtain ⟨dd', hdd⟩ := hw; subst hdd
    (intro e he; have hm := mem_listed he; simp [go_sem, *] at hm; try (subst hm; exact evF_cell _ _ (hyS _ (addBlk' _ _))))
  try walk_nrm
  refine anyJ_call (i := 10) (HS.out.at ⟨dd, rfl⟩) (by first | kernel_rfl | decide +kernel) rfl (by rfl) rfl (by simp only [List.map_toArray, List.map_cons, List.map_nil]; rfl) (fun S' v w' hp => ?_)
  obtain ⟨hS', rfl, hF'⟩ := hp
  refine ⟨hS', hF', ?_⟩
  clear hF
  have hF := hF'
  clear hF'
  try walk_nrm
  co_applyP r_take (i := 11) rfl (by first | kernel_rfl | decide +kernel) (by first | kernel_rfl | decide +kernel) (by first | kernel_rfl | decide +kernel) (.inl ⟨by rfl, fun _ hw => ⟨run_eq_of ?run11, ?guar11⟩⟩) hF ?rest11
  case run11 =>
    intro K hK
    go_simp
    exact hK
  case guar11 =>
    rw [listed_nil (by simp [go_sem])]; exact Terms.idle (termsF S) _
  try walk_nrm
  co_applyP r_take (i := 12) rfl (by first | kernel_rfl | decide +kernel) (by first | kernel_rfl | decide +kernel) (by first | kernel_rfl | decide +kernel) (.inl ⟨by rfl, fun _ hw => ⟨run_eq_of ?run12, ?guar12⟩⟩) hF ?rest12
  case run12 =>
    intro K hK
    go_simp
    exact hK
  case guar12 =>
    rw [listed_nil (by simp [go_sem])]; exact Terms.idle (termsF S) _
  try walk_nrm
  refine anyJ_done (by first | kernel_rfl | decide +kernel) ?_ _
  obtain ⟨d', rfl⟩ := hF
  refine r_end ?_
  exact H.out _ _ _ _ _ _ _ _ _ _ _ _ _ _ _ _ _ _ _ _ _ _ _ _ _ _ _ _ _ _ _ _ _ _ _ _ _ _ _ _ _ _ _ _ _ _ _ _ _ _ _ _ _ _ _ _ _ _ _ _ _ _ _ _ _

set_option maxHeartbeats 8000000 in
theorem back_loop {u hd : Nat → Value} (hp : ∀ i, i < n → ∃ pd, p0 = some pd ∧ w.cell? (pd.add i) = some (u i)) (ha : ∀ i, i < n → ∃ ad, a0 = some ad ∧ w.cell? (ad.add i) = some (hd i)) (hpS : ∀ ad, p0 = some ad → ∀ x : Addr, x.block = ad.block → ¬ S (.cell x)) (haS : ∀ ad, a0 = some ad → ∀ x : Addr, x.block = ad.block → ¬ S (.cell x))
    (hsame : ∀ i, i < n → CallsR Try.prog S 12 #[u i, hd i] w (fun S' v w' => S' = S ∧ v = .bool true ∧ AtRel w w')) (hmax : n ≤ 4611686018427387904)
    (h : ∀ (j2 j3 j5 j7 j9 j10 j11 j14 j15 j16 j17 j18 j19 j20 j21 j22 j23 j24 j25 j26 j27 j28 j29 j30 j31 j32 j33 j34 j35 j36 j37 j38 j39 j40 j41 j42 j43 j44 j45 j46 j47 j48 j49 j50 j51 j52 j53 j54 j55 j56 j57 j58 j59 j60 j61 j62 j63 j64 j65 j66 j67 j68 j69 j70 : Value) (d : Nat), Reach Try.prog S (G ((base 5).at ⟨#[.slice a0 n ca, vt, j2, j3, .bool false, j5, .slice p0 n cp, j7, vu, j9, j10, j11, .bool true, num n, j14, j15, j16, j17, j18, j19, j20, j21, j22, j23, j24, j25, j26, j27, j28, j29, j30, j31, j32, j33, j34, j35, j36, j37, j38, j39, j40, j41, j42, j43, j44, j45, j46, j47, j48, j49, j50, j51, j52, j53, j54, j55, j56, j57, j58, j59, j60, j61, j62, j63, j64, j65, j66, j67, j68, j69, j70], []⟩ [.code (tail5 10)]) cs) (w.at d) X) :
    ∀ (k i : Nat), i + k = n → ∀ (j2 j3 j5 j7 j9 j10 j11 j14 j15 j16 j17 j18 j19 j20 j21 j22 j23 j24 j25 j26 j27 j28 j29 j30 j31 j32 j33 j34 j35 j36 j37 j38 j39 j40 j41 j42 j43 j44 j45 j46 j47 j48 j49 j50 j51 j52 j53 j54 j55 j56 j57 j58 j59 j60 j61 j62 j63 j64 j65 j66 j67 j68 j69 j70 : Value) (d : Nat), Reach Try.prog S (G ((base 5).at ⟨#[.slice a0 n ca, vt, j2, j3, .bool false, j5, .slice p0 n cp, j7, vu, j9, j10, j11, .bool true, num i, j14, j15, j16, j17, j18, j19, j20, j21, j22, j23, j24, j25, j26, j27, j28, j29, j30, j31, j32, j33, j34, j35, j36, j37, j38, j39, j40, j41, j42, j43, j44, j45, j46, j47, j48, j49, j50, j51, j52, j53, j54, j55, j56, j57, j58, j59, j60, j61, j62, j63, j64, j65, j66, j67, j68, j69, j70], []⟩ [.code L5b, .inLoop L5b, .inBlock 2, .code (tail5 10)]) cs) (w.at d) X := by
  intro k
  induction k with
  | zero =>
    intro i hi j2 j3 j5 j7 j9 j10 j11 j14 j15 j16 j17 j18 j19 j20 j21 j22 j23 j24 j25 j26 j27 j28 j29 j30 j31 j32 j33 j34 j35 j36 j37 j38 j39 j40 j41 j42 j43 j44 j45 j46 j47 j48 j49 j50 j51 j52 j53 j54 j55 j56 j57 j58 j59 j60 j61 j62 j63 j64 j65 j66 j67 j68 j69 j70 d
    obtain rfl : i = n := by omega
    clear hp ha hpS haS hsame hmax
    simp only [in5b, post5b, tail5, body5, L5a, L5b, Try.f5, Option.getD_some, num] at h ⊢
    refine r_seq ?_
    refine r_seq ?_
    (refine r_region ?_; simp only [List.size_toArray, List.length_cons, List.length_nil, Nat.reduceAdd, Nat.zero_add, List.range, List.range.loop])
    repeat (refine r_op rfl rfl (by decide) (fun w₁ h₁ K hK => ?_); obtain ⟨dd, hdd⟩ := h₁; subst hdd; (try simp only [at_at', alloc_at']); go_simp
            refine hK _ _ ⟨fun e he => (by have hm := mem_listed he; clear hK he; simp [go_sem] at hm), ?_⟩; clear hK K; try walk_nrm)
    refine r_end ?_
    refine r_cond (t := false) (by simp [Act.eval]) ?_; simp only [if_true, if_false, Bool.false_eq_true, ↓reduceIte]
    refine r_exit rfl ?_
    exact h _ _ _ _ _ _ _ _ _ _ _ _ _ _ _ _ _ _ _ _ _ _ _ _ _ _ _ _ _ _ _ _ _ _ _ _ _ _ _ _ _ _ _ _ _ _ _ _ _ _ _ _ _ _ _ _ _ _ _ _ _ _ _ _ _
  | succ k ih =>
    intro i hi j2 j3 j5 j7 j9 j10 j11 j14 j15 j16 j17 j18 j19 j20 j21 j22 j23 j24 j25 j26 j27 j28 j29 j30 j31 j32 j33 j34 j35 j36 j37 j38 j39 j40 j41 j42 j43 j44 j45 j46 j47 j48 j49 j50 j51 j52 j53 j54 j55 j56 j57 j58 j59 j60 j61 j62 j63 j64 j65 j66 j67 j68 j69 j70 d
    have hlt : i < n := by omega
    have hlt' : (i : Int) < (n : Int) := by omega
    have ew : IntKind.i64.wrap ((i : Int) + 1) = ((i + 1 : Nat) : Int) := by rw [IntKind.wrap_i64]; omega
    obtain ⟨pd, rfl, hx⟩ := hp i hlt
    obtain ⟨ad, rfl, hy⟩ := ha i hlt
    have hpost : ∀ (j2 j3 j5 j7 j9 j10 j11 j14 j15 j16 j17 j18 j19 j20 j21 j22 j23 j24 j25 j26 j27 j28 j29 j30 j31 j32 j33 j34 j35 j36 j37 j38 j39 j40 j41 j42 j43 j44 j45 j46 j47 j48 j49 j50 j51 j52 j53 j54 j55 j56 j57 j58 j59 j60 j61 j62 j63 j64 j65 j66 j67 j68 j69 j70 : Value) (d : Nat), Reach Try.prog S (G ((base 5).at ⟨#[.slice (some ad) n ca, vt, j2, j3, .bool false, j5, .slice (some pd) n cp, j7, vu, j9, j10, j11, .bool true, num i, j14, j15, j16, j17, j18, j19, j20, j21, j22, j23, j24, j25, j26, j27, j28, j29, j30, j31, j32, j33, j34, j35, j36, j37, j38, j39, j40, j41, j42, j43, j44, j45, j46, j47, j48, j49, j50, j51, j52, j53, j54, j55, j56, j57, j58, j59, j60, j61, j62, j63, j64, j65, j66, j67, j68, j69, j70], []⟩ [.inBlock 3, .code post5b, .inLoop L5b, .inBlock 2, .code (tail5 10)]) cs) (w.at d) X := by
      have IH := Lib.hid @ih
      clear hp ha hpS haS hsame hmax hx hy h ih
      intro j2 j3 j5 j7 j9 j10 j11 j14 j15 j16 j17 j18 j19 j20 j21 j22 j23 j24 j25 j26 j27 j28 j29 j30 j31 j32 j33 j34 j35 j36 j37 j38 j39 j40 j41 j42 j43 j44 j45 j46 j47 j48 j49 j50 j51 j52 j53 j54 j55 j56 j57 j58 j59 j60 j61 j62 j63 j64 j65 j66 j67 j68 j69 j70 d
      simp only [in5b, post5b, tail5, body5, L5a, L5b, Try.f5, Option.getD_some, num]
      repeat (first
      | refine r_end ?_ | refine r_skip ?_ | (refine r_region ?_; simp only [List.size_toArray, List.length_cons, List.length_nil, Nat.reduceAdd, Nat.zero_add, List.range, List.range.loop])
      | refine r_seq ?_ | refine r_block ?_ | refine r_inBlock ?_
      | (refine r_op rfl rfl (by decide) (fun w₁ h₁ K hK => ?_); obtain ⟨dd, hdd⟩ := h₁; subst hdd; (try simp only [at_at', alloc_at']); go_simp
         refine hK _ _ ⟨fun e he => (by have hm := mem_listed he; clear hK he; simp [go_sem, *] at hm; first | done | (subst hm; exact evF_cell _ _ id)), ?_⟩; clear hK K; try walk_nrm))
      refine r_inLoop ?_
      have l := IH.out (i + 1) (by omega)
      simp only [in5b, post5b, tail5, body5, L5a, L5b, Try.f5, Option.getD_some, num] at l
      exact l _ _ _ _ _ _ _ _ _ _ _ _ _ _ _ _ _ _ _ _ _ _ _ _ _ _ _ _ _ _ _ _ _ _ _ _ _ _ _ _ _ _ _ _ _ _ _ _ _ _ _ _ _ _ _ _ _ _ _ _ _ _ _ _ _
    have key := back_test (cs := cs) (X := X) (ca := ca) (cp := cp) (vt := vt) (vu := vu) hlt hx hy (hpS pd rfl) (haS ad rfl) (hsame i hlt) hpost
    clear hp ha hpS haS hsame hmax hx hy h ih hpost
    have KEY := Lib.hid @key
    clear key
    simp only [in5b, post5b, tail5, body5, L5a, L5b, Try.f5, Option.getD_some, num]
    refine r_seq ?_
    refine r_seq ?_
    (refine r_region ?_; simp only [List.size_toArray, List.length_cons, List.length_nil, Nat.reduceAdd, Nat.zero_add, List.range, List.range.loop])
    repeat (refine r_op rfl rfl (by decide) (fun w₁ h₁ K hK => ?_); obtain ⟨dd, hdd⟩ := h₁; subst hdd; (try simp only [at_at', alloc_at']); go_simp
            refine hK _ _ ⟨fun e he => (by have hm := mem_listed he; clear hK he; simp [go_sem] at hm), ?_⟩; clear hK K; try walk_nrm)
    refine r_end ?_
    refine r_cond (t := true) (by simp [Act.eval, hlt, hlt']) ?_; simp only [if_true, if_false, Bool.false_eq_true, ↓reduceIte]
    refine r_skip ?_
    refine r_seq ?_
    refine r_block ?_
    have key := KEY.out
    simp only [in5b, post5b, tail5, body5, L5a, L5b, Try.f5, Option.getD_some, num] at key
    exact key _ _ _ _ _ _ _ _ _ _ _ _ _ _ _ _ _ _ _ _ _ _ _ _ _ _ _ _ _ _ _ _ _ _ _ _ _ _ _ _ _ _ _ _ _ _ _ _ _ _ _ _ _ _ _ _ _ _ _ _ _ _ _ _ _
end
end Go.Proofs.Ytdpagejckahkkaa.Net

namespace Go.Proofs.Ytdpagejckahkkaa.Net
open Go Go.Conc Go.RowKit
open Go.ConcN (ShN)

/-- Rows that are held: all their blocks are there. -/
structure HeldP (S : Loc → Prop) (w : World) (a0 : Option Addr) (ps : List (List Int)) (hd : Nat → Value) : Prop where
  parts : PartsAt S w a0 ps hd
  top : ∀ ad, a0 = some ad → ad.block < w.heap.size
  low : ∀ j xs, ps[j]? = some xs → ∀ k, (hd j).ownBlock = some k → k < w.heap.size
theorem HeldP.shun {S S' : Loc → Prop} {w w' : World} {a0 : Option Addr} {ps : List (List Int)} {hd : Nat → Value} (h : HeldP S w a0 ps hd) (hg : w.grownBy w' none) (m : More S S' w w') : HeldP S' w' a0 ps hd where
  parts := ⟨fun j hj => by obtain ⟨ad, e, hc⟩ := h.parts.cell j hj; exact ⟨ad, e, hg.cell hc (by simp)⟩, fun ad e => m.clear (h.top ad e) (h.parts.clear ad e), fun j xs hj => (h.parts.row j xs hj).shun hg m (h.low j xs hj)⟩
  top ad e := Nat.lt_of_lt_of_le (h.top ad e) hg.size
  low j xs hj k hk := Nat.lt_of_lt_of_le (h.low j xs hj k hk) hg.size
theorem heldP_at {S : Loc → Prop} {w : World} {a0 : Option Addr} {ps : List (List Int)} {hd : Nat → Value} (h : HeldP S w a0 ps hd) (d : Nat) : HeldP S (w.at d) a0 ps hd := h.shun (grown_at (grown_refl w none) d) (More.same S _ _)

/-- The copies are such rows. -/
theorem Cop.held {W0 w : World} {ps : List (List Int)} {p : Value} (h : Cop W0 ps ps.length p w) (hlen : ∀ xs ∈ ps, xs.length * 8 ≤ 140737488351232) : ∃ p0 cp hd, p = .slice p0 ps.length cp ∧ HeldP (fun _ => False) w p0 ps hd := by
  obtain ⟨hg, hs, hl, hown, h1, hrow⟩ := h
  have low : ∀ (j : Nat) xs, ps[j]? = some xs → ∃ u, hs[j]? = some u ∧ w.ownsRow W0.heap.size 3 1 u xs.length (xs.map num) := fun j xs hj => by
    have : j < hs.length := by rw [hl]; exact (List.getElem?_eq_some_iff.1 hj).1
    exact ⟨hs[j], List.getElem?_eq_getElem this, (hrow j _ xs (List.getElem?_eq_getElem this) hj).1⟩
  have hlow : ∀ (j : Nat) xs, ps[j]? = some xs → w.ownsRow W0.heap.size 3 1 (hs.getD j undef) xs.length (xs.map num) := fun j xs hj => by
    obtain ⟨u, e, ho⟩ := low j xs hj
    simpa [List.getD, e] using ho
  have hmax : ∀ (j : Nat) xs, ps[j]? = some xs → xs.length ≤ 4611686018427387904 := fun j xs hj => by have := hlen xs (List.mem_of_getElem? hj); omega
  have hrows : ∀ j xs, ps[j]? = some xs → IntsAt (fun _ => False) w (hs.getD j undef) xs := fun j xs hj => IntsAt.own (hlow j xs hj) (fun _ _ => id) (hmax j xs hj)
  have hlo : ∀ j xs, ps[j]? = some xs → ∀ k, (hs.getD j undef).ownBlock = some k → k < w.heap.size := fun j xs hj k hk => ((hlow j xs hj).lt k hk).2
  rcases hown.2 with ⟨rfl, e0⟩ | ⟨g, cap, cur, rfl, hb, hgg, _⟩
  · exact ⟨none, 0, fun j => hs.getD j undef, by rw [e0], ⟨⟨(fun j hj => by omega), (fun ad e => by cases e), hrows⟩, (fun ad e => by cases e), hlo⟩⟩
  · refine ⟨some ⟨g, 0, none⟩, cap, fun j => hs.getD j undef, rfl, ⟨⟨fun j hj => ⟨_, rfl, ?_⟩, fun ad e _ _ => id, hrows⟩, (fun ad e => by cases e; exact (hown.lt g rfl).2), hlo⟩⟩
    have : j < hs.length := by omega
    exact hown.cells (g := g) rfl j _ (by simp [List.getD, this])

/-- The parts that are handed in: of an empty one the place is free. -/
structure InP (w : World) (a0 : Option Addr) (ps : List (List Int)) (hd : Nat → Value) : Prop where
  parts : PartsAt (fun _ => False) w a0 ps hd
  top : ∀ ad, a0 = some ad → ad.block < w.heap.size
  low : ∀ j xs, ps[j]? = some xs → xs ≠ [] → ∀ k, (hd j).ownBlock = some k → k < w.heap.size
theorem InP.kept {w w' : World} {a0 : Option Addr} {ps : List (List Int)} {hd : Nat → Value} (h : InP w a0 ps hd) (hg : w.grownBy w' none) : InP w' a0 ps hd :=
  ⟨h.parts.none hg, fun ad e => Nat.lt_of_lt_of_le (h.top ad e) hg.size, fun j xs hj hn k hk => Nat.lt_of_lt_of_le (h.low j xs hj hn k hk) hg.size⟩

set_option maxHeartbeats 4000000 in
/-- Two empty lists, wherever they lie. -/
theorem same_none {S : Loc → Prop} {w : World} {a0 b0 : Option Addr} {ca cb : Nat} : CallsR Try.prog S 12 #[.slice a0 0 ca, .slice b0 0 cb] w (fun S' v w' => S' = S ∧ v = .bool true ∧ AtRel w w') := by
  refine CallsR.enter Try.func12 (by rfl) rfl fun cs => ?_
  simp only [Try.f12, Option.getD_some, Nat.reduceSub, Array.replicate_succ, Array.replicate_zero, List.push_toArray, List.append_toArray, List.nil_append, List.cons_append, List.size_toArray, List.length_cons, List.length_nil, Nat.reduceAdd, Nat.zero_add]
  repeat (first
      | refine r_end ?_ | refine r_skip ?_ | (refine r_region ?_; simp only [List.size_toArray, List.length_cons, List.length_nil, Nat.reduceAdd, Nat.zero_add, List.range, List.range.loop])
      | (refine r_cond (t := false) (by simp [Act.eval]) ?_; simp only [if_true, if_false, Bool.false_eq_true, ↓reduceIte]; refine r_exit rfl ?_)
      | (refine r_cond (t := false) (by simp [Act.eval]) ?_; simp only [if_true, if_false, Bool.false_eq_true, ↓reduceIte])
      | refine r_seq ?_ | refine r_block ?_ | refine r_inBlock ?_ | refine r_loop ?_
      | (refine r_op rfl rfl (by decide) (fun w₁ h₁ K hK => ?_); obtain ⟨dd, hdd⟩ := h₁; subst hdd; (try simp only [at_at']); go_simp
         refine hK _ _ ⟨fun e he => (by have hm := mem_listed he; simp [go_sem, *] at hm), ?_⟩; clear hK K; try walk_nrm))
  refine r_ret ?_
  exact .here ⟨⟨_, []⟩, _, _, rfl, rfl, resultsC_tmp rfl _, rfl, rfl, ⟨_, rfl⟩⟩

/-- A copy against the part, whatever is shunned. -/
theorem part_back {S : Loc → Prop} {w w' : World} {a0 p0 : Option Addr} {ps : List (List Int)} {hd ud : Nat → Value} (hI : InP w a0 ps hd) (hP : HeldP (fun _ => False) w p0 ps ud) (hg : w.grownBy w' none) (m : More (fun _ => False) S w w') (i : Nat) (hi : i < ps.length) :
    CallsR Try.prog S 12 #[ud i, hd i] w' (fun S' v w'' => S' = S ∧ v = .bool true ∧ AtRel w' w'') := by
  have hx : ps[i]? = some ps[i] := List.getElem?_eq_getElem hi
  have h1 := hP.parts.row i _ hx
  have h2 := hI.parts.row i _ hx
  by_cases hn : ps[i] = []
  · rw [hn] at h1 h2
    obtain ⟨_, _, e1, _⟩ := h1
    obtain ⟨_, _, e2, _⟩ := h2
    rw [e1, e2]
    exact same_none
  · exact same_eq (h1.shun hg m (hP.low i _ hx)) (h2.shun hg m (hI.low i _ hx hn))
end Go.Proofs.Ytdpagejckahkkaa.Net
