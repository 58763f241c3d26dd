/- A region that draws its order and holds calls, on goroutine 0's way beside leavers: every order that can be drawn. -/
import Derived.Test.YtdpagejckahkkaaNetI
import Derived.Conc.CompanyMem
namespace Go.Proofs.Ytdpagejckahkkaa.Net
open Go Go.Conc

section
variable {P : Program} {S : Loc → Prop} {b : Frame} {k : List Item} {cs : List Frame} {X : (Loc → Prop) → Goroutine → World → Prop} {ops : Array Oper} {md : Region.Mode} {C : World → Prop}

theorem CallsR.at {f : FuncId} {args : Array Value} {w w₁ : World} {Post : (Loc → Prop) → Value → World → Prop} (h : CallsR P S f args w Post) (r : AtRel w w₁) : CallsR P S f args w₁ Post :=
  fun b a k cs ops i rest o xs ats ho hw hk hop hx => (h b a k cs ops i rest o xs ats ho hw hk hop hx).at r

/-- Operation number i comes up; K is asked of the state in which it ends. -/
def OpJ (P : Program) (S : Loc → Prop) (fn : FuncId) (ops : Array Oper) (i : Nat) (K : Act → World → Prop) (a : Act) (w : World) : Prop :=
  ∃ o, ops[i]? = some o ∧ ((Region.wanted o (yielded ops a.tmps) = true ∧
      ((∃ f xs ats, o.op = .call { callee := .value (.func f), args := xs, argTypes := ats } ∧ CallsR P S f (xs.map a.eval) w (fun S' v w' => S' = S ∧ K (a.put o.dst v) w')) ∨
        ∀ w₁, AtRel w w₁ → uponK o a (fun a' w' => DF S w₁ w' (listed P fn a o w₁) ∧ K a' w') ((execOp a.eval o).run P w₁))) ∨
    (Region.wanted o (yielded ops a.tmps) = false ∧ K (a.put o.dst undef) w))

theorem OpJ.mono {fn : FuncId} {i : Nat} {a : Act} {w : World} {K K' : Act → World → Prop} (h : ∀ a w, K a w → K' a w) (hh : OpJ P S fn ops i K a w) : OpJ P S fn ops i K' a w := by
  obtain ⟨o, ho, ⟨hw, (⟨f, xs, ats, hop, hc⟩ | hc)⟩ | ⟨hw, hk⟩⟩ := hh
  · exact ⟨o, ho, .inl ⟨hw, .inl ⟨f, xs, ats, hop, hc.mono fun S' v w' x => ⟨x.1, h _ _ x.2⟩⟩⟩⟩
  · exact ⟨o, ho, .inl ⟨hw, .inr fun w₁ r => uponK_mono (fun a' w' x => ⟨x.1, h _ _ x.2⟩) (hc w₁ r)⟩⟩
  · exact ⟨o, ho, .inr ⟨hw, h _ _ hk⟩⟩

theorem OpJ.goes {i : Nat} {rest : List Nat} {a : Act} {w : World} (hk : b.kind ≠ .early) (h : OpJ P S b.fn ops i (fun a' w' => Reach P S (G (b.at a' (.inRegion ops rest :: k)) cs) w' X) a w) : Reach P S (G (b.at a (.inRegion ops (i :: rest) :: k)) cs) w X := by
  obtain ⟨o, ho, ⟨hw, (⟨f, xs, ats, hop, hc⟩ | hc)⟩ | ⟨hw, hh⟩⟩ := h
  · exact r_call ho hw hk hop hc fun S' v w' x => by obtain ⟨rfl, x⟩ := x; exact x
  · exact r_op ho hw hk fun w₁ r K hK => uponK_mono hK (hc w₁ r)
  · exact r_unwanted ho hw hh

theorem OpJ.rely {fn : FuncId} {i : Nat} {a : Act} {w w₁ : World} {K : Act → World → Prop} (hK : ∀ a x y, K a x → AtRel x y → K a y) (hh : OpJ P S fn ops i K a w) (r : AtRel w w₁) : OpJ P S fn ops i K a w₁ := by
  obtain ⟨o, ho, ⟨hw, (⟨f, xs, ats, hop, hc⟩ | hc)⟩ | ⟨hw, hk⟩⟩ := hh
  · exact ⟨o, ho, .inl ⟨hw, .inl ⟨f, xs, ats, hop, hc.at r⟩⟩⟩
  · exact ⟨o, ho, .inl ⟨hw, .inr fun w₂ r₂ => hc w₂ (atRel_trans _ _ _ r r₂)⟩⟩
  · exact ⟨o, ho, .inr ⟨hw, hK _ _ _ hk r⟩⟩

theorem OpJ.of_yields (hC : ∀ x y, C x → AtRel x y → C y) {fn : FuncId} {i : Nat} {o : Oper} {v : Value} {a : Act} (hi : ops[i]? = some o) (hy : YieldsIfC P (DF S) fn ops C o v a)
    {K : Act → World → Prop} (hK : ∀ a x y, K a x → AtRel x y → K a y) {w : World} (hS : C w) (h : K (a.put o.dst v) w) : OpJ P S fn ops i K a w := by
  rcases hy with ⟨hw, hv⟩ | ⟨hw, rfl⟩
  · refine ⟨o, hi, .inl ⟨hw, .inr fun w₁ h₁ => ?_⟩⟩
    rw [(hv w₁ (hC _ _ hS h₁)).1]
    exact ⟨(hv w₁ (hC _ _ hS h₁)).2, hK _ _ _ h h₁⟩
  · exact ⟨o, hi, .inr ⟨hw, h⟩⟩

theorem OpJ.putIf {fn : FuncId} {j : Nat} {oi oj : Oper} {v : Value} (hj : ops[j]? = some oj) (hap : oi.apart ops oj = true)
    (hsi : ∀ cs b, oi.op ≠ .select cs b) (hsj : ∀ cs b, oj.op ≠ .select cs b) {K : Act → World → Prop} {a : Act} {w : World}
    (hy : YieldsIfC P (DF S) fn ops C oi v a) (h : OpJ P S fn ops j K (a.put oi.dst v) w) :
    OpJ P S fn ops j (fun a' w' => YieldsIfC P (DF S) fn ops C oi v a' ∧ K (a'.put oi.dst v) w') a w := by
  obtain ⟨h1, h2, h3⟩ := Oper.apart_spec hap
  have keep : ∀ (a : Act), YieldsIfC P (DF S) fn ops C oi v a → ∀ u, YieldsIfC P (DF S) fn ops C oi v (a.put oj.dst u) := fun a hy u =>
    hy.of_same (execOp_put oi hsi a oj.dst u h3) (wanted_put oi a oj.dst u h3)
  obtain ⟨o, ho, h⟩ := h
  rw [hj] at ho
  obtain rfl := Option.some.inj ho
  rw [wanted_put oj a oi.dst v h1] at h
  refine ⟨oj, hj, ?_⟩
  rcases h with ⟨hw, (⟨f, xs, ats, hop, hc⟩ | hc)⟩ | ⟨hw, h⟩
  · have e : xs.map (a.put oi.dst v).eval = xs.map a.eval := Array.map_congr_left fun x hx => Act.eval_put fun d hd hxd => h1 d hd (by
      subst hxd
      refine List.mem_append_left _ (List.mem_filterMap.2 ⟨.tmp d, ?_, rfl⟩)
      rw [hop]
      simp [Op.operands, Call.operands, hx])
    rw [e] at hc
    refine .inl ⟨hw, .inl ⟨f, xs, ats, hop, hc.mono fun S' u w' x => ⟨x.1, keep a hy u, ?_⟩⟩⟩
    rw [← Act.put_comm a v u h2]
    exact x.2
  · refine .inl ⟨hw, .inr fun w₁ h₁ => ?_⟩
    have h := hc w₁ h₁
    unfold listed at *
    rw [execOp_put oj hsj a oi.dst v h1] at h
    generalize (execOp a.eval oj).run P w₁ = r at *
    cases r with
    | ok n w' =>
      cases n <;> simp only [uponK] at h ⊢
      case value u => exact ⟨h.1, keep a hy u, by rw [← Act.put_comm a v u h2]; exact h.2⟩
      case skip => exact ⟨h.1, keep a hy _, by rw [← Act.put_comm a v undef h2]; exact h.2⟩
    | halt x w' => simp only [uponK] at h
  · exact .inr ⟨hw, keep a hy _, by rw [← Act.put_comm a v undef h2]; exact h⟩

/-- Whatever order is picked from here on. -/
def AnyJ (P : Program) (S : Loc → Prop) (fn : FuncId) (md : Region.Mode) (ops : Array Oper) (Q : Act → World → Prop) (C : World → Prop) : Nat → Array Bool → Act → World → Prop
  | 0, listed, a, w => Region.ready md ops listed = [] ∧ Q a w
  | fuel + 1, listed, a, w =>
    (Region.ready md ops listed = [] → Q a w) ∧
    ∀ i ∈ Region.ready md ops listed, OpJ P S fn ops i (fun a' w' => C w' ∧ AnyJ P S fn md ops Q C fuel (listed.setIfInBounds i true) a' w') a w

variable {fn : FuncId} {Q : Act → World → Prop}
theorem AnyJ.rely (hC : ∀ x y, C x → AtRel x y → C y) (hQ : ∀ a x y, Q a x → AtRel x y → Q a y) :
    ∀ (fuel : Nat) (listed : Array Bool) (a : Act) (w w₁ : World), AnyJ P S fn md ops Q C fuel listed a w → AtRel w w₁ → AnyJ P S fn md ops Q C fuel listed a w₁
  | 0, _, _, _, _, h, r => ⟨h.1, hQ _ _ _ h.2 r⟩
  | fuel + 1, _, _, _, _, h, r => ⟨fun e => hQ _ _ _ (h.1 e) r, fun i hi => (h.2 i hi).rely (fun _ _ _ h r => ⟨hC _ _ h.1 r, AnyJ.rely hC hQ fuel _ _ _ _ h.2 r⟩) r⟩

theorem anyJ_sound (hk : b.kind ≠ .early) : ∀ (fuel t : Nat) (listed : Array Bool) (a : Act) (w : World), AnyJ P S b.fn md ops (fun a' w' => Reach P S (G (b.at a' (.inRegion ops [] :: k)) cs) w' X) C fuel listed a w →
    Reach P S (G (b.at a (.inRegion ops (Region.linearise.go md ops fuel t listed []) :: k)) cs) w X := by
  intro fuel
  induction fuel with
  | zero => intro t listed a w h; simpa [Region.linearise.go] using h.2
  | succ fuel ih =>
    intro t listed a w h
    obtain ⟨h₀, h₁⟩ := h
    simp only [Region.linearise.go]
    change Reach P S (G (b.at a (.inRegion ops (match (Region.ready md ops listed)[t % (Region.ready md ops listed).length]? with
      | some i => Region.linearise.go md ops fuel (t / (Region.ready md ops listed).length) (listed.setIfInBounds i true) [i]
      | none => [].reverse) :: k)) cs) w X
    cases hi : (Region.ready md ops listed)[t % (Region.ready md ops listed).length]? with
    | none =>
      have hnil : Region.ready md ops listed = [] := by
        cases hr : Region.ready md ops listed with
        | nil => rfl
        | cons x xs =>
          rw [hr] at hi
          have hlt : t % (x :: xs).length < (x :: xs).length := Nat.mod_lt _ (by simp)
          simp at hi
          simp at hlt
          omega
      exact h₀ hnil
    | some i =>
      simp only []
      rw [linearise_go_acc, List.reverse_singleton, List.singleton_append]
      exact OpJ.goes hk ((h₁ i (List.mem_of_getElem? hi)).mono fun a' w' x => ih _ _ a' w' x.2)

theorem anyJ_first (hC : ∀ x y, C x → AtRel x y → C y) (hQ : ∀ a x y, Q a x → AtRel x y → Q a y) {i : Nat} {oi : Oper} {v : Value} (hi : ops[i]? = some oi)
    (hsel : ∀ (j : Nat) (o : Oper) cs b, ops[j]? = some o → o.op ≠ .select cs b) :
    ∀ (fuel : Nat) (listed : Array Bool) (a : Act) (w : World),
      (∀ j oj, ops[j]? = some oj → j ≠ i → listed.getD j true = false → (∀ e ∈ oj.after, Region.binds md e = true → e.on ≠ i) → oi.apart ops oj = true) →
      i ∈ Region.ready md ops listed → YieldsIfC P (DF S) fn ops C oi v a → C w →
      AnyJ P S fn md ops Q C fuel (listed.setIfInBounds i true) (a.put oi.dst v) w → AnyJ P S fn md ops Q C (fuel + 1) listed a w := by
  have hK : ∀ fuel listed, ∀ a x y, (C x ∧ AnyJ P S fn md ops Q C fuel listed a x) → AtRel x y → (C y ∧ AnyJ P S fn md ops Q C fuel listed a y) :=
    fun fuel listed a x y h r => ⟨hC _ _ h.1 r, AnyJ.rely hC hQ fuel listed a x y h.2 r⟩
  intro fuel
  induction fuel with
  | zero =>
    intro listed a w _ hr hy hS H
    refine ⟨fun h => (by rw [h] at hr; cases hr), fun j hj => ?_⟩
    by_cases hji : j = i
    · subst hji; exact OpJ.of_yields hC hi hy (hK _ _) hS ⟨hS, H⟩
    · have := ready_mono hj hji
      rw [H.1] at this
      cases this
  | succ fuel ih =>
    intro listed a w hfree hr hy hS H
    refine ⟨fun h => (by rw [h] at hr; cases hr), fun j hj => ?_⟩
    by_cases hji : j = i
    · subst hji; exact OpJ.of_yields hC hi hy (hK _ _) hS ⟨hS, H⟩
    · have h1 := H.2 j (ready_mono hj hji)
      obtain ⟨hjun, oj, hoj, hall⟩ := mem_ready.1 hj
      have hnot : ∀ e ∈ oj.after, Region.binds md e = true → e.on ≠ i := fun e he hb heq => by
        have h1 := hall e he hb
        have h0 := (mem_ready.1 hr).1
        rw [heq] at h1
        rcases Nat.lt_or_ge i listed.size with h' | h'
        · simp [h'] at h0 h1; rw [h0] at h1; cases h1
        · simp [Array.getElem?_eq_none h'] at h1
      have h2 := OpJ.putIf hoj (hfree j oj hoj hji hjun hnot) (fun cs b => hsel i oi cs b hi) (fun cs b => hsel j oj cs b hoj) hy h1
      have hfree' : ∀ k ok, ops[k]? = some ok → k ≠ i → (listed.setIfInBounds j true).getD k true = false →
          (∀ e ∈ ok.after, Region.binds md e = true → e.on ≠ i) → oi.apart ops ok = true := fun k ok hk hki hun hno => by
        refine hfree k ok hk hki ?_ hno
        by_cases hjk : j = k
        · subst hjk; exact hjun
        · rw [getD_set_ne true hjk] at hun; exact hun
      refine h2.mono fun a' w' h3 => ⟨h3.2.1, ih (listed.setIfInBounds j true) a' w' hfree' (ready_mono hr (Ne.symm hji)) h3.1 h3.2.1 ?_⟩
      rw [Array.setIfInBounds_comm _ _ hji]
      exact h3.2.2

/-- Take number i first. -/
theorem anyJ_take (hC : ∀ x y, C x → AtRel x y → C y) (hQ : ∀ a x y, Q a x → AtRel x y → Q a y) {i : Nat} {oi : Oper} {v : Value} {fuel : Nat} {listed : Array Bool} {a : Act} {w : World} (hi : ops[i]? = some oi)
    (hs : Region.noSelect ops = true) (hf : Region.free md ops listed i = true) (hr : (Region.ready md ops listed).contains i = true)
    (hy : YieldsIfC P (DF S) fn ops C oi v a) (hS : C w) (h : AnyJ P S fn md ops Q C fuel (listed.setIfInBounds i true) (a.put oi.dst v) w) : AnyJ P S fn md ops Q C (fuel + 1) listed a w :=
  anyJ_first hC hQ hi (Region.noSelect_spec hs) fuel listed a w (Region.free_spec hi hf) (by simpa using hr) hy hS h
/-- One alone may come up, a call. -/
theorem anyJ_call {i : Nat} {o : Oper} {f : FuncId} {xs : Array Operand} {ats : Array TypeId} {args : Array Value} {Post : (Loc → Prop) → Value → World → Prop} {fuel : Nat} {listed : Array Bool} {a : Act} {w : World} (hc : CallsR P S f args w Post) (hr : Region.ready md ops listed = [i])
    (ho : ops[i]? = some o) (hw : Region.wanted o (yielded ops a.tmps) = true) (hop : o.op = .call { callee := .value (.func f), args := xs, argTypes := ats }) (hx : xs.map a.eval = args)
    (h : ∀ S' v w', Post S' v w' → S' = S ∧ C w' ∧ AnyJ P S fn md ops Q C fuel (listed.setIfInBounds i true) (a.put o.dst v) w') : AnyJ P S fn md ops Q C (fuel + 1) listed a w := by
  refine ⟨fun e => ?_, fun j hj => ?_⟩
  · rw [hr] at e; cases e
  · rw [hr] at hj
    obtain rfl := List.mem_singleton.1 hj
    subst hx
    exact ⟨o, ho, .inl ⟨hw, .inl ⟨f, xs, ats, hop, hc.mono h⟩⟩⟩
/-- All have come up. -/
theorem anyJ_done {listed : Array Bool} {a : Act} {w : World} (hr : Region.ready md ops listed = []) (h : Q a w) : ∀ fuel, AnyJ P S fn md ops Q C fuel listed a w
  | 0 => ⟨hr, h⟩
  | _ + 1 => ⟨fun _ => h, fun i hi => by rw [hr] at hi; cases hi⟩
/-- The beginning. -/
theorem r_drawn (hk : b.kind ≠ .early) {id : Nat} {a : Act} {w : World} (C : World → Prop) (hm : P.follows .mixedOrders = true)
    (h : ∀ d, AnyJ P S b.fn .any ops (fun a' w' => Reach P S (G (b.at a' (.inRegion ops [] :: k)) cs) w' X) C ops.size (Array.replicate ops.size false) a (w.at d)) : Reach P S (G (b.at a (.code (.region id ops true) :: k)) cs) w X :=
  .step rfl fun w₁ r => by
    rw [stepG_region_draw]
    refine ⟨fun e he => by simp at he, ?_⟩
    obtain ⟨d, rfl⟩ := r
    simp only [Region.schedule, hm, Bool.true_or, if_true]
    exact anyJ_sound hk ops.size _ _ a _ (h _)
/-- The same at a region on goroutine 0's way. -/
theorem r_take {w₀ : World} {i : Nat} {oi : Oper} {v : Value} {fuel : Nat} {listed : Array Bool} {a : Act} {w : World} (hi : ops[i]? = some oi)
    (hs : Region.noSelect ops = true) (hf : Region.free md ops listed i = true) (hr : (Region.ready md ops listed).contains i = true)
    (hy : YieldsIfC P (DF S) b.fn ops (AtRel w₀) oi v a) (hS : AtRel w₀ w) (h : AnyJ P S b.fn md ops (fun a' w' => Reach P S (G (b.at a' (.inRegion ops [] :: k)) cs) w' X) (AtRel w₀) fuel (listed.setIfInBounds i true) (a.put oi.dst v) w) :
    AnyJ P S b.fn md ops (fun a' w' => Reach P S (G (b.at a' (.inRegion ops [] :: k)) cs) w' X) (AtRel w₀) (fuel + 1) listed a w :=
  anyJ_take (C := AtRel w₀) (Q := fun a' w' => Reach P S (G (b.at a' (.inRegion ops [] :: k)) cs) w' X) (fun _ _ h r => atRel_trans _ _ _ h r) (fun _ _ _ h r => Reach.at h r) hi hs hf hr hy hS h
end
end Go.Proofs.Ytdpagejckahkkaa.Net
