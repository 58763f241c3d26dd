/- crew.Merge: goroutine 0 starts the senders. -/
import Derived.Test.YtdpagejckahkkaaMergeK
import Derived.Test.YtdpagejckahkkaaRelay
set_option linter.unusedSimpArgs false
set_option linter.unusedVariables false
set_option maxRecDepth 100000
namespace Go.Proofs.Ytdpagejckahkkaa.Net
open Go Go.Conc Go.RowKit Go.ConcR.Gen
open Go.ConcN (ShN WgLive upd upd_same upd_ne)
open Go.ConcR (stA smA rd wr mk WgAt KK)

noncomputable def body14 : Code := Try.f14.body.getD .skip
noncomputable def tail14 : Nat → Code
  | 0 => body14
  | n + 1 => match tail14 n with | .seq _ r => r | _ => .skip
noncomputable def La14 : Code := match tail14 5 with | .seq (.seq _ (.block _ (.loop c))) _ => c | _ => .skip
noncomputable def Lb14 : Code := match tail14 7 with | .seq (.seq _ (.block _ (.loop c))) _ => c | _ => .skip
noncomputable def in14a : Code := match La14 with | .seq _ (.seq _ (.seq (.block _ c) _)) => c | _ => .skip
noncomputable def post14a : Code := match La14 with | .seq _ (.seq _ (.seq _ c)) => c | _ => .skip
noncomputable def ops14add : Array Oper := match in14a with | .seq _ (.seq _ (.seq (.region _ ops _) _)) => ops | _ => #[]
noncomputable def last14a : Code := match in14a with | .seq _ (.seq _ (.seq _ c)) => c | _ => .skip
noncomputable def ops14g : Array Oper := match last14a with | .region _ ops _ => ops | _ => #[]

/-- The array of the senders' channels, i of them made. -/
def SendArr (I : MIn) (i : Nat) (w : World) : Prop := ∃ arr : Array Value, w.heap[I.N + 2]? = some (.cells arr 33) ∧ arr.size = I.ps.length ∧ ∀ p, p < i → arr[p]? = some (.chan (some (I.N + 3 + p)))
structure A0 (I : MIn) (i : Nat) (w : World) : Prop where
  km : KM I w
  size : w.heap.size = I.N + 3 + i
  arr : SendArr I i w
/-- Channel i is new; j of the array are written. -/
structure A1 (I : MIn) (i j : Nat) (w : World) : Prop where
  km : KM I w
  size : w.heap.size = I.N + 4 + i
  arr : SendArr I j w
  ch : w.heap[I.N + 3 + i]? = some (.chan 0 #[] false 0 0 false)

section
variable {I : MIn} {S : Loc → Prop} {b B m i j : Nat} {w w₁ : World}
theorem SendArr.rely (h : SendArr I i w) (r : AsideM (mcfg I S b B) m w w₁) : SendArr I i w₁ := by
  obtain ⟨arr, h1, h2⟩ := h
  exact ⟨arr, (r.block _ (by show I.N + 2 ≠ I.N; omega) fun p _ => by show I.N + 2 ≠ I.N + 3 + p; omega).trans h1, h2⟩
theorem KM.rely (k : KM I w) (r : AsideM (mcfg I S b B) m w w₁) : KM I w₁ := KM.aside (C := mcfg I S b B) (fun _ => rfl) rfl rfl k r
theorem A0.rely (h : A0 I i w) (r : AsideM (mcfg I S b B) m w w₁) : A0 I i w₁ := ⟨h.km.rely r, r.size.trans h.size, h.arr.rely r⟩
theorem A1.rely (h : A1 I i j w) (hm : m ≤ i) (r : AsideM (mcfg I S b B) m w w₁) : A1 I i j w₁ :=
  ⟨h.km.rely r, r.size.trans h.size, h.arr.rely r, (r.block _ (by show I.N + 3 + i ≠ I.N; omega) fun p hp => by show I.N + 3 + i ≠ I.N + 3 + p; omega).trans h.ch⟩
theorem A1.went (h : A1 I i (i + 1) w) : A0 I (i + 1) w := ⟨h.km, by rw [h.size]; omega, h.arr⟩
theorem KM.alloc (k : KM I w) (o : Obj) : KM I (w.alloc o) := by
  refine ⟨k.low.alloc (by have := k.low.size; omega) o, ?_⟩
  obtain ⟨st, sm, h⟩ := k.live
  exact ⟨st, sm, h.of_block (heap_alloc_old _ _ _ (Array.getElem?_eq_some_iff.1 h).1)⟩
theorem KM.setCell (k : KM I w) {a : Addr} (ha : I.N < a.block) (v : Value) : KM I (w.setCell a v) := by
  refine ⟨⟨?_, ?_, ?_, by rw [size_setCell]; exact k.low.size, fun i hi => (heap_setCell_ne (by have : i < I.N := hi; omega)).trans (k.low.block i hi)⟩, ?_⟩
  · rw [← k.low.os]; unfold World.setCell; split <;> rfl
  · rw [← k.low.tape]; unfold World.setCell; split <;> rfl
  · rw [← k.low.output]; unfold World.setCell; split <;> rfl
  · obtain ⟨st, sm, h⟩ := k.live
    exact ⟨st, sm, h.of_block (heap_setCell_ne (by omega))⟩
theorem SendArr.cell (h : SendArr I i w) {p : Nat} (hp : p < i) : w.cell? ⟨I.N + 2, p, none⟩ = some (.chan (some (I.N + 3 + p))) := by
  obtain ⟨arr, h1, _, h3⟩ := h
  simp [World.cell?, h1, h3 p hp]
theorem SendArr.at (h : SendArr I i w) {p : Nat} (hp : p < I.ps.length) : (∃ v, w.cell? ⟨I.N + 2, p, none⟩ = some v) ∧ w.frozen? ⟨I.N + 2, p, none⟩ = false := by
  obtain ⟨arr, h1, h2, _⟩ := h
  exact ⟨⟨arr[p]'(by omega), by simp [World.cell?, h1, show p < arr.size by omega]⟩, by simp [World.frozen?, h1]⟩
theorem SendArr.alloc (h : SendArr I i w) (o : Obj) : SendArr I i (w.alloc o) := by
  obtain ⟨arr, h1, h2⟩ := h
  exact ⟨arr, (heap_alloc_old _ _ _ (Array.getElem?_eq_some_iff.1 h1).1).trans h1, h2⟩
theorem SendArr.store (h : SendArr I i w) (hi : i < I.ps.length) : SendArr I (i + 1) (w.setCell ⟨I.N + 2, i, none⟩ (.chan (some (I.N + 3 + i)))) := by
  obtain ⟨arr, h1, h2, h3⟩ := h
  refine ⟨arr.setIfInBounds i (.chan (some (I.N + 3 + i))), ?_, by simpa using h2, fun p hp => ?_⟩
  · simp [World.setCell, Array.getElem?_modify, h1]
  · by_cases e : p = i
    · subst e; simp [show p < arr.size by omega]
    · rw [Array.getElem?_setIfInBounds_ne (by omega)]; exact h3 p (by omega)

variable {C : MCfg}
theorem d0_reads (w : World) {es : Array Event} (h : ∀ e ∈ es, EvM (fun l => C.Shun l ∨ ShN C.Wg l) C.Still C.B e ∧ e.loc ≠ .mark (.release (stA C.Wg))) : D0 C m w w es := ⟨id, fun _ _ => rfl, rfl, rfl, h⟩
/-- It reads a place that is not shunned. -/
theorem evM_look {Shun Still : Loc → Prop} {B : Nat} {y : Addr} (a : Addr) (h : ¬ Shun (.cell a)) (hB : a.block < B) : EvM Shun Still B ⟨.cell a, false, false⟩ ∧ (⟨.cell a, false, false⟩ : Event).loc ≠ .mark (.release y) :=
  ⟨⟨fun x hx => by simp only [ofEvent_cell0, MemAct.touch?, Option.some.injEq] at hx; subst hx; exact ⟨fun hs => absurd hs h, fun _ => rfl⟩, by simp, by simp, by rw [ofEvent_cell0]; exact hB⟩, by simp⟩
theorem evM_put {Shun Still : Loc → Prop} {B : Nat} {y : Addr} (a : Addr) (h : ¬ Shun (.cell a)) (h2 : ¬ Still (.cell a)) (hB : a.block < B) : EvM Shun Still B ⟨.cell a, true, false⟩ ∧ (⟨.cell a, true, false⟩ : Event).loc ≠ .mark (.release y) :=
  ⟨⟨fun x hx => by simp only [ofEvent_cell0, MemAct.touch?, Option.some.injEq] at hx; subst hx; exact ⟨fun hs => absurd hs h, fun hs => absurd hs h2⟩, by simp, by simp, by rw [ofEvent_cell0]; exact hB⟩, by simp⟩
/-- A place of the call's own. -/
theorem own_place (h : I.Ok S) {x : Addr} (hx : I.N < x.block) : ¬ (S (.cell x) ∨ ShN I.N (.cell x)) := by
  rintro (hs | ⟨y, e, hy⟩)
  · have : x.block < I.N := h.new _ hs
    omega
  · obtain rfl := Loc.cell.inj e
    omega
theorem old_place (h : I.Ok S) {x : Addr} (hx : x.block < I.N) (hS : ¬ S (.cell x)) : ¬ (S (.cell x) ∨ ShN I.N (.cell x)) := by
  rintro (hs | ⟨y, e, hy⟩)
  · exact hS hs
  · obtain rfl := Loc.cell.inj e
    omega
theorem own_still {x : Addr} (hx : I.N < x.block) : ¬ StillM I S (.cell x) := by
  rintro (⟨y, e, hy, _⟩ | ⟨p, e⟩ | e)
  · obtain rfl := Loc.cell.inj e
    omega
  · cases e
  · cases e
end

section
variable (I : MIn) (cs : List Frame)
noncomputable def gHeadA (i : Nat) (j2 j3 j4 j8 j9 j10 j11 j12 j13 j14 j15 j16 j17 j18 j19 j20 j21 j25 j26 j27 j28 j29 j30 j31 j32 j33 j34 j35 j36 j37 j38 j39 j40 j41 j42 j43 j44 j45 j46 j47 j48 j49 j50 j51 j52 j53 j54 j55 j56 j57 j58 j59 j60 j61 j62 j63 j64 j65 j66 j67 j68 j69 j70 j71 : Value) : Goroutine :=
  G ((base 14).at ⟨#[.slice I.a0 I.ps.length I.cap, .slice I.b0 I.ts.length I.capb, j2, j3, j4, .pointer (some ⟨I.N, 0, none⟩), .chan (some (I.N + 1)), .slice (some ⟨I.N + 2, 0, none⟩) I.ps.length I.ps.length, j8, j9, j10, j11, j12, j13, j14, j15, j16, j17, j18, j19, j20, j21, .slice I.a0 I.ps.length I.cap, num I.ps.length, num i, j25, j26, j27, j28, j29, j30, j31, j32, j33, j34, j35, j36, j37, j38, j39, j40, j41, j42, j43, j44, j45, j46, j47, j48, j49, j50, j51, j52, j53, j54, j55, j56, j57, j58, j59, j60, j61, j62, j63, j64, j65, j66, j67, j68, j69, j70, j71], []⟩ [.code La14, .inLoop La14, .inBlock 0, .code (tail14 6)]) cs

noncomputable def gGoA (i : Nat) (ap : Option Addr) (len cp : Nat) (j2 j3 j4 j10 j11 j12 j13 j14 j15 j16 j17 j18 j19 j20 j21 j25 j26 j27 j28 j29 j30 j31 j32 j33 j35 j36 j37 j40 j41 j42 j43 j44 j45 j46 j47 j48 j49 j50 j51 j52 j53 j54 j55 j56 j57 j58 j59 j60 j61 j62 j63 j64 j65 j66 j67 j68 j69 j70 j71 : Value) : Goroutine :=
  G ((base 14).at ⟨#[.slice I.a0 I.ps.length I.cap, .slice I.b0 I.ts.length I.capb, j2, j3, j4, .pointer (some ⟨I.N, 0, none⟩), .chan (some (I.N + 1)), .slice (some ⟨I.N + 2, 0, none⟩) I.ps.length I.ps.length, num i, .slice ap len cp, j10, j11, j12, j13, j14, j15, j16, j17, j18, j19, j20, j21, .slice I.a0 I.ps.length I.cap, num I.ps.length, num i, j25, j26, j27, j28, j29, j30, j31, j32, j33, .slice ap len cp, j35, j36, j37, .chan (some (I.N + 3 + i)), .chan (some (I.N + 1)), j40, j41, j42, j43, j44, j45, j46, j47, j48, j49, j50, j51, j52, j53, j54, j55, j56, j57, j58, j59, j60, j61, j62, j63, j64, j65, j66, j67, j68, j69, j70, j71], []⟩ [.inRegion ops14g [6], .inBlock 1, .code post14a, .inLoop La14, .inBlock 0, .code (tail14 6)]) cs

noncomputable def gWentA (i : Nat) (j2 j3 j4 j8 j9 j10 j11 j12 j13 j14 j15 j16 j17 j18 j19 j20 j21 j25 j26 j27 j28 j29 j30 j31 j32 j33 j34 j35 j36 j37 j38 j39 j40 j41 j42 j43 j44 j45 j46 j47 j48 j49 j50 j51 j52 j53 j54 j55 j56 j57 j58 j59 j60 j61 j62 j63 j64 j65 j66 j67 j68 j69 j70 j71 : Value) : Goroutine :=
  G ((base 14).at ⟨#[.slice I.a0 I.ps.length I.cap, .slice I.b0 I.ts.length I.capb, j2, j3, j4, .pointer (some ⟨I.N, 0, none⟩), .chan (some (I.N + 1)), .slice (some ⟨I.N + 2, 0, none⟩) I.ps.length I.ps.length, j8, j9, j10, j11, j12, j13, j14, j15, j16, j17, j18, j19, j20, j21, .slice I.a0 I.ps.length I.cap, num I.ps.length, num i, j25, j26, j27, j28, j29, j30, j31, j32, j33, j34, j35, j36, j37, j38, j39, j40, j41, j42, j43, j44, j45, j46, j47, j48, j49, j50, j51, j52, j53, j54, j55, j56, j57, j58, j59, j60, j61, j62, j63, j64, j65, j66, j67, j68, j69, j70, j71], []⟩ [.inRegion ops14g [], .inBlock 1, .code post14a, .inLoop La14, .inBlock 0, .code (tail14 6)]) cs

noncomputable def gBackA (i : Nat) (ap : Option Addr) (len cp : Nat) (j2 j3 j4 j10 j11 j12 j13 j14 j15 j16 j17 j18 j19 j20 j21 j25 j26 j27 j28 j29 j30 j31 j32 j33 j34 j35 j36 j37 j38 j39 j40 j41 j42 j43 j44 j45 j46 j47 j48 j49 j50 j51 j52 j53 j54 j55 j56 j57 j58 j59 j60 j61 j62 j63 j64 j65 j66 j67 j68 j69 j70 j71 : Value) : Goroutine :=
  G ((base 14).at ⟨#[.slice I.a0 I.ps.length I.cap, .slice I.b0 I.ts.length I.capb, j2, j3, j4, .pointer (some ⟨I.N, 0, none⟩), .chan (some (I.N + 1)), .slice (some ⟨I.N + 2, 0, none⟩) I.ps.length I.ps.length, num i, .slice ap len cp, j10, j11, j12, j13, j14, j15, j16, j17, j18, j19, j20, j21, .slice I.a0 I.ps.length I.cap, num I.ps.length, num i, j25, j26, j27, j28, j29, j30, j31, j32, j33, j34, j35, j36, j37, j38, j39, j40, j41, j42, j43, j44, j45, j46, j47, j48, j49, j50, j51, j52, j53, j54, j55, j56, j57, j58, j59, j60, j61, j62, j63, j64, j65, j66, j67, j68, j69, j70, j71], []⟩ [.inRegion ops14add [], .code last14a, .inBlock 1, .code post14a, .inLoop La14, .inBlock 0, .code (tail14 6)]) cs

variable {S : Loc → Prop} {b B m : Nat} {Stop : Goroutine → World → Prop}

theorem went_head (n i : Nat) (hi : i < I.ps.length) (h64 : I.ps.length ≤ 64) (h : ∀ j2 j3 j4 j8 j9 j10 j11 j12 j13 j14 j15 j16 j17 j18 j19 j20 j21 j25 j26 j27 j28 j29 j30 j31 j32 j33 j34 j35 j36 j37 j38 j39 j40 j41 j42 j43 j44 j45 j46 j47 j48 j49 j50 j51 j52 j53 j54 j55 j56 j57 j58 j59 j60 j61 j62 j63 j64 j65 j66 j67 j68 j69 j70 j71 w, A0 I (i + 1) w → Goes Try.prog true (AsideM (mcfg I S b B) m) (D0 (mcfg I S b B) m) (Stop) n (gHeadA I cs (i + 1) j2 j3 j4 j8 j9 j10 j11 j12 j13 j14 j15 j16 j17 j18 j19 j20 j21 j25 j26 j27 j28 j29 j30 j31 j32 j33 j34 j35 j36 j37 j38 j39 j40 j41 j42 j43 j44 j45 j46 j47 j48 j49 j50 j51 j52 j53 j54 j55 j56 j57 j58 j59 j60 j61 j62 j63 j64 j65 j66 j67 j68 j69 j70 j71) w) (j2 j3 j4 j8 j9 j10 j11 j12 j13 j14 j15 j16 j17 j18 j19 j20 j21 j25 j26 j27 j28 j29 j30 j31 j32 j33 j34 j35 j36 j37 j38 j39 j40 j41 j42 j43 j44 j45 j46 j47 j48 j49 j50 j51 j52 j53 j54 j55 j56 j57 j58 j59 j60 j61 j62 j63 j64 j65 j66 j67 j68 j69 j70 j71 : Value) (w : World) (hF : A0 I (i + 1) w) : Goes Try.prog true (AsideM (mcfg I S b B) m) (D0 (mcfg I S b B) m) (Stop) (n + 20) (gWentA I cs i j2 j3 j4 j8 j9 j10 j11 j12 j13 j14 j15 j16 j17 j18 j19 j20 j21 j25 j26 j27 j28 j29 j30 j31 j32 j33 j34 j35 j36 j37 j38 j39 j40 j41 j42 j43 j44 j45 j46 j47 j48 j49 j50 j51 j52 j53 j54 j55 j56 j57 j58 j59 j60 j61 j62 j63 j64 j65 j66 j67 j68 j69 j70 j71) w := by
  have hFr : ∀ w w₁, AsideM (mcfg I S b B) m w w₁ → A0 I (i + 1) w → A0 I (i + 1) w₁ := fun w w₁ r h => h.rely r
  have e : IntKind.i64.wrap ((i : Int) + 1) = ((i + 1 : Nat) : Int) := by rw [IntKind.wrap_i64]; omega
  simp only [gHeadA, gWentA, last14a, post14a, in14a, ops14g, ops14add, La14, tail14, body14, Try.f14, Option.getD_some, num] at h ⊢
  repeat (first
    | (refine Goes.step rfl (fun w₁ h₁ => ?_); replace hF := hFr _ _ h₁ hF; clear h₁; rw [stepG_region_end]; simp only [goes_go]; refine ⟨d0_none _, ?_⟩)
    | (refine Goes.step rfl (fun w₁ h₁ => ?_); replace hF := hFr _ _ h₁ hF; clear h₁; rw [stepG_skip]; simp only [goes_go]; refine ⟨d0_none _, ?_⟩)
    | (refine Goes.step rfl (fun w₁ h₁ => ?_); replace hF := hFr _ _ h₁ hF; clear h₁; rw [stepG_seq]; simp only [goes_go]; refine ⟨d0_none _, ?_⟩)
    | (refine Goes.step rfl (fun w₁ h₁ => ?_); replace hF := hFr _ _ h₁ hF; clear h₁; rw [stepG_block]; simp only [goes_go]; refine ⟨d0_none _, ?_⟩)
    | (refine Goes.step rfl (fun w₁ h₁ => ?_); replace hF := hFr _ _ h₁ hF; clear h₁; rw [stepG_inBlock]; simp only [goes_go]; refine ⟨d0_none _, ?_⟩)
    | (refine Goes.step rfl (fun w₁ h₁ => ?_); replace hF := hFr _ _ h₁ hF; clear h₁; rw [stepG_region]; simp only [goes_go, List.size_toArray, List.length_cons, List.length_nil, Nat.reduceAdd, Nat.zero_add, List.range, List.range.loop]; refine ⟨d0_none _, ?_⟩)
    | (refine Goes.step rfl (fun w₁ h₁ => ?_); replace hF := hFr _ _ h₁ hF; clear h₁; rw [stepG_cond (t := true) rfl]; simp only [goes_go, if_true, if_false, Bool.false_eq_true, ↓reduceIte]; refine ⟨d0_none _, ?_⟩)
    | (refine Goes.step rfl (fun w₁ h₁ => ?_); replace hF := hFr _ _ h₁ hF; clear h₁; rw [stepG_cond (t := false) rfl]; simp only [goes_go, if_true, if_false, Bool.false_eq_true, ↓reduceIte]; refine ⟨d0_none _, ?_⟩)
    | (refine Goes.step rfl (fun w₁ h₁ => ?_); replace hF := hFr _ _ h₁ hF; clear h₁; rw [stepG_unwanted rfl rfl]; simp only [goes_go]; refine ⟨d0_none _, ?_⟩; walk_nrm)
    | (refine Goes.step rfl (fun w₁ h₁ => ?_); replace hF := hFr _ _ h₁ hF; clear h₁; rw [stepG_defer rfl rfl (by decide) rfl]; simp only [goes_go]; refine ⟨d0_none _, ?_⟩; walk_nrm)
    | (refine Goes.step rfl (fun w₁ h₁ => ?_); replace hF := hFr _ _ h₁ hF; clear h₁; rw [stepG_entry_pure (.bool false) rfl rfl (by decide) rfl wgLib.f_inBubble (x_inBubble_n link) (x_inBubble_b link) (x_inBubble_x link) (x_inBubble_f link)]; simp only [goes_go]; refine ⟨d0_none _, ?_⟩; walk_nrm)
    | (refine Goes.step rfl (fun w₁ h₁ => ?_); replace hF := hFr _ _ h₁ hF; clear h₁; refine goes_oper_k rfl rfl (by decide) (fun K hK => ?_); go_simp; try w_num
       refine hK _ _ ⟨d0_evs _ ?_, ?_⟩
       · intro e he; have hm := mem_listed he; simp [go_sem, *] at hm
       clear hK K; try walk_nrm))
  refine Goes.step rfl (fun w₁ h₁ => ?_); replace hF := hFr _ _ h₁ hF; clear h₁; rw [stepG_inLoop]; simp only [goes_go]; refine ⟨d0_none _, ?_⟩
  exact (h _ _ _ _ _ _ _ _ _ _ _ _ _ _ _ _ _ _ _ _ _ _ _ _ _ _ _ _ _ _ _ _ _ _ _ _ _ _ _ _ _ _ _ _ _ _ _ _ _ _ _ _ _ _ _ _ _ _ _ _ _ _ _ _ _ hF).mono (by omega)

theorem back_go (hI : I.Ok S) (hB : I.N + 3 + I.ps.length ≤ B) (i : Nat) (hi : i < I.ps.length) (hm : m = i) (ap : Option Addr) (len cp : Nat) (h : ∀ j2 j3 j4 j10 j11 j12 j13 j14 j15 j16 j17 j18 j19 j20 j21 j25 j26 j27 j28 j29 j30 j31 j32 j33 j35 j36 j37 j40 j41 j42 j43 j44 j45 j46 j47 j48 j49 j50 j51 j52 j53 j54 j55 j56 j57 j58 j59 j60 j61 j62 j63 j64 j65 j66 j67 j68 j69 j70 j71 w, A1 I i (i + 1) w → Stop (gGoA I cs i ap len cp j2 j3 j4 j10 j11 j12 j13 j14 j15 j16 j17 j18 j19 j20 j21 j25 j26 j27 j28 j29 j30 j31 j32 j33 j35 j36 j37 j40 j41 j42 j43 j44 j45 j46 j47 j48 j49 j50 j51 j52 j53 j54 j55 j56 j57 j58 j59 j60 j61 j62 j63 j64 j65 j66 j67 j68 j69 j70 j71) w) (j2 j3 j4 j10 j11 j12 j13 j14 j15 j16 j17 j18 j19 j20 j21 j25 j26 j27 j28 j29 j30 j31 j32 j33 j34 j35 j36 j37 j38 j39 j40 j41 j42 j43 j44 j45 j46 j47 j48 j49 j50 j51 j52 j53 j54 j55 j56 j57 j58 j59 j60 j61 j62 j63 j64 j65 j66 j67 j68 j69 j70 j71 : Value) (w : World) (hF : A1 I i (i + 1) w) : Goes Try.prog true (AsideM (mcfg I S b B) m) (D0 (mcfg I S b B) m) (Stop) 30 (gBackA I cs i ap len cp j2 j3 j4 j10 j11 j12 j13 j14 j15 j16 j17 j18 j19 j20 j21 j25 j26 j27 j28 j29 j30 j31 j32 j33 j34 j35 j36 j37 j38 j39 j40 j41 j42 j43 j44 j45 j46 j47 j48 j49 j50 j51 j52 j53 j54 j55 j56 j57 j58 j59 j60 j61 j62 j63 j64 j65 j66 j67 j68 j69 j70 j71) w := by
  have hFr : ∀ w w₁, AsideM (mcfg I S b B) m w w₁ → A1 I i (i + 1) w → A1 I i (i + 1) w₁ := fun w w₁ r h => h.rely (by omega) r
  simp only [gGoA, gBackA, last14a, post14a, in14a, ops14g, ops14add, La14, tail14, body14, Try.f14, Option.getD_some, num] at h ⊢
  repeat (first
    | (refine Goes.step rfl (fun w₁ h₁ => ?_); replace hF := hFr _ _ h₁ hF; clear h₁; rw [stepG_region_end]; simp only [goes_go]; refine ⟨d0_none _, ?_⟩)
    | (refine Goes.step rfl (fun w₁ h₁ => ?_); replace hF := hFr _ _ h₁ hF; clear h₁; rw [stepG_skip]; simp only [goes_go]; refine ⟨d0_none _, ?_⟩)
    | (refine Goes.step rfl (fun w₁ h₁ => ?_); replace hF := hFr _ _ h₁ hF; clear h₁; rw [stepG_seq]; simp only [goes_go]; refine ⟨d0_none _, ?_⟩)
    | (refine Goes.step rfl (fun w₁ h₁ => ?_); replace hF := hFr _ _ h₁ hF; clear h₁; rw [stepG_block]; simp only [goes_go]; refine ⟨d0_none _, ?_⟩)
    | (refine Goes.step rfl (fun w₁ h₁ => ?_); replace hF := hFr _ _ h₁ hF; clear h₁; rw [stepG_inBlock]; simp only [goes_go]; refine ⟨d0_none _, ?_⟩)
    | (refine Goes.step rfl (fun w₁ h₁ => ?_); replace hF := hFr _ _ h₁ hF; clear h₁; rw [stepG_region]; simp only [goes_go, List.size_toArray, List.length_cons, List.length_nil, Nat.reduceAdd, Nat.zero_add, List.range, List.range.loop]; refine ⟨d0_none _, ?_⟩)
    | (refine Goes.step rfl (fun w₁ h₁ => ?_); replace hF := hFr _ _ h₁ hF; clear h₁; rw [stepG_cond (t := true) rfl]; simp only [goes_go, if_true, if_false, Bool.false_eq_true, ↓reduceIte]; refine ⟨d0_none _, ?_⟩)
    | (refine Goes.step rfl (fun w₁ h₁ => ?_); replace hF := hFr _ _ h₁ hF; clear h₁; rw [stepG_cond (t := false) rfl]; simp only [goes_go, if_true, if_false, Bool.false_eq_true, ↓reduceIte]; refine ⟨d0_none _, ?_⟩)
    | (refine Goes.step rfl (fun w₁ h₁ => ?_); replace hF := hFr _ _ h₁ hF; clear h₁; rw [stepG_unwanted rfl rfl]; simp only [goes_go]; refine ⟨d0_none _, ?_⟩; walk_nrm)
    | (refine Goes.step rfl (fun w₁ h₁ => ?_); replace hF := hFr _ _ h₁ hF; clear h₁; rw [stepG_defer rfl rfl (by decide) rfl]; simp only [goes_go]; refine ⟨d0_none _, ?_⟩; walk_nrm)
    | (refine Goes.step rfl (fun w₁ h₁ => ?_); replace hF := hFr _ _ h₁ hF; clear h₁; rw [stepG_entry_pure (.bool false) rfl rfl (by decide) rfl wgLib.f_inBubble (x_inBubble_n link) (x_inBubble_b link) (x_inBubble_x link) (x_inBubble_f link)]; simp only [goes_go]; refine ⟨d0_none _, ?_⟩; walk_nrm)
    | (refine Goes.step rfl (fun w₁ h₁ => ?_); replace hF := hFr _ _ h₁ hF; clear h₁; refine goes_oper_k rfl rfl (by decide) (fun K hK => ?_); go_simp; try w_num
       refine hK _ _ ⟨d0_evs _ ?_, ?_⟩
       · intro e he; have hm := mem_listed he; simp [go_sem, *] at hm
       clear hK K; try walk_nrm))
  refine Goes.step rfl (fun w₁ h₁ => ?_); replace hF := hFr _ _ h₁ hF; clear h₁
  have hc := hF.arr.cell (Nat.lt_succ_self i)
  refine goes_oper_k rfl rfl (by decide) (fun K hK => ?_); go_simp
  refine hK _ _ ⟨d0_reads _ (fun e he => by (have hm := mem_listed he; clear hK he; simp [go_sem, *] at hm; subst hm; exact evM_look _ (own_place hI (by show I.N < I.N + 2; omega)) (by show I.N + 2 < B; omega))), ?_⟩; clear hK K hc; try walk_nrm
  repeat (first
    | (refine Goes.step rfl (fun w₁ h₁ => ?_); replace hF := hFr _ _ h₁ hF; clear h₁; rw [stepG_region_end]; simp only [goes_go]; refine ⟨d0_none _, ?_⟩)
    | (refine Goes.step rfl (fun w₁ h₁ => ?_); replace hF := hFr _ _ h₁ hF; clear h₁; rw [stepG_skip]; simp only [goes_go]; refine ⟨d0_none _, ?_⟩)
    | (refine Goes.step rfl (fun w₁ h₁ => ?_); replace hF := hFr _ _ h₁ hF; clear h₁; rw [stepG_seq]; simp only [goes_go]; refine ⟨d0_none _, ?_⟩)
    | (refine Goes.step rfl (fun w₁ h₁ => ?_); replace hF := hFr _ _ h₁ hF; clear h₁; rw [stepG_block]; simp only [goes_go]; refine ⟨d0_none _, ?_⟩)
    | (refine Goes.step rfl (fun w₁ h₁ => ?_); replace hF := hFr _ _ h₁ hF; clear h₁; rw [stepG_inBlock]; simp only [goes_go]; refine ⟨d0_none _, ?_⟩)
    | (refine Goes.step rfl (fun w₁ h₁ => ?_); replace hF := hFr _ _ h₁ hF; clear h₁; rw [stepG_region]; simp only [goes_go, List.size_toArray, List.length_cons, List.length_nil, Nat.reduceAdd, Nat.zero_add, List.range, List.range.loop]; refine ⟨d0_none _, ?_⟩)
    | (refine Goes.step rfl (fun w₁ h₁ => ?_); replace hF := hFr _ _ h₁ hF; clear h₁; rw [stepG_cond (t := true) rfl]; simp only [goes_go, if_true, if_false, Bool.false_eq_true, ↓reduceIte]; refine ⟨d0_none _, ?_⟩)
    | (refine Goes.step rfl (fun w₁ h₁ => ?_); replace hF := hFr _ _ h₁ hF; clear h₁; rw [stepG_cond (t := false) rfl]; simp only [goes_go, if_true, if_false, Bool.false_eq_true, ↓reduceIte]; refine ⟨d0_none _, ?_⟩)
    | (refine Goes.step rfl (fun w₁ h₁ => ?_); replace hF := hFr _ _ h₁ hF; clear h₁; rw [stepG_unwanted rfl rfl]; simp only [goes_go]; refine ⟨d0_none _, ?_⟩; walk_nrm)
    | (refine Goes.step rfl (fun w₁ h₁ => ?_); replace hF := hFr _ _ h₁ hF; clear h₁; rw [stepG_defer rfl rfl (by decide) rfl]; simp only [goes_go]; refine ⟨d0_none _, ?_⟩; walk_nrm)
    | (refine Goes.step rfl (fun w₁ h₁ => ?_); replace hF := hFr _ _ h₁ hF; clear h₁; rw [stepG_entry_pure (.bool false) rfl rfl (by decide) rfl wgLib.f_inBubble (x_inBubble_n link) (x_inBubble_b link) (x_inBubble_x link) (x_inBubble_f link)]; simp only [goes_go]; refine ⟨d0_none _, ?_⟩; walk_nrm)
    | (refine Goes.step rfl (fun w₁ h₁ => ?_); replace hF := hFr _ _ h₁ hF; clear h₁; refine goes_oper_k rfl rfl (by decide) (fun K hK => ?_); go_simp; try w_num
       refine hK _ _ ⟨d0_evs _ ?_, ?_⟩
       · intro e he; have hm := mem_listed he; simp [go_sem, *] at hm
       clear hK K; try walk_nrm))
  exact Goes.stop fun w₂ h₂ => h _ _ _ _ _ _ _ _ _ _ _ _ _ _ _ _ _ _ _ _ _ _ _ _ _ _ _ _ _ _ _ _ _ _ _ _ _ _ _ _ _ _ _ _ _ _ _ _ _ _ _ _ _ _ _ _ _ _ _ _ (hFr _ _ h₂ hF)

theorem head_add (hI : I.Ok S) (hB : I.N + 4 + I.ps.length ≤ B) (h64 : I.ps.length ≤ 64) (i : Nat) (hi : i < I.ps.length) (hm : m = i) {Next : Goroutine → World → Prop} (ap : Option Addr) (len cp : Nat) (hhd : I.hd i = .slice ap len cp)
    (h : ∀ j2 j3 j4 j10 j11 j12 j13 j14 j15 j16 j17 j18 j19 j20 j21 j25 j26 j27 j28 j29 j30 j31 j32 j33 j35 j36 j37 j40 j41 j42 j43 j44 j45 j46 j47 j48 j49 j50 j51 j52 j53 j54 j55 j56 j57 j58 j59 j60 j61 j62 j63 j64 j65 j66 j67 j68 j69 j70 j71 w, A1 I i (i + 1) w → AtGoM (mcfg I S b B) m Next (gGoA I cs i ap len cp j2 j3 j4 j10 j11 j12 j13 j14 j15 j16 j17 j18 j19 j20 j21 j25 j26 j27 j28 j29 j30 j31 j32 j33 j35 j36 j37 j40 j41 j42 j43 j44 j45 j46 j47 j48 j49 j50 j51 j52 j53 j54 j55 j56 j57 j58 j59 j60 j61 j62 j63 j64 j65 j66 j67 j68 j69 j70 j71) w) (j2 j3 j4 j8 j9 j10 j11 j12 j13 j14 j15 j16 j17 j18 j19 j20 j21 j25 j26 j27 j28 j29 j30 j31 j32 j33 j34 j35 j36 j37 j38 j39 j40 j41 j42 j43 j44 j45 j46 j47 j48 j49 j50 j51 j52 j53 j54 j55 j56 j57 j58 j59 j60 j61 j62 j63 j64 j65 j66 j67 j68 j69 j70 j71 : Value) (w : World) (hF : A0 I i w) :
    Goes Try.prog true (AsideM (mcfg I S b B) m) (D0 (mcfg I S b B) m) (At0Mark (mcfg I S b B) .disable (GP (mcfg I S b B) m (AtAddM (mcfg I S b B) m Next))) 120 (gHeadA I cs i j2 j3 j4 j8 j9 j10 j11 j12 j13 j14 j15 j16 j17 j18 j19 j20 j21 j25 j26 j27 j28 j29 j30 j31 j32 j33 j34 j35 j36 j37 j38 j39 j40 j41 j42 j43 j44 j45 j46 j47 j48 j49 j50 j51 j52 j53 j54 j55 j56 j57 j58 j59 j60 j61 j62 j63 j64 j65 j66 j67 j68 j69 j70 j71) w := by
  obtain ⟨ad, ha, hel⟩ := hI.parts.cell i hi
  have hclear := hI.parts.clear ad ha
  have hlt : (ad.add i).block < I.N := World.block_lt_of_cell? _ _ hel
  rw [hhd] at hel
  have hback := fun j2 j3 j4 j10 j11 j12 j13 j14 j15 j16 j17 j18 j19 j20 j21 j25 j26 j27 j28 j29 j30 j31 j32 j33 j34 j35 j36 j37 j38 j39 j40 j41 j42 j43 j44 j45 j46 j47 j48 j49 j50 j51 j52 j53 j54 j55 j56 j57 j58 j59 j60 j61 j62 j63 j64 j65 j66 j67 j68 j69 j70 j71 => back_go I cs (S := S) (b := b) (B := B) (m := m) (Stop := AtGoM (mcfg I S b B) m Next) hI (by omega) i hi hm ap len cp h j2 j3 j4 j10 j11 j12 j13 j14 j15 j16 j17 j18 j19 j20 j21 j25 j26 j27 j28 j29 j30 j31 j32 j33 j34 j35 j36 j37 j38 j39 j40 j41 j42 j43 j44 j45 j46 j47 j48 j49 j50 j51 j52 j53 j54 j55 j56 j57 j58 j59 j60 j61 j62 j63 j64 j65 j66 j67 j68 j69 j70 j71
  clear h
  have hFr : ∀ w w₁, AsideM (mcfg I S b B) m w w₁ → A0 I i w → A0 I i w₁ := fun w w₁ r h => h.rely r
  simp only [gHeadA, gBackA, last14a, post14a, in14a, ops14g, ops14add, La14, tail14, body14, Try.f14, Option.getD_some, num, ha] at hback ⊢
  have HB := Lib.hid @hback
  have HC := Lib.hid hclear
  clear hback hclear
  repeat (first
    | (refine Goes.step rfl (fun w₁ h₁ => ?_); replace hF := hFr _ _ h₁ hF; clear h₁; rw [stepG_region_end]; simp only [goes_go]; refine ⟨d0_none _, ?_⟩)
    | (refine Goes.step rfl (fun w₁ h₁ => ?_); replace hF := hFr _ _ h₁ hF; clear h₁; rw [stepG_skip]; simp only [goes_go]; refine ⟨d0_none _, ?_⟩)
    | (refine Goes.step rfl (fun w₁ h₁ => ?_); replace hF := hFr _ _ h₁ hF; clear h₁; rw [stepG_seq]; simp only [goes_go]; refine ⟨d0_none _, ?_⟩)
    | (refine Goes.step rfl (fun w₁ h₁ => ?_); replace hF := hFr _ _ h₁ hF; clear h₁; rw [stepG_block]; simp only [goes_go]; refine ⟨d0_none _, ?_⟩)
    | (refine Goes.step rfl (fun w₁ h₁ => ?_); replace hF := hFr _ _ h₁ hF; clear h₁; rw [stepG_inBlock]; simp only [goes_go]; refine ⟨d0_none _, ?_⟩)
    | (refine Goes.step rfl (fun w₁ h₁ => ?_); replace hF := hFr _ _ h₁ hF; clear h₁; rw [stepG_region]; simp only [goes_go, List.size_toArray, List.length_cons, List.length_nil, Nat.reduceAdd, Nat.zero_add, List.range, List.range.loop]; refine ⟨d0_none _, ?_⟩)
    | (refine Goes.step rfl (fun w₁ h₁ => ?_); replace hF := hFr _ _ h₁ hF; clear h₁; rw [stepG_cond (t := true) rfl]; simp only [goes_go, if_true, if_false, Bool.false_eq_true, ↓reduceIte]; refine ⟨d0_none _, ?_⟩)
    | (refine Goes.step rfl (fun w₁ h₁ => ?_); replace hF := hFr _ _ h₁ hF; clear h₁; rw [stepG_cond (t := false) rfl]; simp only [goes_go, if_true, if_false, Bool.false_eq_true, ↓reduceIte]; refine ⟨d0_none _, ?_⟩)
    | (refine Goes.step rfl (fun w₁ h₁ => ?_); replace hF := hFr _ _ h₁ hF; clear h₁; rw [stepG_unwanted rfl rfl]; simp only [goes_go]; refine ⟨d0_none _, ?_⟩; walk_nrm)
    | (refine Goes.step rfl (fun w₁ h₁ => ?_); replace hF := hFr _ _ h₁ hF; clear h₁; rw [stepG_defer rfl rfl (by decide) rfl]; simp only [goes_go]; refine ⟨d0_none _, ?_⟩; walk_nrm)
    | (refine Goes.step rfl (fun w₁ h₁ => ?_); replace hF := hFr _ _ h₁ hF; clear h₁; rw [stepG_entry_pure (.bool false) rfl rfl (by decide) rfl wgLib.f_inBubble (x_inBubble_n link) (x_inBubble_b link) (x_inBubble_x link) (x_inBubble_f link)]; simp only [goes_go]; refine ⟨d0_none _, ?_⟩; walk_nrm)
    | (refine Goes.step rfl (fun w₁ h₁ => ?_); replace hF := hFr _ _ h₁ hF; clear h₁; refine goes_oper_k rfl rfl (by decide) (fun K hK => ?_); go_simp; try w_num
       refine hK _ _ ⟨d0_evs _ ?_, ?_⟩
       · intro e he; have hm := mem_listed he; simp [go_sem, *] at hm
       clear hK K; try walk_nrm))
  refine Goes.step rfl (fun w₁ h₁ => ?_); replace hF := hFr _ _ h₁ hF; clear h₁
  have hc : w₁.cell? (ad.add i) = some (.slice ap len cp) := by rw [hF.km.low.cell hlt]; exact hel
  refine goes_oper_k rfl rfl (by decide) (fun K hK => ?_); go_simp
  refine hK _ _ ⟨d0_reads _ (fun e he => by (have hm := mem_listed he; clear hK he; simp [go_sem, *] at hm; subst hm; exact evM_look _ (old_place hI hlt (HC.out _ (addBlk24 ad i))) (by show _ < B; omega))), ?_⟩; clear hK K hc; try walk_nrm
  repeat (first
    | (refine Goes.step rfl (fun w₁ h₁ => ?_); replace hF := hFr _ _ h₁ hF; clear h₁; rw [stepG_region_end]; simp only [goes_go]; refine ⟨d0_none _, ?_⟩)
    | (refine Goes.step rfl (fun w₁ h₁ => ?_); replace hF := hFr _ _ h₁ hF; clear h₁; rw [stepG_skip]; simp only [goes_go]; refine ⟨d0_none _, ?_⟩)
    | (refine Goes.step rfl (fun w₁ h₁ => ?_); replace hF := hFr _ _ h₁ hF; clear h₁; rw [stepG_seq]; simp only [goes_go]; refine ⟨d0_none _, ?_⟩)
    | (refine Goes.step rfl (fun w₁ h₁ => ?_); replace hF := hFr _ _ h₁ hF; clear h₁; rw [stepG_block]; simp only [goes_go]; refine ⟨d0_none _, ?_⟩)
    | (refine Goes.step rfl (fun w₁ h₁ => ?_); replace hF := hFr _ _ h₁ hF; clear h₁; rw [stepG_inBlock]; simp only [goes_go]; refine ⟨d0_none _, ?_⟩)
    | (refine Goes.step rfl (fun w₁ h₁ => ?_); replace hF := hFr _ _ h₁ hF; clear h₁; rw [stepG_region]; simp only [goes_go, List.size_toArray, List.length_cons, List.length_nil, Nat.reduceAdd, Nat.zero_add, List.range, List.range.loop]; refine ⟨d0_none _, ?_⟩)
    | (refine Goes.step rfl (fun w₁ h₁ => ?_); replace hF := hFr _ _ h₁ hF; clear h₁; rw [stepG_cond (t := true) rfl]; simp only [goes_go, if_true, if_false, Bool.false_eq_true, ↓reduceIte]; refine ⟨d0_none _, ?_⟩)
    | (refine Goes.step rfl (fun w₁ h₁ => ?_); replace hF := hFr _ _ h₁ hF; clear h₁; rw [stepG_cond (t := false) rfl]; simp only [goes_go, if_true, if_false, Bool.false_eq_true, ↓reduceIte]; refine ⟨d0_none _, ?_⟩)
    | (refine Goes.step rfl (fun w₁ h₁ => ?_); replace hF := hFr _ _ h₁ hF; clear h₁; rw [stepG_unwanted rfl rfl]; simp only [goes_go]; refine ⟨d0_none _, ?_⟩; walk_nrm)
    | (refine Goes.step rfl (fun w₁ h₁ => ?_); replace hF := hFr _ _ h₁ hF; clear h₁; rw [stepG_defer rfl rfl (by decide) rfl]; simp only [goes_go]; refine ⟨d0_none _, ?_⟩; walk_nrm)
    | (refine Goes.step rfl (fun w₁ h₁ => ?_); replace hF := hFr _ _ h₁ hF; clear h₁; rw [stepG_entry_pure (.bool false) rfl rfl (by decide) rfl wgLib.f_inBubble (x_inBubble_n link) (x_inBubble_b link) (x_inBubble_x link) (x_inBubble_f link)]; simp only [goes_go]; refine ⟨d0_none _, ?_⟩; walk_nrm)
    | (refine Goes.step rfl (fun w₁ h₁ => ?_); replace hF := hFr _ _ h₁ hF; clear h₁; refine goes_oper_k rfl rfl (by decide) (fun K hK => ?_); go_simp; try w_num
       refine hK _ _ ⟨d0_evs _ ?_, ?_⟩
       · intro e he; have hm := mem_listed he; simp [go_sem, *] at hm
       clear hK K; try walk_nrm))
  refine Goes.step rfl (fun w₁ h₁ => ?_); replace hF := hFr _ _ h₁ hF; clear h₁
  have hmc := mk0 w₁
  have hme := mk0e w₁
  have e : w₁.heap.size = I.N + 3 + i := hF.size
  have hF1 : A1 I i i (w₁.alloc (.chan 0 #[] false 0 0 false)) := ⟨hF.km.alloc _, by rw [World.size_alloc, hF.size]; omega, hF.arr.alloc _, by rw [← e]; exact heap_alloc_new _ _⟩
  refine goes_oper_k rfl rfl (by decide) (fun K hK => ?_); go_simp
  refine hK _ _ ⟨⟨fun k => KM.alloc (I := I) k _, fun p hp => heap_alloc_old _ _ _ (by show I.N + 3 + p < _; omega), heap_alloc_old _ _ _ (by show I.N + 1 < _; omega), heap_alloc_old _ _ _ (by show I.N < _; omega), fun e he => by (have hm := mem_listed he; simp [go_sem, *] at hm)⟩, ?_⟩
  clear hK K hmc hme; try walk_nrm
  try rw [e]
  clear e hFr
  replace hF := hF1
  clear hF1
  have hFr : ∀ w w₁, AsideM (mcfg I S b B) m w w₁ → A1 I i i w → A1 I i i w₁ := fun w w₁ r h => h.rely (by omega) r
  repeat (first
    | (refine Goes.step rfl (fun w₁ h₁ => ?_); replace hF := hFr _ _ h₁ hF; clear h₁; rw [stepG_region_end]; simp only [goes_go]; refine ⟨d0_none _, ?_⟩)
    | (refine Goes.step rfl (fun w₁ h₁ => ?_); replace hF := hFr _ _ h₁ hF; clear h₁; rw [stepG_skip]; simp only [goes_go]; refine ⟨d0_none _, ?_⟩)
    | (refine Goes.step rfl (fun w₁ h₁ => ?_); replace hF := hFr _ _ h₁ hF; clear h₁; rw [stepG_seq]; simp only [goes_go]; refine ⟨d0_none _, ?_⟩)
    | (refine Goes.step rfl (fun w₁ h₁ => ?_); replace hF := hFr _ _ h₁ hF; clear h₁; rw [stepG_block]; simp only [goes_go]; refine ⟨d0_none _, ?_⟩)
    | (refine Goes.step rfl (fun w₁ h₁ => ?_); replace hF := hFr _ _ h₁ hF; clear h₁; rw [stepG_inBlock]; simp only [goes_go]; refine ⟨d0_none _, ?_⟩)
    | (refine Goes.step rfl (fun w₁ h₁ => ?_); replace hF := hFr _ _ h₁ hF; clear h₁; rw [stepG_region]; simp only [goes_go, List.size_toArray, List.length_cons, List.length_nil, Nat.reduceAdd, Nat.zero_add, List.range, List.range.loop]; refine ⟨d0_none _, ?_⟩)
    | (refine Goes.step rfl (fun w₁ h₁ => ?_); replace hF := hFr _ _ h₁ hF; clear h₁; rw [stepG_cond (t := true) rfl]; simp only [goes_go, if_true, if_false, Bool.false_eq_true, ↓reduceIte]; refine ⟨d0_none _, ?_⟩)
    | (refine Goes.step rfl (fun w₁ h₁ => ?_); replace hF := hFr _ _ h₁ hF; clear h₁; rw [stepG_cond (t := false) rfl]; simp only [goes_go, if_true, if_false, Bool.false_eq_true, ↓reduceIte]; refine ⟨d0_none _, ?_⟩)
    | (refine Goes.step rfl (fun w₁ h₁ => ?_); replace hF := hFr _ _ h₁ hF; clear h₁; rw [stepG_unwanted rfl rfl]; simp only [goes_go]; refine ⟨d0_none _, ?_⟩; walk_nrm)
    | (refine Goes.step rfl (fun w₁ h₁ => ?_); replace hF := hFr _ _ h₁ hF; clear h₁; rw [stepG_defer rfl rfl (by decide) rfl]; simp only [goes_go]; refine ⟨d0_none _, ?_⟩; walk_nrm)
    | (refine Goes.step rfl (fun w₁ h₁ => ?_); replace hF := hFr _ _ h₁ hF; clear h₁; rw [stepG_entry_pure (.bool false) rfl rfl (by decide) rfl wgLib.f_inBubble (x_inBubble_n link) (x_inBubble_b link) (x_inBubble_x link) (x_inBubble_f link)]; simp only [goes_go]; refine ⟨d0_none _, ?_⟩; walk_nrm)
    | (refine Goes.step rfl (fun w₁ h₁ => ?_); replace hF := hFr _ _ h₁ hF; clear h₁; refine goes_oper_k rfl rfl (by decide) (fun K hK => ?_); go_simp; try w_num
       refine hK _ _ ⟨d0_evs _ ?_, ?_⟩
       · intro e he; have hm := mem_listed he; simp [go_sem, *] at hm
       clear hK K; try walk_nrm))
  refine Goes.step rfl (fun w₁ h₁ => ?_); replace hF := hFr _ _ h₁ hF; clear h₁
  obtain ⟨⟨vo, hc⟩, hfz⟩ := hF.arr.at hi
  have hF1 : A1 I i (i + 1) (w₁.setCell ⟨I.N + 2, i, none⟩ (.chan (some (I.N + 3 + i)))) := ⟨hF.km.setCell (by show I.N < I.N + 2; omega) _, by rw [size_setCell]; exact hF.size, hF.arr.store hi, (heap_setCell_ne (by show I.N + 3 + i ≠ I.N + 2; omega)).trans hF.ch⟩
  refine goes_oper_k rfl rfl (by decide) (fun K hK => ?_); go_simp
  refine hK _ _ ⟨⟨fun k => KM.setCell (I := I) k (by show I.N < I.N + 2; omega) _, fun p hp => heap_setCell_ne (by show I.N + 3 + p ≠ I.N + 2; omega), heap_setCell_ne (by show I.N + 1 ≠ I.N + 2; omega), heap_setCell_ne (by show I.N ≠ I.N + 2; omega), fun e he => by (have hm := mem_listed he; simp [go_sem, storedEv, *] at hm; try (subst hm; exact evM_put _ (own_place hI (by show I.N < I.N + 2; omega)) (own_still (by show I.N < I.N + 2; omega)) (by show I.N + 2 < B; omega)))⟩, ?_⟩
  clear hK K hc hfz hFr; try walk_nrm
  replace hF := hF1
  clear hF1
  have hFr : ∀ w w₁, AsideM (mcfg I S b B) m w w₁ → A1 I i (i + 1) w → A1 I i (i + 1) w₁ := fun w w₁ r h => h.rely (by omega) r
  repeat (first
    | (refine Goes.step rfl (fun w₁ h₁ => ?_); replace hF := hFr _ _ h₁ hF; clear h₁; rw [stepG_region_end]; simp only [goes_go]; refine ⟨d0_none _, ?_⟩)
    | (refine Goes.step rfl (fun w₁ h₁ => ?_); replace hF := hFr _ _ h₁ hF; clear h₁; rw [stepG_skip]; simp only [goes_go]; refine ⟨d0_none _, ?_⟩)
    | (refine Goes.step rfl (fun w₁ h₁ => ?_); replace hF := hFr _ _ h₁ hF; clear h₁; rw [stepG_seq]; simp only [goes_go]; refine ⟨d0_none _, ?_⟩)
    | (refine Goes.step rfl (fun w₁ h₁ => ?_); replace hF := hFr _ _ h₁ hF; clear h₁; rw [stepG_block]; simp only [goes_go]; refine ⟨d0_none _, ?_⟩)
    | (refine Goes.step rfl (fun w₁ h₁ => ?_); replace hF := hFr _ _ h₁ hF; clear h₁; rw [stepG_inBlock]; simp only [goes_go]; refine ⟨d0_none _, ?_⟩)
    | (refine Goes.step rfl (fun w₁ h₁ => ?_); replace hF := hFr _ _ h₁ hF; clear h₁; rw [stepG_region]; simp only [goes_go, List.size_toArray, List.length_cons, List.length_nil, Nat.reduceAdd, Nat.zero_add, List.range, List.range.loop]; refine ⟨d0_none _, ?_⟩)
    | (refine Goes.step rfl (fun w₁ h₁ => ?_); replace hF := hFr _ _ h₁ hF; clear h₁; rw [stepG_cond (t := true) rfl]; simp only [goes_go, if_true, if_false, Bool.false_eq_true, ↓reduceIte]; refine ⟨d0_none _, ?_⟩)
    | (refine Goes.step rfl (fun w₁ h₁ => ?_); replace hF := hFr _ _ h₁ hF; clear h₁; rw [stepG_cond (t := false) rfl]; simp only [goes_go, if_true, if_false, Bool.false_eq_true, ↓reduceIte]; refine ⟨d0_none _, ?_⟩)
    | (refine Goes.step rfl (fun w₁ h₁ => ?_); replace hF := hFr _ _ h₁ hF; clear h₁; rw [stepG_unwanted rfl rfl]; simp only [goes_go]; refine ⟨d0_none _, ?_⟩; walk_nrm)
    | (refine Goes.step rfl (fun w₁ h₁ => ?_); replace hF := hFr _ _ h₁ hF; clear h₁; rw [stepG_defer rfl rfl (by decide) rfl]; simp only [goes_go]; refine ⟨d0_none _, ?_⟩; walk_nrm)
    | (refine Goes.step rfl (fun w₁ h₁ => ?_); replace hF := hFr _ _ h₁ hF; clear h₁; rw [stepG_entry_pure (.bool false) rfl rfl (by decide) rfl wgLib.f_inBubble (x_inBubble_n link) (x_inBubble_b link) (x_inBubble_x link) (x_inBubble_f link)]; simp only [goes_go]; refine ⟨d0_none _, ?_⟩; walk_nrm)
    | (refine Goes.step rfl (fun w₁ h₁ => ?_); replace hF := hFr _ _ h₁ hF; clear h₁; refine goes_oper_k rfl rfl (by decide) (fun K hK => ?_); go_simp; try w_num
       refine hK _ _ ⟨d0_evs _ ?_, ?_⟩
       · intro e he; have hm := mem_listed he; simp [go_sem, *] at hm
       clear hK K; try walk_nrm))
  refine Goes.step rfl (fun w₁ h₁ => ?_); replace hF := hFr _ _ h₁ hF; clear h₁
  refine goes_call rfl rfl (by decide) rfl Try.func23 (by rfl) rfl ⟨d0_none _, ?_⟩
  walk_nrmf Try.f23
  refine (add_says (C := mcfg I S b B) (nb := 30) rfl rfl (fun l hl hw => ?_) (by show I.N < B; omega) hFr (fun w h => h.km.live) (fun w hw => ?_) _ hF).mono (by omega)
  · obtain ⟨x, rfl, hx⟩ := hw
    rcases hl with ⟨y, e, hy, _⟩ | ⟨p, e⟩ | e
    · obtain rfl := Loc.cell.inj e
      have hx : x.block = I.N := hx
      omega
    · cases e
    · cases e
  · exact HB.out _ _ _ _ _ _ _ _ _ _ _ _ _ _ _ _ _ _ _ _ _ _ _ _ _ _ _ _ _ _ _ _ _ _ _ _ _ _ _ _ _ _ _ _ _ _ _ _ _ _ _ _ _ _ _ _ _ _ _ _ _ _ w hw

theorem goA_at (i : Nat) (hi : i < I.ps.length) (ap : Option Addr) (cp : Nat) (hhd : I.hd i = .slice ap (I.part i).length cp) {Next : Goroutine → World → Prop} (j2 j3 j4 j10 j11 j12 j13 j14 j15 j16 j17 j18 j19 j20 j21 j25 j26 j27 j28 j29 j30 j31 j32 j33 j35 j36 j37 j40 j41 j42 j43 j44 j45 j46 j47 j48 j49 j50 j51 j52 j53 j54 j55 j56 j57 j58 j59 j60 j61 j62 j63 j64 j65 j66 j67 j68 j69 j70 j71 : Value) (w : World) (hF : A1 I i (i + 1) w)
    (h : ∀ j2 j3 j4 j8 j9 j10 j11 j12 j13 j14 j15 j16 j17 j18 j19 j20 j21 j25 j26 j27 j28 j29 j30 j31 j32 j33 j34 j35 j36 j37 j38 j39 j40 j41 j42 j43 j44 j45 j46 j47 j48 j49 j50 j51 j52 j53 j54 j55 j56 j57 j58 j59 j60 j61 j62 j63 j64 j65 j66 j67 j68 j69 j70 j71 w₂, A0 I (i + 1) w₂ → Next (gWentA I cs i j2 j3 j4 j8 j9 j10 j11 j12 j13 j14 j15 j16 j17 j18 j19 j20 j21 j25 j26 j27 j28 j29 j30 j31 j32 j33 j34 j35 j36 j37 j38 j39 j40 j41 j42 j43 j44 j45 j46 j47 j48 j49 j50 j51 j52 j53 j54 j55 j56 j57 j58 j59 j60 j61 j62 j63 j64 j65 j66 j67 j68 j69 j70 j71) w₂) : AtGoM (mcfg I S b B) i Next (gGoA I cs i ap (I.part i).length cp j2 j3 j4 j10 j11 j12 j13 j14 j15 j16 j17 j18 j19 j20 j21 j25 j26 j27 j28 j29 j30 j31 j32 j33 j35 j36 j37 j40 j41 j42 j43 j44 j45 j46 j47 j48 j49 j50 j51 j52 j53 j54 j55 j56 j57 j58 j59 j60 j61 j62 j63 j64 j65 j66 j67 j68 j69 j70 j71) w := by
  refine ⟨rfl, gWentA I cs i j2 j3 j4 (num i) (.slice ap (I.part i).length cp) j10 j11 j12 j13 j14 j15 j16 j17 j18 j19 j20 j21 j25 j26 j27 j28 j29 j30 j31 j32 j33 (.slice ap (I.part i).length cp) j35 j36 j37 (.chan (some (I.N + 3 + i))) (.chan (some (I.N + 1))) j40 j41 j42 j43 j44 j45 j46 j47 j48 j49 j50 j51 j52 j53 j54 j55 j56 j57 j58 j59 j60 j61 j62 j63 j64 j65 j66 j67 j68 j69 j70 j71, born Try.prog (call24 ap (I.part i).length cp (I.N + 3 + i) (I.N + 1) I.N), ?_, ⟨ap, cp, hhd, .inl ⟨rfl, rfl⟩⟩, hF.km, hF.ch, fun w₂ r => h _ _ _ _ _ _ _ _ _ _ _ _ _ _ _ _ _ _ _ _ _ _ _ _ _ _ _ _ _ _ _ _ _ _ _ _ _ _ _ _ _ _ _ _ _ _ _ _ _ _ _ _ _ _ _ _ _ _ _ _ _ _ _ _ w₂ (hF.went.rely r)⟩
  show stepG Try.prog true _ w = _
  unfold gGoA
  rw [stepG_spawn (d := call24 ap (I.part i).length cp (I.N + 3 + i) (I.N + 1) I.N) (w' := w) rfl rfl (by decide) (by simp [go_sem, execOp, Act.eval, call24, ops14g, last14a, in14a, La14, tail14, body14, Try.f14, num]) rfl, listed_none (by simp [go_sem, execOp, Act.eval, ops14g, last14a, in14a, La14, tail14, body14, Try.f14])]
  rfl

/-- From the head of the loop: all that are left are started. -/
theorem starts_at (hI : I.Ok S) (hB : I.N + 4 + I.ps.length ≤ B) (h64 : I.ps.length ≤ 64) {Next StopN : Goroutine → World → Prop} {nt : Nat} (hN : ∀ j2 j3 j4 j8 j9 j10 j11 j12 j13 j14 j15 j16 j17 j18 j19 j20 j21 j25 j26 j27 j28 j29 j30 j31 j32 j33 j34 j35 j36 j37 j38 j39 j40 j41 j42 j43 j44 j45 j46 j47 j48 j49 j50 j51 j52 j53 j54 j55 j56 j57 j58 j59 j60 j61 j62 j63 j64 j65 j66 j67 j68 j69 j70 j71 w, A0 I I.ps.length w → Goes Try.prog true (AsideM (mcfg I S b B) I.ps.length) (D0 (mcfg I S b B) I.ps.length) (StopN) nt (gHeadA I cs I.ps.length j2 j3 j4 j8 j9 j10 j11 j12 j13 j14 j15 j16 j17 j18 j19 j20 j21 j25 j26 j27 j28 j29 j30 j31 j32 j33 j34 j35 j36 j37 j38 j39 j40 j41 j42 j43 j44 j45 j46 j47 j48 j49 j50 j51 j52 j53 j54 j55 j56 j57 j58 j59 j60 j61 j62 j63 j64 j65 j66 j67 j68 j69 j70 j71) w)
    (hStop : ∀ n g w, Goes Try.prog true (AsideM (mcfg I S b B) I.ps.length) (D0 (mcfg I S b B) I.ps.length) (StopN) n (g) w → Next g w) :
    ∀ (k i : Nat), i + (k + 1) = I.ps.length → ∀ (j2 j3 j4 j8 j9 j10 j11 j12 j13 j14 j15 j16 j17 j18 j19 j20 j21 j25 j26 j27 j28 j29 j30 j31 j32 j33 j34 j35 j36 j37 j38 j39 j40 j41 j42 j43 j44 j45 j46 j47 j48 j49 j50 j51 j52 j53 j54 j55 j56 j57 j58 j59 j60 j61 j62 j63 j64 j65 j66 j67 j68 j69 j70 j71 : Value) (w : World), A0 I i w → Goes Try.prog true (AsideM (mcfg I S b B) i) (D0 (mcfg I S b B) i) (At0Mark (mcfg I S b B) .disable (GP (mcfg I S b B) i (AtAddM (mcfg I S b B) i (StartsM (mcfg I S b B) Next k)))) 120 (gHeadA I cs i j2 j3 j4 j8 j9 j10 j11 j12 j13 j14 j15 j16 j17 j18 j19 j20 j21 j25 j26 j27 j28 j29 j30 j31 j32 j33 j34 j35 j36 j37 j38 j39 j40 j41 j42 j43 j44 j45 j46 j47 j48 j49 j50 j51 j52 j53 j54 j55 j56 j57 j58 j59 j60 j61 j62 j63 j64 j65 j66 j67 j68 j69 j70 j71) w
  | 0, i, hk, j2, j3, j4, j8, j9, j10, j11, j12, j13, j14, j15, j16, j17, j18, j19, j20, j21, j25, j26, j27, j28, j29, j30, j31, j32, j33, j34, j35, j36, j37, j38, j39, j40, j41, j42, j43, j44, j45, j46, j47, j48, j49, j50, j51, j52, j53, j54, j55, j56, j57, j58, j59, j60, j61, j62, j63, j64, j65, j66, j67, j68, j69, j70, j71, w, hF => by
    obtain ⟨ap, cp, e, _⟩ := part_numbers (B := B) hI (by omega) (show i < I.ps.length by omega)
    refine head_add I cs hI hB h64 i (by omega) rfl ap (I.part i).length cp e (fun j2 j3 j4 j10 j11 j12 j13 j14 j15 j16 j17 j18 j19 j20 j21 j25 j26 j27 j28 j29 j30 j31 j32 j33 j35 j36 j37 j40 j41 j42 j43 j44 j45 j46 j47 j48 j49 j50 j51 j52 j53 j54 j55 j56 j57 j58 j59 j60 j61 j62 j63 j64 j65 j66 j67 j68 j69 j70 j71 w hF => goA_at I cs i (by omega) ap cp e j2 j3 j4 j10 j11 j12 j13 j14 j15 j16 j17 j18 j19 j20 j21 j25 j26 j27 j28 j29 j30 j31 j32 j33 j35 j36 j37 j40 j41 j42 j43 j44 j45 j46 j47 j48 j49 j50 j51 j52 j53 j54 j55 j56 j57 j58 j59 j60 j61 j62 j63 j64 j65 j66 j67 j68 j69 j70 j71 w hF fun j2 j3 j4 j8 j9 j10 j11 j12 j13 j14 j15 j16 j17 j18 j19 j20 j21 j25 j26 j27 j28 j29 j30 j31 j32 j33 j34 j35 j36 j37 j38 j39 j40 j41 j42 j43 j44 j45 j46 j47 j48 j49 j50 j51 j52 j53 j54 j55 j56 j57 j58 j59 j60 j61 j62 j63 j64 j65 j66 j67 j68 j69 j70 j71 w₂ hF₂ => ?_) j2 j3 j4 j8 j9 j10 j11 j12 j13 j14 j15 j16 j17 j18 j19 j20 j21 j25 j26 j27 j28 j29 j30 j31 j32 j33 j34 j35 j36 j37 j38 j39 j40 j41 j42 j43 j44 j45 j46 j47 j48 j49 j50 j51 j52 j53 j54 j55 j56 j57 j58 j59 j60 j61 j62 j63 j64 j65 j66 j67 j68 j69 j70 j71 w hF
    have hi : i + 1 = I.ps.length := by omega
    exact hStop (nt + 20) _ _ (went_head I cs nt i (by omega) h64 (fun j2 j3 j4 j8 j9 j10 j11 j12 j13 j14 j15 j16 j17 j18 j19 j20 j21 j25 j26 j27 j28 j29 j30 j31 j32 j33 j34 j35 j36 j37 j38 j39 j40 j41 j42 j43 j44 j45 j46 j47 j48 j49 j50 j51 j52 j53 j54 j55 j56 j57 j58 j59 j60 j61 j62 j63 j64 j65 j66 j67 j68 j69 j70 j71 w hF => by rw [hi] at hF ⊢; exact hN _ _ _ _ _ _ _ _ _ _ _ _ _ _ _ _ _ _ _ _ _ _ _ _ _ _ _ _ _ _ _ _ _ _ _ _ _ _ _ _ _ _ _ _ _ _ _ _ _ _ _ _ _ _ _ _ _ _ _ _ _ _ _ _ w hF) j2 j3 j4 j8 j9 j10 j11 j12 j13 j14 j15 j16 j17 j18 j19 j20 j21 j25 j26 j27 j28 j29 j30 j31 j32 j33 j34 j35 j36 j37 j38 j39 j40 j41 j42 j43 j44 j45 j46 j47 j48 j49 j50 j51 j52 j53 j54 j55 j56 j57 j58 j59 j60 j61 j62 j63 j64 j65 j66 j67 j68 j69 j70 j71 w₂ hF₂)
  | k + 1, i, hk, j2, j3, j4, j8, j9, j10, j11, j12, j13, j14, j15, j16, j17, j18, j19, j20, j21, j25, j26, j27, j28, j29, j30, j31, j32, j33, j34, j35, j36, j37, j38, j39, j40, j41, j42, j43, j44, j45, j46, j47, j48, j49, j50, j51, j52, j53, j54, j55, j56, j57, j58, j59, j60, j61, j62, j63, j64, j65, j66, j67, j68, j69, j70, j71, w, hF => by
    obtain ⟨ap, cp, e, _⟩ := part_numbers (B := B) hI (by omega) (show i < I.ps.length by omega)
    refine head_add I cs hI hB h64 i (by omega) rfl ap (I.part i).length cp e (fun j2 j3 j4 j10 j11 j12 j13 j14 j15 j16 j17 j18 j19 j20 j21 j25 j26 j27 j28 j29 j30 j31 j32 j33 j35 j36 j37 j40 j41 j42 j43 j44 j45 j46 j47 j48 j49 j50 j51 j52 j53 j54 j55 j56 j57 j58 j59 j60 j61 j62 j63 j64 j65 j66 j67 j68 j69 j70 j71 w hF => goA_at I cs i (by omega) ap cp e j2 j3 j4 j10 j11 j12 j13 j14 j15 j16 j17 j18 j19 j20 j21 j25 j26 j27 j28 j29 j30 j31 j32 j33 j35 j36 j37 j40 j41 j42 j43 j44 j45 j46 j47 j48 j49 j50 j51 j52 j53 j54 j55 j56 j57 j58 j59 j60 j61 j62 j63 j64 j65 j66 j67 j68 j69 j70 j71 w hF fun j2 j3 j4 j8 j9 j10 j11 j12 j13 j14 j15 j16 j17 j18 j19 j20 j21 j25 j26 j27 j28 j29 j30 j31 j32 j33 j34 j35 j36 j37 j38 j39 j40 j41 j42 j43 j44 j45 j46 j47 j48 j49 j50 j51 j52 j53 j54 j55 j56 j57 j58 j59 j60 j61 j62 j63 j64 j65 j66 j67 j68 j69 j70 j71 w₂ hF₂ => ?_) j2 j3 j4 j8 j9 j10 j11 j12 j13 j14 j15 j16 j17 j18 j19 j20 j21 j25 j26 j27 j28 j29 j30 j31 j32 j33 j34 j35 j36 j37 j38 j39 j40 j41 j42 j43 j44 j45 j46 j47 j48 j49 j50 j51 j52 j53 j54 j55 j56 j57 j58 j59 j60 j61 j62 j63 j64 j65 j66 j67 j68 j69 j70 j71 w hF
    have e3 : (mcfg I S b B).T - (k + 1) = i + 1 := by show I.ps.length - (k + 1) = i + 1; omega
    show GP (mcfg I S b B) ((mcfg I S b B).T - (k + 1)) (At0Mark (mcfg I S b B) .disable (GP (mcfg I S b B) ((mcfg I S b B).T - (k + 1)) (AtAddM (mcfg I S b B) ((mcfg I S b B).T - (k + 1)) (StartsM (mcfg I S b B) Next k)))) _ w₂
    rw [e3]
    exact ⟨140, went_head I cs 120 i (by omega) h64 (fun j2 j3 j4 j8 j9 j10 j11 j12 j13 j14 j15 j16 j17 j18 j19 j20 j21 j25 j26 j27 j28 j29 j30 j31 j32 j33 j34 j35 j36 j37 j38 j39 j40 j41 j42 j43 j44 j45 j46 j47 j48 j49 j50 j51 j52 j53 j54 j55 j56 j57 j58 j59 j60 j61 j62 j63 j64 j65 j66 j67 j68 j69 j70 j71 w hF => starts_at hI hB h64 hN hStop k (i + 1) (by omega) _ _ _ _ _ _ _ _ _ _ _ _ _ _ _ _ _ _ _ _ _ _ _ _ _ _ _ _ _ _ _ _ _ _ _ _ _ _ _ _ _ _ _ _ _ _ _ _ _ _ _ _ _ _ _ _ _ _ _ _ _ _ _ _ w hF) j2 j3 j4 j8 j9 j10 j11 j12 j13 j14 j15 j16 j17 j18 j19 j20 j21 j25 j26 j27 j28 j29 j30 j31 j32 j33 j34 j35 j36 j37 j38 j39 j40 j41 j42 j43 j44 j45 j46 j47 j48 j49 j50 j51 j52 j53 j54 j55 j56 j57 j58 j59 j60 j61 j62 j63 j64 j65 j66 j67 j68 j69 j70 j71 w₂ hF₂⟩
end
end Go.Proofs.Ytdpagejckahkkaa.Net
