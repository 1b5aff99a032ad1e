import Derived.Test.YthdejhningghcaaMg1
import Derived.Deep.RegionHeld3
/- OrdersD: a region that draws its order, under a condition on the world that depends on what has come up already: as Derived.OrdersHeld, the condition a function of the listed operations too: so a load may be taken first though a later operation of the region stores into its cell. -/
namespace Go.Proofs.Ythdejhningghcaa
open Go

section
variable {P : Program} {md : Region.Mode} {ops : Array Oper} {Q : Exit → Act → World → Prop} {S : Array Bool → World → Prop}
/-- Whatever order is picked from here on, and S holds behind every operation, of what has come up then. -/
def wpAnyD (P : Program) (md : Region.Mode) (ops : Array Oper) (Q : Exit → Act → World → Prop) (S : Array Bool → World → Prop) : Nat → Array Bool → Act → World → Prop
  | 0, listed, a, w => Region.ready md ops listed = [] ∧ Q .normal a w
  | fuel + 1, listed, a, w =>
    (Region.ready md ops listed = [] → Q .normal a w) ∧
    ∀ i ∈ Region.ready md ops listed, wpOp P ops Q i (fun a' w' => S (listed.setIfInBounds i true) w' ∧ wpAnyD P md ops Q S fuel (listed.setIfInBounds i true) a' w') a w
theorem wpAny_of_dep : ∀ (fuel : Nat) (listed : Array Bool) (a : Act) (w : World), wpAnyD P md ops Q S fuel listed a w → wpAny P md ops Q fuel listed a w
  | 0, _, _, _, h => h
  | fuel + 1, _, _, _, h => ⟨h.1, fun i hi => wpOp_mono (fun a' w' h' => wpAny_of_dep fuel _ a' w' h'.2) (h.2 i hi)⟩
/-- The operations js wait for operation i. -/
def laterB (md : Region.Mode) (ops : Array Oper) (i : Nat) (js : List Nat) : Bool := js.all fun j => match ops[j]? with
  | some oj => oj.after.any fun e => Region.binds md e && e.on == i
  | none => false
/-- None of them has come up. -/
def openB (listed : Array Bool) (js : List Nat) : Bool := js.all fun j => listed.getD j true == false
/-- The operation yields v in every world that meets S while none of js has come up. -/
def YieldsD (P : Program) (ops : Array Oper) (S : Array Bool → World → Prop) (js : List Nat) (o : Oper) (v : Value) (a : Act) : Prop := YieldsIf P ops (fun w => ∃ L : Array Bool, openB L js = true ∧ S L w) o v a
theorem later_stays {i j : Nat} {oj : Oper} {js : List Nat} {listed : Array Bool} (hl : laterB md ops i js = true) (ho : openB listed js = true) (hoj : ops[j]? = some oj) (hnot : ∀ e ∈ oj.after, Region.binds md e = true → e.on ≠ i) : openB (listed.setIfInBounds j true) js = true := by
  unfold openB at *
  rw [List.all_eq_true] at *
  intro k hk
  unfold laterB at hl
  rw [List.all_eq_true] at hl
  have h1 := hl k hk
  have hjk : j ≠ k := by
    intro e
    subst e
    rw [hoj] at h1
    simp only [] at h1
    rw [Array.any_eq_true'] at h1
    obtain ⟨e, he, hb⟩ := h1
    simp only [Bool.and_eq_true, beq_iff_eq] at hb
    exact hnot e he hb.1 hb.2
  rw [getD_set_ne true hjk]
  exact ho k hk
theorem wpAnyD_first {i : Nat} {oi : Oper} {v : Value} (hi : ops[i]? = some oi) (hsel : ∀ (j : Nat) (o : Oper) cs b, ops[j]? = some o → o.op ≠ .select cs b)
    (hQ : ∀ c a w, Q (.panic c) (a.put oi.dst v) w → Q (.panic c) a w) (hins : ∀ (L : Array Bool) w, S (L.setIfInBounds i true) w ↔ S L w) {js : List Nat} (hjs : laterB md ops i js = true) :
    ∀ (fuel : Nat) (listed : Array Bool) (a : Act) (w : World), openB listed js = true →
      (∀ j oj, ops[j]? = some oj → j ≠ i → listed.getD j true = false → (∀ e ∈ oj.after, Region.binds md e = true → e.on ≠ i) → oi.apart ops oj = true) →
      i ∈ Region.ready md ops listed → YieldsD P ops S js oi v a → S listed w →
      wpAnyD P md ops Q S fuel (listed.setIfInBounds i true) (a.put oi.dst v) w → wpAnyD P md ops Q S (fuel + 1) listed a w := by
  intro fuel
  induction fuel with
  | zero =>
    intro listed a w hop _ hr hy hS H
    refine ⟨fun h => (by rw [h] at hr; cases hr), fun j hj => ?_⟩
    by_cases hji : j = i
    · subst hji; exact YieldsIf.wpOp hi hy ⟨listed, hop, hS⟩ ⟨(hins _ _).2 hS, H⟩
    · have := ready_mono hj hji
      rw [H.1] at this
      cases this
  | succ fuel ih =>
    intro listed a w hop hfree hr hy hS H
    refine ⟨fun h => (by rw [h] at hr; cases hr), fun j hj => ?_⟩
    by_cases hji : j = i
    · subst hji; exact YieldsIf.wpOp hi hy ⟨listed, hop, hS⟩ ⟨(hins _ _).2 hS, H⟩
    · have h1 := H.2 j (ready_mono hj hji)
      obtain ⟨hjun, oj, hoj, hall⟩ := mem_ready.1 hj
      have hnot : ∀ e ∈ oj.after, Region.binds md e = true → e.on ≠ i := fun e he hb heq => by
        have h1 := hall e he hb
        have h0 := (mem_ready.1 hr).1
        rw [heq] at h1
        rcases Nat.lt_or_ge i listed.size with h' | h'
        · simp [h'] at h0 h1; rw [h0] at h1; cases h1
        · simp [Array.getElem?_eq_none h'] at h1
      have h2 := wpOp_putIf hoj (hfree j oj hoj hji hjun hnot) (fun cs b => hsel i oi cs b hi) (fun cs b => hsel j oj cs b hoj) hQ hy h1
      have hfree' : ∀ k ok, ops[k]? = some ok → k ≠ i → (listed.setIfInBounds j true).getD k true = false →
          (∀ e ∈ ok.after, Region.binds md e = true → e.on ≠ i) → oi.apart ops ok = true := fun k ok hk hki hun hno => by
        refine hfree k ok hk hki ?_ hno
        by_cases hjk : j = k
        · subst hjk; exact hjun
        · rw [getD_set_ne true hjk] at hun; exact hun
      refine wpOp_mono (fun a' w' h3 => ?_) h2
      have h4 := h3.2.1
      rw [Array.setIfInBounds_comm _ _ (Ne.symm hji)] at h4
      have h5 := (hins _ _).1 h4
      refine ⟨h5, ih (listed.setIfInBounds j true) a' w' (later_stays hjs hop hoj hnot) hfree' (ready_mono hr (Ne.symm hji)) h3.1 h5 ?_⟩
      rw [Array.setIfInBounds_comm _ _ hji]
      exact h3.2.2
theorem wpAnyD_take {i : Nat} {oi : Oper} {v : Value} {fuel : Nat} {listed : Array Bool} {a : Act} {w : World} (hi : ops[i]? = some oi)
    (hs : Region.noSelect ops = true) (hf : Region.free md ops listed i = true) (hr : (Region.ready md ops listed).contains i = true)
    (hQ : ∀ c a w, Q (.panic c) (a.put oi.dst v) w → Q (.panic c) a w) (hins : ∀ (L : Array Bool) w, S (L.setIfInBounds i true) w ↔ S L w) (js : List Nat) (hjs : laterB md ops i js = true) (hop : openB listed js = true) (hy : YieldsD P ops S js oi v a) (hS : S listed w)
    (h : S (listed.setIfInBounds i true) w → wpAnyD P md ops Q S fuel (listed.setIfInBounds i true) (a.put oi.dst v) w) : wpAnyD P md ops Q S (fuel + 1) listed a w :=
  wpAnyD_first hi (Region.noSelect_spec hs) hQ hins hjs fuel listed a w hop (Region.free_spec hi hf) (by simpa using hr) hy hS (h ((hins _ _).2 hS))
theorem wpAnyD_done {listed : Array Bool} {a : Act} {w : World} (hr : Region.ready md ops listed = []) (h : Q .normal a w) : ∀ fuel, wpAnyD P md ops Q S fuel listed a w
  | 0 => ⟨hr, h⟩
  | _ + 1 => ⟨fun _ => h, by rw [hr]; simp⟩
def AllReadyD (P : Program) (md : Region.Mode) (ops : Array Oper) (Q : Exit → Act → World → Prop) (S : Array Bool → World → Prop) (fuel : Nat) (listed : Array Bool) (a : Act) (w : World) (rs : List Nat) : Prop :=
  ∀ i ∈ rs, wpOp P ops Q i (fun a' w' => S (listed.setIfInBounds i true) w' ∧ wpAnyD P md ops Q S fuel (listed.setIfInBounds i true) a' w') a w
theorem AllReadyD.nil {fuel : Nat} {listed : Array Bool} {a : Act} {w : World} : AllReadyD P md ops Q S fuel listed a w [] := fun _ h => by cases h
theorem AllReadyD.cons {fuel : Nat} {listed : Array Bool} {a : Act} {w : World} {i : Nat} {o : Oper} {rs : List Nat} (ho : ops[i]? = some o)
    (h : ∀ K' : Act → World → Prop, Shut (∀ a w, S (listed.setIfInBounds i true) w → (S (listed.setIfInBounds i true) w → wpAnyD P md ops Q S fuel (listed.setIfInBounds i true) a w) → K' a w) → if Region.wanted o (yielded ops a.tmps) = true then Oper.wp P o a w K' Q else K' (a.put o.dst undef) w)
    (hs : AllReadyD P md ops Q S fuel listed a w rs) : AllReadyD P md ops Q S fuel listed a w (i :: rs) := fun j hj => by
  rcases List.mem_cons.1 hj with rfl | hj
  · exact wpOp_step ho (fun K' hK => h K' (fun a w hS hW => hK a w ⟨hS, hW hS⟩))
  · exact hs j hj
theorem wpAnyD_ready {rs : List Nat} {fuel : Nat} {listed : Array Bool} {a : Act} {w : World} (hr : Region.ready md ops listed = rs) (hne : rs ≠ [])
    (h : AllReadyD P md ops Q S fuel listed a w rs) : wpAnyD P md ops Q S (fuel + 1) listed a w := ⟨fun h0 => absurd (hr ▸ h0) hne, hr ▸ h⟩
theorem wp_region_dep {id : Nat} {a : Act} {w : World} (hm : P.follows .mixedOrders = true) (hS : S (Array.replicate ops.size false) w.drew)
    (h : S (Array.replicate ops.size false) w.drew → wpAnyD P .any ops Q S ops.size (Array.replicate ops.size false) a w.drew) : (Code.region id ops true).wp P Q a w :=
  wp_region_any hm (wpAny_of_dep _ _ _ _ (h hS))
/-- What S says while operation j has not come up. -/
def Till (j : Nat) (p : World → Prop) (L : Array Bool) (w : World) : Prop := L.getD j true = false → p w
theorem Till.of {j : Nat} {js : List Nat} {p : World → Prop} {L : Array Bool} {w : World} (h : Till j p L w) (ho : openB L js = true) (hj : js.contains j = true) : p w := by
  refine h ?_
  unfold openB at ho
  rw [List.all_eq_true] at ho
  simpa using ho j (by simpa using hj)
theorem Till.ins {i j : Nat} (hij : i ≠ j) (p : World → Prop) (L : Array Bool) (w : World) : Till j p (L.setIfInBounds i true) w ↔ Till j p L w := by
  unfold Till; rw [getD_set_ne true hij]
end
end Go.Proofs.Ythdejhningghcaa
