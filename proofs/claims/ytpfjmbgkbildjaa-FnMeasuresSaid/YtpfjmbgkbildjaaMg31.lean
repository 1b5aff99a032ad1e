import Derived.Test.YtpfjmbgkbildjaaMg30
import Derived.Test.YtpfjmbgkbildjaaMg1
import Derived.Deep.RegionHeld3
/- DrawL: lists of throws, drawn from bytes. -/
namespace Go.Proofs.Ytpfjmbgkbildjaa
open Go.ChangeShapes Go.WideShapes Go.ChangeAt Go.RowKit

/-- A list, drawn from bytes. -/
def DrawnI (w : World) (e : Ending) (w' : World) : Prop := ∃ (a : Option Addr) (m c : Nat) (l : List Int), e = .returned (.slice a m c) ∧ l.length ≤ 13 ∧ OwnInts w' w.heap.size (.slice a m c) l ∧ Below w.heap.size w w'
set_option maxRecDepth 100000 in
theorem drawDifficultyOf_c (v : Value) (cs : List Int) (w : World) (hv : BytesAt w v cs) (hin : ∀ x ∈ cs, 0 ≤ x ∧ x ≤ 255) (hl : cs.length ≤ 4096) : Calls Try.prog 6 #[v] w (DrawnI w) := by
  have HV := Lib.hid hv
  have Hin := Lib.hid hin
  have Hcl := Lib.hid hl
  clear hv hin hl
  go_enter Try.func6, Try.ntmps6
  go_wp2_with fail
  refine (l00From_c v cs w HV.out Hin.out Hcl.out).mono ?_
  rintro e w1 ⟨rfl, hsrc, hb1⟩
  have hs1 := hb1.size
  go_wp2_with fail
  refine (l02Bent_c _ 0 w1 hsrc (by omega)).mono ?_
  rintro e w2 ⟨a, m, c, l, rfl, hl, ho, hd⟩
  have H1 := Lib.hid (show l.length ≤ 13 from hl)
  have H2 := Lib.hid (own_mono ho hs1)
  have H3 := Lib.hid (hb1.trans (hd.below hs1))
  clear hl ho hd hsrc hb1
  go_wp2
  go_ret
  exact ⟨a, m, c, l, rfl, H1.out, H2.out, H3.out⟩
set_option maxRecDepth 100000 in
theorem drawEasiestSwap_c (v : Value) (cs : List Int) (w : World) (hv : BytesAt w v cs) (hin : ∀ x ∈ cs, 0 ≤ x ∧ x ≤ 255) (hl : cs.length ≤ 4096) : Calls Try.prog 32 #[v] w (DrawnI w) := by
  have HV := Lib.hid hv
  have Hin := Lib.hid hin
  have Hcl := Lib.hid hl
  clear hv hin hl
  go_enter Try.func32, Try.ntmps32
  go_wp2_with fail
  refine (l00From_c v cs w HV.out Hin.out Hcl.out).mono ?_
  rintro e w1 ⟨rfl, hsrc, hb1⟩
  have hs1 := hb1.size
  go_wp2_with fail
  refine (l02Bent_c _ 0 w1 hsrc (by omega)).mono ?_
  rintro e w2 ⟨a, m, c, l, rfl, hl, ho, hd⟩
  have H1 := Lib.hid (show l.length ≤ 13 from hl)
  have H2 := Lib.hid (own_mono ho hs1)
  have H3 := Lib.hid (hb1.trans (hd.below hs1))
  clear hl ho hd hsrc hb1
  go_wp2
  go_ret
  exact ⟨a, m, c, l, rfl, H1.out, H2.out, H3.out⟩
set_option maxRecDepth 100000 in
set_option maxHeartbeats 1000000 in
theorem drawGradeOf_c (v : Value) (cs : List Int) (w : World) (hv : BytesAt w v cs) (hin : ∀ x ∈ cs, 0 ≤ x ∧ x ≤ 255) (hl : cs.length ≤ 4096) : Calls Try.prog 21 #[v] w (DrawnI w) := by
  have HV := Lib.hid hv
  have Hin := Lib.hid hin
  have Hcl := Lib.hid hl
  clear hv hin hl
  go_enter Try.func21, Try.ntmps21
  go_wp2_with fail
  refine (l00From_c v cs w HV.out Hin.out Hcl.out).mono ?_
  rintro e w1 ⟨rfl, hsrc, hb1⟩
  have hs1 := hb1.size
  have hbl := hsrc.lt
  have HB1 := Lib.hid hb1
  have HS := Lib.hid hsrc
  clear hsrc hb1
  generalize hB : w.heap.size = b at *
  go_wp2_with fail
  refine (one_c b 0 4 w1 HS.out (by omega) (by omega)).mono ?_
  rintro e w2 ⟨d, rfl, hd⟩
  have HD := Lib.hid hd
  clear hd HS
  cases d
  · go_wp2_with fail
    refine (l02Bent_c b _ w2 HD.out.1 (by omega)).mono ?_
    rintro e w3 ⟨a, m, c, l, rfl, hl, ho, hd⟩
    have hs2 := HD.out.2.size
    have H1 := Lib.hid (show l.length ≤ 13 from hl)
    have H2 : Hid (OwnInts w3 w.heap.size (.slice a m c) l) := Lib.hid (own_mono ho (by omega))
    have H3 : Hid (Below w.heap.size w w3) := Lib.hid (by rw [hB]; exact HB1.out.trans ((HD.out.trans hd).below hs1))
    clear hl ho hd HD
    go_wp2
    go_ret
    exact ⟨a, m, c, l, rfl, H1.out, H2.out, H3.out⟩
  · go_wp2_with fail
    refine (pick_c b _ 3 _ HD.out.1 (by omega) (by omega)).mono ?_
    rintro e w3 ⟨t, rfl, ht, hd⟩
    have ht2 : t ≤ 2 := by omega
    replace HD := Lib.hid (HD.out.trans hd)
    have hs3 := HD.out.2.size
    have hb3 : b < w3.heap.size := by omega
    clear hd ht
    go_wp2
    go_loopw [5, 6] (fun o i wr => ∃ (k : Nat) (a' : Option Addr) (c' : Nat) (l' : List Int), i = .int .i64 k ∧ o = .slice a' k c' ∧ k ≤ 1 + t ∧ Hid (OwnInts wr w3.heap.size (.slice a' k c') l') ∧ Hid (Drew b (100 + 2 * k) w3 wr)) (fun _ i _ => 20 - (intOf i).toNat)
    case atStart => exact ⟨0, _, _, [], rfl, rfl, Nat.zero_le _, Lib.hid (own_empty w3), Lib.hid ((Drew.of_below HD.out.1 (by go_grown)).mono (by omega))⟩
    case round =>
      obtain ⟨k, a', c', l', rfl, rfl, hk, HO, HDk⟩ := hrel
      have Hln : Hid (k = l'.length) := Lib.hid (ownHead HO.out).1
      by_cases hlt : k < 1 + t
      · have hlt2 : (k : Int) < 1 + (t : Int) := by omega
        go_wp2_with fail
        refine (pick_c b _ 13 _ HDk.out.1 (by omega) (by omega)).mono ?_
        rintro e w4 ⟨u, rfl, hu, hd⟩
        have hu2 : u ≤ 12 := by omega
        replace HO := Lib.hid (own_drew HO.out hd hb3)
        replace HDk := Lib.hid (HDk.out.trans hd)
        have hs6 := HDk.out.2.size
        clear hd hu
        go_wp2_with (at_builtin; refine wpList_app_ints rfl _ _ rfl w3.heap.size _ _ rfl (HO.out.alloc _) _ _ _ [3 + (u : Int)] rfl rfl (ints_new _ _ _) (by have := Hln.out; simp only [List.length_cons, List.length_nil]; omega) (by simp; omega) ?_)
        intro a7 n7 c7 w7 ho7 hg7 _ hn7; clear hn7
        have hb7 : Below w3.heap.size w4 w7 := ((Below.refl _ _).alloc (by omega) _).grown hg7 (by simp; omega) (fun g hg => (World.ownsRow.lt HO.out g hg).1)
        have HD7 := Lib.hid (HDk.out.thenK hb7 hb3)
        have hn7 := (ownHead ho7).1
        rw [List.length_append, ← Hln.out] at hn7
        simp only [List.length_cons, List.length_nil, Nat.zero_add] at hn7
        subst hn7
        have HO7 := Lib.hid ho7
        clear ho7 hg7 HO HDk hb7
        go_wp2
        exact ⟨⟨k + 1, a7, c7, _, by go_num, rfl, by omega, HO7, Lib.hid (HD7.out.mono (by omega))⟩, by simp [intOf]; omega⟩
      · have hlt2 : ¬ (k : Int) < 1 + (t : Int) := by omega
        have H2 : Hid (OwnInts wr w.heap.size (.slice a' k c') l') := Lib.hid (own_mono HO.out (by omega))
        have H3 : Hid (Below w.heap.size w wr) := Lib.hid (by rw [hB]; exact HB1.out.trans ((HD.out.trans HDk.out).below hs1))
        clear HO HDk
        go_wp2
        go_ret
        exact ⟨a', k, c', l', rfl, by rw [← Hln.out]; omega, H2.out, H3.out⟩
end Go.Proofs.Ytpfjmbgkbildjaa

/- OrdersD: a region that draws its order, under a condition on the world that depends on what has come up already: as Derived.OrdersHeld, the condition a function of the listed operations too: so a load may be taken first though a later operation of the region stores into its cell. -/
namespace Go.Proofs.Ytpfjmbgkbildjaa
open Go

section
variable {P : Program} {md : Region.Mode} {ops : Array Oper} {Q : Exit → Act → World → Prop} {S : Array Bool → World → Prop}
/-- Whatever order is picked from here on, and S holds behind every operation, of what has come up then. -/
def wpAnyD (P : Program) (md : Region.Mode) (ops : Array Oper) (Q : Exit → Act → World → Prop) (S : Array Bool → World → Prop) : Nat → Array Bool → Act → World → Prop
  | 0, listed, a, w => Region.ready md ops listed = [] ∧ Q .normal a w
  | fuel + 1, listed, a, w =>
    (Region.ready md ops listed = [] → Q .normal a w) ∧
    ∀ i ∈ Region.ready md ops listed, wpOp P ops Q i (fun a' w' => S (listed.setIfInBounds i true) w' ∧ wpAnyD P md ops Q S fuel (listed.setIfInBounds i true) a' w') a w
theorem wpAny_of_dep : ∀ (fuel : Nat) (listed : Array Bool) (a : Act) (w : World), wpAnyD P md ops Q S fuel listed a w → wpAny P md ops Q fuel listed a w
  | 0, _, _, _, h => h
  | fuel + 1, _, _, _, h => ⟨h.1, fun i hi => wpOp_mono (fun a' w' h' => wpAny_of_dep fuel _ a' w' h'.2) (h.2 i hi)⟩
/-- The operations js wait for operation i. -/
def laterB (md : Region.Mode) (ops : Array Oper) (i : Nat) (js : List Nat) : Bool := js.all fun j => match ops[j]? with
  | some oj => oj.after.any fun e => Region.binds md e && e.on == i
  | none => false
/-- None of them has come up. -/
def openB (listed : Array Bool) (js : List Nat) : Bool := js.all fun j => listed.getD j true == false
/-- The operation yields v in every world that meets S while none of js has come up. -/
def YieldsD (P : Program) (ops : Array Oper) (S : Array Bool → World → Prop) (js : List Nat) (o : Oper) (v : Value) (a : Act) : Prop := YieldsIf P ops (fun w => ∃ L : Array Bool, openB L js = true ∧ S L w) o v a
theorem later_stays {i j : Nat} {oj : Oper} {js : List Nat} {listed : Array Bool} (hl : laterB md ops i js = true) (ho : openB listed js = true) (hoj : ops[j]? = some oj) (hnot : ∀ e ∈ oj.after, Region.binds md e = true → e.on ≠ i) : openB (listed.setIfInBounds j true) js = true := by
  unfold openB at *
  rw [List.all_eq_true] at *
  intro k hk
  unfold laterB at hl
  rw [List.all_eq_true] at hl
  have h1 := hl k hk
  have hjk : j ≠ k := by
    intro e
    subst e
    rw [hoj] at h1
    simp only [] at h1
    rw [Array.any_eq_true'] at h1
    obtain ⟨e, he, hb⟩ := h1
    simp only [Bool.and_eq_true, beq_iff_eq] at hb
    exact hnot e he hb.1 hb.2
  rw [getD_set_ne true hjk]
  exact ho k hk
theorem wpAnyD_first {i : Nat} {oi : Oper} {v : Value} (hi : ops[i]? = some oi) (hsel : ∀ (j : Nat) (o : Oper) cs b, ops[j]? = some o → o.op ≠ .select cs b)
    (hQ : ∀ c a w, Q (.panic c) (a.put oi.dst v) w → Q (.panic c) a w) (hins : ∀ (L : Array Bool) w, S (L.setIfInBounds i true) w ↔ S L w) {js : List Nat} (hjs : laterB md ops i js = true) :
    ∀ (fuel : Nat) (listed : Array Bool) (a : Act) (w : World), openB listed js = true →
      (∀ j oj, ops[j]? = some oj → j ≠ i → listed.getD j true = false → (∀ e ∈ oj.after, Region.binds md e = true → e.on ≠ i) → oi.apart ops oj = true) →
      i ∈ Region.ready md ops listed → YieldsD P ops S js oi v a → S listed w →
      wpAnyD P md ops Q S fuel (listed.setIfInBounds i true) (a.put oi.dst v) w → wpAnyD P md ops Q S (fuel + 1) listed a w := by
  intro fuel
  induction fuel with
  | zero =>
    intro listed a w hop _ hr hy hS H
    refine ⟨fun h => (by rw [h] at hr; cases hr), fun j hj => ?_⟩
    by_cases hji : j = i
    · subst hji; exact YieldsIf.wpOp hi hy ⟨listed, hop, hS⟩ ⟨(hins _ _).2 hS, H⟩
    · have := ready_mono hj hji
      rw [H.1] at this
      cases this
  | succ fuel ih =>
    intro listed a w hop hfree hr hy hS H
    refine ⟨fun h => (by rw [h] at hr; cases hr), fun j hj => ?_⟩
    by_cases hji : j = i
    · subst hji; exact YieldsIf.wpOp hi hy ⟨listed, hop, hS⟩ ⟨(hins _ _).2 hS, H⟩
    · have h1 := H.2 j (ready_mono hj hji)
      obtain ⟨hjun, oj, hoj, hall⟩ := mem_ready.1 hj
      have hnot : ∀ e ∈ oj.after, Region.binds md e = true → e.on ≠ i := fun e he hb heq => by
        have h1 := hall e he hb
        have h0 := (mem_ready.1 hr).1
        rw [heq] at h1
        rcases Nat.lt_or_ge i listed.size with h' | h'
        · simp [h'] at h0 h1; rw [h0] at h1; cases h1
        · simp [Array.getElem?_eq_none h'] at h1
      have h2 := wpOp_putIf hoj (hfree j oj hoj hji hjun hnot) (fun cs b => hsel i oi cs b hi) (fun cs b => hsel j oj cs b hoj) hQ hy h1
      have hfree' : ∀ k ok, ops[k]? = some ok → k ≠ i → (listed.setIfInBounds j true).getD k true = false →
          (∀ e ∈ ok.after, Region.binds md e = true → e.on ≠ i) → oi.apart ops ok = true := fun k ok hk hki hun hno => by
        refine hfree k ok hk hki ?_ hno
        by_cases hjk : j = k
        · subst hjk; exact hjun
        · rw [getD_set_ne true hjk] at hun; exact hun
      refine wpOp_mono (fun a' w' h3 => ?_) h2
      have h4 := h3.2.1
      rw [Array.setIfInBounds_comm _ _ (Ne.symm hji)] at h4
      have h5 := (hins _ _).1 h4
      refine ⟨h5, ih (listed.setIfInBounds j true) a' w' (later_stays hjs hop hoj hnot) hfree' (ready_mono hr (Ne.symm hji)) h3.1 h5 ?_⟩
      rw [Array.setIfInBounds_comm _ _ hji]
      exact h3.2.2
theorem wpAnyD_take {i : Nat} {oi : Oper} {v : Value} {fuel : Nat} {listed : Array Bool} {a : Act} {w : World} (hi : ops[i]? = some oi)
    (hs : Region.noSelect ops = true) (hf : Region.free md ops listed i = true) (hr : (Region.ready md ops listed).contains i = true)
    (hQ : ∀ c a w, Q (.panic c) (a.put oi.dst v) w → Q (.panic c) a w) (hins : ∀ (L : Array Bool) w, S (L.setIfInBounds i true) w ↔ S L w) (js : List Nat) (hjs : laterB md ops i js = true) (hop : openB listed js = true) (hy : YieldsD P ops S js oi v a) (hS : S listed w)
    (h : S (listed.setIfInBounds i true) w → wpAnyD P md ops Q S fuel (listed.setIfInBounds i true) (a.put oi.dst v) w) : wpAnyD P md ops Q S (fuel + 1) listed a w :=
  wpAnyD_first hi (Region.noSelect_spec hs) hQ hins hjs fuel listed a w hop (Region.free_spec hi hf) (by simpa using hr) hy hS (h ((hins _ _).2 hS))
theorem wpAnyD_done {listed : Array Bool} {a : Act} {w : World} (hr : Region.ready md ops listed = []) (h : Q .normal a w) : ∀ fuel, wpAnyD P md ops Q S fuel listed a w
  | 0 => ⟨hr, h⟩
  | _ + 1 => ⟨fun _ => h, by rw [hr]; simp⟩
def AllReadyD (P : Program) (md : Region.Mode) (ops : Array Oper) (Q : Exit → Act → World → Prop) (S : Array Bool → World → Prop) (fuel : Nat) (listed : Array Bool) (a : Act) (w : World) (rs : List Nat) : Prop :=
  ∀ i ∈ rs, wpOp P ops Q i (fun a' w' => S (listed.setIfInBounds i true) w' ∧ wpAnyD P md ops Q S fuel (listed.setIfInBounds i true) a' w') a w
theorem AllReadyD.nil {fuel : Nat} {listed : Array Bool} {a : Act} {w : World} : AllReadyD P md ops Q S fuel listed a w [] := fun _ h => by cases h
theorem AllReadyD.cons {fuel : Nat} {listed : Array Bool} {a : Act} {w : World} {i : Nat} {o : Oper} {rs : List Nat} (ho : ops[i]? = some o)
    (h : ∀ K' : Act → World → Prop, Shut (∀ a w, S (listed.setIfInBounds i true) w → (S (listed.setIfInBounds i true) w → wpAnyD P md ops Q S fuel (listed.setIfInBounds i true) a w) → K' a w) → if Region.wanted o (yielded ops a.tmps) = true then Oper.wp P o a w K' Q else K' (a.put o.dst undef) w)
    (hs : AllReadyD P md ops Q S fuel listed a w rs) : AllReadyD P md ops Q S fuel listed a w (i :: rs) := fun j hj => by
  rcases List.mem_cons.1 hj with rfl | hj
  · exact wpOp_step ho (fun K' hK => h K' (fun a w hS hW => hK a w ⟨hS, hW hS⟩))
  · exact hs j hj
theorem wpAnyD_ready {rs : List Nat} {fuel : Nat} {listed : Array Bool} {a : Act} {w : World} (hr : Region.ready md ops listed = rs) (hne : rs ≠ [])
    (h : AllReadyD P md ops Q S fuel listed a w rs) : wpAnyD P md ops Q S (fuel + 1) listed a w := ⟨fun h0 => absurd (hr ▸ h0) hne, hr ▸ h⟩
theorem wp_region_dep {id : Nat} {a : Act} {w : World} (hm : P.follows .mixedOrders = true) (hS : S (Array.replicate ops.size false) w.drew)
    (h : S (Array.replicate ops.size false) w.drew → wpAnyD P .any ops Q S ops.size (Array.replicate ops.size false) a w.drew) : (Code.region id ops true).wp P Q a w :=
  wp_region_any hm (wpAny_of_dep _ _ _ _ (h hS))
/-- What S says while operation j has not come up. -/
def Till (j : Nat) (p : World → Prop) (L : Array Bool) (w : World) : Prop := L.getD j true = false → p w
theorem Till.of {j : Nat} {js : List Nat} {p : World → Prop} {L : Array Bool} {w : World} (h : Till j p L w) (ho : openB L js = true) (hj : js.contains j = true) : p w := by
  refine h ?_
  unfold openB at ho
  rw [List.all_eq_true] at ho
  simpa using ho j (by simpa using hj)
theorem Till.ins {i j : Nat} (hij : i ≠ j) (p : World → Prop) (L : Array Bool) (w : World) : Till j p (L.setIfInBounds i true) w ↔ Till j p L w := by
  unfold Till; rw [getD_set_ne true hij]
end
end Go.Proofs.Ytpfjmbgkbildjaa
