/- Std: the standard library, by both packages; the law FnExactStandardItems. -/
import Derived.Test.YtmfoclokpmbpfaaReadIt
import Derived.Test.YtmfoclokpmbpfaaItems2
import Derived.Test.YtmfoclokpmbpfaaOpenItems
import Derived.Test.YtmfoclokpmbpfaaMarkJ
namespace Go.Proofs.Ytmfoclokpmbpfaa
open Go.ChangeShapes Go.WideShapes Go.ChangeAt Go.RowKit

def stdL : List Item := [⟨⟨#[99, 97, 115, 99, 97, 100, 101]⟩, [3]⟩, ⟨⟨#[99, 104, 97, 115, 101]⟩, [5, 0, 1]⟩, ⟨⟨#[102, 111, 117, 110, 116, 97, 105, 110]⟩, [4]⟩, ⟨⟨#[104, 97, 108, 102, 45, 115, 104, 111, 119, 101, 114]⟩, [5, 3]⟩, ⟨⟨#[104, 105, 103, 104, 45, 108, 111, 119]⟩, [6, 1, 2]⟩, ⟨⟨#[104, 111, 108, 100, 115]⟩, [4, 2, 3]⟩, ⟨⟨#[115, 104, 111, 119, 101, 114]⟩, [5, 1]⟩, ⟨⟨#[115, 110, 97, 107, 101]⟩, [5, 5, 0, 5, 0]⟩, ⟨⟨#[116, 104, 114, 101, 101, 45, 117, 112]⟩, [4, 4, 1]⟩, ⟨⟨#[116, 111, 119, 101, 114]⟩, [5, 3, 1]⟩]
def stdText : ByteArray := ⟨#[99, 97, 115, 99, 97, 100, 101, 32, 51, 10, 99, 104, 97, 115, 101, 32, 53, 48, 49, 10, 102, 111, 117, 110, 116, 97, 105, 110, 32, 52, 10, 104, 97, 108, 102, 45, 115, 104, 111, 119, 101, 114, 32, 53, 51, 10, 104, 105, 103, 104, 45, 108, 111, 119, 32, 54, 49, 50, 10, 104, 111, 108, 100, 115, 32, 52, 50, 51, 10, 115, 104, 111, 119, 101, 114, 32, 53, 49, 10, 115, 110, 97, 107, 101, 32, 53, 53, 48, 53, 48, 10, 116, 104, 114, 101, 101, 45, 117, 112, 32, 52, 52, 49, 10, 116, 111, 119, 101, 114, 32, 53, 51, 49, 10]⟩
theorem std_of {t : ByteArray} (h : t = stdText) : readL (chars t) = stdL := by subst h; kernel_rfl
def stdWorld : List Item → World → World
  | [], w => w
  | x :: r, w => stdWorld r (w.alloc (.cells (x.pattern.map (Value.int .i64)).toArray 2))
def stdPs : List Item → Nat → List (Value × Item)
  | [], _ => []
  | x :: r, h => (.slice (some ⟨h, 0, none⟩) x.pattern.length x.pattern.length, x) :: stdPs r (h + 1)
theorem stdPs_snd : ∀ (l : List Item) (h : Nat), (stdPs l h).map (·.2) = l
  | [], _ => rfl
  | _ :: r, h => by simp [stdPs, stdPs_snd r]
theorem stdWorld_size : ∀ (l : List Item) (w : World), (stdWorld l w).heap.size = w.heap.size + l.length
  | [], _ => rfl
  | _ :: r, _ => by simp [stdWorld, stdWorld_size r]; omega
theorem stdWorld_keep {base : Nat} {e : TypeId} {size : Nat} {v : Value} {n : Nat} {xs : List Value} : ∀ (l : List Item) (w : World), w.ownsRow base e size v n xs → (stdWorld l w).ownsRow base e size v n xs
  | [], _, h => h
  | _ :: r, _, h => stdWorld_keep r _ (h.alloc _)
theorem stdWorld_below : ∀ (l : List Item) (w W : World), Below W.heap.size W w → Below W.heap.size W (stdWorld l w)
  | [], _, _, h => h
  | _ :: r, _, W, h => stdWorld_below r _ W (h.alloc h.size _)
theorem stdPs_own : ∀ (l : List Item) (w : World) (base : Nat), base ≤ w.heap.size → (∀ x ∈ l, x.pattern.length ≤ 1000) → ∀ p ∈ stdPs l w.heap.size, OwnInts (stdWorld l w) base p.1 p.2.pattern ∧ ∃ g, w.heap.size ≤ g ∧ g < w.heap.size + l.length ∧ p.1 = .slice (some ⟨g, 0, none⟩) p.2.pattern.length p.2.pattern.length ∧ p.2 ∈ l
  | [], _, _, _, _, p, hp => absurd hp List.not_mem_nil
  | x :: r, w, base, hb, hl, p, hp => by
    rcases List.mem_cons.1 hp with rfl | hp
    · refine ⟨stdWorld_keep r _ ?_, w.heap.size, Nat.le_refl _, by simp, rfl, List.mem_cons_self ..⟩
      have h := World.ownsRow_lit (base := base) (size := 1) (e := 2) w (x.pattern.map (Value.int .i64)).toArray x.pattern.length hb (by have := hl x (List.mem_cons_self ..); unfold maxLen; omega) (by simp)
      simpa using h
    · have hsz : (w.alloc (.cells (x.pattern.map (Value.int .i64)).toArray 2)).heap.size = w.heap.size + 1 := by simp
      have h := stdPs_own r (w.alloc (.cells (x.pattern.map (Value.int .i64)).toArray 2)) base (by rw [hsz]; omega) (fun y hy => hl y (List.mem_cons_of_mem _ hy)) p (by rw [hsz]; exact hp)
      rw [hsz] at h
      obtain ⟨h1, g, h2, h3, h4, h5⟩ := h
      exact ⟨h1, g, by omega, by simp; omega, h4, List.mem_cons_of_mem _ h5⟩
theorem stdPs_pw : ∀ (l : List Item) (h : Nat), (stdPs l h).Pairwise (fun p q => ∀ g, p.1.ownBlock = some g → q.1.ownBlock ≠ some g)
  | [], _ => List.Pairwise.nil
  | x :: r, h => by
    refine List.pairwise_cons.2 ⟨?_, stdPs_pw r (h + 1)⟩
    intro q hq g hg
    have key : ∀ (l : List Item) (k : Nat), ∀ q ∈ stdPs l k, ∃ g, k ≤ g ∧ q.1.ownBlock = some g := by
      intro l
      induction l with
      | nil => intro k q hq; exact absurd hq List.not_mem_nil
      | cons y l ih =>
        intro k q hq
        rcases List.mem_cons.1 hq with rfl | hq
        · exact ⟨k, Nat.le_refl _, rfl⟩
        · obtain ⟨g, h1, h2⟩ := ih (k + 1) q hq; exact ⟨g, by omega, h2⟩
    obtain ⟨g', h1, h2⟩ := key r (h + 1) q hq
    rw [h2]
    intro e
    injection e with e
    simp [Value.ownBlock] at hg
    omega
def stdCells (l : List Item) (h : Nat) : Array Value := ((stdPs l h).flatMap fun p => itemS.enc p.1 p.2).toArray
theorem std_own (l : List Item) (w : World) (hl : l.length ≤ 1000) (hp : ∀ x ∈ l, x.pattern.length ≤ 1000 ∧ x.name.size ≤ 9223372036854775807) :
    OwnItems ((stdWorld l w).alloc (.cells (stdCells l w.heap.size) 40)) w.heap.size (.slice (some ⟨w.heap.size + l.length, 0, none⟩) l.length l.length) l := by
  have hsz := stdWorld_size l w
  have hln : (stdPs l w.heap.size).length = l.length := by have := congrArg List.length (stdPs_snd l w.heap.size); simpa using this
  refine ⟨stdPs l w.heap.size, stdPs_snd l _, ?_, ?_, stdPs_pw l _⟩
  · have h := World.ownsRow_lit (base := w.heap.size) (size := 2) (e := 40) (stdWorld l w) (stdCells l w.heap.size) l.length (by omega) (by unfold maxLen; omega) (by unfold stdCells; rw [List.size_toArray, flat_len (fun p : Value × Item => itemS.enc p.1 p.2) 2 (fun _ => rfl), hln])
    rw [hsz] at h
    exact h
  · intro p hpp
    obtain ⟨h1, g, h2, h3, h4, h5⟩ := stdPs_own l w w.heap.size (Nat.le_refl _) (fun x hx => (hp x hx).1) p hpp
    refine ⟨⟨_, _, _, h4⟩, h1.alloc _, (hp _ h5).2, fun g' hg' => ?_⟩
    rw [h4] at hg'
    simp [Value.ownBlock] at hg' ⊢
    omega
set_option maxHeartbeats 2000000 in
theorem sStandardItems_c (w : World) : Calls Try.prog 15 #[] w (GivesItems stdL w) := by
  have HO := Lib.hid (std_own stdL w (by decide) (by decide))
  have HB := Lib.hid (stdWorld_below stdL w w (Below.refl _ _))
  have HZ := Lib.hid (stdWorld_size stdL w)
  go_enter Try.func15, Try.ntmps15
  go_wp2
  go_ret
  exact ⟨_, _, _, rfl, HO.out, HB.out.alloc HB.out.size _⟩
set_option maxHeartbeats 2000000 in
theorem iStandardItems_c (w : World) : Calls Try.prog 16 #[] w (GivesItems stdL w) := by
  go_enter Try.func16, Try.ntmps16
  go_wp2_with fail
  refine (iReadItems_c stdText w (by decide)).mono ?_
  rintro e w1 ⟨a1, n1, c1, rfl, o1, hb1⟩
  rw [std_of rfl] at o1
  have O1 := Lib.hid o1
  clear o1
  go_wp2
  go_ret
  exact ⟨_, _, _, rfl, O1.out, hb1⟩
set_option maxHeartbeats 2000000 in
set_option linter.unusedVariables false in
theorem fnExactStandardItems_walk  (w : World)  :
    Calls Try.prog 5 #[] w (Gives (.bool true) w) := by
  go_enter Try.func5, Try.ntmps5
  go_wp2_with fail
  refine (sStandardItems_c w).mono ?_
  rintro e W1 ⟨aw, nw, cw, rfl, ow, b1⟩
  have hb1 := b1
  have sz1 := b1.size
  clear b1
  generalize Value.slice aw nw cw = vw at *
  have SW := Lib.hid ow.at; clear ow
  have hs1 : Below W1.heap.size W1 W1 := Below.refl _ _
  go_wp2_with fail
  refine (iStandardItems_c W1).mono ?_
  rintro e W2 ⟨ag1, ng1, cg1, rfl, og1, b2⟩
  have hb2 := bthen hb1 b2
  have sz2 := b2.size
  have hs2 := bthen hs1 b2
  clear b2
  generalize Value.slice ag1 ng1 cg1 = vg1 at *
  have Mg1 : Hid (InItems W2 W1.heap.size W2.heap.size vg1 (stdL)) := Lib.hid (InItems.of og1); clear og1
  go_wp2_with fail
  refine (eqItemS_c vg1 vw stdL stdL W2 Mg1.out.at (SW.out.below hs2)).mono ?_
  rw [(same2_iff eqItemB eqItemB_iff (stdL) (stdL)).2 rfl]
  rintro e W3 ⟨rfl, b3⟩
  have hb3 := bthen hb2 b3
  have sz3 := b3.size
  have hs3 := bthen hs2 b3
  replace Mg1 := Lib.hid (Mg1.out.below b3)
  clear b3
  go_wp2_with fail
  refine (markItemS_c vg1 _ 1 _ _ _ Mg1.out (by exact (show stdL.length ≤ 1048576 by decide)) (by decide) (by omega) (by omega) (by omega)).mono ?_
  rintro e W4 ⟨mq, rfl, hemq, hxmq, i4, t4⟩
  have hymq : 1 ≤ mq := by rw [hemq]; omega
  have HEmq := Lib.hid hemq; clear hemq
  have sz4 := t4.size
  have hb4 := mark_then hb3 t4 (by exact hb1.size) hb3.size
  have hs4 := mark_then hs3 t4 (by omega) hs3.size
  have Mg1' := Lib.hid i4; clear Mg1 i4 t4
  have Mg1 := Mg1'; clear Mg1'
  have HH := Lib.hid (fun (W : World) h => heldItemS_c vg1 (stdL) W h (by exact (show stdL.length ≤ 1048576 by decide)) (by decide) mq HEmq.out)
  go_wp2_with fail
  refine (HH.out W4 Mg1.out.at).mono ?_
  rintro e W5 ⟨rfl, b5⟩
  have hb5 := bthen hb4 b5
  have sz5 := b5.size
  have hs5 := bthen hs4 b5
  replace Mg1 := Lib.hid (Mg1.out.below b5)
  clear b5
  go_wp2_with fail
  refine (iStandardItems_c W5).mono ?_
  rintro e W6 ⟨ag2, ng2, cg2, rfl, og2, b6⟩
  have hb6 := bthen hb5 b6
  have sz6 := b6.size
  have hs6 := bthen hs5 b6
  replace Mg1 := Lib.hid (Mg1.out.below b6)
  clear b6
  generalize Value.slice ag2 ng2 cg2 = vg2 at *
  have Mg2 : Hid (InItems W6 W5.heap.size W6.heap.size vg2 (stdL)) := Lib.hid (InItems.of og2); clear og2
  go_wp2_with fail
  refine (eqItemS_c vg2 vw stdL stdL W6 Mg2.out.at (SW.out.below hs6)).mono ?_
  rw [(same2_iff eqItemB eqItemB_iff (stdL) (stdL)).2 rfl]
  rintro e W7 ⟨rfl, b7⟩
  have hb7 := bthen hb6 b7
  have sz7 := b7.size
  have hs7 := bthen hs6 b7
  replace Mg1 := Lib.hid (Mg1.out.below b7)
  replace Mg2 := Lib.hid (Mg2.out.below b7)
  clear b7
  go_wp2_with fail
  refine (HH.out W7 Mg1.out.at).mono ?_
  rintro e W8 ⟨rfl, b8⟩
  have hb8 := bthen hb7 b8
  have sz8 := b8.size
  have hs8 := bthen hs7 b8
  replace Mg1 := Lib.hid (Mg1.out.below b8)
  replace Mg2 := Lib.hid (Mg2.out.below b8)
  clear b8
  go_wp2
  go_ret
  exact Gives.bool rfl hb8
set_option maxRecDepth 100000 in
set_option linter.unusedVariables false in
theorem fnExactStandardItems_lifted (os : Os) (started : os.Started) (H : Type) (enc : TypeId × Value → H) :
    ReturnsInHanded {} Try.checked os 5 .any (Rows.fnExactStandardItemsSpec.pre6 enc Try.prog Try.f5 Rows.fnExactStandardItemsRow.domain false) (Rows.fnExactStandardItemsSpec.post enc Try.prog Try.f5 false true false false) := by
  refine returnsInHanded_of_change (C := Try.checked) own started (by kernel_rfl) Try.func5
    (ChangeSpec.witness6 (enc := enc) (C := Try.checked) false ⟨#[], #[], []⟩ 8 (by kernel_rfl) (by kernel_rfl) (by kernel_rfl) (by kernel_rfl)) ?_
  intro W base args ds gs before hval0 hW hcnd _
  have hval : ∀ (j : Nat) t v, Try.f5.params[j]? = some t → args[j]? = some v → Value.okWide Try.prog W .any base t v := hval0
  have hW' := hW
  obtain ⟨p, q, hA0, hV, rfl, hfz, hnd⟩ := hW
  have hA : DataW.TrodAll enc Try.prog W 0 (fun _ => true) true Try.f5.params.toList args.toList ds p := hA0
  rw [Try.params5] at hA hval
  obtain ⟨hargs, rfl, rfl⟩ := trodAll_nil hA
  obtain rfl : args = #[] := by cases args; simp_all
  obtain ⟨rfl, rfl⟩ := trodVars_none hV
  clear hA0 hval0
  refine (fnExactStandardItems_walk W).mono fun e W' ⟨he, bel⟩ => ?_
  subst he
  exact ⟨_, rfl, _, _, _, [], _, [], hW', trodAll_mk1 (shut_bool Try.underlying4 _), trodAll_mk0, rfl, bel.frame _, fun h => by cases h⟩
theorem fnExactStandardItems_over : Rows.fnExactStandardItemsRow.holds Try.pinned (OpenSpec.ofChange Rows.fnExactStandardItemsSpec) :=
  OpenClaim.holds_of_wide 5 Try.f5 rfl rfl rfl rfl rfl rfl rfl ⟨rfl, rfl, rfl, rfl, rfl⟩ rfl rfl rfl rfl rfl (by kernel_rfl) Try.func5 (by kernel_rfl)
    (of_decide_eq_true (by kernel_rfl)) (by unfold Func.isWrapper; first | (rw [if_pos (by decide +kernel)]; kernel_rfl) | (rw [if_neg (by decide +kernel)]; exact ⟨rfl, rfl⟩))
    (fun os started H enc _ => fnExactStandardItems_lifted os started H enc)
theorem fnExactStandardItems_holds : Rows.FnExactStandardItemsSaid := fnExactStandardItems_over
#print axioms fnExactStandardItems_holds
end Go.Proofs.Ytmfoclokpmbpfaa
