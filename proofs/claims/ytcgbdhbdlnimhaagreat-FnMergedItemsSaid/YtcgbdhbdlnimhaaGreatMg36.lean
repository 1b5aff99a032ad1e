import Derived.Test.YtcgbdhbdlnimhaaGreatMg35
import Derived.Test.YtcgbdhbdlnimhaaGreatMg4
import Derived.Test.YtcgbdhbdlnimhaaGreatMg6
import Derived.Test.YtcgbdhbdlnimhaaGreatMg17
/- Std: the standard library, by both packages; the law FnExactStandardItems. -/
namespace Go.Proofs.YtcgbdhbdlnimhaaGreat
open Go.ChangeShapes Go.WideShapes Go.ChangeAt Go.RowKit

def stdL : List Item := [⟨⟨#[99, 97, 115, 99, 97, 100, 101]⟩, [3]⟩, ⟨⟨#[99, 104, 97, 115, 101]⟩, [5, 0, 1]⟩, ⟨⟨#[102, 111, 117, 110, 116, 97, 105, 110]⟩, [4]⟩, ⟨⟨#[104, 97, 108, 102, 45, 115, 104, 111, 119, 101, 114]⟩, [5, 3]⟩, ⟨⟨#[104, 105, 103, 104, 45, 108, 111, 119]⟩, [6, 1, 2]⟩, ⟨⟨#[104, 111, 108, 100, 115]⟩, [4, 2, 3]⟩, ⟨⟨#[115, 104, 111, 119, 101, 114]⟩, [5, 1]⟩, ⟨⟨#[115, 110, 97, 107, 101]⟩, [5, 5, 0, 5, 0]⟩, ⟨⟨#[116, 104, 114, 101, 101, 45, 117, 112]⟩, [4, 4, 1]⟩, ⟨⟨#[116, 111, 119, 101, 114]⟩, [5, 3, 1]⟩]
def stdText : ByteArray := ⟨#[99, 97, 115, 99, 97, 100, 101, 32, 51, 10, 99, 104, 97, 115, 101, 32, 53, 48, 49, 10, 102, 111, 117, 110, 116, 97, 105, 110, 32, 52, 10, 104, 97, 108, 102, 45, 115, 104, 111, 119, 101, 114, 32, 53, 51, 10, 104, 105, 103, 104, 45, 108, 111, 119, 32, 54, 49, 50, 10, 104, 111, 108, 100, 115, 32, 52, 50, 51, 10, 115, 104, 111, 119, 101, 114, 32, 53, 49, 10, 115, 110, 97, 107, 101, 32, 53, 53, 48, 53, 48, 10, 116, 104, 114, 101, 101, 45, 117, 112, 32, 52, 52, 49, 10, 116, 111, 119, 101, 114, 32, 53, 51, 49, 10]⟩
theorem std_of {t : ByteArray} (h : t = stdText) : readL (chars t) = stdL := by subst h; kernel_rfl
def stdWorld : List Item → World → World
  | [], w => w
  | x :: r, w => stdWorld r (w.alloc (.cells (x.pattern.map (Value.int .i64)).toArray 2))
def stdPs : List Item → Nat → List (Value × Item)
  | [], _ => []
  | x :: r, h => (.slice (some ⟨h, 0, none⟩) x.pattern.length x.pattern.length, x) :: stdPs r (h + 1)
theorem stdPs_snd : ∀ (l : List Item) (h : Nat), (stdPs l h).map (·.2) = l
  | [], _ => rfl
  | _ :: r, h => by simp [stdPs, stdPs_snd r]
theorem stdWorld_size : ∀ (l : List Item) (w : World), (stdWorld l w).heap.size = w.heap.size + l.length
  | [], _ => rfl
  | _ :: r, _ => by simp [stdWorld, stdWorld_size r]; omega
theorem stdWorld_keep {base : Nat} {e : TypeId} {size : Nat} {v : Value} {n : Nat} {xs : List Value} : ∀ (l : List Item) (w : World), w.ownsRow base e size v n xs → (stdWorld l w).ownsRow base e size v n xs
  | [], _, h => h
  | _ :: r, _, h => stdWorld_keep r _ (h.alloc _)
theorem stdWorld_below : ∀ (l : List Item) (w W : World), Below W.heap.size W w → Below W.heap.size W (stdWorld l w)
  | [], _, _, h => h
  | _ :: r, _, W, h => stdWorld_below r _ W (h.alloc h.size _)
theorem stdPs_own : ∀ (l : List Item) (w : World) (base : Nat), base ≤ w.heap.size → (∀ x ∈ l, x.pattern.length ≤ 1000) → ∀ p ∈ stdPs l w.heap.size, OwnInts (stdWorld l w) base p.1 p.2.pattern ∧ ∃ g, w.heap.size ≤ g ∧ g < w.heap.size + l.length ∧ p.1 = .slice (some ⟨g, 0, none⟩) p.2.pattern.length p.2.pattern.length ∧ p.2 ∈ l
  | [], _, _, _, _, p, hp => absurd hp List.not_mem_nil
  | x :: r, w, base, hb, hl, p, hp => by
    rcases List.mem_cons.1 hp with rfl | hp
    · refine ⟨stdWorld_keep r _ ?_, w.heap.size, Nat.le_refl _, by simp, rfl, List.mem_cons_self ..⟩
      have h := World.ownsRow_lit (base := base) (size := 1) (e := 2) w (x.pattern.map (Value.int .i64)).toArray x.pattern.length hb (by have := hl x (List.mem_cons_self ..); unfold maxLen; omega) (by simp)
      simpa using h
    · have hsz : (w.alloc (.cells (x.pattern.map (Value.int .i64)).toArray 2)).heap.size = w.heap.size + 1 := by simp
      have h := stdPs_own r (w.alloc (.cells (x.pattern.map (Value.int .i64)).toArray 2)) base (by rw [hsz]; omega) (fun y hy => hl y (List.mem_cons_of_mem _ hy)) p (by rw [hsz]; exact hp)
      rw [hsz] at h
      obtain ⟨h1, g, h2, h3, h4, h5⟩ := h
      exact ⟨h1, g, by omega, by simp; omega, h4, List.mem_cons_of_mem _ h5⟩
theorem stdPs_pw : ∀ (l : List Item) (h : Nat), (stdPs l h).Pairwise (fun p q => ∀ g, p.1.ownBlock = some g → q.1.ownBlock ≠ some g)
  | [], _ => List.Pairwise.nil
  | x :: r, h => by
    refine List.pairwise_cons.2 ⟨?_, stdPs_pw r (h + 1)⟩
    intro q hq g hg
    have key : ∀ (l : List Item) (k : Nat), ∀ q ∈ stdPs l k, ∃ g, k ≤ g ∧ q.1.ownBlock = some g := by
      intro l
      induction l with
      | nil => intro k q hq; exact absurd hq List.not_mem_nil
      | cons y l ih =>
        intro k q hq
        rcases List.mem_cons.1 hq with rfl | hq
        · exact ⟨k, Nat.le_refl _, rfl⟩
        · obtain ⟨g, h1, h2⟩ := ih (k + 1) q hq; exact ⟨g, by omega, h2⟩
    obtain ⟨g', h1, h2⟩ := key r (h + 1) q hq
    rw [h2]
    intro e
    injection e with e
    simp [Value.ownBlock] at hg
    omega
def stdCells (l : List Item) (h : Nat) : Array Value := ((stdPs l h).flatMap fun p => itemS.enc p.1 p.2).toArray
theorem std_own (l : List Item) (w : World) (hl : l.length ≤ 1000) (hp : ∀ x ∈ l, x.pattern.length ≤ 1000 ∧ x.name.size ≤ 9223372036854775807) :
    OwnItems ((stdWorld l w).alloc (.cells (stdCells l w.heap.size) 62)) w.heap.size (.slice (some ⟨w.heap.size + l.length, 0, none⟩) l.length l.length) l := by
  have hsz := stdWorld_size l w
  have hln : (stdPs l w.heap.size).length = l.length := by have := congrArg List.length (stdPs_snd l w.heap.size); simpa using this
  refine ⟨stdPs l w.heap.size, stdPs_snd l _, ?_, ?_, stdPs_pw l _⟩
  · have h := World.ownsRow_lit (base := w.heap.size) (size := 2) (e := 62) (stdWorld l w) (stdCells l w.heap.size) l.length (by omega) (by unfold maxLen; omega) (by unfold stdCells; rw [List.size_toArray, flat_len (fun p : Value × Item => itemS.enc p.1 p.2) 2 (fun _ => rfl), hln])
    rw [hsz] at h
    exact h
  · intro p hpp
    obtain ⟨h1, g, h2, h3, h4, h5⟩ := stdPs_own l w w.heap.size (Nat.le_refl _) (fun x hx => (hp x hx).1) p hpp
    refine ⟨⟨_, _, _, h4⟩, h1.alloc _, (hp _ h5).2, fun g' hg' => ?_⟩
    rw [h4] at hg'
    simp [Value.ownBlock] at hg' ⊢
    omega
set_option maxHeartbeats 2000000 in
theorem sStandardItems_c (w : World) : Calls Tryz.prog 39 #[] w (GivesItems stdL w) := by
  have HO := Lib.hid (std_own stdL w (by decide) (by decide))
  have HB := Lib.hid (stdWorld_below stdL w w (Below.refl _ _))
  have HZ := Lib.hid (stdWorld_size stdL w)
  go_enter Tryz.func39, Tryz.ntmps39
  go_wp2
  go_ret
  exact ⟨_, _, _, rfl, HO.out, HB.out.alloc HB.out.size _⟩
set_option maxHeartbeats 2000000 in
theorem iStandardItems_c (w : World) : Calls Tryz.prog 38 #[] w (GivesItems stdL w) := by
  go_enter Tryz.func38, Tryz.ntmps38
  go_wp2_with fail
  refine (iReadItems_c stdText w (by decide)).mono ?_
  rintro e w1 ⟨a1, n1, c1, rfl, o1, hb1⟩
  rw [std_of rfl] at o1
  have O1 := Lib.hid o1
  clear o1
  go_wp2
  go_ret
  exact ⟨_, _, _, rfl, O1.out, hb1⟩
end Go.Proofs.YtcgbdhbdlnimhaaGreat
