import Derived.Test.YtclffohjpbmnbaaDoorMg19
import Derived.Test.YtclffohjpbmnbaaDoorMg4
import Derived.Test.YtclffohjpbmnbaaDoorMg10
import Derived.Shelf.SlSortFuncK.WholeK
import Derived.Shelf.GgSortFunc.Tiny
import Derived.Sort.Walk0
import Derived.Ground.GgsProg
/- SortK: sort.Slice by names, at rows of structures that the call owns. -/
namespace Go.Proofs.YtclffohjpbmnbaaDoor
open Go.ChangeShapes Go.WideShapes Go.ChangeAt Go.RowKit Go.Lib Go.Shelf


theorem lessB_eq (a b : ByteArray) : lessB a b = Go.Sort.ltStr a.toList b.toList := Go.Proofs.bytesLess_eq _ _
def ltN {β : Type} (nm : β → ByteArray) (x y : β) : Bool := lessB (nm x) (nm y)
theorem swo_ltN {β : Type} (nm : β → ByteArray) : Go.Sort.SWO (ltN nm) where
  irrefl x := by unfold ltN; rw [lessB_eq]; exact Go.Sort.swo_ltStr.irrefl _
  trans x y z h1 h2 := by unfold ltN at *; rw [lessB_eq] at *; exact Go.Sort.swo_ltStr.trans _ _ _ h1 h2
  ntrans x y z h1 h2 := by unfold ltN at *; rw [lessB_eq] at *; exact Go.Sort.swo_ltStr.ntrans _ _ _ h1 h2
theorem lessB_anti {a b : ByteArray} (h1 : lessB a b = false) (h2 : lessB b a = false) : a = b := by
  have h := less_total a.toList b.toList
  unfold lessB at h1 h2
  rw [h1, h2] at h
  have h3 : (a.toList == b.toList) = true := by simpa using h
  rw [beq_bytes] at h3
  exact of_decide_eq_true h3
theorem flatK_list {β : Type} [Inhabited β] (enc : β → List Value) (k : Nat) (hk : ∀ x, (enc x).length = k) (d : Array β) : (Go.Sort.flatK enc k d).toList = d.toList.flatMap enc := by
  refine flat_ext enc k hk d.toList _ (by simp) ?_
  intro i hi j hj
  have hi' : i < d.size := by simpa using hi
  have hlt : i * k + j < d.size * k := by
    have := Nat.mul_le_mul_right k (show i + 1 ≤ d.size from hi'); rw [Nat.add_mul, Nat.one_mul] at this; omega
  have e1 : (i * k + j) / k = i := (Go.Sort.blk_iff k i _ (by omega)).1 ⟨by omega, by omega⟩
  have e2 : (i * k + j) % k = j := by rw [Nat.mul_comm, Nat.mul_add_mod]; exact Nat.mod_eq_of_lt hj
  have hg := Go.Sort.get_flatK enc k d (i * k + j) hlt
  rw [e1, e2] at hg
  have hs : i * k + j < (Go.Sort.flatK enc k d).size := by simpa using hlt
  have hg2 : (Go.Sort.flatK enc k d)[i * k + j]! = (Go.Sort.flatK enc k d)[i * k + j] := getElem!_pos (Go.Sort.flatK enc k d) (i * k + j) hs
  rw [hg2] at hg
  rw [Array.getElem?_toList, Array.getElem?_eq_getElem hs, hg, nth_eq _ _ hi, Array.getElem_toList, getElem!_pos d i hi']
  rw [List.getElem?_eq_getElem (by rw [hk]; exact hj), getElem!_pos _ j (by rw [hk]; exact hj)]
/-- A closure 'func(i, k int) bool { return list[i].Name < list[k].Name }', the name in the first of K cells. -/
def LessN (g K : Nat) : Prop := ∀ (blk c B size : Nat) (W : World) (G : Nat → ByteArray), W.cell? ⟨B, 0, none⟩ = some (.slice (some ⟨blk, 0, none⟩) size c) → (∀ t, t < size → W.cell? ⟨blk, t * K, none⟩ = some (.string (G t))) →
    ∀ i j : Nat, i < size → j < size → Calls Tryd.prog g #[.int .i64 i, .int .i64 j, .pointer (some ⟨B, 0, none⟩)] W fun e w' => e = .returned (.bool (lessB (G i) (G j))) ∧ ∃ q, w' = W.drewN q

end Go.Proofs.YtclffohjpbmnbaaDoor
