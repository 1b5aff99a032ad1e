import Derived.Test.YthkmgahbahaabaaMg11
import Derived.Test.YthkmgahbahaabaaMg39
/- PatText: the text of a pattern, by the package impl; two patterns with one text are one. -/
namespace Go.Proofs.Ythkmgahbahaabaa
open Go.ChangeShapes Go.WideShapes Go.ChangeAt Go.RowKit

def hexV (t : Int) : Int := if t < 10 then 48 + t else 87 + t
def patText (p : List Int) : ByteArray := if okPat p then strOfNums (p.map hexV) else ByteArray.empty
def hexBA : ByteArray := ⟨#[48, 49, 50, 51, 52, 53, 54, 55, 56, 57, 97, 98, 99, 100, 101, 102]⟩
theorem hexV_bd {t : Int} (h0 : 0 ≤ t) (h1 : t ≤ 15) : 48 ≤ hexV t ∧ hexV t ≤ 102 := by unfold hexV; split <;> omega
theorem cases16 {t : Int} (h0 : 0 ≤ t) (h1 : t ≤ 15) : t = 0 ∨ t = 1 ∨ t = 2 ∨ t = 3 ∨ t = 4 ∨ t = 5 ∨ t = 6 ∨ t = 7 ∨ t = 8 ∨ t = 9 ∨ t = 10 ∨ t = 11 ∨ t = 12 ∨ t = 13 ∨ t = 14 ∨ t = 15 := by omega
theorem hexIdx (t : Int) (h0 : 0 ≤ t) (h1 : t ≤ 15) (w : World) : (Instr.index 9 (.string ⟨#[48, 49, 50, 51, 52, 53, 54, 55, 56, 57, 97, 98, 99, 100, 101, 102]⟩) (.int .i64 t)).run Try.prog w = .ok (.int .u8 (hexV t)) w := by
  rcases cases16 h0 h1 with rfl | rfl | rfl | rfl | rfl | rfl | rfl | rfl | rfl | rfl | rfl | rfl | rfl | rfl | rfl | rfl <;> kernel_rfl
theorem strOfNums_inj : ∀ (l m : List Int), (∀ x ∈ l, 0 ≤ x ∧ x ≤ 255) → (∀ x ∈ m, 0 ≤ x ∧ x ≤ 255) → strOfNums l = strOfNums m → l = m := by
  intro l m hl hm h
  have h2 : l.map (fun n => UInt8.ofNat n.toNat) = m.map (fun n => UInt8.ofNat n.toNat) := by
    have := congrArg (fun b : ByteArray => b.data.toList) h
    simpa [strOfNums_data] using this
  clear h
  induction l generalizing m with
  | nil => cases m with
    | nil => rfl
    | cons y m => simp at h2
  | cons x l ih => cases m with
    | nil => simp at h2
    | cons y m =>
      simp only [List.map_cons, List.cons.injEq] at h2
      have hx := hl x (List.mem_cons_self ..)
      have hy := hm y (List.mem_cons_self ..)
      have e : x = y := by
        have h3 := congrArg UInt8.toNat h2.1
        simp only [UInt8.toNat_ofNat'] at h3
        omega
      rw [e, ih m (fun z hz => hl z (List.mem_cons_of_mem _ hz)) (fun z hz => hm z (List.mem_cons_of_mem _ hz)) h2.2]
theorem map_hexV_inj : ∀ (l m : List Int), (∀ x ∈ l, 0 ≤ x ∧ x ≤ 15) → (∀ x ∈ m, 0 ≤ x ∧ x ≤ 15) → l.map hexV = m.map hexV → l = m
  | [], [], _, _, _ => rfl
  | [], _ :: _, _, _, h => by simp at h
  | _ :: _, [], _, _, h => by simp at h
  | x :: l, y :: m, hl, hm, h => by
    simp only [List.map_cons, List.cons.injEq] at h
    have hx := hl x (List.mem_cons_self ..)
    have hy := hm y (List.mem_cons_self ..)
    have e : x = y := by have h1 := h.1; unfold hexV at h1; split at h1 <;> split at h1 <;> omega
    rw [e, map_hexV_inj l m (fun z hz => hl z (List.mem_cons_of_mem _ hz)) (fun z hz => hm z (List.mem_cons_of_mem _ hz)) h.2]
theorem okPat_mem {l : List Int} (h : okPat l = true) : ∀ x ∈ l, 0 ≤ x ∧ x ≤ 15 := by
  have ht := (throwsB_nth (okPat_throws h)).1
  intro x hx
  obtain ⟨i, hi, rfl⟩ := List.getElem_of_mem hx
  rw [← nth_eq l i hi]; exact ht i hi
theorem hex_bytes {l : List Int} (h : ∀ x ∈ l, 0 ≤ x ∧ x ≤ 15) : ∀ x ∈ l.map hexV, 0 ≤ x ∧ x ≤ 255 := by
  intro x hx
  obtain ⟨y, hy, rfl⟩ := List.mem_map.1 hx
  have := hexV_bd (h y hy).1 (h y hy).2
  omega
theorem patText_inj {l m : List Int} (hl : okPat l = true) (hm : okPat m = true) (h : patText l = patText m) : l = m := by
  unfold patText at h
  rw [if_pos hl, if_pos hm] at h
  exact map_hexV_inj l m (okPat_mem hl) (okPat_mem hm) (strOfNums_inj _ _ (hex_bytes (okPat_mem hl)) (hex_bytes (okPat_mem hm)) h)
theorem patText_size (l : List Int) : (patText l).size ≤ 12 := by
  unfold patText
  split
  · rename_i h; rw [strOfNums_size, List.length_map]; exact (throwsB_nth (okPat_throws h)).2.2
  · exact Nat.zero_le _

theorem Gives.str' {r b : ByteArray} {w w' : World} (h : r = b) (hb : Below w.heap.size w w') : Gives (.string r) w (.returned (.string b)) w' := ⟨by rw [h], hb⟩
end Go.Proofs.Ythkmgahbahaabaa
