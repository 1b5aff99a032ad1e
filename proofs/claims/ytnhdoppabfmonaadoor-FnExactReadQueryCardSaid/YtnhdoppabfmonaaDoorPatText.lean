/- PatText: the text of a pattern, by the package impl; two patterns with one text are one. -/
import Derived.Test.YtnhdoppabfmonaaDoorPat
import Derived.Test.YtnhdoppabfmonaaDoorBytes
namespace Go.Proofs.YtnhdoppabfmonaaDoor
open Go.ChangeShapes Go.WideShapes Go.ChangeAt Go.RowKit

def hexV (t : Int) : Int := if t < 10 then 48 + t else 87 + t
def patText (p : List Int) : ByteArray := if okPat p then strOfNums (p.map hexV) else ByteArray.empty
def hexBA : ByteArray := ⟨#[48, 49, 50, 51, 52, 53, 54, 55, 56, 57, 97, 98, 99, 100, 101, 102]⟩
theorem hexV_bd {t : Int} (h0 : 0 ≤ t) (h1 : t ≤ 15) : 48 ≤ hexV t ∧ hexV t ≤ 102 := by unfold hexV; split <;> omega
theorem cases16 {t : Int} (h0 : 0 ≤ t) (h1 : t ≤ 15) : t = 0 ∨ t = 1 ∨ t = 2 ∨ t = 3 ∨ t = 4 ∨ t = 5 ∨ t = 6 ∨ t = 7 ∨ t = 8 ∨ t = 9 ∨ t = 10 ∨ t = 11 ∨ t = 12 ∨ t = 13 ∨ t = 14 ∨ t = 15 := by omega
theorem hexIdx (t : Int) (h0 : 0 ≤ t) (h1 : t ≤ 15) (w : World) : (Instr.index 9 (.string ⟨#[48, 49, 50, 51, 52, 53, 54, 55, 56, 57, 97, 98, 99, 100, 101, 102]⟩) (.int .i64 t)).run Tryd.prog w = .ok (.int .u8 (hexV t)) w := by
  rcases cases16 h0 h1 with rfl | rfl | rfl | rfl | rfl | rfl | rfl | rfl | rfl | rfl | rfl | rfl | rfl | rfl | rfl | rfl <;> kernel_rfl
theorem strOfNums_inj : ∀ (l m : List Int), (∀ x ∈ l, 0 ≤ x ∧ x ≤ 255) → (∀ x ∈ m, 0 ≤ x ∧ x ≤ 255) → strOfNums l = strOfNums m → l = m := by
  intro l m hl hm h
  have h2 : l.map (fun n => UInt8.ofNat n.toNat) = m.map (fun n => UInt8.ofNat n.toNat) := by
    have := congrArg (fun b : ByteArray => b.data.toList) h
    simpa [strOfNums_data] using this
  clear h
  induction l generalizing m with
  | nil => cases m with
    | nil => rfl
    | cons y m => simp at h2
  | cons x l ih => cases m with
    | nil => simp at h2
    | cons y m =>
      simp only [List.map_cons, List.cons.injEq] at h2
      have hx := hl x (List.mem_cons_self ..)
      have hy := hm y (List.mem_cons_self ..)
      have e : x = y := by
        have h3 := congrArg UInt8.toNat h2.1
        simp only [UInt8.toNat_ofNat'] at h3
        omega
      rw [e, ih m (fun z hz => hl z (List.mem_cons_of_mem _ hz)) (fun z hz => hm z (List.mem_cons_of_mem _ hz)) h2.2]
theorem map_hexV_inj : ∀ (l m : List Int), (∀ x ∈ l, 0 ≤ x ∧ x ≤ 15) → (∀ x ∈ m, 0 ≤ x ∧ x ≤ 15) → l.map hexV = m.map hexV → l = m
  | [], [], _, _, _ => rfl
  | [], _ :: _, _, _, h => by simp at h
  | _ :: _, [], _, _, h => by simp at h
  | x :: l, y :: m, hl, hm, h => by
    simp only [List.map_cons, List.cons.injEq] at h
    have hx := hl x (List.mem_cons_self ..)
    have hy := hm y (List.mem_cons_self ..)
    have e : x = y := by have h1 := h.1; unfold hexV at h1; split at h1 <;> split at h1 <;> omega
    rw [e, map_hexV_inj l m (fun z hz => hl z (List.mem_cons_of_mem _ hz)) (fun z hz => hm z (List.mem_cons_of_mem _ hz)) h.2]
theorem okPat_mem {l : List Int} (h : okPat l = true) : ∀ x ∈ l, 0 ≤ x ∧ x ≤ 15 := by
  have ht := (throwsB_nth (okPat_throws h)).1
  intro x hx
  obtain ⟨i, hi, rfl⟩ := List.getElem_of_mem hx
  rw [← nth_eq l i hi]; exact ht i hi
theorem hex_bytes {l : List Int} (h : ∀ x ∈ l, 0 ≤ x ∧ x ≤ 15) : ∀ x ∈ l.map hexV, 0 ≤ x ∧ x ≤ 255 := by
  intro x hx
  obtain ⟨y, hy, rfl⟩ := List.mem_map.1 hx
  have := hexV_bd (h y hy).1 (h y hy).2
  omega
theorem patText_inj {l m : List Int} (hl : okPat l = true) (hm : okPat m = true) (h : patText l = patText m) : l = m := by
  unfold patText at h
  rw [if_pos hl, if_pos hm] at h
  exact map_hexV_inj l m (okPat_mem hl) (okPat_mem hm) (strOfNums_inj _ _ (hex_bytes (okPat_mem hl)) (hex_bytes (okPat_mem hm)) h)
theorem patText_size (l : List Int) : (patText l).size ≤ 12 := by
  unfold patText
  split
  · rename_i h; rw [strOfNums_size, List.length_map]; exact (throwsB_nth (okPat_throws h)).2.2
  · exact Nat.zero_le _

theorem Gives.str' {r b : ByteArray} {w w' : World} (h : r = b) (hb : Below w.heap.size w w') : Gives (.string r) w (.returned (.string b)) w' := ⟨by rw [h], hb⟩
set_option maxHeartbeats 1000000 in
theorem patternText_c (v : Value) (l : List Int) (w : World) (hv : IntsAt w v l) :
    Calls Tryd.prog 54 #[v] w (Gives (.string (patText l)) w) := by
  have HV := Lib.hid (validPattern_c v l w hv)
  obtain ⟨a, n, cap, rfl, hn, hl, hm, hc⟩ := hv
  have Hc := Lib.hid hc; clear hc
  cases hO : okPat l
  · have HR : Hid (patText l = ByteArray.empty) := Lib.hid (by unfold patText; rw [hO]; rfl)
    rw [hO] at HV
    clear hO hn
    go_enter Tryd.func54, Tryd.ntmps54
    go_wp2_with fail
    refine HV.out.mono ?_
    rintro e w1 ⟨rfl, hb1⟩
    go_wp2
    go_ret
    exact Gives.str' HR.out hb1
  · have HR : Hid (patText l = strOfNums (l.map hexV)) := Lib.hid (by unfold patText; rw [hO]; rfl)
    rw [hO] at HV
    obtain ⟨hth, h1, h12⟩ := throwsB_nth (okPat_throws hO)
    have Hth := Lib.hid hth; clear hth hO
    have Hn := Lib.hid hn
    have hn12 : n ≤ 12 := by omega
    clear hn h1 h12
    go_enter Tryd.func54, Tryd.ntmps54
    go_wp2_with fail
    refine HV.out.mono ?_
    rintro e w1 ⟨rfl, hb1⟩
    go_wp2
    go_loopw [3, 12] (fun s i wr => ∃ (k : Nat) (a' : Option Addr) (n' c' : Nat), i = .int .i64 k ∧ k ≤ n ∧ s = .slice a' n' c' ∧ Hid (OwnBytes wr w1.heap.size (.slice a' n' c') ((l.take k).map hexV)) ∧ Below w.heap.size w wr ∧ Hid (w1.heap.size ≤ wr.heap.size)) (fun _ i _ => n - (intOf i).toNat)
    case atStart => exact ⟨0, _, _, _, rfl, Nat.zero_le _, rfl, Lib.hid (own_bytes_empty w1), hb1.alloc (by have := hb1.size; omega) _, Lib.hid (by simp)⟩
    case round =>
      obtain ⟨k, a', n', c', rfl, hk, rfl, HO, hb, HS⟩ := hrel
      by_cases hlt : k < n
      · obtain ⟨b, o, rfl, hbs, c0⟩ := (Hc.out.below hb) k (by rw [← Hn.out]; exact hlt)
        obtain ⟨hx0, hx15⟩ := Hth.out k (by rw [← Hn.out]; exact hlt)
        have HL : Hid ((l.take (k + 1)).map hexV = (l.take k).map hexV ++ [hexV (nth l k)]) := Lib.hid (by rw [take_nth l k (by rw [← Hn.out]; exact hlt), List.map_append]; rfl)
        have hlen : ((l.take k).map hexV).length ≤ 12 := by rw [List.length_map, List.length_take]; omega
        generalize nth l k = x at *
        have hix := hexIdx x hx0 hx15
        have hbx := hexV_bd hx0 hx15
        generalize hexV x = y at *
        generalize hz : (l.take k).map hexV = z at *
        clear hz
        go_wp2_with (at_builtin; refine wpList_app_bytes rfl _ _ rfl w1.heap.size _ _ rfl (HO.out.alloc _) _ _ _ [y] rfl rfl (bytes_new _ _ _) (by simp; omega) (by have := HS.out; simp; omega) ?_)
        intro a2 n2 c2 w2 ho2 hg2 _ _
        have hb2 : Below w.heap.size w w2 := (hb.alloc hb.size _).grown hg2 (by have := hb.size; simp; omega) (fun g hg => by have := (World.ownsRow.lt HO.out g hg).1; have := hb1.size; omega)
        have HS2 : Hid (w1.heap.size ≤ w2.heap.size) := Lib.hid (by have := hg2.size; have := HS.out; simp at *; omega)
        have HO2 : Hid (OwnBytes w2 w1.heap.size (.slice a2 n2 c2) ((l.take (k + 1)).map hexV)) := Lib.hid (by rw [HL.out]; exact ho2)
        clear ho2 hg2 HO HL HS hix
        go_wp2
        exact ⟨⟨k + 1, a2, n2, c2, by go_num, hlt, rfl, HO2, hb2, HS2⟩, by simp [intOf]; omega⟩
      · obtain rfl : k = n := by omega
        have hcv := own_bytes_text HO.out 9 Tryd.underlying9
        rw [Hn.out, List.take_length] at hcv
        go_wp2
        go_ret
        exact Gives.str' HR.out hb
end Go.Proofs.YtnhdoppabfmonaaDoor
