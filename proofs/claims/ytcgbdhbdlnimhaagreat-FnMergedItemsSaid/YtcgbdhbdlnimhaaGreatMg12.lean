import Derived.Test.YtcgbdhbdlnimhaaGreatMg7
import Derived.Laws.BytesArg
/- Bytes: rows of bytes of the call's own: appended to, turned into a text. -/
namespace Go.Proofs.YtcgbdhbdlnimhaaGreat
open Go.ChangeShapes Go.WideShapes Go.ChangeAt Go.RowKit

def BytesC (w : World) (a : Option Addr) (l : List Int) : Prop :=
  ∀ i, i < l.length → ∃ b o, a = some ⟨b, o, none⟩ ∧ b < w.heap.size ∧ w.cell? ⟨b, o + i, none⟩ = some (.int .u8 (nth l i))
def OwnBytes (w : World) (base : Nat) (v : Value) (l : List Int) : Prop := w.ownsRow base 5 1 v l.length (l.map (Value.int .u8))
theorem byteInfo : (Tryz.prog.info? 5).map (fun i => (i.zero, i.size, i.bytes)) = some (some (.int .u8 0), 1, 1) := by kernel_rfl
theorem bytes_one (l : List Int) : ∀ u ∈ l.map (Value.int .u8), u.oneCell' = true := by
  intro u hu
  obtain ⟨x, _, rfl⟩ := List.mem_map.1 hu
  rfl
theorem reads_bytes {w : World} {a : Option Addr} {l : List Int} (h : BytesC w a l) : Reads w w.heap.size 1 a l.length (l.map (Value.int .u8)) := by
  refine ⟨by simp, fun hn => ?_⟩
  obtain ⟨b, o, rfl, hb, _⟩ := h 0 hn
  refine ⟨_, rfl, hb, fun j u hu => ?_⟩
  have hj : j < l.length := by
    have := (List.getElem?_eq_some_iff.1 hu).1
    simpa using this
  obtain ⟨b', o', hab, _, hc⟩ := h j hj
  cases hab
  rw [List.getElem?_map, nth_get? l j hj] at hu
  have e : (⟨b, o, none⟩ : Addr).add j = ⟨b, o + j, none⟩ := by unfold Addr.add; split <;> simp_all
  rw [e, hc]; exact hu
/-- 'append(out, b)', 'append(out, bs...)' at bytes. -/
theorem wpList_app_bytes {w : World} {ops : Array Oper} {rest : List Oper} {o : Oper} {a : Act} {Q : Exit → Act → World → Prop} (hgd : o.guard = none) (s x : Operand)
    (ho : o.op = .call { callee := .builtin .append, args := #[s, x], argTypes := #[22, 22] })
    (base : Nat) (v : Value) (l : List Int) (hs : a.eval s = v) (hown : OwnBytes w base v l)
    (A : Option Addr) (m c : Nat) (t : List Int) (hx : a.eval x = .slice A m c) (hm : m = t.length) (hr : BytesC w A t)
    (hsz : l.length + t.length ≤ 1073741824) (hbase : base ≤ w.heap.size)
    (h : ∀ a' n' c' w', OwnBytes w' base (.slice a' n' c') (l ++ t) → w.grownBy w' v.ownBlock → ((Value.slice a' n' c').ownBlock = v.ownBlock ∨ (Value.slice a' n' c').ownBlock = some w.heap.size) → n' = l.length + t.length → wpList Tryz.prog ops Q rest (a.put o.dst (.slice a' n' c')) w') : wpList Tryz.prog ops Q (o :: rest) a w := by
  obtain ⟨i0, h1, h2, h3, h4⟩ := info_parts byteInfo
  refine wpList_append_any w hgd s x 22 ho base 5 i0 _ 1 1 Tryz.underlying22 h1 h2 h3 h4 rfl (by decide) v l.length _ hs hown w.heap.size A m c (t.map (Value.int .u8)) hx (by rw [hm]; exact reads_bytes hr) (bytes_one t) (by rw [hm]; unfold maxLen; omega) (by rw [hm]; omega) hbase ?_
  intro v' w' hown' hg hb
  obtain ⟨a', c', rfl⟩ := slice_of_own hown'
  exact h a' _ c' w' (by unfold OwnBytes; rw [List.map_append, List.length_append]; rw [hm] at hown'; rw [hm]; exact hown') hg hb (by rw [hm])
theorem bytes_new (w : World) (x : Int) (t : TypeId) : BytesC (w.alloc (.cells #[.int .u8 x] t)) (some ⟨w.heap.size, 0, none⟩) [x] := by
  intro i hi
  obtain rfl : i = 0 := by simpa using hi
  exact ⟨w.heap.size, 0, rfl, by simp, by rw [World.cell?_alloc_at _ _ _ _ rfl]; rfl⟩
theorem own_bytes_empty (w : World) : OwnBytes (w.alloc (.cells #[] 5)) w.heap.size (.slice (some ⟨w.heap.size, 0, none⟩) 0 0) [] :=
  World.ownsRow_lit w #[] 0 (Nat.le_refl _) (by decide) rfl
/-- 'string(out)'. -/
theorem own_bytes_text {w : World} {base : Nat} {a : Option Addr} {n c : Nat} {l : List Int} (h : OwnBytes w base (.slice a n c) l) :
    ∀ dst, Tryz.prog.underlying dst = some .string → (convert 22 dst (.slice a n c)).run Tryz.prog w = .ok (.string (strOfNums l)) w := by
  intro dst hd
  rcases h.2 with ⟨he, h0⟩ | ⟨g, cap, cur, he, _⟩
  · cases he
    obtain rfl : l = [] := List.eq_nil_of_length_eq_zero h0
    exact run_convert_bytes_nil w 22 5 Tryz.underlying22 Tryz.underlying5 0 0 dst hd
  · cases he
    refine run_convert_bytes_arg w 22 5 Tryz.underlying22 Tryz.underlying5 g 0 _ _ l rfl (fun i hi => ?_) dst hd
    have h2 : w.ownsRow base 5 1 (.slice (some ⟨g, 0, none⟩) l.length c) l.length (l.map (Value.int .u8)) := h
    have := h2.cellAt i (by omega)
    rw [Nat.zero_add, this, List.getElem?_map]
    simp [List.getElem?_eq_getElem hi, List.getD]
end Go.Proofs.YtcgbdhbdlnimhaaGreat

/- PatText: the text of a pattern, by the package impl; two patterns with one text are one. -/
namespace Go.Proofs.YtcgbdhbdlnimhaaGreat
open Go.ChangeShapes Go.WideShapes Go.ChangeAt Go.RowKit

def hexV (t : Int) : Int := if t < 10 then 48 + t else 87 + t
def patText (p : List Int) : ByteArray := if okPat p then strOfNums (p.map hexV) else ByteArray.empty
def hexBA : ByteArray := ⟨#[48, 49, 50, 51, 52, 53, 54, 55, 56, 57, 97, 98, 99, 100, 101, 102]⟩
theorem hexV_bd {t : Int} (h0 : 0 ≤ t) (h1 : t ≤ 15) : 48 ≤ hexV t ∧ hexV t ≤ 102 := by unfold hexV; split <;> omega
theorem cases16 {t : Int} (h0 : 0 ≤ t) (h1 : t ≤ 15) : t = 0 ∨ t = 1 ∨ t = 2 ∨ t = 3 ∨ t = 4 ∨ t = 5 ∨ t = 6 ∨ t = 7 ∨ t = 8 ∨ t = 9 ∨ t = 10 ∨ t = 11 ∨ t = 12 ∨ t = 13 ∨ t = 14 ∨ t = 15 := by omega
theorem hexIdx (t : Int) (h0 : 0 ≤ t) (h1 : t ≤ 15) (w : World) : (Instr.index 9 (.string ⟨#[48, 49, 50, 51, 52, 53, 54, 55, 56, 57, 97, 98, 99, 100, 101, 102]⟩) (.int .i64 t)).run Tryz.prog w = .ok (.int .u8 (hexV t)) w := by
  rcases cases16 h0 h1 with rfl | rfl | rfl | rfl | rfl | rfl | rfl | rfl | rfl | rfl | rfl | rfl | rfl | rfl | rfl | rfl <;> kernel_rfl
theorem strOfNums_inj : ∀ (l m : List Int), (∀ x ∈ l, 0 ≤ x ∧ x ≤ 255) → (∀ x ∈ m, 0 ≤ x ∧ x ≤ 255) → strOfNums l = strOfNums m → l = m := by
  intro l m hl hm h
  have h2 : l.map (fun n => UInt8.ofNat n.toNat) = m.map (fun n => UInt8.ofNat n.toNat) := by
    have := congrArg (fun b : ByteArray => b.data.toList) h
    simpa [strOfNums_data] using this
  clear h
  induction l generalizing m with
  | nil => cases m with
    | nil => rfl
    | cons y m => simp at h2
  | cons x l ih => cases m with
    | nil => simp at h2
    | cons y m =>
      simp only [List.map_cons, List.cons.injEq] at h2
      have hx := hl x (List.mem_cons_self ..)
      have hy := hm y (List.mem_cons_self ..)
      have e : x = y := by
        have h3 := congrArg UInt8.toNat h2.1
        simp only [UInt8.toNat_ofNat'] at h3
        omega
      rw [e, ih m (fun z hz => hl z (List.mem_cons_of_mem _ hz)) (fun z hz => hm z (List.mem_cons_of_mem _ hz)) h2.2]
theorem map_hexV_inj : ∀ (l m : List Int), (∀ x ∈ l, 0 ≤ x ∧ x ≤ 15) → (∀ x ∈ m, 0 ≤ x ∧ x ≤ 15) → l.map hexV = m.map hexV → l = m
  | [], [], _, _, _ => rfl
  | [], _ :: _, _, _, h => by simp at h
  | _ :: _, [], _, _, h => by simp at h
  | x :: l, y :: m, hl, hm, h => by
    simp only [List.map_cons, List.cons.injEq] at h
    have hx := hl x (List.mem_cons_self ..)
    have hy := hm y (List.mem_cons_self ..)
    have e : x = y := by have h1 := h.1; unfold hexV at h1; split at h1 <;> split at h1 <;> omega
    rw [e, map_hexV_inj l m (fun z hz => hl z (List.mem_cons_of_mem _ hz)) (fun z hz => hm z (List.mem_cons_of_mem _ hz)) h.2]
theorem okPat_mem {l : List Int} (h : okPat l = true) : ∀ x ∈ l, 0 ≤ x ∧ x ≤ 15 := by
  have ht := (throwsB_nth (okPat_throws h)).1
  intro x hx
  obtain ⟨i, hi, rfl⟩ := List.getElem_of_mem hx
  rw [← nth_eq l i hi]; exact ht i hi
theorem hex_bytes {l : List Int} (h : ∀ x ∈ l, 0 ≤ x ∧ x ≤ 15) : ∀ x ∈ l.map hexV, 0 ≤ x ∧ x ≤ 255 := by
  intro x hx
  obtain ⟨y, hy, rfl⟩ := List.mem_map.1 hx
  have := hexV_bd (h y hy).1 (h y hy).2
  omega
theorem patText_inj {l m : List Int} (hl : okPat l = true) (hm : okPat m = true) (h : patText l = patText m) : l = m := by
  unfold patText at h
  rw [if_pos hl, if_pos hm] at h
  exact map_hexV_inj l m (okPat_mem hl) (okPat_mem hm) (strOfNums_inj _ _ (hex_bytes (okPat_mem hl)) (hex_bytes (okPat_mem hm)) h)
theorem patText_size (l : List Int) : (patText l).size ≤ 12 := by
  unfold patText
  split
  · rename_i h; rw [strOfNums_size, List.length_map]; exact (throwsB_nth (okPat_throws h)).2.2
  · exact Nat.zero_le _

theorem Gives.str' {r b : ByteArray} {w w' : World} (h : r = b) (hb : Below w.heap.size w w') : Gives (.string r) w (.returned (.string b)) w' := ⟨by rw [h], hb⟩
set_option maxHeartbeats 1000000 in
theorem patternText_c (v : Value) (l : List Int) (w : World) (hv : IntsAt w v l) :
    Calls Tryz.prog 65 #[v] w (Gives (.string (patText l)) w) := by
  have HV := Lib.hid (validPattern_c v l w hv)
  obtain ⟨a, n, cap, rfl, hn, hl, hm, hc⟩ := hv
  have Hc := Lib.hid hc; clear hc
  cases hO : okPat l
  · have HR : Hid (patText l = ByteArray.empty) := Lib.hid (by unfold patText; rw [hO]; rfl)
    rw [hO] at HV
    clear hO hn
    go_enter Tryz.func65, Tryz.ntmps65
    go_wp2_with fail
    refine HV.out.mono ?_
    rintro e w1 ⟨rfl, hb1⟩
    go_wp2
    go_ret
    exact Gives.str' HR.out hb1
  · have HR : Hid (patText l = strOfNums (l.map hexV)) := Lib.hid (by unfold patText; rw [hO]; rfl)
    rw [hO] at HV
    obtain ⟨hth, h1, h12⟩ := throwsB_nth (okPat_throws hO)
    have Hth := Lib.hid hth; clear hth hO
    have Hn := Lib.hid hn
    have hn12 : n ≤ 12 := by omega
    clear hn h1 h12
    go_enter Tryz.func65, Tryz.ntmps65
    go_wp2_with fail
    refine HV.out.mono ?_
    rintro e w1 ⟨rfl, hb1⟩
    go_wp2
    go_loopw [3, 12] (fun s i wr => ∃ (k : Nat) (a' : Option Addr) (n' c' : Nat), i = .int .i64 k ∧ k ≤ n ∧ s = .slice a' n' c' ∧ Hid (OwnBytes wr w1.heap.size (.slice a' n' c') ((l.take k).map hexV)) ∧ Below w.heap.size w wr ∧ Hid (w1.heap.size ≤ wr.heap.size)) (fun _ i _ => n - (intOf i).toNat)
    case atStart => exact ⟨0, _, _, _, rfl, Nat.zero_le _, rfl, Lib.hid (own_bytes_empty w1), hb1.alloc (by have := hb1.size; omega) _, Lib.hid (by simp)⟩
    case round =>
      obtain ⟨k, a', n', c', rfl, hk, rfl, HO, hb, HS⟩ := hrel
      by_cases hlt : k < n
      · obtain ⟨b, o, rfl, hbs, c0⟩ := (Hc.out.below hb) k (by rw [← Hn.out]; exact hlt)
        obtain ⟨hx0, hx15⟩ := Hth.out k (by rw [← Hn.out]; exact hlt)
        have HL : Hid ((l.take (k + 1)).map hexV = (l.take k).map hexV ++ [hexV (nth l k)]) := Lib.hid (by rw [take_nth l k (by rw [← Hn.out]; exact hlt), List.map_append]; rfl)
        have hlen : ((l.take k).map hexV).length ≤ 12 := by rw [List.length_map, List.length_take]; omega
        generalize nth l k = x at *
        have hix := hexIdx x hx0 hx15
        have hbx := hexV_bd hx0 hx15
        generalize hexV x = y at *
        generalize hz : (l.take k).map hexV = z at *
        clear hz
        go_wp2_with (at_builtin; refine wpList_app_bytes rfl _ _ rfl w1.heap.size _ _ rfl (HO.out.alloc _) _ _ _ [y] rfl rfl (bytes_new _ _ _) (by simp; omega) (by have := HS.out; simp; omega) ?_)
        intro a2 n2 c2 w2 ho2 hg2 _ _
        have hb2 : Below w.heap.size w w2 := (hb.alloc hb.size _).grown hg2 (by have := hb.size; simp; omega) (fun g hg => by have := (World.ownsRow.lt HO.out g hg).1; have := hb1.size; omega)
        have HS2 : Hid (w1.heap.size ≤ w2.heap.size) := Lib.hid (by have := hg2.size; have := HS.out; simp at *; omega)
        have HO2 : Hid (OwnBytes w2 w1.heap.size (.slice a2 n2 c2) ((l.take (k + 1)).map hexV)) := Lib.hid (by rw [HL.out]; exact ho2)
        clear ho2 hg2 HO HL HS hix
        go_wp2
        exact ⟨⟨k + 1, a2, n2, c2, by go_num, hlt, rfl, HO2, hb2, HS2⟩, by simp [intOf]; omega⟩
      · obtain rfl : k = n := by omega
        have hcv := own_bytes_text HO.out 9 Tryz.underlying9
        rw [Hn.out, List.take_length] at hcv
        go_wp2
        go_ret
        exact Gives.str' HR.out hb
end Go.Proofs.YtcgbdhbdlnimhaaGreat
