import Derived.Test.YtcgbdhbdlnimhaaGreatMg43
import Derived.Test.YtcgbdhbdlnimhaaGreatMg22
/- DrawI3: a library with many items. -/
namespace Go.Proofs.YtcgbdhbdlnimhaaGreat
open Go.ChangeShapes Go.WideShapes Go.ChangeAt Go.RowKit

theorem conv2_new (W : World) (b : Nat) (hb : b = W.heap.size) (x y : Int) (t : TypeId) : (convert 22 9 (.slice (some ⟨b, 0, none⟩) 2 2)).run Tryz.prog (W.alloc (.cells #[.int .u8 x, .int .u8 y] t)) = .ok (.string (strOfNums [x, y])) (W.alloc (.cells #[.int .u8 x, .int .u8 y] t)) := by
  subst hb
  refine run_convert_bytes_arg _ 22 5 Tryz.underlying22 Tryz.underlying5 W.heap.size 0 2 2 [x, y] rfl (fun i hi => ?_) 9 Tryz.underlying9
  rw [World.cell?_alloc_at _ _ _ _ rfl]
  have h : i = 0 ∨ i = 1 := by omega
  rcases h with rfl | rfl <;> rfl
set_option maxRecDepth 100000 in
set_option maxHeartbeats 4000000 in
theorem l22Wide_c (many : Int) (w : World) (h0 : 0 ≤ many) (h1 : many ≤ 61) : Calls Tryz.prog 74 #[.int .i64 many] w fun e w' => ∃ (a : Option Addr) (m c : Nat) (ps : List (Value × Item)), e = .returned (.slice a m c) ∧ (ps.length ≤ 61 ∧ ∀ p ∈ ps, TxI1 p.2) ∧ RowI w' w.heap.size (.slice a m c) ps ∧ Below w.heap.size w w' := by
  go_enter Tryz.func74, Tryz.ntmps74
  go_wp2
  go_loopw [3, 4] (fun o i wr => ∃ (k : Nat) (a' : Option Addr) (n' c' : Nat) (ps : List (Value × Item)), i = .int .i64 k ∧ k ≤ 16 ∧ o = .slice a' n' c' ∧ Hid (ps.length ≤ 61 ∧ ∀ p ∈ ps, TxI1 p.2) ∧ Hid (RowI wr w.heap.size (.slice a' n' c') ps) ∧ Below w.heap.size w wr) (fun _ i _ => 16 - (intOf i).toNat)
  case atStart => exact ⟨0, _, _, _, [], rfl, Nat.zero_le _, rfl, Lib.hid ⟨Nat.zero_le _, fun _ h => absurd h List.not_mem_nil⟩, Lib.hid (rowI_empty w), by go_grown⟩
  case round =>
    obtain ⟨k, a', n', c', ps, rfl, hk, rfl, HPs, HO, hb⟩ := hrel
    by_cases hlt : k < 16
    · have hk15 : decide ((k : Int) ≤ 15) = true := decide_eq_true (by omega)
      go_wp2
      go_loopw [3, 5] (fun o i wr => ∃ (t : Int) (a' : Option Addr) (n' c' : Nat) (ps : List (Value × Item)), i = .int .i64 t ∧ -2 ≤ t ∧ t ≤ (k : Int) ∧ o = .slice a' n' c' ∧ Hid (ps.length ≤ 61 ∧ ∀ p ∈ ps, TxI1 p.2) ∧ Hid (RowI wr w.heap.size (.slice a' n' c') ps) ∧ Below w.heap.size w wr) (fun _ i _ => (intOf i + 2).toNat)
      case atStart => exact ⟨(k : Int), a', n', c', ps, rfl, by omega, Int.le_refl _, rfl, HPs, HO, hb⟩
      case round =>
        clear HPs HO hb
        obtain ⟨t, a', n', c', ps, rfl, ht0, htk, rfl, HPs, HO, hb⟩ := hrel
        by_cases ht : 0 ≤ t
        · by_cases hkt : (k : Int) = t
          · obtain rfl : t = (k : Int) := hkt.symm
            have hsz := hb.size
            have hnl := HO.out.len
            have Hnl := Lib.hid hnl
            have hbW : Below wr.heap.size wr ((wr.alloc (.cells #[.int .i64 (k : Int), .int .i64 (k : Int)] 2)).alloc (.cells #[.int .i64 (k : Int)] 2)) := by go_grown
            by_cases hmn : (n' : Int) < many
            · have hz2 : ∀ x y : Int, (strOfNums [x, y]).size = 2 := fun x y => strOfNums_size [x, y]
              have hz1 : ({ data := #[110] } : ByteArray).size = 1 := rfl
              have hcA := conv2_new ((wr.alloc (.cells #[.int .i64 (k : Int), .int .i64 (k : Int)] 2)).alloc (.cells #[.int .i64 (k : Int)] 2)) (wr.heap.size + 1 + 1) (by simp) (97 + (n' : Int) / 26) (97 + (n' : Int) % 26) 5
              have hbY : Below wr.heap.size wr (((wr.alloc (.cells #[.int .i64 (k : Int), .int .i64 (k : Int)] 2)).alloc (.cells #[.int .i64 (k : Int)] 2)).alloc (.cells #[.int .u8 (97 + (n' : Int) / 26), .int .u8 (97 + (n' : Int) % 26)] 5)) := by go_grown
              have HIn : Hid (IntsAt (((wr.alloc (.cells #[.int .i64 (k : Int), .int .i64 (k : Int)] 2)).alloc (.cells #[.int .i64 (k : Int)] 2)).alloc (.cells #[.int .u8 (97 + (n' : Int) / 26), .int .u8 (97 + (n' : Int) % 26)] 5)) (.slice (some ⟨wr.heap.size + 1, 0, none⟩) 1 1) [(k : Int)]) := Lib.hid (by
                refine IntsAt.below (w := (wr.alloc (.cells #[.int .i64 (k : Int), .int .i64 (k : Int)] 2)).alloc (.cells #[.int .i64 (k : Int)] 2)) ?_ (by go_grown)
                exact ints_lit (w := wr.alloc (.cells #[.int .i64 (k : Int), .int .i64 (k : Int)] 2)) [(k : Int)] 1 rfl (wr.heap.size + 1) (by simp) (by simp))
              have hpl : n' ≤ 60 := by omega
              have HOY := Lib.hid (HO.out.below hbY)
              clear hnl
              have HRow := Lib.hid (fun g hg => (HO.out.1.lt g hg).2)
              have hsY : (((wr.alloc (.cells #[.int .i64 (k : Int), .int .i64 (k : Int)] 2)).alloc (.cells #[.int .i64 (k : Int)] 2)).alloc (.cells #[.int .u8 (97 + (n' : Int) / 26), .int .u8 (97 + (n' : Int) % 26)] 5)).heap.size = wr.heap.size + 1 + 1 + 1 := by simp
              have HP : Hid (PatI (((wr.alloc (.cells #[.int .i64 (k : Int), .int .i64 (k : Int)] 2)).alloc (.cells #[.int .i64 (k : Int)] 2)).alloc (.cells #[.int .u8 (97 + (n' : Int) / 26), .int .u8 (97 + (n' : Int) % 26)] 5)) w.heap.size (.slice a' n' c') (.slice (some ⟨wr.heap.size + 1, 0, none⟩) 1 1, ⟨{ data := #[110] } ++ strOfNums [97 + (n' : Int) / 26, 97 + (n' : Int) % 26], [(k : Int)]⟩)) := Lib.hid ⟨⟨_, _, _, rfl⟩, HIn.out, (by show ByteArray.size (_ ++ _) ≤ _; rw [ByteArray.size_append, hz2, hz1]; omega), fun g hg => by
                injection hg with hg
                have hg2 : wr.heap.size + 1 = g := hg
                refine ⟨by omega, by rw [hsY]; omega, fun e => ?_⟩
                have := HRow.out g e
                omega⟩
              have hpY : w.heap.size ≤ (((wr.alloc (.cells #[.int .i64 (k : Int), .int .i64 (k : Int)] 2)).alloc (.cells #[.int .i64 (k : Int)] 2)).alloc (.cells #[.int .u8 (97 + (n' : Int) / 26), .int .u8 (97 + (n' : Int) % 26)] 5)).heap.size := by rw [hsY]; omega
              have hbw := bthen hb hbY
              have HTk : Hid (TxI1 ⟨{ data := #[110] } ++ strOfNums [97 + (n' : Int) / 26, 97 + (n' : Int) % 26], [(k : Int)]⟩) := Lib.hid ⟨by show ByteArray.size (_ ++ _) ≤ _; rw [ByteArray.size_append, hz2, hz1]; omega, (by simp), fun y hy => by simp at hy; omega⟩
              clear hsY HRow HIn
              go_wp2_with (at_builtin; refine wpList_row_items rfl _ _ rfl w.heap.size n' (.slice a' n' c') ps Hnl.out (some ⟨wr.heap.size + 1, 0, none⟩) 1 1 _ ⟨{ data := #[110] } ++ strOfNums [97 + (n' : Int) / 26, 97 + (n' : Int) % 26], [(k : Int)]⟩ rfl (by rfl) HOY.out HP.out hpY (wr.heap.size + 1 + 1 + 1) (by rfl) (by simp) (by have := Hnl.out; omega) ?_)
              intro a7 c7 w7 ho7 hb7 hk7 hl7
              have HO7 := Lib.hid ho7
              have hb9 : Below w.heap.size w w7 := hbw.trans hb7
              have HPs7 : Hid ((ps ++ [(Value.slice (some ⟨wr.heap.size + 1, 0, none⟩) 1 1, (⟨{ data := #[110] } ++ strOfNums [97 + (n' : Int) / 26, 97 + (n' : Int) % 26], [(k : Int)]⟩ : Item))]).length ≤ 61 ∧ ∀ p ∈ ps ++ [(Value.slice (some ⟨wr.heap.size + 1, 0, none⟩) 1 1, (⟨{ data := #[110] } ++ strOfNums [97 + (n' : Int) / 26, 97 + (n' : Int) % 26], [(k : Int)]⟩ : Item))], TxI1 p.2) := Lib.hid ⟨by have := Hnl.out; simp; omega, fun p hp => by
                rcases List.mem_append.1 hp with h | h
                · exact HPs.out.2 p h
                · rw [List.mem_singleton.1 h]; exact HTk.out⟩
              clear ho7 hb7 hk7 hl7 HO HPs HP HOY hcA hz1 hz2 hbw hbW hbY hpY HTk
              go_wp2
              exact ⟨⟨(k : Int) - 2, a7, n' + 1, c7, _, by go_num, by omega, by omega, rfl, HPs7, HO7, hb9⟩, by simp [intOf] <;> omega⟩
            · have HO2 := Lib.hid (HO.out.below hbW)
              have hb2 := bthen hb hbW
              clear hnl hbW
              go_wp2
              exact ⟨⟨_, a', n', c', ps, by go_num, by omega, by omega, rfl, HPs, HO2, hb2⟩, by simp [intOf] <;> omega⟩
          · have hkb : ((k : Int) == t) = false := beq_eq_false_iff_ne.2 hkt
            have hsz := hb.size
            have hnl := HO.out.len
            have Hnl := Lib.hid hnl
            have hbW : Below wr.heap.size wr (wr.alloc (.cells #[.int .i64 (k : Int), .int .i64 t] 2)) := by go_grown
            by_cases hmn : (n' : Int) < many
            · have hz2 : ∀ x y : Int, (strOfNums [x, y]).size = 2 := fun x y => strOfNums_size [x, y]
              have hz1 : ({ data := #[110] } : ByteArray).size = 1 := rfl
              have hcA := conv2_new (wr.alloc (.cells #[.int .i64 (k : Int), .int .i64 t] 2)) (wr.heap.size + 1) (by simp) (97 + (n' : Int) / 26) (97 + (n' : Int) % 26) 5
              have hbY : Below wr.heap.size wr ((wr.alloc (.cells #[.int .i64 (k : Int), .int .i64 t] 2)).alloc (.cells #[.int .u8 (97 + (n' : Int) / 26), .int .u8 (97 + (n' : Int) % 26)] 5)) := by go_grown
              have HIn : Hid (IntsAt ((wr.alloc (.cells #[.int .i64 (k : Int), .int .i64 t] 2)).alloc (.cells #[.int .u8 (97 + (n' : Int) / 26), .int .u8 (97 + (n' : Int) % 26)] 5)) (.slice (some ⟨wr.heap.size, 0, none⟩) 2 2) [(k : Int), t]) := Lib.hid (by
                refine IntsAt.below (w := wr.alloc (.cells #[.int .i64 (k : Int), .int .i64 t] 2)) ?_ (by go_grown)
                exact ints_lit (w := wr) [(k : Int), t] 2 rfl (wr.heap.size) (by simp) (by simp))
              have hpl : n' ≤ 60 := by omega
              have HOY := Lib.hid (HO.out.below hbY)
              clear hnl
              have HRow := Lib.hid (fun g hg => (HO.out.1.lt g hg).2)
              have hsY : ((wr.alloc (.cells #[.int .i64 (k : Int), .int .i64 t] 2)).alloc (.cells #[.int .u8 (97 + (n' : Int) / 26), .int .u8 (97 + (n' : Int) % 26)] 5)).heap.size = wr.heap.size + 1 + 1 := by simp
              have HP : Hid (PatI ((wr.alloc (.cells #[.int .i64 (k : Int), .int .i64 t] 2)).alloc (.cells #[.int .u8 (97 + (n' : Int) / 26), .int .u8 (97 + (n' : Int) % 26)] 5)) w.heap.size (.slice a' n' c') (.slice (some ⟨wr.heap.size, 0, none⟩) 2 2, ⟨{ data := #[110] } ++ strOfNums [97 + (n' : Int) / 26, 97 + (n' : Int) % 26], [(k : Int), t]⟩)) := Lib.hid ⟨⟨_, _, _, rfl⟩, HIn.out, (by show ByteArray.size (_ ++ _) ≤ _; rw [ByteArray.size_append, hz2, hz1]; omega), fun g hg => by
                injection hg with hg
                have hg2 : wr.heap.size = g := hg
                refine ⟨by omega, by rw [hsY]; omega, fun e => ?_⟩
                have := HRow.out g e
                omega⟩
              have hpY : w.heap.size ≤ ((wr.alloc (.cells #[.int .i64 (k : Int), .int .i64 t] 2)).alloc (.cells #[.int .u8 (97 + (n' : Int) / 26), .int .u8 (97 + (n' : Int) % 26)] 5)).heap.size := by rw [hsY]; omega
              have hbw := bthen hb hbY
              have HTk : Hid (TxI1 ⟨{ data := #[110] } ++ strOfNums [97 + (n' : Int) / 26, 97 + (n' : Int) % 26], [(k : Int), t]⟩) := Lib.hid ⟨by show ByteArray.size (_ ++ _) ≤ _; rw [ByteArray.size_append, hz2, hz1]; omega, (by simp), fun y hy => by simp at hy; omega⟩
              clear hsY HRow HIn
              go_wp2_with (at_builtin; refine wpList_row_items rfl _ _ rfl w.heap.size n' (.slice a' n' c') ps Hnl.out (some ⟨wr.heap.size, 0, none⟩) 2 2 _ ⟨{ data := #[110] } ++ strOfNums [97 + (n' : Int) / 26, 97 + (n' : Int) % 26], [(k : Int), t]⟩ rfl (by rfl) HOY.out HP.out hpY (wr.heap.size + 1 + 1) (by rfl) (by simp) (by have := Hnl.out; omega) ?_)
              intro a7 c7 w7 ho7 hb7 hk7 hl7
              have HO7 := Lib.hid ho7
              have hb9 : Below w.heap.size w w7 := hbw.trans hb7
              have HPs7 : Hid ((ps ++ [(Value.slice (some ⟨wr.heap.size, 0, none⟩) 2 2, (⟨{ data := #[110] } ++ strOfNums [97 + (n' : Int) / 26, 97 + (n' : Int) % 26], [(k : Int), t]⟩ : Item))]).length ≤ 61 ∧ ∀ p ∈ ps ++ [(Value.slice (some ⟨wr.heap.size, 0, none⟩) 2 2, (⟨{ data := #[110] } ++ strOfNums [97 + (n' : Int) / 26, 97 + (n' : Int) % 26], [(k : Int), t]⟩ : Item))], TxI1 p.2) := Lib.hid ⟨by have := Hnl.out; simp; omega, fun p hp => by
                rcases List.mem_append.1 hp with h | h
                · exact HPs.out.2 p h
                · rw [List.mem_singleton.1 h]; exact HTk.out⟩
              clear ho7 hb7 hk7 hl7 HO HPs HP HOY hcA hz1 hz2 hbw hbW hbY hpY HTk
              go_wp2
              exact ⟨⟨t - 2, a7, n' + 1, c7, _, by go_num, by omega, by omega, rfl, HPs7, HO7, hb9⟩, by simp [intOf] <;> omega⟩
            · have HO2 := Lib.hid (HO.out.below hbW)
              have hb2 := bthen hb hbW
              clear hnl hbW
              go_wp2
              exact ⟨⟨_, a', n', c', ps, by go_num, by omega, by omega, rfl, HPs, HO2, hb2⟩, by simp [intOf] <;> omega⟩
        · go_wp2
          exact ⟨⟨k + 1, a', n', c', ps, by go_num, hlt, rfl, HPs, HO, hb⟩, by simp [intOf]; omega⟩
    · obtain rfl : k = 16 := by omega
      go_wp2
      go_ret
      exact ⟨a', n', c', ps, rfl, HPs.out, HO.out, hb⟩
end Go.Proofs.YtcgbdhbdlnimhaaGreat

/- DrawI4: lists of items that are seldom no libraries. -/
namespace Go.Proofs.YtcgbdhbdlnimhaaGreat
open Go.ChangeShapes Go.WideShapes Go.ChangeAt Go.RowKit

/-- An item that is short. -/
def ShI (x : Item) : Prop := x.name.size ≤ 20 ∧ x.pattern.length ≤ 13
theorem TxI1.sh {x : Item} (h : TxI1 x) : ShI x := ⟨h.1, h.2.1.2⟩
/-- What is drawn as a list of items. -/
def DrawsIB (b n : Nat) (w : World) (e : Ending) (w' : World) : Prop := ∃ (a : Option Addr) (m c : Nat) (ps : List (Value × Item)), e = .returned (.slice a m c) ∧ (ps.length ≤ 81 ∧ ∀ p ∈ ps, ShI p.2) ∧ RowI w' w.heap.size (.slice a m c) ps ∧ Drew b n w w'
theorem sh_set {ps : List (Value × Item)} {r : Nat} {q : Value × Item} (h : ps.length ≤ 80 ∧ ∀ p ∈ ps, ShI p.2) (hq : ShI q.2) : (ps.set r q).length ≤ 81 ∧ ∀ p ∈ ps.set r q, ShI p.2 :=
  ⟨by rw [List.length_set]; omega, fun p hp => by
    rcases List.mem_or_eq_of_mem_set hp with h1 | rfl
    · exact h.2 p h1
    · exact hq⟩
set_option maxRecDepth 100000 in
set_option maxHeartbeats 4000000 in
theorem l22Bent_c (b n : Nat) (w : World) (h : SrcAt w b n) (hn : n ≤ 800000) : Calls Tryz.prog 42 #[.pointer (some ⟨b, 0, none⟩)] w (DrawsIB b (n + 3000) w) := by
  have HS := Lib.hid h
  have hbl := h.lt
  clear h
  go_enter Tryz.func42, Tryz.ntmps42
  go_wp2_with fail
  refine (one_c b n 24 w HS.out (by omega) (by omega)).mono ?_
  rintro e w1 ⟨d, rfl, hd⟩
  have HD := Lib.hid hd
  have hs1 := hd.2.size
  clear hd HS
  cases d
  · go_wp2_with fail
    refine (l22Draw_c b _ w1 HD.out.1 (by omega)).mono ?_
    rintro e w2 ⟨a, m, c, ps, rfl, hps, ho, hd⟩
    have HO : Hid (RowI w2 w.heap.size (.slice a m c) ps) := Lib.hid (ho.mono hs1)
    have hml := ho.len
    have HPs : Hid (ps.length ≤ 80 ∧ ∀ p ∈ ps, ShI p.2) := Lib.hid ⟨hps.1, fun p hp => (hps.2 p hp).sh⟩
    have hm80 : m ≤ 80 := by have := hps.1; omega
    have Hml := Lib.hid hml
    replace HD := Lib.hid (HD.out.trans hd)
    clear ho hps hd hml
    by_cases h0 : m = 0
    · subst h0
      clear Hml
      go_wp2
      go_ret
      exact ⟨a, 0, c, ps, rfl, ⟨by have := HPs.out.1; omega, HPs.out.2⟩, HO.out, HD.out.mono (by omega)⟩
    have hmp : 0 < m := by omega
    have hm0 : ((m : Int) == 0) = false := beq_eq_false_iff_ne.2 (by omega)
    obtain ⟨g, rfl, hg, hgl⟩ := HO.out.head hmp
    clear hgl h0
    go_wp2_with fail
    refine (pick_c b _ (m : Int) _ HD.out.1 (by omega) (by omega)).mono ?_
    rintro e w3 ⟨r, rfl, hr, hd⟩
    have hrm : r < m := by omega
    replace HO := Lib.hid (HO.out.drew hd hbl)
    replace HD := Lib.hid (HD.out.trans hd)
    clear hd hr
    go_wp2_with fail
    refine (pick_c b _ 20 _ HD.out.1 (by omega) (by omega)).mono ?_
    rintro e w4 ⟨v, rfl, -, hd⟩
    replace HO := Lib.hid (HO.out.drew hd hbl)
    replace HD := Lib.hid (HD.out.trans hd)
    clear hd
    have hrl : r < ps.length := by have := Hml.out; omega
    have hsh := HPs.out.2 _ (mem_nth hrl)
    by_cases h0 : v = 0
    · subst h0
      go_wp2_with fail
      refine (l22Name_c b _ w4 HD.out.1 (by omega)).mono ?_
      rintro e w5 ⟨s, hs, rfl, hd⟩
      replace HO := Lib.hid (HO.out.drew hd hbl)
      replace HD := Lib.hid (HD.out.trans hd)
      clear hd
      have hx0 : w5.cell? ⟨g, r * 2, none⟩ = some (.string (nth ps r).2.name) := (HO.out.cell hrl 0 (by decide)).1
      have hf0 : w5.frozen? ⟨g, r * 2, none⟩ = false := (HO.out.cell hrl 0 (by decide)).2
      have hp := HO.out.2 _ (mem_nth hrl)
      have HO9 : Hid (RowI (w5.setCell ⟨g, r * 2 + 0, none⟩ (.string s)) w.heap.size (.slice (some ⟨g, 0, none⟩) m c) (ps.set r ((nth ps r).1, ⟨s, (nth ps r).2.pattern⟩))) := Lib.hid (HO.out.set hrl 0 (by decide) (.string s) ((nth ps r).1, ⟨s, (nth ps r).2.pattern⟩) rfl ⟨hp.1, hp.2.1, (by show s.size ≤ _; omega), hp.2.2.2⟩)
      have HD9 : Hid (Drew b (n + 3000) w (w5.setCell ⟨g, r * 2 + 0, none⟩ (.string s))) := Lib.hid ((HD.out.thenK ((Below.refl _ _).setCell hg _) hbl).mono (by omega))
      have HPs9 := Lib.hid (sh_set (r := r) (q := ((nth ps r).1, ⟨s, (nth ps r).2.pattern⟩)) HPs.out ⟨by show s.size ≤ 20; omega, hsh.2⟩)
      clear HO HD hp hsh HPs
      go_wp2
      go_ret
      exact ⟨_, _, _, _, rfl, HPs9.out, HO9.out, HD9.out⟩
    have hz0 : ((v : Int) == 0) = false := beq_eq_false_iff_ne.2 (by omega)
    by_cases h1 : v = 1
    · subst h1
      go_wp2_with fail
      refine (l02Bent_c b _ w4 HD.out.1 (by omega)).mono ?_
      rintro e w5 ⟨pa, pn, pc, l, rfl, hl13, hol, hd⟩
      have hs4 := HD.out.2.size
      have hgw : g < w4.heap.size := (HO.out.1.lt g rfl).2
      replace HO := Lib.hid (HO.out.drew hd hbl)
      replace HD := Lib.hid (HD.out.trans hd)
      clear hd
      have hx0 : w5.cell? ⟨g, r * 2 + 1, none⟩ = some (nth ps r).1 := (HO.out.cell hrl 1 (by decide)).1
      have hf0 : w5.frozen? ⟨g, r * 2 + 1, none⟩ = false := (HO.out.cell hrl 1 (by decide)).2
      have hp := HO.out.2 _ (mem_nth hrl)
      obtain ⟨va, vn, vc, hve⟩ := hp.1
      rw [hve] at hx0
      have HP : Hid (PatI w5 w.heap.size (.slice (some ⟨g, 0, none⟩) m c) (.slice pa pn pc, ⟨(nth ps r).2.name, l⟩)) := Lib.hid ⟨⟨_, _, _, rfl⟩, OwnInts.at hol, hp.2.2.1, fun k hk => ⟨by have := (hol.lt k hk).1; omega, (hol.lt k hk).2, fun e => by
        have h1 := (hol.lt k hk).1
        injection e with e
        have e : g = k := e
        omega⟩⟩
      have HO9 : Hid (RowI (w5.setCell ⟨g, r * 2 + 1, none⟩ (.slice pa pn pc)) w.heap.size (.slice (some ⟨g, 0, none⟩) m c) (ps.set r (.slice pa pn pc, ⟨(nth ps r).2.name, l⟩))) := Lib.hid (HO.out.set hrl 1 (by decide) (.slice pa pn pc) (.slice pa pn pc, ⟨(nth ps r).2.name, l⟩) rfl HP.out)
      have HD9 : Hid (Drew b (n + 3000) w (w5.setCell ⟨g, r * 2 + 1, none⟩ (.slice pa pn pc))) := Lib.hid ((HD.out.thenK ((Below.refl _ _).setCell hg _) hbl).mono (by omega))
      have HPs9 := Lib.hid (sh_set (r := r) (q := (.slice pa pn pc, ⟨(nth ps r).2.name, l⟩)) HPs.out ⟨hsh.1, hl13⟩)
      clear HO HD hp hsh HPs HP hol hl13 hve
      go_wp2
      go_ret
      exact ⟨_, _, _, _, rfl, HPs9.out, HO9.out, HD9.out⟩
    have hz1 : ((v : Int) == 1) = false := beq_eq_false_iff_ne.2 (by omega)
    by_cases h2 : v = 2
    · subst h2
      have hm := mem_nth hrl
      have hx0 := (HO.out.cell hrl 0 (by decide)).1
      have hx1 := (HO.out.cell hrl 1 (by decide)).1
      have hpat := HO.out.2 _ hm
      have hs4 := HD.out.2.size
      generalize hqk : nth ps r = qk at *
      obtain ⟨pv, x⟩ := qk
      obtain ⟨pa, pn, pc, hpv⟩ := hpat.1
      dsimp only at hpv
      subst hpv
      have hx0' : w4.cell? ⟨g, r * 2, none⟩ = some (.string x.name) := hx0
      have hx1' : w4.cell? ⟨g, r * 2 + 1, none⟩ = some (.slice pa pn pc) := hx1
      have HP := Lib.hid hpat
      have HSh : Hid (ShI x) := Lib.hid hsh
      clear hx0 hx1 hpat hm hqk hsh hrl
      generalize hnm : x.name = nm at *
      have Hnm := Lib.hid hnm
      clear hnm
      go_wp2_with (at_builtin; refine wpList_row_items rfl _ _ rfl w.heap.size m (.slice (some ⟨g, 0, none⟩) m c) ps Hml.out pa pn pc nm x Hnm.out (by rfl) HO.out HP.out hs4 _ (by rfl) rfl (by have := HPs.out.1; omega) ?_)
      intro a7 c7 w7 ho7 hb7 hk7 hl7
      have HO7 := Lib.hid ho7
      have HD7 := Lib.hid (HD.out.thenK hb7 hbl)
      have HPs7 : Hid ((ps ++ [(Value.slice pa pn pc, x)]).length ≤ 81 ∧ ∀ p ∈ ps ++ [(Value.slice pa pn pc, x)], ShI p.2) := Lib.hid ⟨by have := HPs.out.1; simp; omega, fun p hp => by
        rcases List.mem_append.1 hp with h | h
        · exact HPs.out.2 p h
        · rw [List.mem_singleton.1 h]; exact HSh.out⟩
      clear ho7 hb7 hk7 hl7 HO HD HPs HP hx0' hx1' Hnm
      go_wp2
      go_ret
      exact ⟨_, _, _, _, rfl, HPs7.out, HO7.out, HD7.out.mono (by omega)⟩
    have hz2 : ((v : Int) == 2) = false := beq_eq_false_iff_ne.2 (by omega)
    clear h0 h1 h2
    go_wp2
    go_ret
    exact ⟨_, m, c, ps, rfl, ⟨by have := HPs.out.1; omega, HPs.out.2⟩, HO.out, HD.out.mono (by omega)⟩
  · go_wp2_with fail
    refine (pick_c b _ 2 _ HD.out.1 (by omega) (by omega)).mono ?_
    rintro e w3 ⟨r, rfl, hr, hd⟩
    have hr1 : r ≤ 1 := by omega
    replace HD := Lib.hid (HD.out.trans hd)
    clear hd hr
    have hs3 := HD.out.2.size
    have hwr : IntKind.i64.wrap (60 + (r : Int)) = 60 + (r : Int) := IntWalk.i64_in _ (by omega)
    go_wp2_with fail
    refine (l22Wide_c (60 + (r : Int)) w3 (by omega) (by omega)).mono ?_
    rintro e w4 ⟨a, m, c, ps, rfl, hps, ho, hb⟩
    have HO : Hid (RowI w4 w.heap.size (.slice a m c) ps) := Lib.hid (ho.mono hs3)
    have HPs : Hid (ps.length ≤ 81 ∧ ∀ p ∈ ps, ShI p.2) := Lib.hid ⟨by have := hps.1; omega, fun p hp => (hps.2 p hp).sh⟩
    replace HD := Lib.hid (HD.out.then_below hb)
    clear ho hps hb
    go_wp2
    go_ret
    exact ⟨_, m, c, ps, rfl, HPs.out, HO.out, HD.out.mono (by omega)⟩
end Go.Proofs.YtcgbdhbdlnimhaaGreat
