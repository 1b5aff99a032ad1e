import Derived.Test.YtcgbdhbdlnimhaaGreatMg13
import Derived.Test.YtcgbdhbdlnimhaaGreatMg14
import Derived.Test.YtcgbdhbdlnimhaaGreatMg1
import Derived.Test.YtcgbdhbdlnimhaaGreatMg17
/- SrcM: the memory of a source of choices: its box, and what is kept while it is drawn from. -/
namespace Go.Proofs.YtcgbdhbdlnimhaaGreat
open Go.ChangeShapes Go.WideShapes Go.ChangeAt Go.RowKit

/-- The source in block b: at most n choices have been drawn. -/
def SrcAt (w : World) (b n : Nat) : Prop :=
  ∃ (a : Option Addr) (m c : Nat) (cs : List Int) (k : Nat) (sd : Int), k ≤ n ∧ m ≤ 4096 ∧ m = cs.length ∧ BoxIs w b [.slice a m c, .int .i64 k, .int .u64 sd] ∧ BytesC w a cs ∧ (∀ x ∈ cs, 0 ≤ x ∧ x ≤ 255) ∧ (0 < cs.length → ∀ b' o, a = some ⟨b', o, none⟩ → b' < b) ∧ 0 ≤ sd ∧ sd ≤ 18446744073709551615
theorem SrcAt.mono {w : World} {b n n' : Nat} (h : SrcAt w b n) (hn : n ≤ n') : SrcAt w b n' := by
  obtain ⟨a, m, c, cs, k, sd, h1, h2⟩ := h
  exact ⟨a, m, c, cs, k, sd, by omega, h2⟩
theorem SrcAt.lt {w : World} {b n : Nat} (h : SrcAt w b n) : b < w.heap.size := by
  obtain ⟨a, m, c, cs, k, sd, h1, h2, h3, h4, _⟩ := h
  exact h4.1
theorem SrcAt.below {w w' : World} {b n : Nat} (h : SrcAt w b n) (hb : Below w.heap.size w w') : SrcAt w' b n := by
  obtain ⟨a, m, c, cs, k, sd, h1, h2, h3, h4, h5, h6⟩ := h
  exact ⟨a, m, c, cs, k, sd, h1, h2, h3, h4.below hb, h5.below hb, h6⟩
theorem SrcAt.turned {w w' : World} {b n lo hi : Nat} (h : SrcAt w b n) (ht : Turned lo hi w w') (hb : b < lo) (hc : ∀ a m c cs k sd, BoxIs w b [.slice a m c, .int .i64 k, .int .u64 sd] → BytesC w a cs → BytesC w' a cs) : SrcAt w' b n := by
  obtain ⟨a, m, c, cs, k, sd, h1, h2, h3, h4, h5, h6⟩ := h
  refine ⟨a, m, c, cs, k, sd, h1, h2, h3, ⟨Nat.lt_of_lt_of_le h4.1 ht.size, fun j => ?_, fun j => ?_⟩, hc _ _ _ _ _ _ h4 h5, h6⟩
  · exact (World.cell?_of_block (a := ⟨b, j, none⟩) (ht.block b h4.1 (.inl hb))).trans (h4.2.1 j)
  · exact (World.frozen?_of_block (a := ⟨b, j, none⟩) (ht.block b h4.1 (.inl hb))).trans (h4.2.2 j)
/-- Choices have been drawn from the source in block b; nothing else that was there has turned. -/
def Drew (b n : Nat) (w w' : World) : Prop := SrcAt w' b n ∧ Turned b (b + 1) w w'
theorem Drew.trans {b n n' : Nat} {w w1 w2 : World} (h : Drew b n w w1) (k : Drew b n' w1 w2) : Drew b n' w w2 := ⟨k.1, h.2.trans k.2⟩
theorem Drew.then_below {b n : Nat} {w w1 w2 : World} (h : Drew b n w w1) (k : Below w1.heap.size w1 w2) : Drew b n w w2 := ⟨h.1.below k, h.2.then_below k⟩
theorem Drew.mono {b n n' : Nat} {w w' : World} (h : Drew b n w w') (hn : n ≤ n') : Drew b n' w w' := ⟨h.1.mono hn, h.2⟩
theorem Drew.refl {b n : Nat} {w : World} (h : SrcAt w b n) : Drew b n w w := ⟨h, Turned.refl _⟩
theorem Drew.of_below {b n : Nat} {w w' : World} (h : SrcAt w b n) (k : Below w.heap.size w w') : Drew b n w w' := ⟨h.below k, Turned.of_below k⟩
theorem Drew.below {b n : Nat} {w w' : World} (h : Drew b n w w') (hb : b ≤ w.heap.size) : Below b w w' := h.2.below (Nat.le_refl _) hb
/-- Rows made behind the source stay while it is drawn from. -/
theorem own_drew {w w' : World} {b n base : Nat} {e : TypeId} {size : Nat} {v : Value} {k : Nat} {xs : List Value} (h : w.ownsRow base e size v k xs) (hd : Drew b n w w') (hb : b < base) : w'.ownsRow base e size v k xs :=
  own_turned h hd.2 (fun g hg => by have := (World.ownsRow.lt h g hg).1; omega)
theorem IntsAt.drew {w w' : World} {b n : Nat} {v : Value} {l : List Int} (h : IntsAt w v l) (hd : Drew b n w w') (hv : 0 < l.length → ∀ b' o m c, v = .slice (some ⟨b', o, none⟩) m c → b' ≠ b) : IntsAt w' v l := by
  obtain ⟨a, m, c, rfl, h1, h2, h3, hc⟩ := h
  refine ⟨a, m, c, rfl, h1, h2, h3, fun i hi => ?_⟩
  obtain ⟨b', o, rfl, hs, c0⟩ := hc i hi
  have hne := hv (by omega) b' o m c rfl
  have hk := hd.2.block b' hs (by omega)
  exact ⟨b', o, rfl, Nat.lt_of_lt_of_le hs hd.2.size, (World.cell?_of_block (a := ⟨b', o + i, none⟩) hk).trans c0⟩
/-- A number between two bounds, drawn. -/
def DrawsI (b n : Nat) (lo hi : Int) (w : World) (e : Ending) (w' : World) : Prop := ∃ r : Int, e = .returned (.int .i64 r) ∧ lo ≤ r ∧ r ≤ hi ∧ Drew b n w w'
def DrawsB (b n : Nat) (w : World) (e : Ending) (w' : World) : Prop := ∃ r : Bool, e = .returned (.bool r) ∧ Drew b n w w'
/-- A list of numbers, drawn. -/
def DrawsL (b n : Nat) (P : List Int → Prop) (w : World) (e : Ending) (w' : World) : Prop := ∃ (a : Option Addr) (m c : Nat) (l : List Int), e = .returned (.slice a m c) ∧ P l ∧ OwnInts w' w.heap.size (.slice a m c) l ∧ Drew b n w w'
end Go.Proofs.YtcgbdhbdlnimhaaGreat

/- F6S: the group laws' own helps at lists of texts. -/
namespace Go.Proofs.YtcgbdhbdlnimhaaGreat
open Go.ChangeShapes Go.WideShapes Go.ChangeAt Go.RowKit

theorem eqT_self (l : List ByteArray) : same2 eqStrB l l = true := by
  induction l with
  | nil => rfl
  | cons x l ih => simp [same2, eqStrB, ih]
set_option maxHeartbeats 1000000 in
theorem f6texts_c (v u : Value) (l m : List ByteArray) (w : World) (hv : StrsAt w v l) (hu : StrsAt w u m) :
    Calls Tryz.prog 36 #[v, u] w (Gives (.bool (same2 eqStrB l m)) w) := by
  obtain ⟨a, n, cap, rfl, hn, hl, hm, hc⟩ := hv
  obtain ⟨a', n', cap', rfl, hn', hl', hm', hc'⟩ := hu
  have Hc := Lib.hid hc; clear hc
  have Hc' := Lib.hid hc'; clear hc'
  have Hn := Lib.hid hn; clear hn
  have Hn' := Lib.hid hn'; clear hn'
  by_cases hnm : n = n'
  · subst hnm
    go_enter Tryz.func36, Tryz.ntmps36
    go_wp2
    go_loopw [5] (fun i wr => ∃ k : Nat, i = .int .i64 k ∧ k ≤ n ∧ Hid (same2 eqStrB l m = same2 eqStrB (l.drop k) (m.drop k)) ∧ Below w.heap.size w wr) (fun i _ => n - (intOf i).toNat)
    case atStart => exact ⟨0, rfl, Nat.zero_le _, Lib.hid rfl, Below.refl _ _⟩
    case round =>
      obtain ⟨k, rfl, hk, HS, hb⟩ := hrel
      by_cases hlt : k < n
      · obtain ⟨b, o, rfl, hbs, c0⟩ := (Hc.out.below hb) k (by rw [← Hn.out]; exact hlt)
        obtain ⟨b', o', rfl, hbs', d0⟩ := (Hc'.out.below hb) k (by rw [← Hn'.out]; exact hlt)
        have HT := Lib.hid (HS.out.trans (same2_step eqStrB l m k (by rw [← Hn.out]; exact hlt) (by rw [← Hn'.out]; exact hlt)))
        clear HS
        have m2 := beq_bytes (nth l k) (nth m k)
        have HD : Hid (eqStrB (nth l k) (nth m k) = decide (nth l k = nth m k)) := Lib.hid rfl
        have k0 := cell_regrown c0
        have l0 := cell_regrown d0
        clear c0 d0
        generalize hbd : decide (nth l k = nth m k) = bd at *
        clear hbd
        generalize nth l k = x at *
        generalize nth m k = y at *
        cases bd
        all_goals
          go_wp2
          refine wp_region_quiet_below (by kernel_rfl) (by kernel_rfl) ?_
          repeat (first | go_big_quiet_step (fail) | quiet_step (fail))
          refine wpQuiet_nil ?_
          intro _ hw'
          obtain ⟨⟨dq, osq⟩, hw''⟩ := hw'
          subst hw''
          have hbq := below_regrown wr dq osq
          generalize Go.Sort.grow (redrawn wr dq) osq = wq at *
          have hb2 := bthen hb hbq
          go_wp2
        · go_ret
          exact Gives.bool (by rw [HT.out, HD.out]; rfl) hb2
        · exact ⟨⟨k + 1, by go_num, hlt, Lib.hid (by rw [HT.out, HD.out]; rfl), hb2⟩, by simp [intOf]; omega⟩
      · go_wp2
        go_ret
        exact Gives.bool (by rw [HS.out, drop_end l k n Hn.out (by omega), drop_end m k n Hn'.out (by omega)]; rfl) hb
  · go_enter Tryz.func36, Tryz.ntmps36
    go_wp2
    go_ret
    exact Gives.bool (same2_len eqStrB l m (by rw [← Hn.out, ← Hn'.out]; exact hnm)) (Below.refl _ _)

end Go.Proofs.YtcgbdhbdlnimhaaGreat
