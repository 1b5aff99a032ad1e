import Derived.Test.YtclffohjpbmnbaaGreatDoorMg34
import Derived.Test.YtclffohjpbmnbaaGreatDoorMg32
import Derived.Lib.AppendStr
import Derived.Test.YtclffohjpbmnbaaGreatDoorMg35
/- BytesT: a text appended to bytes of the call's own. -/
namespace Go.Proofs.YtclffohjpbmnbaaGreatDoor
open Go.ChangeShapes Go.WideShapes Go.ChangeAt Go.RowKit

theorem strCells_chars (s : ByteArray) : Go.Lib.strCells s = (chars s).map (Value.int .u8) := by
  unfold Go.Lib.strCells chars; rw [List.map_map]; rfl
theorem run_app_text {w : World} {ty : TypeId} (base : Nat) (v : Value) (l : List Int) (hown : OwnBytes w base v l) (s : ByteArray) (hsz : l.length + s.size ≤ 140737488355328) (hbase : base ≤ w.heap.size) :
    ∃ a' n' c' w', (Builtin.append_ #[22, 9] ty #[v, .string s]).run Tryz.prog w = .ok (.slice a' n' c') w' ∧ OwnBytes w' base (.slice a' n' c') (l ++ chars s) ∧ w.grownBy w' v.ownBlock := by
  obtain ⟨i0, h1, h2, h3, h4⟩ := info_parts byteInfo
  obtain ⟨v', w', hr, ho, hg, _⟩ := Go.Lib.run_append_own_string (P := Tryz.prog) w base 22 9 ty 5 i0 Tryz.underlying22 Tryz.underlying9 h1 h2 h3 h4 v l.length _ hown s (by unfold maxLen; omega) hsz hbase
  obtain ⟨a', c', rfl⟩ := slice_of_own ho
  refine ⟨a', _, c', w', hr, ?_, hg⟩
  unfold OwnBytes
  rw [List.length_append, chars_len, List.map_append, ← strCells_chars]; exact ho
theorem wp_app_text {w : World} {o : Oper} {a : Act} {K : Act → World → Prop} {Q : Exit → Act → World → Prop} (s x : Operand)
    (ho : o.op = .call { callee := .builtin .append, args := #[s, x], argTypes := #[22, 9] })
    (base : Nat) (v : Value) (l : List Int) (hs : a.eval s = v) (hown : OwnBytes w base v l) (t : ByteArray) (hx : a.eval x = .string t) (hsz : l.length + t.size ≤ 140737488355328) (hbase : base ≤ w.heap.size)
    (h : ∀ a' n' c' w', OwnBytes w' base (.slice a' n' c') (l ++ chars t) → w.grownBy w' v.ownBlock → K (a.put o.dst (.slice a' n' c')) w') : o.wp Tryz.prog a w K Q := by
  obtain ⟨a', n', c', w', hrun, h2, h3⟩ := run_app_text (w := w) (ty := o.type) base v l hown t hsz hbase
  unfold Oper.wp execOp
  simp only [ho, resolve, invoke, builtin, Sem.run_bind, Sem.run_pure, Result.andThen_ok, List.map_toArray, List.map_cons, List.map_nil, hs, hx, hrun]
  exact h a' n' c' w' h2 h3
/-- 'append(out, s...)' at a text. -/
theorem wpList_app_text {w : World} {ops : Array Oper} {rest : List Oper} {o : Oper} {a : Act} {Q : Exit → Act → World → Prop} (hgd : o.guard = none) (s x : Operand)
    (ho : o.op = .call { callee := .builtin .append, args := #[s, x], argTypes := #[22, 9] })
    (base : Nat) (v : Value) (l : List Int) (hs : a.eval s = v) (hown : OwnBytes w base v l) (t : ByteArray) (hx : a.eval x = .string t) (hsz : l.length + t.size ≤ 140737488355328) (hbase : base ≤ w.heap.size)
    (h : ∀ a' n' c' w', OwnBytes w' base (.slice a' n' c') (l ++ chars t) → w.grownBy w' v.ownBlock → wpList Tryz.prog ops Q rest (a.put o.dst (.slice a' n' c')) w') : wpList Tryz.prog ops Q (o :: rest) a w :=
  wpList_plain hgd fun _ hK => wp_app_text s x ho base v l hs hown t hx hsz hbase fun a' n' c' w' h2 h3 => hK _ _ (h a' n' c' w' h2 h3)
theorem step_app_text {w : World} {ops : Array Oper} {o : Oper} {a : Act} {K : Act → World → Prop} {Q : Exit → Act → World → Prop} {E : Prop} (hgd : o.guard = none) (s x : Operand)
    (ho : o.op = .call { callee := .builtin .append, args := #[s, x], argTypes := #[22, 9] })
    (base : Nat) (v : Value) (l : List Int) (hs : a.eval s = v) (hown : OwnBytes w base v l) (t : ByteArray) (hx : a.eval x = .string t) (hsz : l.length + t.size ≤ 140737488355328) (hbase : base ≤ w.heap.size)
    (h : ∀ a' n' c' w', OwnBytes w' base (.slice a' n' c') (l ++ chars t) → w.grownBy w' v.ownBlock → K (a.put o.dst (.slice a' n' c')) w') :
    if Region.wanted o (yielded ops a.tmps) = true then Oper.wp Tryz.prog o a w K Q else E := by
  have hw : Region.wanted o (yielded ops a.tmps) = true := by simp [Region.wanted, hgd]
  rw [if_pos hw]
  exact wp_app_text s x ho base v l hs hown t hx hsz hbase h
end Go.Proofs.YtclffohjpbmnbaaGreatDoor

/- HexD: the digits of a list of throws, by the package impl. -/
namespace Go.Proofs.YtclffohjpbmnbaaGreatDoor
open Go.ChangeShapes Go.WideShapes Go.ChangeAt Go.RowKit

theorem hdstr {r b : ByteArray} {w w' : World} (h : r = b) (hb : Below w.heap.size w w') : Gives (.string r) w (.returned (.string b)) w' := ⟨by rw [h], hb⟩
set_option maxHeartbeats 2000000 in
set_option maxHeartbeats 1000000 in
theorem hexDigits_c (v : Value) (l : List Int) (w : World) (hv : IntsAt w v l) (h15 : ∀ x ∈ l, 0 ≤ x ∧ x ≤ 15) (hl : l.length ≤ 1048576) : Calls Tryz.prog 60 #[v] w (Gives (.string (strOfNums (l.map hexV))) w) := by
  obtain ⟨a, n, cap, rfl, hn, -, hm, hc⟩ := hv
  have Hc := Lib.hid hc; clear hc
  have Hth := Lib.hid h15; clear h15
  have Hn := Lib.hid hn
  have hn20 : n ≤ 1048576 := by omega
  clear hn hl
  go_enter Tryz.func60, Tryz.ntmps60
  go_wp2
  go_loopw [3, 9] (fun s i wr => ∃ (k : Nat) (a' : Option Addr) (n' c' : Nat), i = .int .i64 k ∧ k ≤ n ∧ s = .slice a' n' c' ∧ Hid (OwnBytes wr w.heap.size (.slice a' n' c') ((l.take k).map hexV)) ∧ Below w.heap.size w wr) (fun _ i _ => n - (intOf i).toNat)
  case atStart => exact ⟨0, _, _, _, rfl, Nat.zero_le _, rfl, Lib.hid (own_bytes_empty w), by go_grown⟩
  case round =>
    obtain ⟨k, a', n', c', rfl, hk, rfl, HO, hb⟩ := hrel
    by_cases hlt : k < n
    · have hkl : k < l.length := by rw [← Hn.out]; exact hlt
      obtain ⟨b, o, rfl, hbs, c0⟩ := (Hc.out.below hb) k hkl
      obtain ⟨hx0, hx15⟩ := Hth.out _ (mem_nth hkl)
      have HL : Hid ((l.take (k + 1)).map hexV = (l.take k).map hexV ++ [hexV (nth l k)]) := Lib.hid (by rw [take_nth l k hkl, List.map_append]; rfl)
      have hlen : ((l.take k).map hexV).length ≤ 1048576 := by rw [List.length_map, List.length_take]; omega
      clear hkl
      generalize nth l k = x at *
      have hix := hexIdx x hx0 hx15
      have hbx := hexV_bd hx0 hx15
      generalize hexV x = y at *
      generalize hz : (l.take k).map hexV = z at *
      clear hz
      go_wp2_with (at_builtin; refine wpList_app_bytes rfl _ _ rfl w.heap.size _ _ rfl (HO.out.alloc _) _ _ _ [y] rfl rfl (bytes_new _ _ _) (by simp; omega) (by have := hb.size; simp; omega) ?_)
      intro a2 n2 c2 w2 ho2 hg2 _ _
      have hb2 : Below w.heap.size w w2 := (hb.alloc hb.size _).grown hg2 (by have := hb.size; simp; omega) (fun g hg => (World.ownsRow.lt HO.out g hg).1)
      have HO2 : Hid (OwnBytes w2 w.heap.size (.slice a2 n2 c2) ((l.take (k + 1)).map hexV)) := Lib.hid (by rw [HL.out]; exact ho2)
      clear ho2 hg2 HO HL hix
      go_wp2
      exact ⟨⟨k + 1, a2, n2, c2, by go_num, hlt, rfl, HO2, hb2⟩, by simp [intOf]; omega⟩
    · obtain rfl : k = n := by omega
      have hcv := own_bytes_text HO.out 9 Tryz.underlying9
      rw [Hn.out, List.take_length] at hcv
      go_wp2
      go_ret
      exact hdstr rfl hb
end Go.Proofs.YtclffohjpbmnbaaGreatDoor
