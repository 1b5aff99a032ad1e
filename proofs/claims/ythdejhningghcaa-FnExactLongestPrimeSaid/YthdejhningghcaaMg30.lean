import Derived.Test.YthdejhningghcaaMg29
/- Prac0: rows of lists in memory, told by the values of their elements. -/
namespace Go.Proofs.Ythdejhningghcaa
open Go.ChangeShapes Go.WideShapes Go.ChangeAt Go.RowKit

def RowP (w : World) (base : Nat) (v : Value) (ps : List (Value × List Int)) : Prop :=
  w.ownsRow base 35 1 v ps.length (ps.map (·.1)) ∧ (∀ p ∈ ps, (∃ pa pn pc, p.1 = .slice pa pn pc) ∧ OwnInts w base p.1 p.2 ∧ ∀ g, p.1.ownBlock = some g → v.ownBlock ≠ some g) ∧ ps.Pairwise (fun p q => ∀ g, p.1.ownBlock = some g → q.1.ownBlock ≠ some g)
theorem flat_fst (ps : List (Value × List Int)) : ps.flatMap (fun p => intssS.enc p.1 p.2) = ps.map (·.1) := by
  induction ps with
  | nil => rfl
  | cons x t ih => rw [List.flatMap_cons, ih]; rfl
section
variable {w w' : World} {base : Nat} {v : Value} {ps : List (Value × List Int)}
theorem RowP.own (h : RowP w base v ps) : OwnIntss w base v (ps.map (·.2)) := by
  refine ⟨ps, rfl, ?_, fun p hp => ⟨(h.2.1 p hp).1, (h.2.1 p hp).2.1, trivial, (h.2.1 p hp).2.2⟩, h.2.2⟩
  rw [flat_fst, List.length_map]; exact h.1
theorem RowP.below (h : RowP w base v ps) (hb : Below w.heap.size w w') : RowP w' base v ps :=
  ⟨own_below h.1 hb, fun p hp => ⟨(h.2.1 p hp).1, own_below (h.2.1 p hp).2.1 hb, (h.2.1 p hp).2.2⟩, h.2.2⟩
theorem RowP.len {a : Option Addr} {n c : Nat} (h : RowP w base (.slice a n c) ps) : n = ps.length := by
  obtain ⟨_, _, e⟩ := slice_of_own h.1
  injection e
theorem RowP.cap {a : Option Addr} {n c : Nat} (h : RowP w base (.slice a n c) ps) : n ≤ c := by
  rcases h.1.2 with ⟨e, h0⟩ | ⟨g, cap, cur, e, _, _, hnc, _⟩
  · injection e with _ e2 e3; omega
  · injection e with _ e2 e3; omega
theorem RowP.head {a : Option Addr} {n c : Nat} (h : RowP w base (.slice a n c) ps) (h0 : 0 < n) : ∃ g, a = some ⟨g, 0, none⟩ ∧ base ≤ g ∧ g < w.heap.size := by
  have hl := h.len
  obtain ⟨g, cap, e, h1, h2⟩ := h.1.form (by omega)
  injection e with e1
  exact ⟨g, e1, h1, h2⟩
theorem RowP.cell {g n c : Nat} (h : RowP w base (.slice (some ⟨g, 0, none⟩) n c) ps) (k : Nat) (hk : k < ps.length) : w.cell? ⟨g, k, none⟩ = some (nth (ps.map (·.1)) k) := by
  have hl := h.len
  subst hl
  rw [h.1.cellAt k (by omega), nth_get? _ _ (by simpa using hk)]
theorem RowP.ints (h : RowP w base v ps) (k : Nat) (hk : k < ps.length) : (∃ pa pn pc, nth (ps.map (·.1)) k = .slice pa pn pc) ∧ IntsAt w (nth (ps.map (·.1)) k) (nth (ps.map (·.2)) k) := by
  have e1 : nth (ps.map (·.1)) k = ps[k].1 := by rw [nth_eq _ _ (by simpa using hk), List.getElem_map]
  have e2 : nth (ps.map (·.2)) k = ps[k].2 := by rw [nth_eq _ _ (by simpa using hk), List.getElem_map]
  rw [e1, e2]
  obtain ⟨h1, h2, -⟩ := h.2.1 _ (List.getElem_mem hk)
  exact ⟨h1, OwnInts.at h2⟩
theorem RowP.reads {a : Option Addr} {n c : Nat} (h : RowP w base (.slice a n c) ps) (i j : Nat) (hij : i + j ≤ n) : Reads w w.heap.size 1 (a.map fun x => x.add i) j (((ps.drop i).take j).map (·.1)) := by
  have hl := h.len
  refine ⟨by simp; omega, fun hj => ?_⟩
  obtain ⟨g, rfl, -, hg⟩ := h.head (by omega)
  have ea : ∀ z, (⟨g, 0, none⟩ : Addr).add z = ⟨g, z, none⟩ := fun z => by unfold Addr.add; split <;> simp_all
  refine ⟨⟨g, i, none⟩, by rw [Option.map_some, ea], hg, fun z u hz => ?_⟩
  have eb : (⟨g, i, none⟩ : Addr).add z = ⟨g, i + z, none⟩ := by unfold Addr.add; split <;> simp_all
  have hzj : z < j ∧ z < ps.length - i := by
    have := (List.getElem?_eq_some_iff.1 hz).1
    simp at this; omega
  have hc := h.cell (i + z) (by omega)
  rw [eb, hc, nth_eq _ _ (by simp; omega), List.getElem_map]
  rw [List.getElem?_map, List.getElem?_take, if_pos hzj.1, List.getElem?_drop, List.getElem?_eq_getElem (by omega)] at hz
  exact hz
theorem RowP.one (h : RowP w base v ps) (qs : List (Value × List Int)) (hq : ∀ q ∈ qs, q ∈ ps) : ∀ u ∈ qs.map (·.1), u.oneCell' = true := by
  intro u hu
  obtain ⟨q, hq', rfl⟩ := List.mem_map.1 hu
  obtain ⟨pa, pn, pc, e⟩ := (h.2.1 q (hq q hq')).1
  rw [e]; rfl
/-- A row made anew, with one more list in its place. -/
theorem RowP.put {v' xv : Value} {x : List Int} {p : Nat} (h : RowP w base v ps) (hx : OwnInts w base xv x) (hxs : ∃ pa pn pc, xv = .slice pa pn pc) (hfr : ∀ q ∈ ps, ∀ g, q.1.ownBlock = some g → xv.ownBlock ≠ some g)
    (hb : Below w.heap.size w w') (hrow : w'.ownsRow w.heap.size 35 1 v' (ps.length + 1) ((ps.take p ++ (xv, x) :: ps.drop p).map (·.1))) (hbase : base ≤ w.heap.size) : RowP w' base v' (ps.take p ++ (xv, x) :: ps.drop p) := by
  have hp : (ps.take p ++ (xv, x) :: ps.drop p).Perm ((xv, x) :: ps) := by
    refine List.perm_middle.trans ?_
    rw [List.take_append_drop]
  have hlen : (ps.take p ++ (xv, x) :: ps.drop p).length = ps.length + 1 := by rw [hp.length_eq]; rfl
  have hall : ∀ q ∈ ps.take p ++ (xv, x) :: ps.drop p, (∃ pa pn pc, q.1 = .slice pa pn pc) ∧ OwnInts w base q.1 q.2 := by
    intro q hq
    rcases List.mem_cons.1 (hp.mem_iff.1 hq) with rfl | hq
    · exact ⟨hxs, hx⟩
    · exact ⟨(h.2.1 q hq).1, (h.2.1 q hq).2.1⟩
  refine ⟨by rw [hlen]; exact own_mono hrow hbase, fun q hq => ⟨(hall q hq).1, own_below (hall q hq).2 hb, fun g hg e => ?_⟩, ?_⟩
  · have h1 := ((hall q hq).2.lt g hg).2
    have h2 := (hrow.lt g e).1
    omega
  · refine (List.Perm.pairwise_iff (fun {a b} hab g hg e => hab g e hg) hp).2 (List.pairwise_cons.2 ⟨fun q hq g hg e => hfr q hq g e hg, h.2.2⟩)
end
theorem rowP_empty (w : World) : RowP (w.alloc (.cells #[] 35)) w.heap.size (.slice (some ⟨w.heap.size, 0, none⟩) 0 0) [] :=
  ⟨World.ownsRow_lit w #[] 0 (Nat.le_refl _) (by decide) rfl, fun _ h => absurd h List.not_mem_nil, List.Pairwise.nil⟩
theorem listInfoP : (Try.prog.info? 35).map (fun i => (i.zero, i.size, i.bytes)) = some (some (.slice none 0 0), 1, 24) := by kernel_rfl
/-- 'append(out, lists..)'. -/
theorem wpList_app_lists {w : World} {ops : Array Oper} {rest : List Oper} {o : Oper} {a : Act} {Q : Exit → Act → World → Prop} (hgd : o.guard = none) (s x : Operand)
    (ho : o.op = .call { callee := .builtin .append, args := #[s, x], argTypes := #[22, 22] })
    (base : Nat) (v : Value) (n : Nat) (xs : List Value) (hs : a.eval s = v) (hown : w.ownsRow base 35 1 v n xs)
    (A : Option Addr) (m c : Nat) (news : List Value) (hx : a.eval x = .slice A m c) (hr : Reads w w.heap.size 1 A m news) (h1 : ∀ u ∈ news, u.oneCell' = true)
    (hsz : n + m ≤ 1073741824) (hbase : base ≤ w.heap.size)
    (h : ∀ a' n' c' w', n' = n + m → w'.ownsRow base 35 1 (.slice a' n' c') (n + m) (xs ++ news) → w.grownBy w' v.ownBlock → ((Value.slice a' n' c').ownBlock = v.ownBlock ∨ (Value.slice a' n' c').ownBlock = some w.heap.size) → wpList Try.prog ops Q rest (a.put o.dst (.slice a' n' c')) w') :
    wpList Try.prog ops Q (o :: rest) a w := by
  obtain ⟨i0, hi, hz0, hz1, hz2⟩ := info_parts listInfoP
  refine wpList_append_any w hgd s x 22 ho base 35 i0 _ 1 24 Try.underlying22 hi hz0 hz1 hz2 rfl (by decide) v n xs hs hown w.heap.size A m c news hx hr h1 (by unfold maxLen; omega) (by omega) hbase ?_
  intro v' w' hown' hg hb
  obtain ⟨a', c', rfl⟩ := slice_of_own hown'
  exact h a' _ c' w' rfl hown' hg hb
theorem step_app_lists {w : World} {ops : Array Oper} {o : Oper} {a : Act} {K : Act → World → Prop} {Q : Exit → Act → World → Prop} {E : Prop} (hgd : o.guard = none) (s x : Operand)
    (ho : o.op = .call { callee := .builtin .append, args := #[s, x], argTypes := #[22, 22] })
    (base : Nat) (v : Value) (n : Nat) (xs : List Value) (hs : a.eval s = v) (hown : w.ownsRow base 35 1 v n xs)
    (A : Option Addr) (m c : Nat) (news : List Value) (hx : a.eval x = .slice A m c) (hr : Reads w w.heap.size 1 A m news) (h1 : ∀ u ∈ news, u.oneCell' = true)
    (hsz : n + m ≤ 1073741824) (hbase : base ≤ w.heap.size)
    (h : ∀ a' n' c' w', n' = n + m → w'.ownsRow base 35 1 (.slice a' n' c') (n + m) (xs ++ news) → w.grownBy w' v.ownBlock → ((Value.slice a' n' c').ownBlock = v.ownBlock ∨ (Value.slice a' n' c').ownBlock = some w.heap.size) → K (a.put o.dst (.slice a' n' c')) w') :
    if Region.wanted o (yielded ops a.tmps) = true then Oper.wp Try.prog o a w K Q else E := by
  obtain ⟨i0, hi, hz0, hz1, hz2⟩ := info_parts listInfoP
  refine step_append_any w hgd s x 22 ho base 35 i0 _ 1 24 Try.underlying22 hi hz0 hz1 hz2 rfl (by decide) v n xs hs hown w.heap.size A m c news hx hr h1 (by unfold maxLen; omega) (by omega) hbase ?_
  intro v' w' hown' hg hb
  obtain ⟨a', c', rfl⟩ := slice_of_own hown'
  exact h a' _ c' w' rfl hown' hg hb
theorem oneList (w : World) (u : Value) (t : TypeId) : Reads (w.alloc (.cells #[u] t)) (w.alloc (.cells #[u] t)).heap.size 1 (some ⟨w.heap.size, 0, none⟩) 1 [u] := by
  refine ⟨rfl, fun _ => ⟨_, rfl, by simp, fun j x hx => ?_⟩⟩
  have ea : (⟨w.heap.size, 0, none⟩ : Addr).add j = ⟨w.heap.size, j, none⟩ := by unfold Addr.add; split <;> simp_all
  rw [ea, World.cell?_alloc_at _ _ _ _ rfl]
  simpa using hx
end Go.Proofs.Ythdejhningghcaa
