/- ItemRem: RemoveItem, by both packages. -/
import Derived.Test.YthnkhpebaeloeaaItemsCp
import Derived.Test.YthnkhpebaeloeaaItemsS
import Derived.Test.YthnkhpebaeloeaaItemsI
namespace Go.Proofs.Ythnkhpebaeloeaa
open Go.ChangeShapes Go.WideShapes Go.ChangeAt Go.RowKit

def GivesItemsC (l : List Item) (code : Int) (w : World) (e : Ending) (w' : World) : Prop := ∃ a n c, e = .returned (.tuple #[.slice a n c, .int .i64 code]) ∧ OwnItems w' w.heap.size (.slice a n c) l ∧ Below w.heap.size w w'
theorem own_items_nil (w : World) (base : Nat) : OwnItems w base (.slice none 0 0) [] := ⟨[], rfl, World.ownsRow_nil _ _ _ _, fun _ h => absurd h List.not_mem_nil, List.Pairwise.nil⟩
theorem GivesItemsC.none {l : List Item} {c1 c2 : Int} {w w' : World} (h : l = []) (hc : c1 = c2) (hb : Below w.heap.size w w') : GivesItemsC l c1 w (.returned (.tuple #[.slice Option.none 0 0, .int .i64 c2])) w' :=
  ⟨Option.none, 0, 0, by rw [hc], by rw [h]; exact own_items_nil _ _, hb⟩
theorem GivesItemsC.mk {l : List Item} {c1 c2 : Int} {a : Option Addr} {n c : Nat} {w w' : World} (hc : c1 = c2) (ho : OwnItems w' w.heap.size (.slice a n c) l) (hb : Below w.heap.size w w') : GivesItemsC l c1 w (.returned (.tuple #[.slice a n c, .int .i64 c2])) w' :=
  ⟨a, n, c, by rw [hc], ho, hb⟩
theorem OwnNest.mono {α : Type} [Inhabited α] {S : Shape α} {T : TypeId} {w : World} {base base' : Nat} {v : Value} {l : List α} (h : OwnNest S T w base' v l) (hb : base ≤ base') : OwnNest S T w base v l := by
  obtain ⟨ps, h1, h2, h3, h4⟩ := h
  exact ⟨ps, h1, own_mono h2 hb, fun p hp => ⟨(h3 p hp).1, own_mono (h3 p hp).2.1 hb, (h3 p hp).2.2.1, (h3 p hp).2.2.2⟩, h4⟩
theorem nest_at_row {α : Type} [Inhabited α] {S : Shape α} {T : TypeId} {w : World} {base : Nat} {v : Value} {ps : List (Value × α)} (ho : w.ownsRow base T S.k v ps.length (ps.flatMap fun p => S.enc p.1 p.2))
    (hp : ∀ p ∈ ps, (∃ pa pn pc, p.1 = .slice pa pn pc) ∧ IntsAt w p.1 (S.pat p.2) ∧ S.ok p.2) : NestAt S w v (ps.map (·.2)) := by
  have hlt := ho.lt
  have hlen : (ps.map (·.2)).length = ps.length := by simp
  rcases ho.2 with ⟨rfl, h0⟩ | ⟨g, cap, cur, rfl, hb, hg, hnc, hcm, hcs, htake⟩
  · exact ⟨none, 0, 0, rfl, by rw [hlen]; exact h0.symm, Nat.le_refl _, by decide, fun i hi => by omega⟩
  · refine ⟨_, _, _, rfl, hlen.symm, hnc, hcm, fun i hi => ?_⟩
    rw [hlen] at hi
    have hm : nth ps i ∈ ps := mem_nth hi
    obtain ⟨⟨pa, pn, pc, he⟩, hoi, hok⟩ := hp _ hm
    refine ⟨g, 0, pa, pn, pc, rfl, (hlt g rfl).2, ?_, ?_, fun j hj => ?_⟩
    · rw [nth_map _ _ _ hi]; exact hok
    · rw [nth_map _ _ _ hi, ← he]; exact hoi
    · have h1 : i * S.k + j < ps.length * S.k := by
        have : (i + 1) * S.k ≤ ps.length * S.k := Nat.mul_le_mul_right _ hi
        rw [Nat.succ_mul] at this; omega
      have h2 := ho.cellAt (i * S.k + j) h1
      rw [Nat.zero_add, h2, nth_map _ _ _ hi, ← he]
      exact flat_at (fun p : Value × α => S.enc p.1 p.2) S.k (fun p => S.len p.1 p.2) ps i hi j hj
def remL (l : List Item) (s : ByteArray) : List Item := if okItems l then (if findI (isNm s) l < 0 then [] else l.take (findI (isNm s) l).toNat ++ l.drop ((findI (isNm s) l).toNat + 1)) else []
def remCode (l : List Item) (s : ByteArray) : Int := if okItems l then (if findI (isNm s) l < 0 then 3 else 0) else 1
theorem remL_ok (l : List Item) (s : ByteArray) : (remL l s).length ≤ 1048576 ∧ ∀ x ∈ remL l s, x.pattern.length ≤ 1048576 := by
  unfold remL
  split
  · rename_i h
    have h60 := okItems_len h
    have hp := okItems_pat h
    have hq : ∀ x ∈ l, x.pattern.length ≤ 1048576 := fun x hx => by have := (okPat_len (hp x hx)).2; omega
    split
    · exact ⟨by simp, fun x hx => absurd hx List.not_mem_nil⟩
    · refine ⟨by simp; omega, fun x hx => ?_⟩
      rcases List.mem_append.1 hx with h1 | h1
      · exact hq x (List.mem_of_mem_take h1)
      · exact hq x (List.mem_of_mem_drop h1)
  · exact ⟨by simp, fun x hx => absurd hx List.not_mem_nil⟩
theorem items_front {W : World} {a : Option Addr} {l : List Item} {n k cap : Nat} (h : NestC itemS W a l) (hn : n = l.length) (hk : k ≤ n) (hc : n ≤ cap) (hm : cap ≤ 9223372036854775807) : ItemsAt W (.slice a k cap) (l.take k) :=
  ⟨a, k, cap, rfl, by rw [List.length_take]; omega, by omega, hm, nest_take h k⟩
theorem items_back {W : World} {a : Option Addr} {l : List Item} {n k cap : Nat} (h : NestC itemS W a l) (hn : n = l.length) (hc : n ≤ cap) (hm : cap ≤ 9223372036854775807) : ItemsAt W (.slice (a.map fun x => x.add (k * 2)) (n - k) (cap - k)) (l.drop k) :=
  ⟨_, _, _, rfl, by rw [List.length_drop]; omega, by omega, by omega, nest_drop h k⟩
theorem items_none (W : World) (a : Option Addr) (c : Nat) (hc : c ≤ 9223372036854775807) : ItemsAt W (.slice a 0 c) [] := ⟨a, 0, c, rfl, rfl, Nat.zero_le _, hc, fun _ hi => absurd hi (Nat.not_lt_zero _)⟩
theorem reads_none' (w : World) (a : Option Addr) : Reads w w.heap.size 2 a 0 ([] : List Value) := ⟨rfl, fun h => absurd h (Nat.lt_irrefl _)⟩

theorem NestIn.len {α : Type} [Inhabited α] {S : Shape α} {T : TypeId} {w : World} {lo hi n c : Nat} {a : Option Addr} {ps : List (Value × α)} (h : NestIn S T w lo hi (.slice a n c) ps) : n = ps.length := by
  obtain ⟨a', c', e⟩ := slice_of_own h.row.1
  injection e
theorem NestIn.reads' {α : Type} [Inhabited α] {S : Shape α} {T : TypeId} {w : World} {lo hi n c : Nat} {a : Option Addr} {ps : List (Value × α)} (h : NestIn S T w lo hi (.slice a n c) ps) : Reads w w.heap.size S.k a n (ps.flatMap fun p => S.enc p.1 p.2) := by
  have e := h.len; subst e; exact h.reads
theorem NestIn.slices {α : Type} [Inhabited α] {S : Shape α} {T : TypeId} {w : World} {lo hi : Nat} {v : Value} {ps : List (Value × α)} (h : NestIn S T w lo hi v ps) : ∀ p ∈ ps, ∃ pa pn pc, p.1 = .slice pa pn pc := by
  intro p hp
  obtain ⟨i, hi', rfl⟩ := List.getElem_of_mem hp
  rw [← nth_eq ps i hi']; exact h.sl i hi'
end Go.Proofs.Ythnkhpebaeloeaa
