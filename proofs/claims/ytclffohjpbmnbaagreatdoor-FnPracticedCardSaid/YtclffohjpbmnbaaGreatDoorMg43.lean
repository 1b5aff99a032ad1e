import Derived.Test.YtclffohjpbmnbaaGreatDoorMg40
import Derived.Test.YtclffohjpbmnbaaGreatDoorMg19
import Derived.Test.YtclffohjpbmnbaaGreatDoorMg3
/- NestB: rows of lists while a source is drawn from. -/
namespace Go.Proofs.YtclffohjpbmnbaaGreatDoor
open Go.ChangeShapes Go.WideShapes Go.ChangeAt Go.RowKit

theorem nest_drew {α : Type} [Inhabited α] {S : Shape α} {T : TypeId} {w w' : World} {b n base : Nat} {v : Value} {l : List α} (h : OwnNest S T w base v l) (hd : Drew b n w w') (hb : b < base) : OwnNest S T w' base v l :=
  (InNest.turned (InNest.of h) hd.2 (.inr hb)).own
theorem ownLen {α : Type} [Inhabited α] {S : Shape α} {T : TypeId} {w : World} {base n c : Nat} {a : Option Addr} {l : List α} (h : OwnNest S T w base (.slice a n c) l) : n = l.length := by
  obtain ⟨_, _, _, e, hn, _⟩ := OwnNest.at h
  injection e with _ e2 _
  rw [e2]; exact hn
theorem ownFar {α : Type} [Inhabited α] {S : Shape α} {T : TypeId} {w : World} {base : Nat} {v : Value} {l : List α} (h : OwnNest S T w base v l) : ∀ g, v.ownBlock = some g → base ≤ g := by
  obtain ⟨ps, _, h2, _⟩ := h
  exact fun g hg => (World.ownsRow.lt h2 g hg).1
end Go.Proofs.YtclffohjpbmnbaaGreatDoor

/- NestA: rows of attempts that are drawn one after the other. -/
namespace Go.Proofs.YtclffohjpbmnbaaGreatDoor
open Go.ChangeShapes Go.WideShapes Go.ChangeAt Go.RowKit

theorem attNewD (w : World) (u : Value) (x : Int) (d : Bool) (t : TypeId) : Reads (w.alloc (.cells #[u, .int .i64 x, .bool d] t)) (w.alloc (.cells #[u, .int .i64 x, .bool d] t)).heap.size 3 (some ⟨w.heap.size, 0, none⟩) 1 [u, .int .i64 x, .bool d] := by
  refine ⟨rfl, fun _ => ⟨_, rfl, by simp, fun j x hx => ?_⟩⟩
  have ea : (⟨w.heap.size, 0, none⟩ : Addr).add j = ⟨w.heap.size, j, none⟩ := by unfold Addr.add; split <;> simp_all
  rw [ea, World.cell?_alloc_at _ _ _ _ rfl]
  simpa using hx
/-- '[]impl.Attempt{}'. -/
theorem own_attsD (w : World) : OwnAtts (w.alloc (.cells #[] 103)) w.heap.size (.slice (some ⟨w.heap.size, 0, none⟩) 0 0) [] :=
  ⟨[], rfl, World.ownsRow_lit w #[] 0 (Nat.le_refl _) (by decide) rfl, fun _ h => absurd h List.not_mem_nil, List.Pairwise.nil⟩
/-- 'append(out, impl.Attempt{..})' at a pattern that has been made since. -/
theorem wpList_snoc_atts {W0 W1 : World} {ops : Array Oper} {rest : List Oper} {o : Oper} {a : Act} {Q : Exit → Act → World → Prop} (hgd : o.guard = none) (s y : Operand)
    (ho : o.op = .call { callee := .builtin .append, args := #[s, y], argTypes := #[43, 43] })
    (P b k : Nat) (v : Value) (l : List Att) (pa : Option Addr) (pn pc : Nat) (x : List Int) (ct : Int) (dr : Bool) (hs : a.eval s = v) (hown : OwnAtts W0 P v l) (hd : Drew b k W0 W1) (hbP : b < P) (hP : P ≤ W0.heap.size) (hx : OwnInts W1 W0.heap.size (.slice pa pn pc) x)
    (g : Nat) (hy : a.eval y = .slice (some ⟨g, 0, none⟩) 1 1) (hg0 : g = W1.heap.size) (hsz : l.length ≤ 1000000)
    (h : ∀ a' n' c' w', OwnAtts w' P (.slice a' n' c') (l ++ [⟨x, ct, dr⟩]) → Below P W1 w' → n' = l.length + 1 → wpList Tryz.prog ops Q rest (a.put o.dst (.slice a' n' c')) w') : wpList Tryz.prog ops Q (o :: rest) a (W1.alloc (.cells #[.slice pa pn pc, .int .i64 ct, .bool dr] 103)) := by
  subst hg0
  obtain ⟨i0, h1, h2, h3, h4⟩ := info_parts attInfo
  have hs1 := hd.2.size
  have hfar := ownFar hown
  obtain ⟨ps, hps, hin⟩ := InNest.turned (InNest.of hown) hd.2 (.inr hbP)
  have hin2 := hin.below ((Below.refl W1.heap.size W1).alloc (Nat.le_refl _) (.cells #[.slice pa pn pc, .int .i64 ct, .bool dr] 103))
  have hxi := (InInts.of hx).below ((Below.refl W1.heap.size W1).alloc (Nat.le_refl _) (.cells #[.slice pa pn pc, .int .i64 ct, .bool dr] 103))
  have hpl : ps.length = l.length := by rw [← hps]; simp
  refine wpList_append_any _ hgd s y 43 ho P 103 i0 _ 3 40 Tryz.underlying43 h1 h2 h3 h4 rfl (by decide) v ps.length _ hs hin2.row.1 _ _ 1 1 [.slice pa pn pc, .int .i64 ct, .bool dr] hy (attNewD _ _ _ _ _) (by intro u hu; simp at hu; rcases hu with rfl | rfl | rfl <;> rfl) (by unfold maxLen; omega) (by omega) (by simp; omega) ?_
  intro v' w' hown' hg hb
  obtain ⟨a', c', rfl⟩ := slice_of_own hown'
  have hr := nest_snoc (x := (⟨x, ct, dr⟩ : Att)) hin2 hxi hP ⟨_, _, _, rfl⟩ trivial (by simp; omega) hown' hg hb
  rw [hps] at hr
  exact h a' _ c' w' hr (((Below.refl _ _).alloc (by omega) _).grown hg (by simp; omega) hfar) (by rw [hpl])
end Go.Proofs.YtclffohjpbmnbaaGreatDoor
