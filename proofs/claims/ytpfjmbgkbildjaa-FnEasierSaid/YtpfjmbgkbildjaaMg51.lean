import Derived.Test.YtpfjmbgkbildjaaMg46
import Derived.Test.YtpfjmbgkbildjaaMg30
import Derived.Test.YtpfjmbgkbildjaaMg33
/- NestD: rows of lists that are drawn one after the other. -/
namespace Go.Proofs.Ytpfjmbgkbildjaa
open Go.ChangeShapes Go.WideShapes Go.ChangeAt Go.RowKit

theorem nest_drew {α : Type} [Inhabited α] {S : Shape α} {T : TypeId} {w w' : World} {b n base : Nat} {v : Value} {l : List α} (h : OwnNest S T w base v l) (hd : Drew b n w w') (hb : b < base) : OwnNest S T w' base v l :=
  (InNest.turned (InNest.of h) hd.2 (.inr hb)).own
theorem intssInfoD : (Try.prog.info? 24).map (fun i => (i.zero, i.size, i.bytes)) = some (some (.slice none 0 0), 1, 24) := by kernel_rfl
theorem one_reads (w : World) (u : Value) (t : TypeId) : Reads (w.alloc (.cells #[u] t)) (w.alloc (.cells #[u] t)).heap.size 1 (some ⟨w.heap.size, 0, none⟩) 1 [u] := by
  refine ⟨rfl, fun _ => ⟨_, rfl, by simp, fun j x hx => ?_⟩⟩
  have ea : (⟨w.heap.size, 0, none⟩ : Addr).add j = ⟨w.heap.size, j, none⟩ := by unfold Addr.add; split <;> simp_all
  rw [ea, World.cell?_alloc_at _ _ _ _ rfl]
  simpa using hx
/-- '[][]int64{}'. -/
theorem own_lists_empty (w : World) : OwnIntss (w.alloc (.cells #[] 24)) w.heap.size (.slice (some ⟨w.heap.size, 0, none⟩) 0 0) [] :=
  ⟨[], rfl, World.ownsRow_lit w #[] 0 (Nat.le_refl _) (by decide) rfl, fun _ h => absurd h List.not_mem_nil, List.Pairwise.nil⟩
theorem ownLen {α : Type} [Inhabited α] {S : Shape α} {T : TypeId} {w : World} {base n c : Nat} {a : Option Addr} {l : List α} (h : OwnNest S T w base (.slice a n c) l) : n = l.length := by
  obtain ⟨_, _, _, e, hn, _⟩ := OwnNest.at h
  injection e with _ e2 _
  rw [e2]; exact hn
theorem ownFar {α : Type} [Inhabited α] {S : Shape α} {T : TypeId} {w : World} {base : Nat} {v : Value} {l : List α} (h : OwnNest S T w base v l) : ∀ g, v.ownBlock = some g → base ≤ g := by
  obtain ⟨ps, _, h2, _⟩ := h
  exact fun g hg => (World.ownsRow.lt h2 g hg).1
/-- 'append(out, list)' at a list that has been made since. -/
theorem wpList_snoc_lists {W0 W1 : World} {ops : Array Oper} {rest : List Oper} {o : Oper} {a : Act} {Q : Exit → Act → World → Prop} (hgd : o.guard = none) (s y : Operand)
    (ho : o.op = .call { callee := .builtin .append, args := #[s, y], argTypes := #[35, 35] })
    (P b k : Nat) (v : Value) (l : List (List Int)) (pa : Option Addr) (pn pc : Nat) (x : List Int) (hs : a.eval s = v) (hown : OwnIntss W0 P v l) (hd : Drew b k W0 W1) (hbP : b < P) (hP : P ≤ W0.heap.size) (hx : OwnInts W1 W0.heap.size (.slice pa pn pc) x)
    (g : Nat) (hy : a.eval y = .slice (some ⟨g, 0, none⟩) 1 1) (hg0 : g = W1.heap.size) (hsz : l.length ≤ 1000000)
    (h : ∀ a' n' c' w', OwnIntss w' P (.slice a' n' c') (l ++ [x]) → Below P W1 w' → n' = l.length + 1 → wpList Try.prog ops Q rest (a.put o.dst (.slice a' n' c')) w') : wpList Try.prog ops Q (o :: rest) a (W1.alloc (.cells #[.slice pa pn pc] 24)) := by
  subst hg0
  obtain ⟨i0, h1, h2, h3, h4⟩ := info_parts intssInfoD
  have hs1 := hd.2.size
  have hfar := ownFar hown
  obtain ⟨ps, hps, hin⟩ := InNest.turned (InNest.of hown) hd.2 (.inr hbP)
  have hin2 := hin.below ((Below.refl W1.heap.size W1).alloc (Nat.le_refl _) (.cells #[.slice pa pn pc] 24))
  have hxi := (InInts.of hx).below ((Below.refl W1.heap.size W1).alloc (Nat.le_refl _) (.cells #[.slice pa pn pc] 24))
  have hpl : ps.length = l.length := by rw [← hps]; simp
  refine wpList_append_any _ hgd s y 35 ho P 24 i0 _ 1 24 Try.underlying35 h1 h2 h3 h4 rfl (by decide) v ps.length _ hs hin2.row.1 _ _ 1 1 [.slice pa pn pc] hy (one_reads _ _ _) (by intro u hu; simp at hu; subst hu; rfl) (by unfold maxLen; omega) (by omega) (by simp; omega) ?_
  intro v' w' hown' hg hb
  obtain ⟨a', c', rfl⟩ := slice_of_own hown'
  have hr := nest_snoc (x := x) hin2 hxi hP ⟨_, _, _, rfl⟩ trivial (by simp; omega) hown' hg hb
  rw [hps] at hr
  exact h a' _ c' w' hr (((Below.refl _ _).alloc (by omega) _).grown hg (by simp; omega) hfar) (by rw [hpl])
end Go.Proofs.Ytpfjmbgkbildjaa
