import Derived.Test.YtkggjejcajcppaaGreatMg40
/- NestR: a row of attempts whose patterns lie elsewhere. -/
namespace Go.Proofs.YtkggjejcajcppaaGreat
open Go.ChangeShapes Go.WideShapes Go.ChangeAt Go.RowKit

theorem nestAtRow {α : Type} [Inhabited α] {S : Shape α} {T : TypeId} {w : World} {base : Nat} {v : Value} {ps : List (Value × α)} (ho : w.ownsRow base T S.k v ps.length (ps.flatMap fun p => S.enc p.1 p.2))
    (hp : ∀ p ∈ ps, (∃ pa pn pc, p.1 = .slice pa pn pc) ∧ IntsAt w p.1 (S.pat p.2) ∧ S.ok p.2) : NestAt S w v (ps.map (·.2)) := by
  have hlt := ho.lt
  have hlen : (ps.map (·.2)).length = ps.length := by simp
  rcases ho.2 with ⟨rfl, h0⟩ | ⟨g, cap, cur, rfl, hb, hg, hnc, hcm, hcs, htake⟩
  · exact ⟨none, 0, 0, rfl, by rw [hlen]; exact h0.symm, Nat.le_refl _, by decide, fun i hi => by omega⟩
  · refine ⟨_, _, _, rfl, hlen.symm, hnc, hcm, fun i hi => ?_⟩
    rw [hlen] at hi
    have hm : nth ps i ∈ ps := mem_nth hi
    obtain ⟨⟨pa, pn, pc, he⟩, hoi, hok⟩ := hp _ hm
    refine ⟨g, 0, pa, pn, pc, rfl, (hlt g rfl).2, ?_, ?_, fun j hj => ?_⟩
    · rw [nth_map _ _ _ hi]; exact hok
    · rw [nth_map _ _ _ hi, ← he]; exact hoi
    · have h1 : i * S.k + j < ps.length * S.k := by
        have : (i + 1) * S.k ≤ ps.length * S.k := Nat.mul_le_mul_right _ hi
        rw [Nat.succ_mul] at this; omega
      have h2 := ho.cellAt (i * S.k + j) h1
      rw [Nat.zero_add, h2, nth_map _ _ _ hi, ← he]
      exact flat_at (fun p : Value × α => S.enc p.1 p.2) S.k (fun p => S.len p.1 p.2) ps i hi j hj
/-- The cells of attempts whose patterns are known by value. -/
def attRow (ps : List (Value × Att)) : List Value := ps.flatMap fun p => attS.enc p.1 p.2
theorem attRow_snoc (ps : List (Value × Att)) (p : Value × Att) : attRow (ps ++ [p]) = attRow ps ++ [p.1, .int .i64 p.2.catches, .bool p.2.dropped] := by
  unfold attRow
  rw [List.flatMap_append]; simp [attS]
/-- 'append(out, x)' at an attempt whose pattern lies elsewhere. -/
theorem wpList_row_atts {W1 : World} {ops : Array Oper} {rest : List Oper} {o : Oper} {a : Act} {Q : Exit → Act → World → Prop} (hgd : o.guard = none) (s y : Operand)
    (ho : o.op = .call { callee := .builtin .append, args := #[s, y], argTypes := #[24, 24] })
    (P n : Nat) (v : Value) (ps : List (Value × Att)) (hn : n = ps.length) (u : Value) (hu : ∃ pa pn pc, u = .slice pa pn pc) (ct : Int) (dr : Bool) (x : Att) (hx : x.catches = ct ∧ x.dropped = dr) (hs : a.eval s = v) (hown : W1.ownsRow P 38 3 v n (attRow ps)) (hP : P ≤ W1.heap.size)
    (g : Nat) (hy : a.eval y = .slice (some ⟨g, 0, none⟩) 1 1) (hg0 : g = W1.heap.size) (hsz : ps.length ≤ 1000000)
    (h : ∀ a' c' w', w'.ownsRow P 38 3 (.slice a' (n + 1) c') (n + 1) (attRow (ps ++ [(u, x)])) → Below P W1 w' → wpList Tryz.prog ops Q rest (a.put o.dst (.slice a' (n + 1) c')) w') : wpList Tryz.prog ops Q (o :: rest) a (W1.alloc (.cells #[u, .int .i64 ct, .bool dr] 38)) := by
  subst hg0 hn
  obtain ⟨i0, h1, h2, h3, h4⟩ := info_parts attInfo
  obtain ⟨pa, pn, pc, rfl⟩ := hu
  have hown2 := hown.alloc (.cells #[.slice pa pn pc, .int .i64 ct, .bool dr] 38)
  refine wpList_append_any _ hgd s y 24 ho P 38 i0 _ 3 40 Tryz.underlying24 h1 h2 h3 h4 rfl (by decide) v ps.length _ hs hown2 _ _ 1 1 [.slice pa pn pc, .int .i64 ct, .bool dr] hy (attNewD _ _ _ _ _) (by intro z hz; simp at hz; rcases hz with rfl | rfl | rfl <;> rfl) (by unfold maxLen; omega) (by omega) (by simp; omega) ?_
  intro v' w' hown' hg hb
  obtain ⟨a', c', rfl⟩ := slice_of_own hown'
  have e : attRow (ps ++ [(.slice pa pn pc, x)]) = attRow ps ++ [.slice pa pn pc, .int .i64 ct, .bool dr] := by rw [attRow_snoc]; dsimp only; rw [hx.1, hx.2]
  exact h a' c' w' (by rw [e]; exact hown') (((Below.refl _ _).alloc (by omega) _).grown hg (by simp; omega) (fun g hg' => (hown2.lt g hg').1))
end Go.Proofs.YtkggjejcajcppaaGreat
