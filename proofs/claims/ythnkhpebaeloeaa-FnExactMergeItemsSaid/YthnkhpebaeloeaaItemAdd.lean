/- ItemAdd: a library with one item more, by both packages. -/
import Derived.Test.YthnkhpebaeloeaaItemPut
import Derived.Test.YthnkhpebaeloeaaItemAsk
namespace Go.Proofs.Ythnkhpebaeloeaa
open Go.ChangeShapes Go.WideShapes Go.ChangeAt Go.RowKit

/-- Names that are put in order: one list alone is in order. -/
theorem names_one {β : Type} [Inhabited β] (nm : β → ByteArray) {l l' : List β} (hp : l'.Perm l) (ha : Asc (ltN nm) l') (hd : ∀ a ∈ l, ∀ b ∈ l, nm a = nm b → a = b) {m : List β} (hm : m.Perm l) (hma : Asc (ltN nm) m) : l' = m := by
  refine asc_unique ha hma (hp.trans hm.symm) ?_
  intro a ha' b hb' h1 h2
  exact hd a (hp.mem_iff.1 ha') b (hp.mem_iff.1 hb') (lessB_anti h1 h2)
theorem pw_dist {β : Type} [Inhabited β] (nm : β → ByteArray) {l : List β} (h : l.Pairwise (fun a b => lessB (nm a) (nm b) = true)) : ∀ a ∈ l, ∀ b ∈ l, nm a = nm b → a = b := by
  intro a ha b hb hab
  have hir : ∀ s, lessB s s = false := fun s => (swo_ltN (id : ByteArray → ByteArray)).irrefl s
  obtain ⟨i, hi, rfl⟩ := List.getElem_of_mem ha
  obtain ⟨j, hj, rfl⟩ := List.getElem_of_mem hb
  rcases Nat.lt_trichotomy i j with h1 | h1 | h1
  · have := (List.pairwise_iff_getElem.1 h) i j hi hj h1
    rw [hab, hir] at this; exact absurd this (by decide)
  · subst h1; rfl
  · have := (List.pairwise_iff_getElem.1 h) j i hj hi h1
    rw [hab, hir] at this; exact absurd this (by decide)
theorem pw_asc {β : Type} (nm : β → ByteArray) {l : List β} (h : l.Pairwise (fun a b => lessB (nm a) (nm b) = true)) : Asc (ltN nm) l := List.Pairwise.imp (fun h => lessB_asym' h) h
theorem dist_snoc {β : Type} [Inhabited β] (nm : β → ByteArray) {l : List β} {x : β} (hd : ∀ a ∈ l, ∀ b ∈ l, nm a = nm b → a = b) (hx : ∀ a ∈ l, nm a ≠ nm x) : ∀ a ∈ l ++ [x], ∀ b ∈ l ++ [x], nm a = nm b → a = b := by
  intro a ha b hb hab
  simp only [List.mem_append, List.mem_singleton] at ha hb
  rcases ha with ha | rfl <;> rcases hb with hb | rfl
  · exact hd a ha b hb hab
  · exact absurd hab (hx a ha)
  · exact absurd hab.symm (hx b hb)
  · rfl
theorem own_block {w w' : World} {base : Nat} {e : TypeId} {size : Nat} {v : Value} {n : Nat} {xs : List Value} (h : w.ownsRow base e size v n xs) (hk : ∀ g, v.ownBlock = some g → w'.heap[g]? = w.heap[g]?) : w'.ownsRow base e size v n xs := by
  refine ⟨h.1, ?_⟩
  rcases h.2 with h2 | ⟨g, cap, cur, hv, hg, hh, r⟩
  · exact .inl h2
  · exact .inr ⟨g, cap, cur, hv, hg, by rw [hk g (by rw [hv]; rfl)]; exact hh, r⟩
abbrev SlItem := (Option Addr × Nat × Nat) × Item
def slF (q : SlItem) : Value × Item := (.slice q.1.1 q.1.2.1 q.1.2.2, q.2)
theorem slices_map : ∀ (ps : List (Value × Item)), (∀ p ∈ ps, ∃ pa pn pc, p.1 = .slice pa pn pc) → ∃ qs : List SlItem, qs.map slF = ps
  | [], _ => ⟨[], rfl⟩
  | p :: ps, h => by
    obtain ⟨pa, pn, pc, e⟩ := h p (List.mem_cons_self ..)
    obtain ⟨qs, hq⟩ := slices_map ps (fun q hq => h q (List.mem_cons_of_mem _ hq))
    refine ⟨((pa, pn, pc), p.2) :: qs, ?_⟩
    rw [List.map_cons, hq]
    congr 1
    obtain ⟨v, x⟩ := p
    dsimp only at e
    subst e; rfl
theorem slF_flat (qs : List SlItem) : (qs.map slF).flatMap (fun p => itemS.enc p.1 p.2) = qs.flatMap (fun q => itemS.enc (slF q).1 (slF q).2) := by
  rw [List.flatMap_map]
set_option maxHeartbeats 1000000 in
theorem itemLess : LessN 128 2 := by
  intro blk c B size W G hs hc i j hi hj
  have ci := hc i hi
  have cj := hc j hj
  clear hc
  go_enter Try.func128, Try.ntmps128
  go_wp2
  go_quiet (fail)
  go_wp2
  go_ret
  exact ⟨rfl, nq, rfl⟩
set_option maxHeartbeats 1000000 in
theorem sortItems_c (a : Option Addr) (n c : Nat) (l : List Item) (w : World) (base : Nat) (hO : OwnItems w base (.slice a n c) l) (hl : l.length ≤ 1000000) (hb : base ≤ w.heap.size) :
    Calls Try.prog 91 #[.slice a n c] w (fun e w' => e = .returned (.slice a n c) ∧ ∃ l' : List Item, l'.Perm l ∧ Asc (ltN Item.name) l' ∧ OwnItems w' base (.slice a n c) l' ∧ Below base w w') := by
  obtain ⟨ps, hps, hrow, hpp, hpd⟩ := hO
  obtain ⟨qs, rfl⟩ := slices_map ps (fun p hp => (hpp p hp).1)
  have hlen : l.length = qs.length := by rw [← hps]; simp
  have hn : n = l.length := by
    obtain ⟨_, _, e⟩ := slice_of_own hrow
    injection e
  have hB : BoxIs (w.alloc (.cells #[.slice a n c] 45)) w.heap.size [.slice a n c] := BoxIs.new w [.slice a n c] 45
  rw [← hn] at hrow
  have HS := Lib.hid (sortItems_k (fun q : SlItem => itemS.enc (slF q).1 (slF q).2) (fun _ => rfl) (fun p v hv => by
      simp only [itemS, List.mem_cons, List.not_mem_nil, or_false] at hv
      rcases hv with rfl | rfl
      · rfl
      · rfl) (fun p => p.2.name) (fun _ => rfl) 128 (enters_of Try.func128 (by kernel_rfl) rfl) itemLess a n c w.heap.size base qs _ (by rw [slF_flat] at hrow; exact hrow.alloc _) (by rw [hn, hlen]) hB (fun x hx => by
    subst hx; have := (World.ownsRow.lt hrow x.block rfl).2; omega) (by omega))
  have HR := Lib.hid hrow; have HPp := Lib.hid hpp; have HPd := Lib.hid hpd; have Hps := Lib.hid hps; have Hn := Lib.hid hn
  clear hrow hpp hpd hps hn hB hlen hl
  go_enter Try.func91, Try.ntmps91
  go_wp2_with fail
  refine HS.out.mono ?_
  rintro e w2 ⟨rfl, qs', p1, p2, o2, hB2, hb2, -, hk2⟩
  have hx0 := hB2.2.1 0
  have HF : Hid (∃ l' : List Item, l'.Perm l ∧ Asc (ltN Item.name) l' ∧ OwnItems w2 base (.slice a n c) l' ∧ Below base w w2) := Lib.hid (by
    refine ⟨(qs'.map slF).map (·.2), ?_, ?_, ⟨qs'.map slF, rfl, ?_, fun p hp => ?_, ?_⟩, ?_⟩
    · rw [← Hps.out]; exact (p1.map _).map _
    · unfold Asc at p2 ⊢
      rw [List.pairwise_map, List.pairwise_map]; exact p2
    · rw [List.length_map, List.length_map, p1.length_eq]
      have : qs.length = n := by rw [Hn.out, ← Hps.out]; simp
      rw [this, slF_flat]; exact o2
    · obtain ⟨q1, q2, q3, q4⟩ := HPp.out p ((p1.map slF).mem_iff.1 hp)
      refine ⟨q1, own_block (World.ownsRow.alloc q2 (.cells #[.slice a n c] 45)) (fun g hg => hk2 g ?_ ?_), q3, q4⟩
      · have := (World.ownsRow.lt q2 g hg).2; simp; omega
      · intro x hx; subst hx
        intro e; exact q4 g hg (by subst e; rfl)
    · refine (List.Perm.pairwise_iff ?_ (p1.map slF)).2 HPd.out
      intro x y h g hy hx
      exact h g hx hy
    · exact (Below.refl _ _ |>.alloc hb _).trans (hb2 _ (Nat.le_refl _) (by simp; omega)))
  clear hk2 hb2 hB2 o2 p2 p1 HS
  go_wp2
  go_ret
  exact ⟨rfl, HF.out⟩
end Go.Proofs.Ythnkhpebaeloeaa
