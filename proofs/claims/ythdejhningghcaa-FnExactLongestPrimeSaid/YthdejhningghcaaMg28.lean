import Derived.Test.YthdejhningghcaaMg27
/- NestApp: appending to a row whose elements hold a list of numbers each. -/
namespace Go.Proofs.Ythdejhningghcaa
open Go.ChangeShapes Go.WideShapes Go.ChangeAt Go.RowKit

section
variable {α : Type} [Inhabited α] {S : Shape α} {T : TypeId} {w w' : World} {lo hi hi2 : Nat} {v v' pv : Value} {l : List α} {ps : List (Value × α)} {x : α}
theorem own_kept {base : Nat} {e : TypeId} {size : Nat} {u : Value} {n : Nat} {xs : List Value} {row : Option Nat} (h : w.ownsRow base e size u n xs) (hg : w.grownBy w' row) (hne : ∀ g, u.ownBlock = some g → row ≠ some g) : w'.ownsRow base e size u n xs :=
  h.kept hg (by
    cases hu : u.ownBlock with
    | none => simp
    | some g => simpa using fun e => hne g hu e.symm)
theorem nest_snoc (h : NestIn S T w lo hi v ps) (hin : InInts w hi hi2 pv (S.pat x)) (hlo : lo ≤ hi) (hsl : ∃ pa pn pc, pv = .slice pa pn pc) (hok : S.ok x) (hsz : hi ≤ w.heap.size)
    (hrow : w'.ownsRow lo T S.k v' (ps.length + 1) ((ps.flatMap fun p => S.enc p.1 p.2) ++ S.enc pv x)) (hg : w.grownBy w' v.ownBlock) (hloc : v'.ownBlock = v.ownBlock ∨ v'.ownBlock = some w.heap.size) :
    OwnNest S T w' lo v' (ps.map (·.2) ++ [x]) := by
  have hlt : ∀ i, i < ps.length → ∀ g, (nth ps i).1.ownBlock = some g → g < hi := fun i hi' g hg' => (h.pat i hi').2 g hg'
  have hpv : ∀ g, pv.ownBlock = some g → hi ≤ g ∧ g < w.heap.size := fun g hg' => hin.1.lt g hg'
  refine ⟨ps ++ [(pv, x)], by simp, ?_, ?_, ?_⟩
  · rw [List.flatMap_append, List.length_append, List.length_map]
    simpa using hrow
  · intro p hp
    rcases List.mem_append.1 hp with hp | hp
    · obtain ⟨i, hi', rfl⟩ := List.getElem_of_mem hp
      rw [← nth_eq ps i hi']
      refine ⟨h.sl i hi', own_kept (h.pat i hi').1 hg (fun g hg' => h.far i hi' g hg'), h.ok i hi', fun g hg' => ?_⟩
      rcases hloc with e | e
      · rw [e]; exact h.far i hi' g hg'
      · rw [e]
        have := hlt i hi' g hg'
        intro e2
        injection e2 with e2
        omega
    · obtain rfl := List.mem_singleton.1 hp
      refine ⟨hsl, own_mono (own_kept hin.1 hg fun g hg' => ?_) hlo, hok, fun g hg' => ?_⟩
      · intro e
        have h1 := h.row.2 g e
        have h2 := (hpv g hg').1
        omega
      · have h2 := hpv g hg'
        rcases hloc with e | e
        · rw [e]
          intro e2
          have h1 := h.row.2 g e2
          omega
        · rw [e]
          intro e2
          injection e2 with e2
          omega
  · rw [List.pairwise_append]
    refine ⟨?_, List.pairwise_singleton _ _, fun p hp q hq g hg' => ?_⟩
    · rw [List.pairwise_iff_getElem]
      intro i j hi' hj' hij g hg'
      have := h.dis i j hi' hj' (by omega) g (by rw [nth_eq ps i hi']; exact hg')
      rwa [nth_eq ps j hj'] at this
    · obtain rfl := List.mem_singleton.1 hq
      obtain ⟨i, hi', rfl⟩ := List.getElem_of_mem hp
      rw [← nth_eq ps i hi'] at hg'
      intro e
      have h1 := hlt i hi' g hg'
      have h2 := (hpv g e).1
      omega
/-- Two rows, the second later made than the first, appended. -/
theorem nest_append {qs : List (Value × α)} {u : Value} (h : NestIn S T w lo hi v ps) (hq : NestIn S T w hi hi2 u qs) (hlo : lo ≤ hi) (hsz : hi ≤ w.heap.size)
    (hrow : w'.ownsRow lo T S.k v' (ps.length + qs.length) ((ps.flatMap fun p => S.enc p.1 p.2) ++ (qs.flatMap fun p => S.enc p.1 p.2))) (hg : w.grownBy w' v.ownBlock) (hloc : v'.ownBlock = v.ownBlock ∨ v'.ownBlock = some w.heap.size) :
    OwnNest S T w' lo v' (ps.map (·.2) ++ qs.map (·.2)) := by
  have hlt : ∀ i, i < ps.length → ∀ g, (nth ps i).1.ownBlock = some g → g < hi := fun i hi' g hg' => (h.pat i hi').2 g hg'
  have hqv : ∀ i, i < qs.length → ∀ g, (nth qs i).1.ownBlock = some g → hi ≤ g ∧ g < w.heap.size := fun i hi' g hg' => (hq.pat i hi').1.lt g hg'
  refine ⟨ps ++ qs, by simp, ?_, ?_, ?_⟩
  · rw [List.flatMap_append, List.length_append, List.length_map, List.length_map]
    exact hrow
  · intro p hp
    rcases List.mem_append.1 hp with hp | hp
    · obtain ⟨i, hi', rfl⟩ := List.getElem_of_mem hp
      rw [← nth_eq ps i hi']
      refine ⟨h.sl i hi', own_kept (h.pat i hi').1 hg (fun g hg' => h.far i hi' g hg'), h.ok i hi', fun g hg' => ?_⟩
      rcases hloc with e | e
      · rw [e]; exact h.far i hi' g hg'
      · rw [e]
        have := hlt i hi' g hg'
        intro e2
        injection e2 with e2
        omega
    · obtain ⟨i, hi', rfl⟩ := List.getElem_of_mem hp
      rw [← nth_eq qs i hi']
      refine ⟨hq.sl i hi', own_mono (own_kept (hq.pat i hi').1 hg fun g hg' => ?_) hlo, hq.ok i hi', fun g hg' => ?_⟩
      · intro e
        have h1 := h.row.2 g e
        have h2 := (hqv i hi' g hg').1
        omega
      · have h2 := hqv i hi' g hg'
        rcases hloc with e | e
        · rw [e]
          intro e2
          have h1 := h.row.2 g e2
          omega
        · rw [e]
          intro e2
          injection e2 with e2
          omega
  · rw [List.pairwise_append]
    refine ⟨?_, ?_, fun p hp q hq' g hg' => ?_⟩
    · rw [List.pairwise_iff_getElem]
      intro i j hi' hj' hij g hg'
      have := h.dis i j hi' hj' (by omega) g (by rw [nth_eq ps i hi']; exact hg')
      rwa [nth_eq ps j hj'] at this
    · rw [List.pairwise_iff_getElem]
      intro i j hi' hj' hij g hg'
      have := hq.dis i j hi' hj' (by omega) g (by rw [nth_eq qs i hi']; exact hg')
      rwa [nth_eq qs j hj'] at this
    · obtain ⟨i, hi', rfl⟩ := List.getElem_of_mem hp
      obtain ⟨j, hj', rfl⟩ := List.getElem_of_mem hq'
      rw [← nth_eq ps i hi'] at hg'
      rw [← nth_eq qs j hj']
      intro e
      have h1 := hlt i hi' g hg'
      have h2 := (hqv j hj' g e).1
      omega
/-- A row of such elements, shallow: the lists lie wherever they lie. -/
theorem nest_reads {a : Option Addr} (h : NestC S w a l) : ∃ ps : List (Value × α), ps.map (·.2) = l ∧ Reads w w.heap.size S.k a l.length (ps.flatMap fun p => S.enc p.1 p.2) ∧ ∀ p ∈ ps, (∃ pa pn pc, p.1 = .slice pa pn pc) ∧ IntsAt w p.1 (S.pat p.2) ∧ S.ok p.2 := by
  have hex : ∀ i : Fin l.length, ∃ pv : Value, (∃ pa pn pc, pv = .slice pa pn pc) ∧ IntsAt w pv (S.pat (nth l i)) ∧ S.ok (nth l i) ∧ ∃ b o, a = some ⟨b, o, none⟩ ∧ b < w.heap.size ∧ ∀ j, j < S.k → w.cell? ⟨b, o + i * S.k + j, none⟩ = (S.enc pv (nth l i))[j]? := by
    intro i
    obtain ⟨b, o, pa, pn, pc, ha, hb, hok, hp, hc⟩ := h i i.2
    exact ⟨_, ⟨_, _, _, rfl⟩, hp, hok, b, o, ha, hb, hc⟩
  obtain ⟨f, hf⟩ := Classical.axiomOfChoice hex
  clear hex
  refine ⟨List.ofFn fun i => (f i, nth l i), ?_, ?_, ?_⟩
  · apply List.ext_getElem?
    intro i
    by_cases hi : i < l.length
    · rw [List.getElem?_map, List.getElem?_eq_getElem (by simpa using hi), List.getElem_ofFn, nth_get? l i hi]; rfl
    · rw [List.getElem?_eq_none (by simpa using hi), List.getElem?_eq_none (by omega)]
  · have hlen : (List.ofFn fun i : Fin l.length => (f i, nth l i)).length = l.length := by simp
    refine ⟨by rw [flat_len (fun p : Value × α => S.enc p.1 p.2) S.k (fun p => S.len p.1 p.2), hlen], fun hn => ?_⟩
    obtain ⟨b, o, ha, hb, _⟩ := (hf ⟨0, hn⟩).2.2.2
    refine ⟨_, ha, hb, fun j u hu => ?_⟩
    have hk : 0 < S.k := by
      rcases Nat.eq_zero_or_pos S.k with e | e
      · have h1 := flat_len (fun p : Value × α => S.enc p.1 p.2) S.k (fun p => S.len p.1 p.2) (List.ofFn fun i : Fin l.length => (f i, nth l i))
        rw [e, Nat.mul_zero] at h1
        rw [List.eq_nil_of_length_eq_zero h1] at hu
        simp at hu
      · exact e
    have hj := (List.getElem?_eq_some_iff.1 hu).1
    rw [flat_len (fun p : Value × α => S.enc p.1 p.2) S.k (fun p => S.len p.1 p.2), hlen] at hj
    have hi : j / S.k < l.length := Nat.div_lt_of_lt_mul (by rw [Nat.mul_comm]; exact hj)
    have hm : j % S.k < S.k := Nat.mod_lt _ hk
    have he : j / S.k * S.k + j % S.k = j := by rw [Nat.mul_comm]; exact Nat.div_add_mod j S.k
    have h2 := flat_at (fun p : Value × α => S.enc p.1 p.2) S.k (fun p => S.len p.1 p.2) (List.ofFn fun i : Fin l.length => (f i, nth l i)) (j / S.k) (by rw [hlen]; exact hi) (j % S.k) hm
    rw [he, hu, nth_eq _ _ (by rw [hlen]; exact hi), List.getElem_ofFn] at h2
    obtain ⟨b', o', ha', _, hc⟩ := (hf ⟨j / S.k, hi⟩).2.2.2
    rw [ha] at ha'
    cases ha'
    have h3 := hc (j % S.k) hm
    have ea : (⟨b, o, none⟩ : Addr).add j = ⟨b, o + j, none⟩ := by unfold Addr.add; split <;> simp_all
    rw [ea, show o + j = o + j / S.k * S.k + j % S.k by omega, h3, h2]
  · intro p hp
    obtain ⟨i, hi, rfl⟩ := List.getElem_of_mem hp
    rw [List.getElem_ofFn]
    have := hf ⟨i, by simpa using hi⟩
    exact ⟨this.1, this.2.1, this.2.2.1⟩
theorem NestIn.reads {n c : Nat} {a : Option Addr} (h : NestIn S T w lo hi (.slice a n c) ps) : Reads w w.heap.size S.k a ps.length (ps.flatMap fun p => S.enc p.1 p.2) := by
  refine ⟨flat_len (fun p : Value × α => S.enc p.1 p.2) S.k (fun p => S.len p.1 p.2) ps, fun hn => ?_⟩
  obtain ⟨g, cap, he, h1, h2⟩ := h.row.1.form hn
  injection he with ha hn' _
  subst ha hn'
  refine ⟨_, rfl, h2, fun j u hu => ?_⟩
  have hj := (List.getElem?_eq_some_iff.1 hu).1
  rw [flat_len (fun p : Value × α => S.enc p.1 p.2) S.k (fun p => S.len p.1 p.2)] at hj
  have ea : (⟨g, 0, none⟩ : Addr).add j = ⟨g, j, none⟩ := by unfold Addr.add; split <;> simp_all
  rw [ea, h.row.1.cellAt j hj]; exact hu
theorem nest_take {a : Option Addr} (h : NestC S w a l) (k : Nat) : NestC S w a (l.take k) := by
  intro i hi
  have hi' : i < k ∧ i < l.length := by rw [List.length_take] at hi; omega
  have e : nth (l.take k) i = nth l i := by rw [nth_eq _ _ hi, nth_eq l i hi'.2, List.getElem_take]
  rw [e]; exact h i hi'.2
theorem nest_drop {a : Option Addr} (h : NestC S w a l) (k : Nat) : NestC S w (a.map fun x => x.add (k * S.k)) (l.drop k) := by
  intro i hi
  have hi' : k + i < l.length := by rw [List.length_drop] at hi; omega
  have e : nth (l.drop k) i = nth l (k + i) := by rw [nth_eq _ _ hi, nth_eq l _ hi', List.getElem_drop]
  obtain ⟨b, o, pa, pn, pc, ha, hb, hok, hp, hc⟩ := h (k + i) hi'
  have ea : (⟨b, o, none⟩ : Addr).add (k * S.k) = ⟨b, o + k * S.k, none⟩ := by unfold Addr.add; split <;> simp_all
  rw [e]
  refine ⟨b, o + k * S.k, pa, pn, pc, by rw [ha]; simp [ea], hb, hok, hp, fun j hj => ?_⟩
  rw [← hc j hj]
  congr 3
  rw [Nat.add_mul]; omega
end
end Go.Proofs.Ythdejhningghcaa
