import Derived.Test.YtkggjejcajcppaaGreatMg3
/- Atts: attempts in memory: their sizes, copies, comparison; SameAttempts of both packages. -/
namespace Go.Proofs.YtkggjejcajcppaaGreat
open Go.ChangeShapes Go.WideShapes Go.ChangeAt Go.RowKit

structure Att where
  pattern : List Int
  catches : Int
  dropped : Bool
instance : Inhabited Att := ⟨⟨[], 0, false⟩⟩
def attS : Shape Att := ⟨3, Att.pattern, fun v x => [v, .int .i64 x.catches, .bool x.dropped], fun _ _ => rfl, fun _ => True⟩
def AttsAt (w : World) (v : Value) (l : List Att) : Prop := NestAt attS w v l
def OwnAtts (w : World) (base : Nat) (v : Value) (l : List Att) : Prop := OwnNest attS 38 w base v l
theorem OwnAtts.at {w : World} {base : Nat} {v : Value} {l : List Att} (h : OwnAtts w base v l) : AttsAt w v l := OwnNest.at h
theorem att_cells {w : World} {a : Option Addr} {l : List Att} (h : NestC attS w a l) (k : Nat) (hk : k < l.length) :
    ∃ b o pa pn pc, a = some ⟨b, o, none⟩ ∧ b < w.heap.size ∧ IntsAt w (.slice pa pn pc) (nth l k).pattern ∧ w.cell? ⟨b, o + k * 3, none⟩ = some (.slice pa pn pc) ∧ w.cell? ⟨b, o + k * 3 + 1, none⟩ = some (.int .i64 (nth l k).catches) ∧ w.cell? ⟨b, o + k * 3 + 2, none⟩ = some (.bool (nth l k).dropped) := by
  obtain ⟨b, o, pa, pn, pc, ha, hb, -, hp, hc⟩ := h k hk
  exact ⟨b, o, pa, pn, pc, ha, hb, hp, hc 0 (by decide), hc 1 (by decide), hc 2 (by decide)⟩

def eqAttB (a b : Att) : Bool := same2 eqI a.pattern b.pattern && ((a.catches == b.catches) && (a.dropped == b.dropped))
theorem eqAttB_iff (a b : Att) : eqAttB a b = true ↔ a = b := by
  cases a; cases b; simp [eqAttB, same2_iff eqI eqI_iff]
theorem chain3 (b1 b2 b3 : Bool) : (b1 = false) ∨ (b1 = true ∧ b2 = false) ∨ (b1 = true ∧ b2 = true ∧ b3 = false) ∨ (b1 = true ∧ b2 = true ∧ b3 = true) := by
  cases b1 <;> cases b2 <;> cases b3 <;> simp

/-! ### Sizes -/
def szAttT (x : Att) (left : Int) : Int := if szIntsT x.pattern left < 0 then -1 else szIntsT x.pattern left
def szAttsF : List Att → Int → Int
  | [], left => left
  | x :: l, left => if szAttT x left < 0 then -1 else szAttsF l (szAttT x left)
def szAttsT (l : List Att) (left : Int) : Int := if left - l.length < 0 then -1 else szAttsF l (left - l.length)
theorem szAttT_le (x : Att) (left : Int) (h : 0 ≤ left) : -1 ≤ szAttT x left ∧ szAttT x left ≤ left ∧ (0 ≤ szAttT x left → (x.pattern.length : Int) ≤ left) := by
  have := szIntsT_le x.pattern left h
  unfold szAttT
  split
  · exact ⟨by omega, by omega, fun h => by omega⟩
  · exact ⟨by omega, by omega, fun h => this.2.2 h⟩
theorem szAttsF_le : ∀ (l : List Att) (left : Int), 0 ≤ left → -1 ≤ szAttsF l left ∧ szAttsF l left ≤ left ∧ (0 ≤ szAttsF l left → ∀ x ∈ l, (x.pattern.length : Int) ≤ left)
  | [], left, h => ⟨by simp [szAttsF]; omega, by simp [szAttsF], fun _ c hc => by cases hc⟩
  | c :: l, left, h => by
    unfold szAttsF
    split
    · exact ⟨by omega, by omega, fun h => by omega⟩
    · rename_i hs
      have h1 := szAttT_le c left h
      have h2 := szAttsF_le l (szAttT c left) (by omega)
      refine ⟨h2.1, by omega, fun h3 d hd => ?_⟩
      cases hd with
      | head => exact h1.2.2 (by omega)
      | tail _ hd => have := h2.2.2 h3 d hd; omega
theorem szAttsT_le (l : List Att) (left : Int) (h : 0 ≤ left) : -1 ≤ szAttsT l left ∧ szAttsT l left ≤ left ∧ (0 ≤ szAttsT l left → (l.length : Int) ≤ left ∧ ∀ x ∈ l, (x.pattern.length : Int) ≤ left) := by
  unfold szAttsT
  split
  · exact ⟨by omega, by omega, fun h => by omega⟩
  · have h2 := szAttsF_le l (left - l.length) (by omega)
    exact ⟨h2.1, by omega, fun h3 => ⟨by omega, fun c hc => by have := h2.2.2 h3 c hc; omega⟩⟩

/-! ### The same or not -/
end Go.Proofs.YtkggjejcajcppaaGreat

/- Atts2: copies of attempts. -/
namespace Go.Proofs.YtkggjejcajcppaaGreat
open Go.ChangeShapes Go.WideShapes Go.ChangeAt Go.RowKit

theorem attInfo : (Tryz.prog.info? 38).map (fun i => (i.zero, i.size, i.bytes)) = some (some (.agg #[.slice none 0 0, .int .i64 0, .bool false]), 3, 40) := by kernel_rfl

end Go.Proofs.YtkggjejcajcppaaGreat
