import Derived.Test.YtclffohjpbmnbaaDoorMg8
import Derived.Test.YtclffohjpbmnbaaDoorMg1
/- Query2: a copy of a query. -/
namespace Go.Proofs.YtclffohjpbmnbaaDoor
open Go.ChangeShapes Go.WideShapes Go.ChangeAt Go.RowKit

end Go.Proofs.YtclffohjpbmnbaaDoor

/- Ivl: the interval of a level, by both packages. -/
namespace Go.Proofs.YtclffohjpbmnbaaDoor
open Go.ChangeShapes Go.WideShapes Go.ChangeAt Go.RowKit

def ivl (n : Int) : Int := if n = 0 then 1 else if n = 1 then 2 else if n = 2 then 4 else if n = 3 then 7 else if n = 4 then 14 else if n = 5 then 30 else 60
theorem sivl_c (n : Int) (w : World) (h0 : 0 ≤ n) (h6 : n ≤ 6) : Calls Tryd.prog 45 #[.int .i64 n] w (Gives (.int .i64 (ivl n)) w) := by
  have : n = 0 ∨ n = 1 ∨ n = 2 ∨ n = 3 ∨ n = 4 ∨ n = 5 ∨ n = 6 := by omega
  rcases this with rfl | rfl | rfl | rfl | rfl | rfl | rfl
  all_goals
    go_enter Tryd.func45, Tryd.ntmps45
    go_wp2
    go_ret
    exact Gives.int rfl (by go_grown)
set_option maxRecDepth 1000000 in
theorem iivl_c (n : Int) (w : World) (h0 : 0 ≤ n) (h6 : n ≤ 6) : Calls Tryd.prog 43 #[.int .i64 n] w (Gives (.int .i64 (ivl n)) w) := by
  have hi : ∃ m : Nat, n = (m : Int) ∧ m ≤ 6 := ⟨n.toNat, by omega, by omega⟩
  obtain ⟨m, rfl, hm⟩ := hi
  have hx : ∀ w, (Instr.index 82 (.agg #[.int .i64 1, .int .i64 2, .int .i64 4, .int .i64 7, .int .i64 14, .int .i64 30, .int .i64 60]) (.int .i64 m)).run Tryd.prog w = .ok (.int .i64 (ivl m)) w := by
    have : m = 0 ∨ m = 1 ∨ m = 2 ∨ m = 3 ∨ m = 4 ∨ m = 5 ∨ m = 6 := by omega
    rcases this with rfl | rfl | rfl | rfl | rfl | rfl | rfl
    all_goals exact fun _ => by kernel_rfl
  go_enter Tryd.func43, Tryd.ntmps43
  go_wp2
  go_ret
  exact Gives.int rfl (Below.refl _ _)
end Go.Proofs.YtclffohjpbmnbaaDoor
