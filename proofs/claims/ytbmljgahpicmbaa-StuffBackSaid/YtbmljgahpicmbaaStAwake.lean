-- Written by hand for this claim's session.
import Derived.Test.YtbmljgahpicmbaaStRGet
import Derived.Test.YtbmljgahpicmbaaStGet
import Derived.Test.YtbmljgahpicmbaaStVal
open Go Go.YtbmljgahpicmbaaE Go.Proofs
set_option maxRecDepth 100000
set_option autoImplicit false
namespace Go.Proofs.YtbmljgahpicmbaaSt
theorem w1 : ([zeros ++ [true], false :: ones] : List (List Bool)).map V = [1, 127] := by decide
theorem w2 : (got [zeros ++ [true], false :: ones]).map V = [0] := by decide
theorem w3 : ([zeros ++ [false]] : List (List Bool)).map V = [0] := by decide
theorem w4 : (E (List.flatten [zeros ++ [false]])).map V = [1, 127] := by decide
theorem w5 : ([ones ++ [true]] : List (List Bool)).map V = [255] := by decide
theorem w6 : (E (List.flatten [ones ++ [true]])).map V = [254, 254] := by decide

theorem strOf_lit' {xs : List Int} {a : Array UInt8} (ys : List Int) (h : xs = ys) (h2 : ys.map (fun n => UInt8.ofNat n.toNat) = a.toList) : decide ((strOf xs).toList = (ByteArray.mk a).toList) = true := strOf_lit (by rw [h]; exact h2)
theorem awake_ct : CtT Try.prog 6 [] (Ret (.bool true) []) := by
  have c1 := stuff_Get_ct [zeros ++ [true], false :: ones] (by decide) (by decide) true (by decide)
  have c2 := stuff_Get_ct [zeros ++ [false]] (by decide) (by decide) false (by decide)
  have c3 := stuff_Put_ct [zeros ++ [false]] (by decide) (by decide)
  have c4 := stuff_Put_ct [ones ++ [true]] (by decide) (by decide)
  have c5 := Most_ct 7 (by decide) (by decide)
  have c6 := Most_ct 8 (by decide) (by decide)
  rw [w1] at c1
  rw [w3] at c2
  rw [w3] at c3
  rw [w5] at c4
  have z1 := w2
  have z3 := w4
  have z4 := w6
  have z5 : (if (7 : Int) < 0 ∨ (7 : Int) > 1048576 then (0 : Int) else (8 * 7 + 6) / 7) = 8 := by decide
  have z6 : (if (8 : Int) < 0 ∨ (8 : Int) > 1048576 then (0 : Int) else (8 * 8 + 6) / 7) = 10 := by decide
  generalize (got [zeros ++ [true], false :: ones]).map V = y1 at *
  generalize (E (List.flatten [zeros ++ [false]])).map V = y3 at *
  generalize (E (List.flatten [ones ++ [true]])).map V = y4 at *
  generalize (if (7 : Int) < 0 ∨ (7 : Int) > 1048576 then (0 : Int) else (8 * 7 + 6) / 7) = y5 at *
  generalize (if (8 : Int) < 0 ∨ (8 : Int) > 1048576 then (0 : Int) else (8 * 8 + 6) / 7) = y6 at *
  refine Ct.of Try.func6 (by rfl) rfl (n := 46) rfl (by simp [ids]) ?_
  refine Told.callT c1 rfl rfl rfl rfl ?_
  refine Told.callT c2 rfl rfl rfl rfl ?_
  refine Told.callT c3 rfl rfl rfl rfl ?_
  refine ⟨_, rfl, fun b3 e3 => ?_⟩
  refine brT (e3.trans (strOf_lit' _ z3 (by decide))) ?_
  refine ⟨_, rfl, fun b1 e1 => ?_⟩
  refine brT (e1.trans (strOf_lit' _ z1 (by decide))) ?_
  refine Told.callT c4 rfl rfl rfl rfl ?_
  refine ⟨_, rfl, fun b4 e4 => ?_⟩
  refine brT (e4.trans (strOf_lit' _ z4 (by decide))) ?_
  refine Told.callT c5 rfl rfl rfl rfl ?_
  refine brT (decide_eq_true z5) ?_
  refine Told.callT c6 rfl rfl rfl rfl ?_
  refine ⟨[], _, _, ⟨rfl, rfl⟩, ?_, trivial, rfl⟩
  exact congrArg AV.bool (decide_eq_true z6)
end Go.Proofs.YtbmljgahpicmbaaSt
