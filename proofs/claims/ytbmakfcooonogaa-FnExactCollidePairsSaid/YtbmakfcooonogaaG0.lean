import Derived.Test.YtbmakfcooonogaaProg
import Derived.Test.YtbmakfcooonogaaAbKern
set_option linter.unusedVariables false
set_option maxRecDepth 100000
namespace Go.Proofs.Ytbmakfcooonogaa
open Go.Ab Go.RowKit

theorem mixed : Try.prog.follows .mixedOrders = true := by kernel_rfl
noncomputable def ty2 (o : FO) : TI o := ⟨.int .i64, 1, 8, [.int .i64 (0 : Int)], true, none⟩
theorem tyOk2 : TyOk Try.prog 2 (ty2 ieee) := tyOk_of Try.t2 (by kernel_rfl) (by kernel_rfl) (by kernel_rfl) (by kernel_rfl) (by kernel_rfl) (by kernel_rfl)
noncomputable def ty22 (o : FO) : TI o := ⟨.array 20 2, 20, 160, List.replicate 20 (.int .i64 (0 : Int)), true, none⟩
theorem tyOk22 : TyOk Try.prog 22 (ty22 ieee) := tyOk_of Try.t22 (by kernel_rfl) (by kernel_rfl) (by kernel_rfl) (by kernel_rfl) (by kernel_rfl) (by kernel_rfl)
noncomputable def ty24 (o : FO) : TI o := ⟨.struct [(0, 22), (20, 2)], 21, 168, [.int .i64 (0 : Int), .int .i64 (0 : Int), .int .i64 (0 : Int), .int .i64 (0 : Int), .int .i64 (0 : Int), .int .i64 (0 : Int), .int .i64 (0 : Int), .int .i64 (0 : Int), .int .i64 (0 : Int), .int .i64 (0 : Int), .int .i64 (0 : Int), .int .i64 (0 : Int), .int .i64 (0 : Int), .int .i64 (0 : Int), .int .i64 (0 : Int), .int .i64 (0 : Int), .int .i64 (0 : Int), .int .i64 (0 : Int), .int .i64 (0 : Int), .int .i64 (0 : Int), .int .i64 (0 : Int)], true, none⟩
theorem tyOk24 : TyOk Try.prog 24 (ty24 ieee) := tyOk_of Try.t24 (by kernel_rfl) (by kernel_rfl) (by kernel_rfl) (by kernel_rfl) (by kernel_rfl) (by kernel_rfl)
noncomputable def ty25 (o : FO) : TI o := ⟨.array 20 2, 20, 160, List.replicate 20 (.int .i64 (0 : Int)), true, none⟩
theorem tyOk25 : TyOk Try.prog 25 (ty25 ieee) := tyOk_of Try.t25 (by kernel_rfl) (by kernel_rfl) (by kernel_rfl) (by kernel_rfl) (by kernel_rfl) (by kernel_rfl)
noncomputable def ty27 (o : FO) : TI o := ⟨.struct [(0, 25), (20, 2)], 21, 168, [.int .i64 (0 : Int), .int .i64 (0 : Int), .int .i64 (0 : Int), .int .i64 (0 : Int), .int .i64 (0 : Int), .int .i64 (0 : Int), .int .i64 (0 : Int), .int .i64 (0 : Int), .int .i64 (0 : Int), .int .i64 (0 : Int), .int .i64 (0 : Int), .int .i64 (0 : Int), .int .i64 (0 : Int), .int .i64 (0 : Int), .int .i64 (0 : Int), .int .i64 (0 : Int), .int .i64 (0 : Int), .int .i64 (0 : Int), .int .i64 (0 : Int), .int .i64 (0 : Int), .int .i64 (0 : Int)], true, none⟩
theorem tyOk27 : TyOk Try.prog 27 (ty27 ieee) := tyOk_of Try.t27 (by kernel_rfl) (by kernel_rfl) (by kernel_rfl) (by kernel_rfl) (by kernel_rfl) (by kernel_rfl)
noncomputable def ty58 (o : FO) : TI o := ⟨.struct [(0, 2), (1, 2)], 2, 16, [.int .i64 (0 : Int), .int .i64 (0 : Int)], true, (some [.int .i64, .int .i64])⟩
theorem tyOk58 : TyOk Try.prog 58 (ty58 ieee) := tyOk_of Try.t58 (by kernel_rfl) (by kernel_rfl) (by kernel_rfl) (by kernel_rfl) (by kernel_rfl) (by kernel_rfl)
noncomputable def ty60 (o : FO) : TI o := ⟨.struct [(0, 2), (1, 2)], 2, 16, [.int .i64 (0 : Int), .int .i64 (0 : Int)], true, (some [.int .i64, .int .i64])⟩
theorem tyOk60 : TyOk Try.prog 60 (ty60 ieee) := tyOk_of Try.t60 (by kernel_rfl) (by kernel_rfl) (by kernel_rfl) (by kernel_rfl) (by kernel_rfl) (by kernel_rfl)
noncomputable def ty63 (o : FO) : TI o := ⟨.slice 58, 1, 24, [.nilslice], false, none⟩
theorem tyOk63 : TyOk Try.prog 63 (ty63 ieee) := tyOk_of Try.t63 (by kernel_rfl) (by kernel_rfl) (by kernel_rfl) (by kernel_rfl) (by kernel_rfl) (by kernel_rfl)
noncomputable def ty67 (o : FO) : TI o := ⟨.slice 60, 1, 24, [.nilslice], false, none⟩
theorem tyOk67 : TyOk Try.prog 67 (ty67 ieee) := tyOk_of Try.t67 (by kernel_rfl) (by kernel_rfl) (by kernel_rfl) (by kernel_rfl) (by kernel_rfl) (by kernel_rfl)
noncomputable def ty78 (o : FO) : TI o := ⟨.int .u64, 1, 8, [.int .u64 (0 : Int)], true, none⟩
theorem tyOk78 : TyOk Try.prog 78 (ty78 ieee) := tyOk_of Try.t78 (by kernel_rfl) (by kernel_rfl) (by kernel_rfl) (by kernel_rfl) (by kernel_rfl) (by kernel_rfl)

end Go.Proofs.Ytbmakfcooonogaa
