import Derived.Test.YtbmakfcooonogaaProg
import Derived.Test.YtbmakfcooonogaaAbKern
set_option linter.unusedVariables false
set_option maxRecDepth 100000
namespace Go.Proofs.Ytbmakfcooonogaa
open Go.Ab Go.RowKit

theorem mixed : Try.prog.follows .mixedOrders = true := by kernel_rfl
noncomputable def ty2 (o : FO) : TI o := ⟨.int .i64, 1, 8, [.int .i64 (0 : Int)], true, none⟩
theorem tyOk2 : TyOk Try.prog 2 (ty2 ieee) := tyOk_of Try.t2 (by kernel_rfl) (by kernel_rfl) (by kernel_rfl) (by kernel_rfl) (by kernel_rfl) (by kernel_rfl)
noncomputable def ty4 (o : FO) : TI o := ⟨.bool, 1, 1, [.bool false], true, none⟩
theorem tyOk4 : TyOk Try.prog 4 (ty4 ieee) := tyOk_of Try.t4 (by kernel_rfl) (by kernel_rfl) (by kernel_rfl) (by kernel_rfl) (by kernel_rfl) (by kernel_rfl)
noncomputable def ty33 (o : FO) : TI o := ⟨.f32, 1, 4, [.f32 (o.slit 0)], true, none⟩
theorem tyOk33 : TyOk Try.prog 33 (ty33 ieee) := tyOk_of Try.t33 (by kernel_rfl) (by kernel_rfl) (by kernel_rfl) (by kernel_rfl) (by kernel_rfl) (by kernel_rfl)
noncomputable def ty37 (o : FO) : TI o := ⟨.f64, 1, 8, [.f64 (o.dlit 0)], true, none⟩
theorem tyOk37 : TyOk Try.prog 37 (ty37 ieee) := tyOk_of Try.t37 (by kernel_rfl) (by kernel_rfl) (by kernel_rfl) (by kernel_rfl) (by kernel_rfl) (by kernel_rfl)
noncomputable def ty39 (o : FO) : TI o := ⟨.array 20 33, 20, 80, List.replicate 20 (.f32 (o.slit 0)), true, none⟩
theorem tyOk39 : TyOk Try.prog 39 (ty39 ieee) := tyOk_of Try.t39 (by kernel_rfl) (by kernel_rfl) (by kernel_rfl) (by kernel_rfl) (by kernel_rfl) (by kernel_rfl)
noncomputable def ty41 (o : FO) : TI o := ⟨.array 20 39, 400, 1600, List.replicate 400 (.f32 (o.slit 0)), true, none⟩
theorem tyOk41 : TyOk Try.prog 41 (ty41 ieee) := tyOk_of Try.t41 (by kernel_rfl) (by kernel_rfl) (by kernel_rfl) (by kernel_rfl) (by kernel_rfl) (by kernel_rfl)
noncomputable def ty51 (o : FO) : TI o := ⟨.array 20 33, 20, 80, List.replicate 20 (.f32 (o.slit 0)), true, none⟩
theorem tyOk51 : TyOk Try.prog 51 (ty51 ieee) := tyOk_of Try.t51 (by kernel_rfl) (by kernel_rfl) (by kernel_rfl) (by kernel_rfl) (by kernel_rfl) (by kernel_rfl)
noncomputable def ty78 (o : FO) : TI o := ⟨.int .u64, 1, 8, [.int .u64 (0 : Int)], true, none⟩
theorem tyOk78 : TyOk Try.prog 78 (ty78 ieee) := tyOk_of Try.t78 (by kernel_rfl) (by kernel_rfl) (by kernel_rfl) (by kernel_rfl) (by kernel_rfl) (by kernel_rfl)
noncomputable def ty112 (o : FO) : TI o := ⟨.slice 33, 1, 24, [.nilslice], false, none⟩
theorem tyOk112 : TyOk Try.prog 112 (ty112 ieee) := tyOk_of Try.t112 (by kernel_rfl) (by kernel_rfl) (by kernel_rfl) (by kernel_rfl) (by kernel_rfl) (by kernel_rfl)

end Go.Proofs.Ytbmakfcooonogaa
