import Derived.Test.YtimbfpcjnbnpmaaProg
import Derived.Test.YtimbfpcjnbnpmaaAbForm
set_option linter.unusedVariables false
set_option maxRecDepth 100000
namespace Go.Proofs.Ytimbfpcjnbnpmaa
open Go.Ab Go.RowKit

theorem mixed : Try.prog.follows .mixedOrders = true := by kernel_rfl
noncomputable def ty4 (o : FO) : TI o := ⟨.bool, 1, 1, [.bool false], true, none⟩
theorem tyOk4 : TyOk Try.prog 4 (ty4 ieee) := tyOk_of Try.t4 (by kernel_rfl) (by kernel_rfl) (by kernel_rfl) (by kernel_rfl) (by kernel_rfl) (by kernel_rfl)
noncomputable def ty22 (o : FO) : TI o := ⟨.f32, 1, 4, [.f32 (o.slit 0)], true, none⟩
theorem tyOk22 : TyOk Try.prog 22 (ty22 ieee) := tyOk_of Try.t22 (by kernel_rfl) (by kernel_rfl) (by kernel_rfl) (by kernel_rfl) (by kernel_rfl) (by kernel_rfl)
noncomputable def ty24 (o : FO) : TI o := ⟨.struct [(0, 22), (1, 22)], 2, 8, [.f32 (o.slit 0), .f32 (o.slit 0)], true, (some [.f32, .f32])⟩
theorem tyOk24 : TyOk Try.prog 24 (ty24 ieee) := tyOk_of Try.t24 (by kernel_rfl) (by kernel_rfl) (by kernel_rfl) (by kernel_rfl) (by kernel_rfl) (by kernel_rfl)
noncomputable def ty26 (o : FO) : TI o := ⟨.struct [(0, 22), (1, 24)], 3, 12, [.f32 (o.slit 0), .f32 (o.slit 0), .f32 (o.slit 0)], true, (some [.f32, .f32, .f32])⟩
theorem tyOk26 : TyOk Try.prog 26 (ty26 ieee) := tyOk_of Try.t26 (by kernel_rfl) (by kernel_rfl) (by kernel_rfl) (by kernel_rfl) (by kernel_rfl) (by kernel_rfl)
noncomputable def ty28 (o : FO) : TI o := ⟨.struct [(0, 22), (1, 22)], 2, 8, [.f32 (o.slit 0), .f32 (o.slit 0)], true, (some [.f32, .f32])⟩
theorem tyOk28 : TyOk Try.prog 28 (ty28 ieee) := tyOk_of Try.t28 (by kernel_rfl) (by kernel_rfl) (by kernel_rfl) (by kernel_rfl) (by kernel_rfl) (by kernel_rfl)
noncomputable def ty30 (o : FO) : TI o := ⟨.struct [(0, 22), (1, 28)], 3, 12, [.f32 (o.slit 0), .f32 (o.slit 0), .f32 (o.slit 0)], true, (some [.f32, .f32, .f32])⟩
theorem tyOk30 : TyOk Try.prog 30 (ty30 ieee) := tyOk_of Try.t30 (by kernel_rfl) (by kernel_rfl) (by kernel_rfl) (by kernel_rfl) (by kernel_rfl) (by kernel_rfl)
noncomputable def ty45 (o : FO) : TI o := ⟨.f64, 1, 8, [.f64 (o.dlit 0)], true, none⟩
theorem tyOk45 : TyOk Try.prog 45 (ty45 ieee) := tyOk_of Try.t45 (by kernel_rfl) (by kernel_rfl) (by kernel_rfl) (by kernel_rfl) (by kernel_rfl) (by kernel_rfl)
noncomputable def ty99 (o : FO) : TI o := ⟨.slice 22, 1, 24, [.nilslice], false, none⟩
theorem tyOk99 : TyOk Try.prog 99 (ty99 ieee) := tyOk_of Try.t99 (by kernel_rfl) (by kernel_rfl) (by kernel_rfl) (by kernel_rfl) (by kernel_rfl) (by kernel_rfl)

end Go.Proofs.Ytimbfpcjnbnpmaa
