import Derived.Test.YtihmppdnglfjnaaProg
import Derived.Test.YtihmppdnglfjnaaAbKern
set_option linter.unusedVariables false
set_option maxRecDepth 100000
namespace Go.Proofs.Ytihmppdnglfjnaa
open Go.Ab Go.RowKit

theorem mixed : Try.prog.follows .mixedOrders = true := by kernel_rfl
noncomputable def ty3 (o : FO) : TI o := ⟨.int .i64, 1, 8, [.int .i64 (0 : Int)], true, none⟩
theorem tyOk3 : TyOk Try.prog 3 (ty3 ieee) := tyOk_of Try.t3 (by kernel_rfl) (by kernel_rfl) (by kernel_rfl) (by kernel_rfl) (by kernel_rfl) (by kernel_rfl)
noncomputable def ty4 (o : FO) : TI o := ⟨.bool, 1, 1, [.bool false], true, none⟩
theorem tyOk4 : TyOk Try.prog 4 (ty4 ieee) := tyOk_of Try.t4 (by kernel_rfl) (by kernel_rfl) (by kernel_rfl) (by kernel_rfl) (by kernel_rfl) (by kernel_rfl)
noncomputable def ty22 (o : FO) : TI o := ⟨.slice 73, 1, 24, [.nilslice], false, none⟩
theorem tyOk22 : TyOk Try.prog 22 (ty22 ieee) := tyOk_of Try.t22 (by kernel_rfl) (by kernel_rfl) (by kernel_rfl) (by kernel_rfl) (by kernel_rfl) (by kernel_rfl)
noncomputable def ty25 (o : FO) : TI o := ⟨.slice 66, 1, 24, [.nilslice], false, none⟩
theorem tyOk25 : TyOk Try.prog 25 (ty25 ieee) := tyOk_of Try.t25 (by kernel_rfl) (by kernel_rfl) (by kernel_rfl) (by kernel_rfl) (by kernel_rfl) (by kernel_rfl)
noncomputable def ty30 (o : FO) : TI o := ⟨.f32, 1, 4, [.f32 (o.slit 0)], true, none⟩
theorem tyOk30 : TyOk Try.prog 30 (ty30 ieee) := tyOk_of Try.t30 (by kernel_rfl) (by kernel_rfl) (by kernel_rfl) (by kernel_rfl) (by kernel_rfl) (by kernel_rfl)
noncomputable def ty40 (o : FO) : TI o := ⟨.f64, 1, 8, [.f64 (o.dlit 0)], true, none⟩
theorem tyOk40 : TyOk Try.prog 40 (ty40 ieee) := tyOk_of Try.t40 (by kernel_rfl) (by kernel_rfl) (by kernel_rfl) (by kernel_rfl) (by kernel_rfl) (by kernel_rfl)
noncomputable def ty43 (o : FO) : TI o := ⟨.struct [(0, 30), (1, 30)], 2, 8, [.f32 (o.slit 0), .f32 (o.slit 0)], true, (some [.f32, .f32])⟩
theorem tyOk43 : TyOk Try.prog 43 (ty43 ieee) := tyOk_of Try.t43 (by kernel_rfl) (by kernel_rfl) (by kernel_rfl) (by kernel_rfl) (by kernel_rfl) (by kernel_rfl)
noncomputable def ty48 (o : FO) : TI o := ⟨.struct [(0, 30), (1, 30)], 2, 8, [.f32 (o.slit 0), .f32 (o.slit 0)], true, (some [.f32, .f32])⟩
theorem tyOk48 : TyOk Try.prog 48 (ty48 ieee) := tyOk_of Try.t48 (by kernel_rfl) (by kernel_rfl) (by kernel_rfl) (by kernel_rfl) (by kernel_rfl) (by kernel_rfl)
noncomputable def ty53 (o : FO) : TI o := ⟨.struct [(0, 30), (1, 43)], 3, 12, [.f32 (o.slit 0), .f32 (o.slit 0), .f32 (o.slit 0)], true, (some [.f32, .f32, .f32])⟩
theorem tyOk53 : TyOk Try.prog 53 (ty53 ieee) := tyOk_of Try.t53 (by kernel_rfl) (by kernel_rfl) (by kernel_rfl) (by kernel_rfl) (by kernel_rfl) (by kernel_rfl)
noncomputable def ty66 (o : FO) : TI o := ⟨.struct [(0, 30), (1, 43)], 3, 12, [.f32 (o.slit 0), .f32 (o.slit 0), .f32 (o.slit 0)], true, (some [.f32, .f32, .f32])⟩
theorem tyOk66 : TyOk Try.prog 66 (ty66 ieee) := tyOk_of Try.t66 (by kernel_rfl) (by kernel_rfl) (by kernel_rfl) (by kernel_rfl) (by kernel_rfl) (by kernel_rfl)
noncomputable def ty73 (o : FO) : TI o := ⟨.struct [(0, 30), (1, 48)], 3, 12, [.f32 (o.slit 0), .f32 (o.slit 0), .f32 (o.slit 0)], true, (some [.f32, .f32, .f32])⟩
theorem tyOk73 : TyOk Try.prog 73 (ty73 ieee) := tyOk_of Try.t73 (by kernel_rfl) (by kernel_rfl) (by kernel_rfl) (by kernel_rfl) (by kernel_rfl) (by kernel_rfl)
noncomputable def ty101 (o : FO) : TI o := ⟨.slice 30, 1, 24, [.nilslice], false, none⟩
theorem tyOk101 : TyOk Try.prog 101 (ty101 ieee) := tyOk_of Try.t101 (by kernel_rfl) (by kernel_rfl) (by kernel_rfl) (by kernel_rfl) (by kernel_rfl) (by kernel_rfl)

end Go.Proofs.Ytihmppdnglfjnaa
