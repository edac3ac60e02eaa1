/- The types of the program that the proofs name. -/
import Derived.Test.YtoalafcmlgjlpaaTomAO
import Derived.Test.YtoalafcmlgjlpaaProg
set_option linter.unusedVariables false
set_option linter.constructorNameAsVariable false
set_option maxRecDepth 100000
namespace Go.Tom
open Go Go.Proofs.Try
abbrev T_api_Ticket : Ty := .st (.prod .bool (.prod (.int .i64) (.prod (.int .i64) (.prod (.int .i64) (.prod (.int .i64) .bool)))))
abbrev D_api_Ticket := Bool × Int × Int × Int × Int × Bool
abbrev z_api_Ticket : D_api_Ticket := (false, (0 : Int), (0 : Int), (0 : Int), (0 : Int), false)
abbrev T_api_Thread : Ty := .st (.prod (.int .i64) (.prod (.int .i64) (.prod (.int .i64) (.prod (.int .i64) (.int .i64)))))
abbrev D_api_Thread := Int × Int × Int × Int × Int
abbrev z_api_Thread : D_api_Thread := ((0 : Int), (0 : Int), (0 : Int), (0 : Int), (0 : Int))
abbrev T_api_Lock : Ty := .st (.prod .bool (.int .i64))
abbrev D_api_Lock := Bool × Int
abbrev z_api_Lock : D_api_Lock := (false, (0 : Int))
abbrev T_api_State : Ty := .st (.prod (.slice .bool) (.prod (.slice T_api_Ticket) (.prod (.slice T_api_Thread) (.prod (.slice T_api_Lock) (.prod (.slice (.int .i64)) (.int .i64))))))
abbrev D_api_State := (List Bool) × (List D_api_Ticket) × (List D_api_Thread) × (List D_api_Lock) × (List Int) × Int
abbrev z_api_State : D_api_State := (([] : List Bool), ([] : List D_api_Ticket), ([] : List D_api_Thread), ([] : List D_api_Lock), ([] : List Int), (0 : Int))
abbrev T_r13_Arrow : Ty := .st (.prod (.int .i64) (.int .i64))
abbrev D_r13_Arrow := Int × Int
abbrev z_r13_Arrow : D_r13_Arrow := ((0 : Int), (0 : Int))
abbrev T_api_Reply : Ty := .st (.prod (.int .i64) (.int .i64))
abbrev D_api_Reply := Int × Int
abbrev z_api_Reply : D_api_Reply := ((0 : Int), (0 : Int))
def tys : Tys := [(3, .int .i64), (4, .bool), (22, .slice .bool), (23, .slice T_api_Ticket), (24, .slice T_api_Thread), (25, .slice T_api_Lock), (26, .slice (.int .i64)), (28, T_api_State), (32, .int .i64), (34, T_api_Reply), (50, T_api_Thread), (66, .slice T_r13_Arrow), (70, T_api_Ticket), (72, T_api_Lock), (104, T_r13_Arrow), (124, .fn .bool .bool), (126, .fn T_api_Ticket .bool), (128, .fn T_api_Thread .bool), (130, .fn T_api_Lock .bool)]
theorem tys_ok : tys.ok prog = true := by kernel_rfl
theorem mixed : prog.follows .mixedOrders = true := by kernel_rfl
end Go.Tom
