/- The table of this program and its base. -/
import Derived.Test.YtmekbgeknkknfaaProg
import Derived.Test.YtmekbgeknkknfaaG1
import Derived.Test.YtmekbgeknkknfaaG9
import Derived.KernelRfl
set_option linter.unusedVariables false
set_option linter.unusedSimpArgs false
set_option linter.unusedSectionVars false
set_option linter.constructorNameAsVariable false
namespace Go.Ab
open Go.Proofs
def shs : Tr Sh := (.nd (some (.other)) (.nd (some (.int .i64)) (.nd (some (.int .u8)) (.nd (some (.other)) (.nd (some (.struct [(0, 3), (1, 3)])) (.nd (some (.slice 5)) (.nd (some (.int .u64)) (.nd (some (.fn)) .lf .lf) (.nd (some (.fn)) .lf .lf)) (.nd (some (.fn)) (.nd (some (.ptr 70)) .lf .lf) (.nd (some (.fn)) .lf .lf))) (.nd (some (.slice 54)) (.nd (some (.other)) (.nd (some (.fn)) .lf .lf) (.nd (some (.fn)) .lf .lf)) (.nd (some (.struct [(0, 3), (1, 3), (2, 22), (3, 75), (4, 22), (5, 76)])) (.nd (some (.fn)) .lf .lf) (.nd (some (.struct [(0, 3), (1, 3), (2, 3), (3, 3), (4, 3), (5, 22), (6, 27), (7, 140)])) .lf (.nd (some (.struct [(0, 17), (1, 17), (2, 17), (3, 9)])) .lf .lf))))) (.nd (some (.slice 36)) (.nd (some (.struct [(0, 3), (1, 3), (2, 3), (3, 3), (4, 3), (5, 27)])) (.nd (some (.fn)) (.nd (some (.struct [(0, 9), (1, 3), (2, 74)])) .lf .lf) (.nd (some (.fn)) .lf .lf)) (.nd (some (.slice 91)) (.nd (some (.other)) .lf .lf) (.nd (some (.struct [(0, 3), (1, 3), (2, 3), (3, 48), (4, 80), (46, 4), (47, 3), (48, 3), (49, 74)])) .lf (.nd (some (.int .i32)) .lf .lf)))) (.nd (some (.struct [(0, 3), (1, 5), (2, 31), (4, 34)])) (.nd (some (.fn)) (.nd (some (.fn)) .lf .lf) (.nd (some (.fn)) .lf .lf)) (.nd (some (.struct [(0, 3), (1, 3), (2, 3), (3, 3), (4, 31), (6, 34), (14, 33), (16, 3), (17, 3), (18, 24)])) (.nd (some (.fn)) .lf .lf) (.nd (some (.fn)) .lf (.nd (some (.fn)) .lf .lf)))))) (.nd (some (.str)) (.nd (some (.fn)) (.nd (some (.fn)) (.nd (some (.fn)) (.nd (some (.fn)) .lf .lf) (.nd (some (.fn)) .lf .lf)) (.nd (some (.struct [(0, 3), (1, 3), (2, 70), (24, 80)])) (.nd (some (.other)) .lf .lf) (.nd (some (.struct [(0, 152), (1, 62)])) .lf .lf))) (.nd (some (.fn)) (.nd (some (.other)) (.nd (some (.fn)) .lf .lf) (.nd (some (.fn)) .lf .lf)) (.nd (some (.int .i64)) (.nd (some (.fn)) .lf .lf) (.nd (some (.fn)) .lf (.nd (some (.struct [(0, 133), (1, 228)])) .lf .lf))))) (.nd (some (.struct [(0, 17)])) (.nd (some (.ptr 57)) (.nd (some (.fn)) (.nd (some (.uptr)) .lf .lf) (.nd (some (.fn)) .lf .lf)) (.nd (some (.fn)) (.nd (some (.fn)) .lf .lf) (.nd (some (.other)) .lf (.nd (some (.int .u8)) .lf .lf)))) (.nd (some (.arr 4 33)) (.nd (some (.fn)) (.nd (some (.ptr 33)) .lf .lf) (.nd (some (.fn)) .lf .lf)) (.nd (some (.fn)) (.nd (some (.fn)) .lf .lf) (.nd (some (.struct [(0, 3), (1, 3)])) .lf (.nd (some (.other)) .lf .lf))))))) (.nd (some (.bool)) (.nd (some (.int .u64)) (.nd (some (.fn)) (.nd (some (.fn)) (.nd (some (.other)) (.nd (some (.fn)) .lf .lf) (.nd (some (.fn)) .lf .lf)) (.nd (some (.other)) (.nd (some (.slice 223)) .lf .lf) (.nd (some (.iface)) .lf .lf))) (.nd (some (.fn)) (.nd (some (.fn)) (.nd (some (.fn)) .lf .lf) (.nd (some (.fn)) .lf .lf)) (.nd (some (.slice 70)) (.nd (some (.fn)) .lf .lf) (.nd (some (.map 145 27)) .lf (.nd (some (.arr 4 267)) .lf .lf))))) (.nd (some (.iface)) (.nd (some (.fn)) (.nd (some (.fn)) (.nd (some (.fn)) .lf .lf) (.nd (some (.fn)) .lf .lf)) (.nd (some (.fn)) (.nd (some (.other)) .lf .lf) (.nd (some (.fn)) .lf (.nd (some (.fn)) .lf .lf)))) (.nd (some (.struct [(0, 3), (1, 31), (3, 34)])) (.nd (some (.struct [(0, 3), (1, 3), (2, 3), (3, 3), (4, 4), (5, 80), (47, 3), (48, 3), (49, 50)])) (.nd (some (.int .u32)) .lf .lf) (.nd (some (.other)) .lf .lf)) (.nd (some (.fn)) (.nd (some (.struct [(0, 9), (1, 3), (2, 4)])) .lf .lf) (.nd (some (.fn)) .lf (.nd (some (.fn)) .lf .lf)))))) (.nd (some (.struct [(0, 2), (1, 3), (2, 4), (3, 6)])) (.nd (some (.struct [(0, 3), (1, 3), (2, 3), (3, 3)])) (.nd (some (.struct [(0, 3), (1, 3), (2, 3), (3, 3), (4, 3), (5, 22), (6, 27), (7, 46)])) (.nd (some (.fn)) (.nd (some (.fn)) .lf .lf) (.nd (some (.fn)) .lf .lf)) (.nd (some (.ptr 100)) (.nd (some (.other)) .lf .lf) (.nd (some (.ptr 154)) .lf (.nd (some (.struct [(0, 12), (1, 12), (2, 228), (3, 274), (4, 5), (5, 5), (6, 275), (7, 276), (8, 209), (9, 277), (10, 278)])) .lf .lf)))) (.nd (some (.struct [(0, 3), (1, 3), (2, 36), (13, 38)])) (.nd (some (.other)) (.nd (some (.fn)) .lf .lf) (.nd (some (.fn)) .lf .lf)) (.nd (some (.ptr 150)) (.nd (some (.slice 33)) .lf .lf) (.nd (some (.fn)) .lf (.nd (some (.fn)) .lf .lf))))) (.nd (some (.ptr 273)) (.nd (some (.ptr 142)) (.nd (some (.other)) (.nd (some (.fn)) .lf .lf) (.nd (some (.fn)) .lf .lf)) (.nd (some (.struct [(0, 3), (1, 3), (2, 3), (3, 3), (4, 70), (26, 74), (27, 3), (28, 78), (34, 54), (40, 3), (41, 3)])) (.nd (some (.fn)) .lf .lf) (.nd (some (.struct [(0, 3), (1, 3)])) .lf (.nd (some (.other)) .lf .lf)))) (.nd (some (.struct [(0, 2), (1, 9)])) (.nd (some (.fn)) (.nd (some (.slice 226)) .lf .lf) (.nd (some (.fn)) .lf .lf)) (.nd (some (.fn)) (.nd (some (.fn)) .lf .lf) (.nd (some (.fn)) .lf (.nd (some (.other)) .lf .lf)))))))) (.nd (some (.fn)) (.nd (some (.int .u8)) (.nd (some (.other)) (.nd (some (.fn)) (.nd (some (.fn)) (.nd (some (.fn)) (.nd (some (.other)) .lf .lf) (.nd (some (.fn)) .lf .lf)) (.nd (some (.fn)) (.nd (some (.fn)) .lf .lf) (.nd (some (.other)) .lf .lf))) (.nd (some (.fn)) (.nd (some (.fn)) (.nd (some (.other)) .lf .lf) (.nd (some (.other)) .lf .lf)) (.nd (some (.struct [(0, 3), (1, 3), (2, 22), (3, 75), (4, 22), (5, 76)])) (.nd (some (.fn)) .lf .lf) (.nd (some (.struct [(0, 3), (1, 3), (2, 3), (3, 3), (4, 3), (5, 22), (6, 27), (7, 140)])) .lf (.nd (some (.struct [(0, 17), (1, 17), (2, 17), (3, 9)])) .lf .lf))))) (.nd (some (.int .i32)) (.nd (some (.struct [(0, 3), (1, 3), (2, 3), (3, 3), (4, 3), (5, 27)])) (.nd (some (.fn)) (.nd (some (.ptr 247)) .lf .lf) (.nd (some (.fn)) .lf .lf)) (.nd (some (.fn)) (.nd (some (.fn)) .lf .lf) (.nd (some (.struct [(0, 3), (1, 3), (2, 3), (3, 48), (4, 80), (46, 4), (47, 3), (48, 3), (49, 74)])) .lf (.nd (some (.int .i32)) .lf .lf)))) (.nd (some (.struct [(0, 3), (1, 5), (2, 31), (4, 34)])) (.nd (some (.fn)) (.nd (some (.fn)) .lf .lf) (.nd (some (.fn)) .lf .lf)) (.nd (some (.struct [(0, 3), (1, 3), (2, 3), (3, 3), (4, 31), (6, 34), (14, 33), (16, 3), (17, 3), (18, 24)])) (.nd (some (.struct [(0, 9), (1, 3), (2, 4)])) .lf .lf) (.nd (some (.int .u64)) .lf (.nd (some (.other)) .lf .lf)))))) (.nd (some (.str)) (.nd (some (.fn)) (.nd (some (.struct [(0, 3), (1, 3), (2, 3), (3, 3), (4, 3), (5, 22), (6, 27), (7, 46)])) (.nd (some (.fn)) (.nd (some (.other)) .lf .lf) (.nd (some (.other)) .lf .lf)) (.nd (some (.fn)) (.nd (some (.fn)) .lf .lf) (.nd (some (.struct [(0, 152), (1, 62)])) .lf .lf))) (.nd (some (.other)) (.nd (some (.fn)) (.nd (some (.fn)) .lf .lf) (.nd (some (.fn)) .lf .lf)) (.nd (some (.fn)) (.nd (some (.fn)) .lf .lf) (.nd (some (.fn)) .lf (.nd (some (.fn)) .lf .lf))))) (.nd (some (.ptr 280)) (.nd (some (.fn)) (.nd (some (.fn)) (.nd (some (.slice 3)) .lf .lf) (.nd (some (.other)) .lf .lf)) (.nd (some (.other)) (.nd (some (.ptr 5)) .lf .lf) (.nd (some (.struct [(0, 3), (1, 3)])) .lf (.nd (some (.other)) .lf .lf)))) (.nd (some (.struct [(0, 2), (1, 9)])) (.nd (some (.other)) (.nd (some (.fn)) .lf .lf) (.nd (some (.fn)) .lf .lf)) (.nd (some (.int .u16)) (.nd (some (.other)) .lf .lf) (.nd (some (.fn)) .lf (.nd (some (.fn)) .lf .lf))))))) (.nd (some (.int .i64)) (.nd (some (.str)) (.nd (some (.slice 40)) (.nd (some (.fn)) (.nd (some (.fn)) (.nd (some (.other)) .lf .lf) (.nd (some (.fn)) .lf .lf)) (.nd (some (.struct [(0, 3), (1, 3), (2, 70), (24, 80)])) (.nd (some (.fn)) .lf .lf) (.nd (some (.iface)) .lf .lf))) (.nd (some (.fn)) (.nd (some (.fn)) (.nd (some (.fn)) .lf .lf) (.nd (some (.fn)) .lf .lf)) (.nd (some (.slice 131)) (.nd (some (.fn)) .lf .lf) (.nd (some (.fn)) .lf (.nd (some (.struct [(0, 133), (1, 228)])) .lf .lf))))) (.nd (some (.struct [(0, 17)])) (.nd (some (.fn)) (.nd (some (.fn)) (.nd (some (.fn)) .lf .lf) (.nd (some (.fn)) .lf .lf)) (.nd (some (.slice 80)) (.nd (some (.fn)) .lf .lf) (.nd (some (.fn)) .lf (.nd (some (.int .u8)) .lf .lf)))) (.nd (some (.struct [(0, 3), (1, 31), (3, 34)])) (.nd (some (.struct [(0, 3), (1, 3), (2, 3), (3, 3), (4, 4), (5, 80), (47, 3), (48, 3), (49, 50)])) (.nd (some (.fn)) .lf .lf) (.nd (some (.fn)) .lf .lf)) (.nd (some (.fn)) (.nd (some (.ptr 197)) .lf .lf) (.nd (some (.struct [(0, 3), (1, 3)])) .lf (.nd (some (.fn)) .lf .lf)))))) (.nd (some (.struct [(0, 2), (1, 3), (2, 4), (3, 6)])) (.nd (some (.struct [(0, 3), (1, 3), (2, 3), (3, 3)])) (.nd (some (.fn)) (.nd (some (.fn)) (.nd (some (.struct [(0, 9), (1, 3), (2, 74)])) .lf .lf) (.nd (some (.fn)) .lf .lf)) (.nd (some (.fn)) (.nd (some (.fn)) .lf .lf) (.nd (some (.fn)) .lf (.nd (some (.struct [(0, 12), (1, 12), (2, 228), (3, 274), (4, 5), (5, 5), (6, 275), (7, 276), (8, 209), (9, 277), (10, 278)])) .lf .lf)))) (.nd (some (.struct [(0, 3), (1, 3), (2, 36), (13, 38)])) (.nd (some (.fn)) (.nd (some (.fn)) .lf .lf) (.nd (some (.fn)) .lf .lf)) (.nd (some (.fn)) (.nd (some (.fn)) .lf .lf) (.nd (some (.other)) .lf (.nd (some (.fn)) .lf .lf))))) (.nd (some (.ptr 270)) (.nd (some (.fn)) (.nd (some (.fn)) (.nd (some (.fn)) .lf .lf) (.nd (some (.other)) .lf .lf)) (.nd (some (.struct [(0, 3), (1, 3), (2, 3), (3, 3), (4, 70), (26, 74), (27, 3), (28, 78), (34, 54), (40, 3), (41, 3)])) (.nd (some (.fn)) .lf .lf) (.nd (some (.fn)) .lf (.nd (some (.arr 0 16)) .lf .lf)))) (.nd (some (.struct [(0, 3), (1, 3)])) (.nd (some (.fn)) (.nd (some (.ptr 3)) .lf .lf) (.nd (some (.fn)) .lf .lf)) (.nd (some (.slice 65)) (.nd (some (.fn)) .lf .lf) (.nd (some (.other)) .lf (.nd (some (.fn)) .lf .lf)))))))))
def kss : Tr (List CK) := (.nd (some [.x]) (.nd (some [.i .i64]) (.nd (some [.i .u8]) (.nd (some [.x]) (.nd (some [.i .i64, .i .i64]) (.nd (some [.l 1]) (.nd (some [.i .u64]) (.nd (some [.f]) .lf .lf) (.nd (some [.f]) .lf .lf)) (.nd (some [.f]) (.nd (some [.p]) .lf .lf) (.nd (some [.f]) .lf .lf))) (.nd (some [.l 6]) (.nd (some [.x]) (.nd (some [.f]) .lf .lf) (.nd (some [.f]) .lf .lf)) (.nd (some [.i .i64, .i .i64, .l 11, .l 2, .l 11, .l 22]) (.nd (some [.f]) .lf .lf) (.nd (some [.i .i64, .i .i64, .i .i64, .i .i64, .i .i64, .l 11, .l 25, .m]) .lf (.nd (some [.p, .p, .p, .s]) .lf .lf))))) (.nd (some [.l 11]) (.nd (some [.i .i64, .i .i64, .i .i64, .i .i64, .i .i64, .l 25]) (.nd (some [.f]) (.nd (some [.s, .i .i64, .i .i64]) .lf .lf) (.nd (some [.f]) .lf .lf)) (.nd (some [.l 66]) (.nd (some [.x]) .lf .lf) (.nd (some [.i .i64, .i .i64, .i .i64, .p, .i .i64, .i .i64, .i .i64, .i .i64, .i .i64, .i .i64, .i .i64, .i .i64, .i .i64, .i .i64, .i .i64, .s, .i .i64, .s, .i .i64, .s, .i .i64, .s, .i .i64, .s, .i .i64, .i .i64, .i .i64, .i .i64, .i .i64, .i .i64, .i .i64, .i .i64, .i .i64, .i .i64, .l 11, .l 2, .l 11, .l 22, .i .i64, .i .i64, .i .i64, .i .i64, .i .i64, .l 25, .i .i64, .i .i64, .b, .i .i64, .i .i64, .i .i64]) .lf (.nd (some [.i .i32]) .lf .lf)))) (.nd (some [.i .i64, .i .u8, .i .i64, .i .i64, .i .i64, .s, .i .i64, .s, .i .i64, .s, .i .i64, .s]) (.nd (some [.f]) (.nd (some [.f]) .lf .lf) (.nd (some [.f]) .lf .lf)) (.nd (some [.i .i64, .i .i64, .i .i64, .i .i64, .i .i64, .i .i64, .i .i64, .s, .i .i64, .s, .i .i64, .s, .i .i64, .s, .i .i64, .s, .i .i64, .i .i64, .i .i64, .i .i64, .i .i64, .i .i64]) (.nd (some [.f]) .lf .lf) (.nd (some [.f]) .lf (.nd (some [.f]) .lf .lf)))))) (.nd (some [.s]) (.nd (some [.f]) (.nd (some [.f]) (.nd (some [.f]) (.nd (some [.f]) .lf .lf) (.nd (some [.f]) .lf .lf)) (.nd (some [.i .i64, .i .i64, .i .i64, .i .i64, .i .i64, .i .i64, .i .i64, .i .i64, .i .i64, .s, .i .i64, .s, .i .i64, .s, .i .i64, .s, .i .i64, .s, .i .i64, .i .i64, .i .i64, .i .i64, .i .i64, .i .i64, .i .i64, .i .i64, .i .i64, .i .i64, .i .i64, .i .i64, .i .i64, .i .i64, .i .i64, .i .i64, .i .i64, .s, .i .i64, .s, .i .i64, .s, .i .i64, .s, .i .i64, .s, .i .i64, .i .i64, .i .i64, .i .i64, .i .i64, .i .i64, .i .i64, .i .i64, .i .i64, .i .i64, .l 11, .l 2, .l 11, .l 22, .i .i64, .i .i64, .i .i64, .i .i64, .i .i64, .l 25, .i .i64, .i .i64]) (.nd (some [.x]) .lf .lf) (.nd (some [.p, .l 1]) .lf .lf))) (.nd (some [.f]) (.nd (some [.x]) (.nd (some [.f]) .lf .lf) (.nd (some [.f]) .lf .lf)) (.nd (some [.i .i64]) (.nd (some [.f]) .lf .lf) (.nd (some [.f]) .lf (.nd (some [.i .u64, .i .u32]) .lf .lf))))) (.nd (some [.p]) (.nd (some [.p]) (.nd (some [.f]) (.nd (some [.p]) .lf .lf) (.nd (some [.f]) .lf .lf)) (.nd (some [.f]) (.nd (some [.f]) .lf .lf) (.nd (some [.x]) .lf (.nd (some [.i .u8]) .lf .lf)))) (.nd (some [.i .i64, .s, .i .i64, .s, .i .i64, .s, .i .i64, .s]) (.nd (some [.f]) (.nd (some [.p]) .lf .lf) (.nd (some [.f]) .lf .lf)) (.nd (some [.f]) (.nd (some [.f]) .lf .lf) (.nd (some [.i .i64, .i .i64]) .lf (.nd (some [.x]) .lf .lf))))))) (.nd (some [.b]) (.nd (some [.i .u64]) (.nd (some [.f]) (.nd (some [.f]) (.nd (some [.x]) (.nd (some [.f]) .lf .lf) (.nd (some [.f]) .lf .lf)) (.nd (some [.x]) (.nd (some [.l 1]) .lf .lf) (.nd (some [.n]) .lf .lf))) (.nd (some [.f]) (.nd (some [.f]) (.nd (some [.f]) .lf .lf) (.nd (some [.f]) .lf .lf)) (.nd (some [.l 22]) (.nd (some [.f]) .lf .lf) (.nd (some [.m]) .lf (.nd (some [.i .u64, .i .u32, .i .u64, .i .u32, .i .u64, .i .u32, .i .u64, .i .u32]) .lf .lf))))) (.nd (some [.n]) (.nd (some [.f]) (.nd (some [.f]) (.nd (some [.f]) .lf .lf) (.nd (some [.f]) .lf .lf)) (.nd (some [.f]) (.nd (some [.x]) .lf .lf) (.nd (some [.f]) .lf (.nd (some [.f]) .lf .lf)))) (.nd (some [.i .i64, .i .i64, .i .i64, .i .i64, .s, .i .i64, .s, .i .i64, .s, .i .i64, .s]) (.nd (some [.i .i64, .i .i64, .i .i64, .i .i64, .b, .i .i64, .i .i64, .i .i64, .i .i64, .i .i64, .i .i64, .i .i64, .i .i64, .i .i64, .i .i64, .i .i64, .s, .i .i64, .s, .i .i64, .s, .i .i64, .s, .i .i64, .s, .i .i64, .i .i64, .i .i64, .i .i64, .i .i64, .i .i64, .i .i64, .i .i64, .i .i64, .i .i64, .l 11, .l 2, .l 11, .l 22, .i .i64, .i .i64, .i .i64, .i .i64, .i .i64, .l 25, .i .i64, .i .i64, .i .i64, .i .i64, .p]) (.nd (some [.i .u32]) .lf .lf) (.nd (some [.x]) .lf .lf)) (.nd (some [.f]) (.nd (some [.s, .i .i64, .b]) .lf .lf) (.nd (some [.f]) .lf (.nd (some [.f]) .lf .lf)))))) (.nd (some [.i .i64, .i .i64, .b, .i .u8]) (.nd (some [.i .i64, .i .i64, .i .i64, .i .i64]) (.nd (some [.i .i64, .i .i64, .i .i64, .i .i64, .i .i64, .l 11, .l 25, .l 6]) (.nd (some [.f]) (.nd (some [.f]) .lf .lf) (.nd (some [.f]) .lf .lf)) (.nd (some [.p]) (.nd (some [.x]) .lf .lf) (.nd (some [.p]) .lf (.nd (some [.i .u64, .i .u64, .i .u32, .i .u8, .i .u8, .i .u8, .i .u8, .f, .p, .i .i32, .i .i32]) .lf .lf)))) (.nd (some [.i .i64, .i .i64, .i .i64, .i .i64, .i .i64, .i .i64, .s, .i .i64, .s, .i .i64, .s, .i .i64, .s, .i .i64, .i .u8, .i .i64, .i .i64, .i .i64, .s, .i .i64, .s, .i .i64, .s, .i .i64, .s]) (.nd (some [.x]) (.nd (some [.f]) .lf .lf) (.nd (some [.f]) .lf .lf)) (.nd (some [.p]) (.nd (some [.l 2]) .lf .lf) (.nd (some [.f]) .lf (.nd (some [.f]) .lf .lf))))) (.nd (some [.p]) (.nd (some [.p]) (.nd (some [.x]) (.nd (some [.f]) .lf .lf) (.nd (some [.f]) .lf .lf)) (.nd (some [.i .i64, .i .i64, .i .i64, .i .i64, .i .i64, .i .i64, .i .i64, .i .i64, .i .i64, .i .i64, .i .i64, .s, .i .i64, .s, .i .i64, .s, .i .i64, .s, .i .i64, .s, .i .i64, .i .i64, .i .i64, .i .i64, .i .i64, .i .i64, .i .i64, .i .i64, .i .i64, .i .i64, .l 11, .l 2, .l 11, .l 22, .i .i64, .i .i64, .i .i64, .i .i64, .i .i64, .l 25, .i .i64, .i .i64]) (.nd (some [.f]) .lf .lf) (.nd (some [.i .i64, .i .i64]) .lf (.nd (some [.x]) .lf .lf)))) (.nd (some [.i .i64, .s]) (.nd (some [.f]) (.nd (some [.l 1]) .lf .lf) (.nd (some [.f]) .lf .lf)) (.nd (some [.f]) (.nd (some [.f]) .lf .lf) (.nd (some [.f]) .lf (.nd (some [.x]) .lf .lf)))))))) (.nd (some [.f]) (.nd (some [.i .u8]) (.nd (some [.x]) (.nd (some [.f]) (.nd (some [.f]) (.nd (some [.f]) (.nd (some [.x]) .lf .lf) (.nd (some [.f]) .lf .lf)) (.nd (some [.f]) (.nd (some [.f]) .lf .lf) (.nd (some [.x]) .lf .lf))) (.nd (some [.f]) (.nd (some [.f]) (.nd (some [.x]) .lf .lf) (.nd (some [.x]) .lf .lf)) (.nd (some [.i .i64, .i .i64, .l 11, .l 2, .l 11, .l 22]) (.nd (some [.f]) .lf .lf) (.nd (some [.i .i64, .i .i64, .i .i64, .i .i64, .i .i64, .l 11, .l 25, .m]) .lf (.nd (some [.p, .p, .p, .s]) .lf .lf))))) (.nd (some [.i .i32]) (.nd (some [.i .i64, .i .i64, .i .i64, .i .i64, .i .i64, .l 25]) (.nd (some [.f]) (.nd (some [.p]) .lf .lf) (.nd (some [.f]) .lf .lf)) (.nd (some [.f]) (.nd (some [.f]) .lf .lf) (.nd (some [.i .i64, .i .i64, .i .i64, .p, .i .i64, .i .i64, .i .i64, .i .i64, .i .i64, .i .i64, .i .i64, .i .i64, .i .i64, .i .i64, .i .i64, .s, .i .i64, .s, .i .i64, .s, .i .i64, .s, .i .i64, .s, .i .i64, .i .i64, .i .i64, .i .i64, .i .i64, .i .i64, .i .i64, .i .i64, .i .i64, .i .i64, .l 11, .l 2, .l 11, .l 22, .i .i64, .i .i64, .i .i64, .i .i64, .i .i64, .l 25, .i .i64, .i .i64, .b, .i .i64, .i .i64, .i .i64]) .lf (.nd (some [.i .i32]) .lf .lf)))) (.nd (some [.i .i64, .i .u8, .i .i64, .i .i64, .i .i64, .s, .i .i64, .s, .i .i64, .s, .i .i64, .s]) (.nd (some [.f]) (.nd (some [.f]) .lf .lf) (.nd (some [.f]) .lf .lf)) (.nd (some [.i .i64, .i .i64, .i .i64, .i .i64, .i .i64, .i .i64, .i .i64, .s, .i .i64, .s, .i .i64, .s, .i .i64, .s, .i .i64, .s, .i .i64, .i .i64, .i .i64, .i .i64, .i .i64, .i .i64]) (.nd (some [.s, .i .i64, .b]) .lf .lf) (.nd (some [.i .u64]) .lf (.nd (some [.x]) .lf .lf)))))) (.nd (some [.s]) (.nd (some [.f]) (.nd (some [.i .i64, .i .i64, .i .i64, .i .i64, .i .i64, .l 11, .l 25, .l 6]) (.nd (some [.f]) (.nd (some [.x]) .lf .lf) (.nd (some [.x]) .lf .lf)) (.nd (some [.f]) (.nd (some [.f]) .lf .lf) (.nd (some [.p, .l 1]) .lf .lf))) (.nd (some [.x]) (.nd (some [.f]) (.nd (some [.f]) .lf .lf) (.nd (some [.f]) .lf .lf)) (.nd (some [.f]) (.nd (some [.f]) .lf .lf) (.nd (some [.f]) .lf (.nd (some [.f]) .lf .lf))))) (.nd (some [.p]) (.nd (some [.f]) (.nd (some [.f]) (.nd (some [.l 1]) .lf .lf) (.nd (some [.x]) .lf .lf)) (.nd (some [.x]) (.nd (some [.p]) .lf .lf) (.nd (some [.i .i64, .i .i64]) .lf (.nd (some [.x]) .lf .lf)))) (.nd (some [.i .i64, .s]) (.nd (some [.x]) (.nd (some [.f]) .lf .lf) (.nd (some [.f]) .lf .lf)) (.nd (some [.i .u16]) (.nd (some [.x]) .lf .lf) (.nd (some [.f]) .lf (.nd (some [.f]) .lf .lf))))))) (.nd (some [.i .i64]) (.nd (some [.s]) (.nd (some [.l 25]) (.nd (some [.f]) (.nd (some [.f]) (.nd (some [.x]) .lf .lf) (.nd (some [.f]) .lf .lf)) (.nd (some [.i .i64, .i .i64, .i .i64, .i .i64, .i .i64, .i .i64, .i .i64, .i .i64, .i .i64, .s, .i .i64, .s, .i .i64, .s, .i .i64, .s, .i .i64, .s, .i .i64, .i .i64, .i .i64, .i .i64, .i .i64, .i .i64, .i .i64, .i .i64, .i .i64, .i .i64, .i .i64, .i .i64, .i .i64, .i .i64, .i .i64, .i .i64, .i .i64, .s, .i .i64, .s, .i .i64, .s, .i .i64, .s, .i .i64, .s, .i .i64, .i .i64, .i .i64, .i .i64, .i .i64, .i .i64, .i .i64, .i .i64, .i .i64, .i .i64, .l 11, .l 2, .l 11, .l 22, .i .i64, .i .i64, .i .i64, .i .i64, .i .i64, .l 25, .i .i64, .i .i64]) (.nd (some [.f]) .lf .lf) (.nd (some [.n]) .lf .lf))) (.nd (some [.f]) (.nd (some [.f]) (.nd (some [.f]) .lf .lf) (.nd (some [.f]) .lf .lf)) (.nd (some [.l 2]) (.nd (some [.f]) .lf .lf) (.nd (some [.f]) .lf (.nd (some [.i .u64, .i .u32]) .lf .lf))))) (.nd (some [.p]) (.nd (some [.f]) (.nd (some [.f]) (.nd (some [.f]) .lf .lf) (.nd (some [.f]) .lf .lf)) (.nd (some [.l 42]) (.nd (some [.f]) .lf .lf) (.nd (some [.f]) .lf (.nd (some [.i .u8]) .lf .lf)))) (.nd (some [.i .i64, .i .i64, .i .i64, .i .i64, .s, .i .i64, .s, .i .i64, .s, .i .i64, .s]) (.nd (some [.i .i64, .i .i64, .i .i64, .i .i64, .b, .i .i64, .i .i64, .i .i64, .i .i64, .i .i64, .i .i64, .i .i64, .i .i64, .i .i64, .i .i64, .i .i64, .s, .i .i64, .s, .i .i64, .s, .i .i64, .s, .i .i64, .s, .i .i64, .i .i64, .i .i64, .i .i64, .i .i64, .i .i64, .i .i64, .i .i64, .i .i64, .i .i64, .l 11, .l 2, .l 11, .l 22, .i .i64, .i .i64, .i .i64, .i .i64, .i .i64, .l 25, .i .i64, .i .i64, .i .i64, .i .i64, .p]) (.nd (some [.f]) .lf .lf) (.nd (some [.f]) .lf .lf)) (.nd (some [.f]) (.nd (some [.p]) .lf .lf) (.nd (some [.i .i64, .i .i64]) .lf (.nd (some [.f]) .lf .lf)))))) (.nd (some [.i .i64, .i .i64, .b, .i .u8]) (.nd (some [.i .i64, .i .i64, .i .i64, .i .i64]) (.nd (some [.f]) (.nd (some [.f]) (.nd (some [.s, .i .i64, .i .i64]) .lf .lf) (.nd (some [.f]) .lf .lf)) (.nd (some [.f]) (.nd (some [.f]) .lf .lf) (.nd (some [.f]) .lf (.nd (some [.i .u64, .i .u64, .i .u32, .i .u8, .i .u8, .i .u8, .i .u8, .f, .p, .i .i32, .i .i32]) .lf .lf)))) (.nd (some [.i .i64, .i .i64, .i .i64, .i .i64, .i .i64, .i .i64, .s, .i .i64, .s, .i .i64, .s, .i .i64, .s, .i .i64, .i .u8, .i .i64, .i .i64, .i .i64, .s, .i .i64, .s, .i .i64, .s, .i .i64, .s]) (.nd (some [.f]) (.nd (some [.f]) .lf .lf) (.nd (some [.f]) .lf .lf)) (.nd (some [.f]) (.nd (some [.f]) .lf .lf) (.nd (some [.x]) .lf (.nd (some [.f]) .lf .lf))))) (.nd (some [.p]) (.nd (some [.f]) (.nd (some [.f]) (.nd (some [.f]) .lf .lf) (.nd (some [.x]) .lf .lf)) (.nd (some [.i .i64, .i .i64, .i .i64, .i .i64, .i .i64, .i .i64, .i .i64, .i .i64, .i .i64, .i .i64, .i .i64, .s, .i .i64, .s, .i .i64, .s, .i .i64, .s, .i .i64, .s, .i .i64, .i .i64, .i .i64, .i .i64, .i .i64, .i .i64, .i .i64, .i .i64, .i .i64, .i .i64, .l 11, .l 2, .l 11, .l 22, .i .i64, .i .i64, .i .i64, .i .i64, .i .i64, .l 25, .i .i64, .i .i64]) (.nd (some [.f]) .lf .lf) (.nd (some [.f]) .lf (.nd (some []) .lf .lf)))) (.nd (some [.i .i64, .i .i64]) (.nd (some [.f]) (.nd (some [.p]) .lf .lf) (.nd (some [.f]) .lf .lf)) (.nd (some [.l 1]) (.nd (some [.f]) .lf .lf) (.nd (some [.x]) .lf (.nd (some [.f]) .lf .lf)))))))))
def byts : Tr Nat := (.nd (some 0) (.nd (some 8) (.nd (some 1) (.nd (some 24) (.nd (some 16) (.nd (some 24) (.nd (some 8) (.nd (some 8) .lf .lf) (.nd (some 8) .lf .lf)) (.nd (some 8) (.nd (some 8) .lf .lf) (.nd (some 8) .lf .lf))) (.nd (some 24) (.nd (some 0) (.nd (some 8) .lf .lf) (.nd (some 8) .lf .lf)) (.nd (some 112) (.nd (some 8) .lf .lf) (.nd (some 96) .lf (.nd (some 40) .lf .lf))))) (.nd (some 24) (.nd (some 64) (.nd (some 8) (.nd (some 32) .lf .lf) (.nd (some 8) .lf .lf)) (.nd (some 24) (.nd (some 0) .lf .lf) (.nd (some 520) .lf (.nd (some 4) .lf .lf)))) (.nd (some 128) (.nd (some 8) (.nd (some 8) .lf .lf) (.nd (some 8) .lf .lf)) (.nd (some 216) (.nd (some 8) .lf .lf) (.nd (some 8) .lf (.nd (some 8) .lf .lf)))))) (.nd (some 16) (.nd (some 8) (.nd (some 8) (.nd (some 8) (.nd (some 8) .lf .lf) (.nd (some 8) .lf .lf)) (.nd (some 688) (.nd (some 0) .lf .lf) (.nd (some 32) .lf .lf))) (.nd (some 8) (.nd (some 0) (.nd (some 8) .lf .lf) (.nd (some 8) .lf .lf)) (.nd (some 8) (.nd (some 8) .lf .lf) (.nd (some 8) .lf (.nd (some 16) .lf .lf))))) (.nd (some 8) (.nd (some 8) (.nd (some 8) (.nd (some 8) .lf .lf) (.nd (some 8) .lf .lf)) (.nd (some 8) (.nd (some 8) .lf .lf) (.nd (some 0) .lf (.nd (some 1) .lf .lf)))) (.nd (some 96) (.nd (some 8) (.nd (some 8) .lf .lf) (.nd (some 8) .lf .lf)) (.nd (some 8) (.nd (some 8) .lf .lf) (.nd (some 16) .lf (.nd (some 0) .lf .lf))))))) (.nd (some 1) (.nd (some 8) (.nd (some 8) (.nd (some 8) (.nd (some 0) (.nd (some 8) .lf .lf) (.nd (some 8) .lf .lf)) (.nd (some 0) (.nd (some 24) .lf .lf) (.nd (some 16) .lf .lf))) (.nd (some 8) (.nd (some 8) (.nd (some 8) .lf .lf) (.nd (some 8) .lf .lf)) (.nd (some 24) (.nd (some 8) .lf .lf) (.nd (some 8) .lf (.nd (some 64) .lf .lf))))) (.nd (some 16) (.nd (some 8) (.nd (some 8) (.nd (some 8) .lf .lf) (.nd (some 8) .lf .lf)) (.nd (some 8) (.nd (some 0) .lf .lf) (.nd (some 8) .lf (.nd (some 8) .lf .lf)))) (.nd (some 120) (.nd (some 520) (.nd (some 4) .lf .lf) (.nd (some 0) .lf .lf)) (.nd (some 8) (.nd (some 32) .lf .lf) (.nd (some 8) .lf (.nd (some 8) .lf .lf)))))) (.nd (some 24) (.nd (some 32) (.nd (some 112) (.nd (some 8) (.nd (some 8) .lf .lf) (.nd (some 8) .lf .lf)) (.nd (some 8) (.nd (some 0) .lf .lf) (.nd (some 8) .lf (.nd (some 48) .lf .lf)))) (.nd (some 264) (.nd (some 0) (.nd (some 8) .lf .lf) (.nd (some 8) .lf .lf)) (.nd (some 8) (.nd (some 24) .lf .lf) (.nd (some 8) .lf (.nd (some 8) .lf .lf))))) (.nd (some 8) (.nd (some 8) (.nd (some 0) (.nd (some 8) .lf .lf) (.nd (some 8) .lf .lf)) (.nd (some 456) (.nd (some 8) .lf .lf) (.nd (some 16) .lf (.nd (some 0) .lf .lf)))) (.nd (some 24) (.nd (some 8) (.nd (some 24) .lf .lf) (.nd (some 8) .lf .lf)) (.nd (some 8) (.nd (some 8) .lf .lf) (.nd (some 8) .lf (.nd (some 0) .lf .lf)))))))) (.nd (some 8) (.nd (some 1) (.nd (some 24) (.nd (some 8) (.nd (some 8) (.nd (some 8) (.nd (some 0) .lf .lf) (.nd (some 8) .lf .lf)) (.nd (some 8) (.nd (some 8) .lf .lf) (.nd (some 0) .lf .lf))) (.nd (some 8) (.nd (some 8) (.nd (some 0) .lf .lf) (.nd (some 0) .lf .lf)) (.nd (some 112) (.nd (some 8) .lf .lf) (.nd (some 96) .lf (.nd (some 40) .lf .lf))))) (.nd (some 4) (.nd (some 64) (.nd (some 8) (.nd (some 8) .lf .lf) (.nd (some 8) .lf .lf)) (.nd (some 8) (.nd (some 8) .lf .lf) (.nd (some 520) .lf (.nd (some 4) .lf .lf)))) (.nd (some 128) (.nd (some 8) (.nd (some 8) .lf .lf) (.nd (some 8) .lf .lf)) (.nd (some 216) (.nd (some 32) .lf .lf) (.nd (some 8) .lf (.nd (some 0) .lf .lf)))))) (.nd (some 16) (.nd (some 8) (.nd (some 112) (.nd (some 8) (.nd (some 0) .lf .lf) (.nd (some 0) .lf .lf)) (.nd (some 8) (.nd (some 8) .lf .lf) (.nd (some 32) .lf .lf))) (.nd (some 0) (.nd (some 8) (.nd (some 8) .lf .lf) (.nd (some 8) .lf .lf)) (.nd (some 8) (.nd (some 8) .lf .lf) (.nd (some 8) .lf (.nd (some 8) .lf .lf))))) (.nd (some 8) (.nd (some 8) (.nd (some 8) (.nd (some 24) .lf .lf) (.nd (some 0) .lf .lf)) (.nd (some 0) (.nd (some 8) .lf .lf) (.nd (some 16) .lf (.nd (some 0) .lf .lf)))) (.nd (some 24) (.nd (some 0) (.nd (some 8) .lf .lf) (.nd (some 8) .lf .lf)) (.nd (some 2) (.nd (some 0) .lf .lf) (.nd (some 8) .lf (.nd (some 8) .lf .lf))))))) (.nd (some 8) (.nd (some 16) (.nd (some 24) (.nd (some 8) (.nd (some 8) (.nd (some 0) .lf .lf) (.nd (some 8) .lf .lf)) (.nd (some 688) (.nd (some 8) .lf .lf) (.nd (some 16) .lf .lf))) (.nd (some 8) (.nd (some 8) (.nd (some 8) .lf .lf) (.nd (some 8) .lf .lf)) (.nd (some 24) (.nd (some 8) .lf .lf) (.nd (some 8) .lf (.nd (some 16) .lf .lf))))) (.nd (some 8) (.nd (some 8) (.nd (some 8) (.nd (some 8) .lf .lf) (.nd (some 8) .lf .lf)) (.nd (some 24) (.nd (some 8) .lf .lf) (.nd (some 8) .lf (.nd (some 1) .lf .lf)))) (.nd (some 120) (.nd (some 520) (.nd (some 8) .lf .lf) (.nd (some 8) .lf .lf)) (.nd (some 8) (.nd (some 8) .lf .lf) (.nd (some 16) .lf (.nd (some 8) .lf .lf)))))) (.nd (some 24) (.nd (some 32) (.nd (some 8) (.nd (some 8) (.nd (some 32) .lf .lf) (.nd (some 8) .lf .lf)) (.nd (some 8) (.nd (some 8) .lf .lf) (.nd (some 8) .lf (.nd (some 48) .lf .lf)))) (.nd (some 264) (.nd (some 8) (.nd (some 8) .lf .lf) (.nd (some 8) .lf .lf)) (.nd (some 8) (.nd (some 8) .lf .lf) (.nd (some 0) .lf (.nd (some 8) .lf .lf))))) (.nd (some 8) (.nd (some 8) (.nd (some 8) (.nd (some 8) .lf .lf) (.nd (some 0) .lf .lf)) (.nd (some 456) (.nd (some 8) .lf .lf) (.nd (some 8) .lf (.nd (some 0) .lf .lf)))) (.nd (some 16) (.nd (some 8) (.nd (some 8) .lf .lf) (.nd (some 8) .lf .lf)) (.nd (some 24) (.nd (some 8) .lf .lf) (.nd (some 0) .lf (.nd (some 8) .lf .lf)))))))))
def rks : Tr Nat := (.nd (some 0) (.nd (some 0) (.nd (some 0) (.nd (some 1) (.nd (some 1) (.nd (some 0) (.nd (some 0) (.nd (some 0) .lf .lf) (.nd (some 0) .lf .lf)) (.nd (some 0) (.nd (some 0) .lf .lf) (.nd (some 0) .lf .lf))) (.nd (some 0) (.nd (some 0) (.nd (some 0) .lf .lf) (.nd (some 0) .lf .lf)) (.nd (some 1) (.nd (some 0) .lf .lf) (.nd (some 1) .lf (.nd (some 1) .lf .lf))))) (.nd (some 0) (.nd (some 1) (.nd (some 0) (.nd (some 1) .lf .lf) (.nd (some 0) .lf .lf)) (.nd (some 0) (.nd (some 0) .lf .lf) (.nd (some 5) .lf (.nd (some 0) .lf .lf)))) (.nd (some 3) (.nd (some 0) (.nd (some 0) .lf .lf) (.nd (some 0) .lf .lf)) (.nd (some 3) (.nd (some 0) .lf .lf) (.nd (some 0) .lf (.nd (some 0) .lf .lf)))))) (.nd (some 0) (.nd (some 0) (.nd (some 0) (.nd (some 0) (.nd (some 0) .lf .lf) (.nd (some 0) .lf .lf)) (.nd (some 5) (.nd (some 0) .lf .lf) (.nd (some 1) .lf .lf))) (.nd (some 0) (.nd (some 0) (.nd (some 0) .lf .lf) (.nd (some 0) .lf .lf)) (.nd (some 0) (.nd (some 0) .lf .lf) (.nd (some 0) .lf (.nd (some 1) .lf .lf))))) (.nd (some 1) (.nd (some 0) (.nd (some 0) (.nd (some 0) .lf .lf) (.nd (some 0) .lf .lf)) (.nd (some 0) (.nd (some 0) .lf .lf) (.nd (some 0) .lf (.nd (some 0) .lf .lf)))) (.nd (some 2) (.nd (some 0) (.nd (some 0) .lf .lf) (.nd (some 0) .lf .lf)) (.nd (some 0) (.nd (some 0) .lf .lf) (.nd (some 1) .lf (.nd (some 0) .lf .lf))))))) (.nd (some 0) (.nd (some 0) (.nd (some 0) (.nd (some 0) (.nd (some 0) (.nd (some 0) .lf .lf) (.nd (some 0) .lf .lf)) (.nd (some 0) (.nd (some 0) .lf .lf) (.nd (some 0) .lf .lf))) (.nd (some 0) (.nd (some 0) (.nd (some 0) .lf .lf) (.nd (some 0) .lf .lf)) (.nd (some 0) (.nd (some 0) .lf .lf) (.nd (some 0) .lf (.nd (some 2) .lf .lf))))) (.nd (some 0) (.nd (some 0) (.nd (some 0) (.nd (some 0) .lf .lf) (.nd (some 0) .lf .lf)) (.nd (some 0) (.nd (some 0) .lf .lf) (.nd (some 0) .lf (.nd (some 0) .lf .lf)))) (.nd (some 3) (.nd (some 5) (.nd (some 0) .lf .lf) (.nd (some 0) .lf .lf)) (.nd (some 0) (.nd (some 1) .lf .lf) (.nd (some 0) .lf (.nd (some 0) .lf .lf)))))) (.nd (some 1) (.nd (some 1) (.nd (some 1) (.nd (some 0) (.nd (some 0) .lf .lf) (.nd (some 0) .lf .lf)) (.nd (some 0) (.nd (some 0) .lf .lf) (.nd (some 0) .lf (.nd (some 1) .lf .lf)))) (.nd (some 4) (.nd (some 0) (.nd (some 0) .lf .lf) (.nd (some 0) .lf .lf)) (.nd (some 0) (.nd (some 0) .lf .lf) (.nd (some 0) .lf (.nd (some 0) .lf .lf))))) (.nd (some 0) (.nd (some 0) (.nd (some 0) (.nd (some 0) .lf .lf) (.nd (some 0) .lf .lf)) (.nd (some 4) (.nd (some 0) .lf .lf) (.nd (some 1) .lf (.nd (some 2) .lf .lf)))) (.nd (some 1) (.nd (some 0) (.nd (some 0) .lf .lf) (.nd (some 0) .lf .lf)) (.nd (some 0) (.nd (some 0) .lf .lf) (.nd (some 0) .lf (.nd (some 0) .lf .lf)))))))) (.nd (some 0) (.nd (some 0) (.nd (some 1) (.nd (some 0) (.nd (some 0) (.nd (some 0) (.nd (some 0) .lf .lf) (.nd (some 0) .lf .lf)) (.nd (some 0) (.nd (some 0) .lf .lf) (.nd (some 0) .lf .lf))) (.nd (some 0) (.nd (some 0) (.nd (some 0) .lf .lf) (.nd (some 0) .lf .lf)) (.nd (some 1) (.nd (some 0) .lf .lf) (.nd (some 1) .lf (.nd (some 1) .lf .lf))))) (.nd (some 0) (.nd (some 1) (.nd (some 0) (.nd (some 0) .lf .lf) (.nd (some 0) .lf .lf)) (.nd (some 0) (.nd (some 0) .lf .lf) (.nd (some 5) .lf (.nd (some 0) .lf .lf)))) (.nd (some 3) (.nd (some 0) (.nd (some 0) .lf .lf) (.nd (some 0) .lf .lf)) (.nd (some 3) (.nd (some 1) .lf .lf) (.nd (some 0) .lf (.nd (some 0) .lf .lf)))))) (.nd (some 0) (.nd (some 0) (.nd (some 1) (.nd (some 0) (.nd (some 0) .lf .lf) (.nd (some 0) .lf .lf)) (.nd (some 0) (.nd (some 0) .lf .lf) (.nd (some 1) .lf .lf))) (.nd (some 0) (.nd (some 0) (.nd (some 0) .lf .lf) (.nd (some 0) .lf .lf)) (.nd (some 0) (.nd (some 0) .lf .lf) (.nd (some 0) .lf (.nd (some 0) .lf .lf))))) (.nd (some 0) (.nd (some 0) (.nd (some 0) (.nd (some 0) .lf .lf) (.nd (some 0) .lf .lf)) (.nd (some 0) (.nd (some 0) .lf .lf) (.nd (some 1) .lf (.nd (some 2) .lf .lf)))) (.nd (some 1) (.nd (some 0) (.nd (some 0) .lf .lf) (.nd (some 0) .lf .lf)) (.nd (some 0) (.nd (some 0) .lf .lf) (.nd (some 0) .lf (.nd (some 0) .lf .lf))))))) (.nd (some 0) (.nd (some 0) (.nd (some 0) (.nd (some 0) (.nd (some 0) (.nd (some 0) .lf .lf) (.nd (some 0) .lf .lf)) (.nd (some 5) (.nd (some 0) .lf .lf) (.nd (some 0) .lf .lf))) (.nd (some 0) (.nd (some 0) (.nd (some 0) .lf .lf) (.nd (some 0) .lf .lf)) (.nd (some 0) (.nd (some 0) .lf .lf) (.nd (some 0) .lf (.nd (some 1) .lf .lf))))) (.nd (some 1) (.nd (some 0) (.nd (some 0) (.nd (some 0) .lf .lf) (.nd (some 0) .lf .lf)) (.nd (some 0) (.nd (some 0) .lf .lf) (.nd (some 0) .lf (.nd (some 0) .lf .lf)))) (.nd (some 3) (.nd (some 5) (.nd (some 0) .lf .lf) (.nd (some 0) .lf .lf)) (.nd (some 0) (.nd (some 0) .lf .lf) (.nd (some 1) .lf (.nd (some 0) .lf .lf)))))) (.nd (some 1) (.nd (some 1) (.nd (some 0) (.nd (some 0) (.nd (some 1) .lf .lf) (.nd (some 0) .lf .lf)) (.nd (some 0) (.nd (some 0) .lf .lf) (.nd (some 0) .lf (.nd (some 1) .lf .lf)))) (.nd (some 4) (.nd (some 0) (.nd (some 0) .lf .lf) (.nd (some 0) .lf .lf)) (.nd (some 0) (.nd (some 0) .lf .lf) (.nd (some 0) .lf (.nd (some 0) .lf .lf))))) (.nd (some 0) (.nd (some 0) (.nd (some 0) (.nd (some 0) .lf .lf) (.nd (some 0) .lf .lf)) (.nd (some 4) (.nd (some 0) .lf .lf) (.nd (some 0) .lf (.nd (some 1) .lf .lf)))) (.nd (some 1) (.nd (some 0) (.nd (some 0) .lf .lf) (.nd (some 0) .lf .lf)) (.nd (some 0) (.nd (some 0) .lf .lf) (.nd (some 0) .lf (.nd (some 0) .lf .lf)))))))))
noncomputable def fns : Tr Func := (.nd none (.nd none (.nd (some Try.f6) (.nd (some Try.f14) (.nd (some Try.f30) (.nd (some Try.f62) (.nd (some Try.f126) .lf (.nd (some Try.f190) .lf .lf)) (.nd (some Try.f94) (.nd (some Try.f222) .lf .lf) (.nd (some Try.f158) .lf .lf))) (.nd (some Try.f46) (.nd (some Try.f110) .lf (.nd (some Try.f174) .lf .lf)) (.nd (some Try.f78) (.nd (some Try.f206) .lf .lf) (.nd (some Try.f142) .lf .lf)))) (.nd (some Try.f22) (.nd (some Try.f54) (.nd (some Try.f118) .lf (.nd (some Try.f182) .lf .lf)) (.nd (some Try.f86) (.nd (some Try.f214) .lf .lf) (.nd (some Try.f150) .lf .lf))) (.nd (some Try.f38) (.nd (some Try.f102) (.nd (some Try.f230) .lf .lf) (.nd (some Try.f166) .lf .lf)) (.nd (some Try.f70) (.nd (some Try.f198) .lf .lf) (.nd (some Try.f134) .lf .lf))))) (.nd (some Try.f10) (.nd (some Try.f26) (.nd (some Try.f58) (.nd (some Try.f122) .lf (.nd (some Try.f186) .lf .lf)) (.nd (some Try.f90) (.nd (some Try.f218) .lf .lf) (.nd (some Try.f154) .lf .lf))) (.nd (some Try.f42) (.nd (some Try.f106) .lf (.nd (some Try.f170) .lf .lf)) (.nd (some Try.f74) (.nd (some Try.f202) .lf .lf) (.nd (some Try.f138) .lf .lf)))) (.nd (some Try.f18) (.nd (some Try.f50) (.nd (some Try.f114) .lf (.nd (some Try.f178) .lf .lf)) (.nd (some Try.f82) (.nd (some Try.f210) .lf .lf) (.nd (some Try.f146) .lf .lf))) (.nd (some Try.f34) (.nd (some Try.f98) (.nd (some Try.f226) .lf .lf) (.nd (some Try.f162) .lf .lf)) (.nd (some Try.f66) (.nd (some Try.f194) .lf .lf) (.nd (some Try.f130) .lf .lf)))))) (.nd (some Try.f4) (.nd (some Try.f12) (.nd (some Try.f28) (.nd (some Try.f60) (.nd (some Try.f124) .lf (.nd (some Try.f188) .lf .lf)) (.nd (some Try.f92) (.nd (some Try.f220) .lf .lf) (.nd (some Try.f156) .lf .lf))) (.nd (some Try.f44) (.nd (some Try.f108) .lf (.nd (some Try.f172) .lf .lf)) (.nd (some Try.f76) (.nd (some Try.f204) .lf .lf) (.nd (some Try.f140) .lf .lf)))) (.nd (some Try.f20) (.nd (some Try.f52) (.nd (some Try.f116) .lf (.nd (some Try.f180) .lf .lf)) (.nd (some Try.f84) (.nd (some Try.f212) .lf .lf) (.nd (some Try.f148) .lf .lf))) (.nd (some Try.f36) (.nd (some Try.f100) (.nd (some Try.f228) .lf .lf) (.nd (some Try.f164) .lf .lf)) (.nd (some Try.f68) (.nd (some Try.f196) .lf .lf) (.nd (some Try.f132) .lf .lf))))) (.nd (some Try.f8) (.nd (some Try.f24) (.nd (some Try.f56) (.nd (some Try.f120) .lf (.nd (some Try.f184) .lf .lf)) (.nd (some Try.f88) (.nd (some Try.f216) .lf .lf) (.nd (some Try.f152) .lf .lf))) (.nd (some Try.f40) (.nd (some Try.f104) (.nd (some Try.f232) .lf .lf) (.nd (some Try.f168) .lf .lf)) (.nd (some Try.f72) (.nd (some Try.f200) .lf .lf) (.nd (some Try.f136) .lf .lf)))) (.nd (some Try.f16) (.nd (some Try.f48) (.nd (some Try.f112) .lf (.nd (some Try.f176) .lf .lf)) (.nd (some Try.f80) (.nd (some Try.f208) .lf .lf) (.nd (some Try.f144) .lf .lf))) (.nd (some Try.f32) (.nd (some Try.f96) (.nd (some Try.f224) .lf .lf) (.nd (some Try.f160) .lf .lf)) (.nd (some Try.f64) (.nd (some Try.f192) .lf .lf) (.nd (some Try.f128) .lf .lf))))))) (.nd none (.nd (some Try.f5) (.nd (some Try.f13) (.nd (some Try.f29) (.nd (some Try.f61) (.nd (some Try.f125) .lf (.nd (some Try.f189) .lf .lf)) (.nd (some Try.f93) (.nd (some Try.f221) .lf .lf) (.nd (some Try.f157) .lf .lf))) (.nd (some Try.f45) (.nd (some Try.f109) .lf (.nd (some Try.f173) .lf .lf)) (.nd (some Try.f77) (.nd (some Try.f205) .lf .lf) (.nd (some Try.f141) .lf .lf)))) (.nd (some Try.f21) (.nd (some Try.f53) (.nd (some Try.f117) .lf (.nd (some Try.f181) .lf .lf)) (.nd (some Try.f85) (.nd (some Try.f213) .lf .lf) (.nd (some Try.f149) .lf .lf))) (.nd (some Try.f37) (.nd (some Try.f101) (.nd (some Try.f229) .lf .lf) (.nd (some Try.f165) .lf .lf)) (.nd (some Try.f69) (.nd (some Try.f197) .lf .lf) (.nd (some Try.f133) .lf .lf))))) (.nd (some Try.f9) (.nd (some Try.f25) (.nd (some Try.f57) (.nd (some Try.f121) .lf (.nd (some Try.f185) .lf .lf)) (.nd (some Try.f89) (.nd (some Try.f217) .lf .lf) (.nd (some Try.f153) .lf .lf))) (.nd (some Try.f41) (.nd (some Try.f105) (.nd (some Try.f233) .lf .lf) (.nd (some Try.f169) .lf .lf)) (.nd (some Try.f73) (.nd (some Try.f201) .lf .lf) (.nd (some Try.f137) .lf .lf)))) (.nd (some Try.f17) (.nd (some Try.f49) (.nd (some Try.f113) .lf (.nd (some Try.f177) .lf .lf)) (.nd (some Try.f81) (.nd (some Try.f209) .lf .lf) (.nd (some Try.f145) .lf .lf))) (.nd (some Try.f33) (.nd (some Try.f97) (.nd (some Try.f225) .lf .lf) (.nd (some Try.f161) .lf .lf)) (.nd (some Try.f65) (.nd (some Try.f193) .lf .lf) (.nd (some Try.f129) .lf .lf)))))) (.nd (some Try.f3) (.nd (some Try.f11) (.nd (some Try.f27) (.nd (some Try.f59) (.nd (some Try.f123) .lf (.nd (some Try.f187) .lf .lf)) (.nd (some Try.f91) (.nd (some Try.f219) .lf .lf) (.nd (some Try.f155) .lf .lf))) (.nd (some Try.f43) (.nd (some Try.f107) .lf (.nd (some Try.f171) .lf .lf)) (.nd (some Try.f75) (.nd (some Try.f203) .lf .lf) (.nd (some Try.f139) .lf .lf)))) (.nd (some Try.f19) (.nd (some Try.f51) (.nd (some Try.f115) .lf (.nd (some Try.f179) .lf .lf)) (.nd (some Try.f83) (.nd (some Try.f211) .lf .lf) (.nd (some Try.f147) .lf .lf))) (.nd (some Try.f35) (.nd (some Try.f99) (.nd (some Try.f227) .lf .lf) (.nd (some Try.f163) .lf .lf)) (.nd (some Try.f67) (.nd (some Try.f195) .lf .lf) (.nd (some Try.f131) .lf .lf))))) (.nd (some Try.f7) (.nd (some Try.f23) (.nd (some Try.f55) (.nd (some Try.f119) .lf (.nd (some Try.f183) .lf .lf)) (.nd (some Try.f87) (.nd (some Try.f215) .lf .lf) (.nd (some Try.f151) .lf .lf))) (.nd (some Try.f39) (.nd (some Try.f103) (.nd (some Try.f231) .lf .lf) (.nd (some Try.f167) .lf .lf)) (.nd (some Try.f71) (.nd (some Try.f199) .lf .lf) (.nd (some Try.f135) .lf .lf)))) (.nd (some Try.f15) (.nd (some Try.f47) (.nd (some Try.f111) .lf (.nd (some Try.f175) .lf .lf)) (.nd (some Try.f79) (.nd (some Try.f207) .lf .lf) (.nd (some Try.f143) .lf .lf))) (.nd (some Try.f31) (.nd (some Try.f95) (.nd (some Try.f223) .lf .lf) (.nd (some Try.f159) .lf .lf)) (.nd (some Try.f63) (.nd (some Try.f191) .lf .lf) (.nd (some Try.f127) .lf .lf))))))))
def lvs : Tr (List Nat × List Nat) := (.nd none (.nd none (.nd none (.nd none (.nd none .lf (.nd none .lf (.nd none (.nd none .lf (.nd none (.nd none (.nd none .lf (.nd none .lf (.nd (some ([8, 75, 76, 77], [2, 3, 8])) .lf .lf))) .lf) .lf)) .lf))) (.nd none (.nd none .lf (.nd none .lf (.nd none (.nd none (.nd none (.nd none .lf (.nd none .lf (.nd (some ([2, 12], [4])) .lf .lf))) .lf) .lf) .lf))) (.nd none .lf (.nd none (.nd none (.nd (some ([0, 5, 6, 7], [0, 4, 5, 6])) (.nd none .lf (.nd none (.nd none (.nd (some ([1, 3], [2])) .lf .lf) (.nd (some ([1, 40, 41], [2])) .lf .lf)) .lf)) .lf) (.nd (some ([2, 3, 9, 10, 11, 12], [3, 8, 9, 10, 11])) .lf .lf)) (.nd none .lf (.nd none .lf (.nd none .lf (.nd none .lf (.nd none .lf (.nd none .lf (.nd (some ([0, 4, 17, 18, 19], [2, 3, 4])) .lf .lf))))))))))) (.nd none (.nd none .lf (.nd none .lf (.nd none (.nd none (.nd none (.nd none (.nd none (.nd none .lf (.nd (some ([0, 3, 5], [0, 2, 3])) .lf .lf)) .lf) .lf) .lf) (.nd none .lf (.nd none .lf (.nd none .lf (.nd none .lf (.nd (some ([0, 5, 6], [2, 3, 5])) .lf (.nd (some ([4, 36, 37, 38], [2, 3, 4])) .lf .lf))))))) (.nd none (.nd none .lf (.nd none .lf (.nd none .lf (.nd (some ([0], [4])) .lf .lf)))) .lf)))) (.nd none (.nd none .lf (.nd none (.nd none .lf (.nd (some ([3, 9, 10, 11, 16, 17], [8, 9, 10, 11, 16])) .lf .lf)) .lf)) (.nd none .lf (.nd none (.nd none (.nd none (.nd none (.nd none (.nd (some ([0, 3], [2])) (.nd (some ([0, 3], [0, 2])) .lf .lf) .lf) (.nd none (.nd none .lf (.nd (some ([1, 3], [2])) .lf .lf)) .lf)) (.nd (some ([0, 3], [2])) (.nd none .lf (.nd none (.nd (some ([0, 9, 10], [0, 2])) .lf .lf) .lf)) .lf)) (.nd none (.nd none (.nd none (.nd none .lf (.nd (some ([0, 1, 7, 8], [4])) .lf .lf)) .lf) (.nd (some ([1, 3], [1, 2])) .lf (.nd none .lf (.nd (some ([0, 1, 2, 9, 10, 11], [6])) .lf .lf)))) (.nd none (.nd none (.nd (some ([0, 1, 5], [4])) .lf .lf) .lf) .lf))) (.nd none (.nd none (.nd none (.nd (some ([0, 3], [0, 2])) .lf .lf) (.nd none .lf (.nd none (.nd (some ([0, 1, 7, 8], [4])) .lf .lf) .lf))) .lf) (.nd none (.nd none .lf (.nd none (.nd (some ([0, 3], [2])) .lf .lf) (.nd (some ([1, 3], [2])) .lf .lf))) (.nd none (.nd none .lf (.nd none (.nd (some ([1, 8, 9, 10], [3])) .lf .lf) .lf)) (.nd none (.nd (some ([1, 3], [2])) .lf .lf) (.nd (some ([0, 4], [0, 2, 3])) (.nd (some ([0, 1, 7, 8], [4])) .lf .lf) .lf)))))) (.nd none (.nd none (.nd none (.nd (some ([0, 3], [0, 2])) (.nd (some ([0, 3], [0, 2])) (.nd (some ([1, 3], [1, 2])) .lf .lf) (.nd (some ([0, 1, 2, 7], [6])) .lf .lf)) .lf) (.nd (some ([0, 3], [0, 2])) .lf (.nd none (.nd (some ([0, 3003], [0, 2, 3003])) .lf .lf) .lf))) (.nd none (.nd none (.nd none .lf (.nd (some ([1, 3], [2])) .lf .lf)) .lf) (.nd none .lf (.nd none (.nd none .lf (.nd (some ([0, 1, 7, 8], [4])) .lf .lf)) .lf)))) (.nd none (.nd none (.nd none (.nd none .lf (.nd none .lf (.nd (some ([5, 6, 7], [2])) .lf .lf))) (.nd none .lf (.nd (some ([1, 3], [1, 2])) .lf (.nd (some ([0, 1, 2, 12, 13, 14], [0, 6])) .lf .lf)))) (.nd none (.nd none .lf (.nd (some ([1, 3], [2])) .lf .lf)) (.nd none .lf (.nd none .lf (.nd (some ([0, 3], [0, 2])) .lf .lf))))) (.nd none (.nd none .lf (.nd none .lf (.nd none .lf (.nd (some ([0, 1, 5], [4])) .lf .lf)))) (.nd none (.nd (some ([0, 3], [0, 2])) .lf .lf) (.nd none (.nd (some ([1, 9, 10], [1, 2])) .lf .lf) .lf)))))))))) (.nd none (.nd none (.nd none .lf (.nd none .lf (.nd none (.nd none (.nd none (.nd none (.nd none (.nd none (.nd none .lf (.nd (some ([1, 2, 5, 6, 7, 37, 38, 39], [1, 2, 3, 4, 5, 6])) .lf .lf)) .lf) .lf) .lf) .lf) .lf) (.nd none .lf (.nd none (.nd (some ([0, 1, 15], [6])) .lf .lf) .lf))))) (.nd none (.nd none .lf (.nd none .lf (.nd none (.nd none (.nd none (.nd none .lf (.nd none (.nd none .lf (.nd (some ([0, 2, 5, 6, 8, 11], [2, 3, 4, 5, 6, 8])) .lf .lf)) .lf)) .lf) .lf) .lf))) (.nd none .lf (.nd none (.nd none (.nd none (.nd none (.nd none .lf (.nd none .lf (.nd none .lf (.nd (some ([0, 1, 12, 13], [4])) .lf .lf)))) .lf) .lf) (.nd none .lf (.nd none .lf (.nd none (.nd none (.nd (some ([2, 3, 4, 15, 16], [2, 4])) .lf .lf) (.nd (some ([2, 3, 5], [2, 3, 4])) .lf .lf)) .lf)))) (.nd none (.nd none (.nd none (.nd none .lf (.nd none .lf (.nd none .lf (.nd (some ([0, 1, 12, 13], [4])) .lf .lf)))) (.nd none .lf (.nd (some ([0, 1, 5], [4])) .lf .lf))) (.nd none .lf (.nd none (.nd none .lf (.nd none .lf (.nd (some ([0, 2, 3, 19, 20], [0, 2, 3])) .lf .lf))) (.nd (some ([0, 3, 5], [0, 3, 4])) .lf .lf)))) (.nd none (.nd none (.nd (some ([0, 1, 5], [4])) .lf (.nd none (.nd (some ([0, 1, 12, 13], [4])) .lf .lf) .lf)) (.nd none (.nd none (.nd (some ([0, 3, 13005, 6, 7], [3, 4, 13005, 6])) .lf .lf) .lf) .lf)) (.nd none .lf (.nd none (.nd none .lf (.nd none .lf (.nd (some ([0, 1, 12, 13], [4])) .lf .lf))) .lf)))))))) (.nd none (.nd none (.nd none .lf (.nd none (.nd none .lf (.nd (some ([10, 11, 16, 20, 21, 22], [8, 10, 20, 21])) .lf .lf)) (.nd none (.nd none .lf (.nd (some ([2, 7, 8, 9, 14, 15, 16], [2, 6, 7, 8, 9])) .lf .lf)) .lf))) (.nd none .lf (.nd none (.nd none (.nd none (.nd none .lf (.nd none .lf (.nd none .lf (.nd (some ([0, 6, 27008, 25, 26], [2, 3, 4, 6, 27008])) .lf .lf)))) .lf) (.nd none (.nd none (.nd none .lf (.nd none .lf (.nd (some ([1, 8, 51, 52, 53], [1, 2, 3, 8])) .lf .lf))) .lf) .lf)) (.nd none (.nd none (.nd none (.nd none .lf (.nd none .lf (.nd none (.nd (some ([0, 6, 13008, 25, 26], [2, 3, 4, 6, 13008])) .lf .lf) .lf))) .lf) .lf) (.nd none .lf (.nd none (.nd none .lf (.nd none .lf (.nd (some ([0, 5, 6, 27008, 9], [2, 3, 4, 6, 27008])) .lf .lf))) (.nd none .lf (.nd none .lf (.nd (some ([4, 17, 18, 19], [2, 3, 4])) .lf .lf))))))))) (.nd none (.nd none .lf (.nd none .lf (.nd none (.nd none (.nd none (.nd none .lf (.nd none .lf (.nd (some ([2, 9], [2, 4])) .lf .lf))) .lf) .lf) .lf))) .lf)))) (.nd none (.nd none (.nd none (.nd none .lf (.nd none .lf (.nd none (.nd none .lf (.nd none .lf (.nd none .lf (.nd none .lf (.nd (some ([0, 5, 65, 66], [0, 4, 5])) .lf .lf))))) .lf))) (.nd none .lf (.nd none .lf (.nd none (.nd none (.nd none (.nd none (.nd none (.nd none .lf (.nd (some ([0, 3, 4], [0, 2, 3])) .lf .lf)) (.nd (some ([0, 44003, 19, 20], [2, 44003])) .lf .lf)) .lf) (.nd (some ([0, 1, 5, 6], [4])) .lf .lf)) (.nd none (.nd none .lf (.nd none (.nd none (.nd (some ([3, 4, 5, 6], [4, 5])) .lf .lf) (.nd (some ([2, 4, 6, 22, 23], [4, 5, 6])) .lf .lf)) .lf)) (.nd none .lf (.nd none .lf (.nd (some ([0], [4])) .lf (.nd none .lf (.nd (some ([1, 4, 23, 24, 25], [1, 2, 3, 4])) .lf .lf))))))) (.nd none (.nd none (.nd none (.nd none .lf (.nd none .lf (.nd (some ([2, 5, 6], [2, 4])) .lf .lf))) (.nd none (.nd (some ([0, 3, 4], [2, 3])) .lf .lf) .lf)) (.nd none (.nd none .lf (.nd none (.nd (some ([1, 3, 4], [2, 3])) .lf .lf) .lf)) .lf)) .lf))))) (.nd none (.nd none .lf (.nd none .lf (.nd none (.nd none .lf (.nd (some ([2, 3, 9, 10, 8011, 12, 13], [2, 3, 8, 9, 10, 8011, 12])) .lf (.nd none .lf (.nd none (.nd none .lf (.nd (some ([2, 3, 6], [4])) .lf .lf)) .lf)))) (.nd none (.nd none .lf (.nd none .lf (.nd none (.nd none .lf (.nd none .lf (.nd (some ([0, 2, 3, 38, 39], [2, 3])) .lf .lf))) .lf))) (.nd none .lf (.nd none .lf (.nd (some ([1, 5, 7, 8], [1, 4, 5, 7])) .lf .lf))))))) (.nd none .lf (.nd none .lf (.nd none .lf (.nd none (.nd none .lf (.nd none .lf (.nd none (.nd none .lf (.nd none (.nd (some ([0, 2, 3], [])) .lf .lf) .lf)) .lf))) .lf)))))) (.nd none (.nd none (.nd none .lf (.nd none .lf (.nd none .lf (.nd none (.nd none (.nd none (.nd none .lf (.nd none .lf (.nd (some ([2, 8], [2, 4])) .lf .lf))) .lf) .lf) (.nd none (.nd none (.nd none .lf (.nd none (.nd none .lf (.nd (some ([2, 5, 6, 51], [2, 3, 4, 5, 6])) .lf .lf)) .lf)) .lf) .lf))))) (.nd none .lf (.nd none .lf (.nd none (.nd none (.nd none .lf (.nd none (.nd (some ([3, 13005, 8, 9, 10], [4, 13005])) .lf .lf) (.nd none (.nd none .lf (.nd (some ([0, 5, 6], [2, 3, 4])) .lf .lf)) .lf))) (.nd none (.nd none (.nd none .lf (.nd none (.nd (some ([0, 1, 2, 8, 9, 10], [0, 1, 2, 6, 7, 8, 9])) .lf .lf) .lf)) (.nd none (.nd none (.nd none .lf (.nd (some ([3, 8, 9, 10], [2, 3])) .lf .lf)) .lf) .lf)) .lf)) (.nd none (.nd none (.nd none .lf (.nd none (.nd none (.nd (some ([0, 1, 13005, 6], [4, 13005])) .lf (.nd (some ([0, 1, 5, 6], [4, 5])) .lf .lf)) .lf) .lf)) (.nd none (.nd (some ([0, 1006, 7, 12, 13, 14], [0, 4, 5, 1006, 7])) .lf (.nd none .lf (.nd (some ([1, 3, 4], [2, 3])) .lf .lf))) (.nd none .lf (.nd none (.nd (some ([1, 3, 4], [2, 3])) .lf .lf) (.nd (some ([0, 1, 6, 7], [4, 5, 6])) .lf .lf))))) (.nd none .lf (.nd none (.nd none (.nd none (.nd (some ([5, 6, 10, 11, 12], [2, 3, 4, 5, 6])) .lf .lf) .lf) .lf) .lf))))))) (.nd none (.nd none .lf (.nd none .lf (.nd none (.nd (some ([0, 1, 6, 7, 9, 10], [0, 1, 6, 7, 8, 9])) .lf (.nd none (.nd none .lf (.nd none (.nd none (.nd none .lf (.nd (some ([3, 8, 9, 10, 18], [2, 3, 8, 9, 10])) .lf .lf)) .lf) (.nd none (.nd none .lf (.nd (some ([1, 4, 37, 38], [2, 3, 4])) .lf .lf)) .lf))) (.nd none .lf (.nd none .lf (.nd (some ([0, 5, 44, 45], [0, 4, 5])) .lf .lf))))) (.nd none (.nd (some ([7, 8, 9, 10, 11], [6, 7, 8, 9, 10])) (.nd none (.nd (some ([0, 3, 4], [0, 2, 3])) .lf .lf) .lf) (.nd (some ([2, 7, 8, 9], [6])) .lf .lf)) (.nd (some ([1, 3, 9, 10, 11], [1, 8, 9])) .lf (.nd none (.nd (some ([1009, 1010, 27011], [8, 27011])) .lf .lf) (.nd none (.nd (some ([0, 3, 4], [0, 2, 3])) .lf .lf) .lf))))))) .lf))))
def escs : Nat → Nat → Bool
  | 31, 14 => true
  | 32, 13 => true
  | 44, 13 => true
  | 49, 19 => true
  | 64, 4 => true
  | 77, 8 => true
  | 82, 24 => true
  | 128, 4 => true
  | 129, 1 => true
  | 140, 9 => true
  | 172, 11 => true
  | 191, 1 => true
  | 191, 5 => true
  | 191, 6 => true
  | 191, 7 => true
  | _, _ => false
def hms : Nat → Bool
  | 31 => true
  | 32 => true
  | 44 => true
  | 49 => true
  | _ => false
def wrs : Nat → Bool
  | 31 => true
  | 32 => true
  | 33 => true
  | 34 => true
  | 44 => true
  | 45 => true
  | 49 => true
  | 50 => true
  | 52 => true
  | 53 => true
  | 55 => true
  | 56 => true
  | 93 => true
  | 95 => true
  | 101 => true
  | 146 => true
  | 163 => true
  | 189 => true
  | 190 => true
  | 192 => true
  | 197 => true
  | 198 => true
  | 211 => true
  | _ => false
def knowns : Nat → Nat
  | 112 => 2
  | 114 => 3
  | 194 => 1
  | _ => 0
def thaws : Nat → Nat → Bool
  | 5, 71 => true
  | 18, 124 => true
  | 68, 29 => true
  | _, _ => false
def cks : Nat → Nat → Nat → Ck
  | 24, 3, 0 => { plain := false, forb := [12], alone := false, spare := [], root := none, apart := [] }
  | 24, 3, 1 => { plain := false, forb := [12], alone := false, spare := [], root := none, apart := [] }
  | 24, 3, 2 => { plain := false, forb := [12], alone := false, spare := [], root := none, apart := [] }
  | 24, 3, 3 => { plain := false, forb := [12], alone := false, spare := [], root := none, apart := [] }
  | 24, 3, 4 => { plain := false, forb := [12], alone := false, spare := [], root := none, apart := [] }
  | 24, 3, 5 => { plain := false, forb := [12], alone := false, spare := [], root := none, apart := [] }
  | 24, 3, 6 => { plain := false, forb := [12], alone := false, spare := [], root := none, apart := [] }
  | 24, 3, 7 => { plain := false, forb := [12], alone := false, spare := [], root := none, apart := [] }
  | 24, 3, 8 => { plain := false, forb := [12], alone := false, spare := [], root := none, apart := [] }
  | 24, 3, 9 => { plain := false, forb := [12], alone := false, spare := [], root := none, apart := [] }
  | 24, 3, 10 => { plain := false, forb := [], alone := true, spare := [21, 22, 23, 24, 25, 26, 27, 20, 28, 29], root := none, apart := [] }
  | 45, 1, 7 => { plain := false, forb := [], alone := false, spare := [], root := some 0, apart := [] }
  | 45, 1, 9 => { plain := false, forb := [], alone := false, spare := [], root := some 5, apart := [(0, 5)] }
  | 50, 2, 7 => { plain := false, forb := [], alone := false, spare := [], root := some 0, apart := [] }
  | 50, 2, 9 => { plain := false, forb := [], alone := false, spare := [], root := some 8, apart := [(0, 8)] }
  | 52, 7, 4 => { plain := false, forb := [], alone := false, spare := [], root := some 3, apart := [] }
  | 52, 7, 6 => { plain := false, forb := [], alone := false, spare := [], root := some 3, apart := [] }
  | 52, 7, 9 => { plain := false, forb := [], alone := false, spare := [], root := some 0, apart := [(3, 0)] }
  | 52, 7, 12 => { plain := false, forb := [], alone := false, spare := [], root := some 0, apart := [(3, 0)] }
  | 53, 6, 5 => { plain := false, forb := [], alone := false, spare := [], root := some 3, apart := [] }
  | 53, 6, 8 => { plain := false, forb := [], alone := false, spare := [], root := some 0, apart := [(3, 0)] }
  | 85, 3, 1 => { plain := false, forb := [], alone := false, spare := [], root := some 3, apart := [] }
  | 85, 3, 3 => { plain := false, forb := [], alone := false, spare := [], root := some 6, apart := [(3, 6)] }
  | 85, 11, 2 => { plain := false, forb := [], alone := false, spare := [], root := some 6, apart := [] }
  | 85, 11, 4 => { plain := false, forb := [], alone := false, spare := [], root := some 4, apart := [(6, 4)] }
  | 146, 11, 0 => { plain := false, forb := [4], alone := false, spare := [], root := none, apart := [] }
  | 146, 11, 1 => { plain := false, forb := [4], alone := false, spare := [], root := none, apart := [] }
  | 146, 11, 2 => { plain := false, forb := [4], alone := false, spare := [], root := none, apart := [] }
  | 146, 11, 3 => { plain := false, forb := [4], alone := false, spare := [], root := none, apart := [] }
  | 146, 11, 4 => { plain := false, forb := [4], alone := false, spare := [], root := none, apart := [] }
  | 146, 11, 5 => { plain := false, forb := [4], alone := false, spare := [], root := none, apart := [] }
  | 146, 11, 6 => { plain := false, forb := [4], alone := false, spare := [], root := none, apart := [] }
  | 146, 11, 7 => { plain := false, forb := [4], alone := false, spare := [], root := none, apart := [] }
  | 146, 11, 8 => { plain := false, forb := [4], alone := false, spare := [], root := none, apart := [] }
  | 146, 11, 9 => { plain := false, forb := [4], alone := false, spare := [], root := none, apart := [] }
  | 146, 11, 10 => { plain := false, forb := [4], alone := false, spare := [], root := none, apart := [] }
  | 146, 11, 11 => { plain := false, forb := [4], alone := false, spare := [], root := none, apart := [] }
  | 146, 11, 12 => { plain := false, forb := [4], alone := false, spare := [], root := none, apart := [] }
  | 146, 11, 13 => { plain := false, forb := [4], alone := false, spare := [], root := none, apart := [] }
  | 146, 11, 14 => { plain := false, forb := [], alone := true, spare := [46, 47, 48, 49, 50, 51, 52, 53, 54, 55, 45, 56, 57, 58], root := none, apart := [] }
  | 155, 4, 3 => { plain := false, forb := [], alone := false, spare := [], root := some 1, apart := [] }
  | 155, 4, 5 => { plain := false, forb := [], alone := false, spare := [], root := some 3, apart := [(1, 3)] }
  | 155, 6, 3 => { plain := false, forb := [], alone := false, spare := [], root := some 1, apart := [] }
  | 155, 6, 5 => { plain := false, forb := [], alone := false, spare := [], root := some 3, apart := [(1, 3)] }
  | 155, 8, 3 => { plain := false, forb := [], alone := false, spare := [], root := some 1, apart := [] }
  | 155, 8, 5 => { plain := false, forb := [], alone := false, spare := [], root := some 1, apart := [] }
  | 155, 8, 7 => { plain := false, forb := [], alone := false, spare := [], root := some 3, apart := [(1, 3)] }
  | 155, 8, 9 => { plain := false, forb := [], alone := false, spare := [], root := some 3, apart := [(1, 3)] }
  | 155, 12, 3 => { plain := false, forb := [], alone := false, spare := [], root := some 1, apart := [] }
  | 155, 12, 5 => { plain := false, forb := [], alone := false, spare := [], root := some 3, apart := [(1, 3)] }
  | 159, 4, 3 => { plain := false, forb := [], alone := false, spare := [], root := some 1, apart := [] }
  | 159, 4, 5 => { plain := false, forb := [], alone := false, spare := [], root := some 3, apart := [(1, 3)] }
  | 159, 6, 3 => { plain := false, forb := [], alone := false, spare := [], root := some 1, apart := [] }
  | 159, 6, 5 => { plain := false, forb := [], alone := false, spare := [], root := some 3, apart := [(1, 3)] }
  | 159, 8, 3 => { plain := false, forb := [], alone := false, spare := [], root := some 1, apart := [] }
  | 159, 8, 5 => { plain := false, forb := [], alone := false, spare := [], root := some 1, apart := [] }
  | 159, 8, 7 => { plain := false, forb := [], alone := false, spare := [], root := some 3, apart := [(1, 3)] }
  | 159, 8, 9 => { plain := false, forb := [], alone := false, spare := [], root := some 3, apart := [(1, 3)] }
  | 159, 12, 3 => { plain := false, forb := [], alone := false, spare := [], root := some 1, apart := [] }
  | 159, 12, 5 => { plain := false, forb := [], alone := false, spare := [], root := some 3, apart := [(1, 3)] }
  | 172, 18, 4 => { plain := false, forb := [], alone := false, spare := [], root := some 5, apart := [] }
  | 172, 18, 5 => { plain := false, forb := [], alone := false, spare := [], root := some 2, apart := [(5, 2)] }
  | 172, 21, 4 => { plain := false, forb := [], alone := false, spare := [], root := some 5, apart := [] }
  | 172, 21, 5 => { plain := false, forb := [], alone := false, spare := [], root := some 2, apart := [(5, 2)] }
  | 191, 25, 1 => { plain := false, forb := [], alone := false, spare := [], root := some 6, apart := [] }
  | 191, 25, 2 => { plain := false, forb := [], alone := false, spare := [], root := some 2, apart := [(6, 2)] }
  | _, _, _ => { plain := true, forb := [], alone := false, spare := [], root := none, apart := [] }
def slfs : Nat → Nat → List Nat
  | 31, 14 => [6]
  | _, _ => []
noncomputable def tab : Tab := { ck := cks, sh := fun t => (shs.get t).getD .other, ks := fun t => (kss.get t).getD [.x], bytes := fun t => (byts.get t).getD 0, fn := fun f => fns.get f, esc := escs, hm := hms, wr := wrs, lv := fun f r => (lvs.get (f * 64 + r)).getD ([], []), thaw := thaws, known := knowns, rk := fun t => (rks.get t).getD 0, slf := slfs }
end Go.Ab
namespace Go.Ab
open Go.Proofs

def optB {α : Type} (p : α → Bool) : Option α → Bool
  | some x => p x
  | none => true

noncomputable section
def Tr.allF {α : Type} (p : Nat → α → Bool) (t : Tr α) : (Nat → Nat) → Bool :=
  Tr.rec (motive := fun _ => (Nat → Nat) → Bool) (fun _ => true)
    (fun v _ _ l r f => optB (p (f 0)) v && l (fun m => f (2 * m + 2)) && r (fun m => f (2 * m + 1))) t
end

theorem Tr.allF_get {α : Type} {p : Nat → α → Bool} : ∀ (t : Tr α) (f : Nat → Nat), t.allF p f = true → ∀ n x, t.get n = some x → p (f n) x = true := by
  intro t
  induction t with
  | lf => intro f _ n x h; cases h
  | nd v l r ihl ihr =>
    intro f h n x hx
    have h' : (optB (p (f 0)) v && l.allF p (fun m => f (2 * m + 2)) && r.allF p (fun m => f (2 * m + 1))) = true := h
    simp only [Bool.and_eq_true] at h'
    obtain ⟨⟨h0, h1⟩, h2⟩ := h'
    have hx' : (bif Nat.beq n 0 then v else bif Nat.beq (n % 2) 0 then l.get (n / 2 - 1) else r.get (n / 2)) = some x := hx
    by_cases hn : n = 0
    · subst hn
      have hx2 : v = some x := hx'
      rw [hx2] at h0
      exact h0
    · have hb : Nat.beq n 0 = false := by
        cases hb : Nat.beq n 0 with
        | false => rfl
        | true => exact absurd (Nat.eq_of_beq_eq_true hb) hn
      rw [hb, cond_false] at hx'
      by_cases hm : n % 2 = 0
      · rw [hm] at hx'
        have := ihl _ h1 (n / 2 - 1) x hx'
        rw [show 2 * (n / 2 - 1) + 2 = n by omega] at this
        exact this
      · have hb2 : Nat.beq (n % 2) 0 = false := by
          cases hb : Nat.beq (n % 2) 0 with
          | false => rfl
          | true => exact absurd (Nat.eq_of_beq_eq_true hb) hm
        rw [hb2, cond_false] at hx'
        have := ihr _ h2 (n / 2) x hx'
        rw [show 2 * (n / 2) + 1 = n by omega] at this
        exact this

def noName (s : String) : Bool := !(s == "_")

def shB (P : Program) (t : Nat) (s : Sh) : Bool :=
  match s, P.underlying t with
  | .bool, some .bool => true
  | .int k, some (.int k') => k == k'
  | .str, some .string => true
  | .uptr, some .unsafePointer => true
  | .ptr e, some (.pointer e') => e == e'
  | .slice e, some (.slice e') => e == e'
  | .arr n e, some (.array n' e') => n == n' && e == e'
  | .map k e, some (.map k' e') => k == k' && e == e'
  | .struct fs, some (.struct F) => (F.toList.map fun f => (f.offset, f.type)) == fs && F.toList.all fun f => noName f.name
  | .fn, some (.func _ _ _) => true
  | .iface, some (.interface _) => true
  | .other, _ => true
  | _, _ => false

theorem shB_ok {P : Program} {t : Nat} {s : Sh} (h : shB P t s = true) : shOk P t s := by
  unfold shB at h
  split at h <;> rename_i h1 <;> try (first | exact h1 | exact trivial)
  · simp only [beq_iff_eq] at h; subst h; exact h1
  · simp only [beq_iff_eq] at h; subst h; exact h1
  · simp only [beq_iff_eq] at h; subst h; exact h1
  · simp only [Bool.and_eq_true, beq_iff_eq] at h; obtain ⟨rfl, rfl⟩ := h; exact h1
  · simp only [Bool.and_eq_true, beq_iff_eq] at h; obtain ⟨rfl, rfl⟩ := h; exact h1
  · simp only [Bool.and_eq_true, beq_iff_eq, List.all_eq_true] at h
    exact ⟨_, h1, h.1, fun f hf => by
      have := h.2 f hf
      simpa [noName] using this⟩
  · exact ⟨_, _, _, h1⟩
  · exact ⟨_, h1⟩
  · cases h

def ksB (T : Tab) (t : Nat) (s : Sh) : Bool :=
  match s with
  | .bool => T.ks t == [.b]
  | .int k => T.ks t == [.i k]
  | .str => T.ks t == [.s]
  | .uptr | .ptr _ => T.ks t == [.p]
  | .slice e => T.ks t == [.l (T.ks e).length] && T.sh e != .other
  | .arr n e => T.ks t == (List.replicate n (T.ks e)).flatten && T.sh e != .other && Nat.blt 0 (T.ks e).length
  | .map k e => T.ks t == [.m] && T.sh k != .other && T.sh e != .other
  | .struct fs => T.ks t == (fs.map fun f => T.ks f.2).flatten && (List.range fs.length).all fun i => (match fs[i]? with
      | some (o, e) => o == ((fs.take i).map fun f => (T.ks f.2).length).sum && T.sh e != .other && Nat.blt 0 (T.ks e).length
      | none => true)
  | .fn => T.ks t == [.f]
  | .iface => T.ks t == [.n]
  | .other => T.ks t == [.x]

theorem ksB_ok {T : Tab} {t : Nat} (h : ksB T t (T.sh t) = true) : ksOk T t := by
  unfold ksOk
  unfold ksB at h
  split at h <;> rename_i hs <;> rw [hs] <;> simp only [Bool.and_eq_true, beq_iff_eq, bne_iff_ne, ne_eq] at h ⊢
  · exact h
  · exact h
  · exact h
  · exact h
  · exact h
  · exact h
  · obtain ⟨⟨h1, h2⟩, h3⟩ := h
    exact ⟨h1, h2, Nat.le_of_ble_eq_true h3⟩
  · obtain ⟨⟨h1, h2⟩, h3⟩ := h
    exact ⟨h1, h2, h3⟩
  · obtain ⟨h1, h2⟩ := h
    refine ⟨h1, fun i o e hi => ?_⟩
    have := List.all_eq_true.1 h2 i (List.mem_range.2 (lt_of_getElem? hi))
    rw [hi] at this
    simp only [Bool.and_eq_true, beq_iff_eq, bne_iff_ne, ne_eq] at this
    obtain ⟨⟨k1, k2⟩, k3⟩ := this
    exact ⟨k1, k2, Nat.le_of_ble_eq_true k3⟩
  · exact h
  · exact h
  · exact h

def zeroB : CK → Value → Bool
  | .b, .bool false => true
  | .i k, .int k' n => k == k' && n == 0
  | .s, .string s => s.data.toList.isEmpty
  | .p, .pointer none => true
  | .l _, .slice none 0 0 => true
  | .m, .map none => true
  | .f, .nilFunc => true
  | .n, .nilIface => true
  | _, _ => false
theorem zeroB_ok {k : CK} {v : Value} (h : zeroB k v = true) : v = zeroV k := by
  unfold zeroB at h
  split at h <;> try rfl
  · simp only [Bool.and_eq_true, beq_iff_eq] at h
    obtain ⟨rfl, rfl⟩ := h
    rfl
  · rename_i s
    simp only [List.isEmpty_iff] at h
    obtain ⟨d⟩ := s
    have : d = #[] := by
      apply Array.ext'
      simpa using h
    subst this
    rfl
  · cases h

def zerosB : List CK → List Value → Bool
  | [], [] => true
  | k :: ks, v :: vs => zeroB k v && zerosB ks vs
  | _, _ => false
theorem zerosB_ok : ∀ {ks : List CK} {vs : List Value}, zerosB ks vs = true → vs = ks.map zeroV
  | [], [], _ => rfl
  | k :: ks, v :: vs, h => by
    simp only [zerosB, Bool.and_eq_true] at h
    rw [List.map_cons, ← zeroB_ok h.1, ← zerosB_ok h.2]
  | [], _ :: _, h => by cases h
  | _ :: _, [], h => by cases h

def infoB (T : Tab) (P : Program) (t : Nat) : Bool :=
  match P.info? t with
  | none => false
  | some i => i.size == (T.ks t).length && i.bytes == T.bytes t && (match i.zero with
    | none => false
    | some z => bif isAgg T t then (match z with | .agg vs => zerosB (T.ks t) vs.toList | _ => false) else (match T.ks t with | k :: _ => zeroB k z | [] => false))
theorem infoB_ok {T : Tab} {P : Program} {t : Nat} (h : infoB T P t = true) : ∃ i, P.info? t = some i ∧ i.size = (T.ks t).length ∧ i.bytes = T.bytes t ∧
    i.zero = some (if isAgg T t then .agg ((T.ks t).map zeroV).toArray else (((T.ks t).map zeroV).headD undef)) := by
  unfold infoB at h
  split at h
  · cases h
  · rename_i i hi
    simp only [Bool.and_eq_true, beq_iff_eq] at h
    obtain ⟨⟨h1, h2⟩, h3⟩ := h
    refine ⟨i, hi, h1, h2, ?_⟩
    split at h3
    · cases h3
    · rename_i z hz
      rw [hz]
      cases ha : isAgg T t with
      | true =>
        rw [ha, cond_true] at h3
        split at h3
        · rename_i vs
          rw [← zerosB_ok h3]
          simp
        · cases h3
      | false =>
        rw [ha, cond_false] at h3
        split at h3
        · rename_i k ks hk
          rw [hk, zeroB_ok h3]
          simp
        · cases h3

def rkB (T : Tab) (t : Nat) (s : Sh) : Bool :=
  match s with
  | .struct fs => fs.all fun f => Nat.blt (T.rk f.2) (T.rk t)
  | .arr _ e => Nat.blt (T.rk e) (T.rk t)
  | _ => true

def heldB (T : Tab) (P : Program) (t : Nat) (s : Sh) : Bool :=
  match s with
  | .struct _ => bif (T.ks t).all eqKind then !P.stoodInHeld t && !P.eqGuardType P.depth t else true
  | .arr _ _ => bif (T.ks t).all eqKind then !P.eqGuardType P.depth t else true
  | _ => true

def typeB (T : Tab) (P : Program) (t : Nat) (s : Sh) : Bool :=
  shB P t s && ksB T t s && (s == .other || infoB T P t) && rkB T t s && heldB T P t s

theorem tab_ok {T : Tab} {P : Program} {S : Tr Sh} {K : Tr (List CK)} {R : Tr Nat} (hS : ∀ t, T.sh t = (S.get t).getD .other) (hK : ∀ t, T.ks t = (K.get t).getD [.x]) (hRk : ∀ t, T.rk t = (R.get t).getD 0)
    (h1 : S.allF (typeB T P) (fun n => n) = true) (h2 : K.allF (fun t ks => T.sh t != .other || ks == [.x]) (fun n => n) = true) (h3 : R.allF (fun _ r => Nat.blt r 9999) (fun n => n) = true)
    (hfn : ∀ f fn, T.fn f = some fn → P.funcs[f]? = some fn) (hnm : ∀ f fn, T.fn f = some fn → (fn.name == "runtime.NumGoroutine") = false) : TabOK T P := by
  have hty : ∀ t, T.sh t ≠ .other → typeB T P t (T.sh t) = true := fun t ht => by
    rw [hS] at ht ⊢
    cases hg : S.get t with
    | none => rw [hg] at ht; exact absurd rfl ht
    | some s => exact Tr.allF_get S _ h1 t s hg
  have hoth : ∀ t, T.sh t = .other → T.ks t = [.x] := fun t ht => by
    rw [hK]
    cases hg : K.get t with
    | none => rfl
    | some ks =>
      have := Tr.allF_get K _ h2 t ks hg
      simp only [Bool.or_eq_true, bne_iff_ne, ne_eq, beq_iff_eq] at this
      rcases this with h | h
      · exact absurd ht h
      · exact h
  have parts : ∀ t, T.sh t ≠ .other → shB P t (T.sh t) = true ∧ ksB T t (T.sh t) = true ∧ infoB T P t = true ∧ rkB T t (T.sh t) = true ∧ heldB T P t (T.sh t) = true := fun t ht => by
    have := hty t ht
    simp only [typeB, Bool.and_eq_true, Bool.or_eq_true, beq_iff_eq] at this
    obtain ⟨⟨⟨⟨k1, k2⟩, k3⟩, k4⟩, k5⟩ := this
    exact ⟨k1, k2, k3.resolve_left ht, k4, k5⟩
  refine ⟨fun t => ?_, fun t => ?_, fun t ht => infoB_ok (parts t ht).2.2.1, hfn, hnm, fun t fs i o e hs hi => ?_, fun t n e hs => ?_, fun t => ?_, fun t fs hs he => ?_, fun t ha he => ?_⟩
  · by_cases ht : T.sh t = .other
    · rw [ht]; trivial
    · exact shB_ok (parts t ht).1
  · by_cases ht : T.sh t = .other
    · unfold ksOk; rw [ht]; exact hoth t ht
    · exact ksB_ok (parts t ht).2.1
  · have := (parts t (by rw [hs]; simp)).2.2.2.1
    rw [hs] at this
    exact Nat.le_of_ble_eq_true (List.all_eq_true.1 this (o, e) (mem_of_getElem? hi))
  · have := (parts t (by rw [hs]; simp)).2.2.2.1
    rw [hs] at this
    exact Nat.le_of_ble_eq_true this
  · rw [hRk]
    cases hg : R.get t with
    | none => simp
    | some r => exact Nat.le_of_ble_eq_true (Tr.allF_get R _ h3 t r hg)
  · have := (parts t (by rw [hs]; simp)).2.2.2.2
    rw [hs] at this
    simp only [heldB, he, cond_true, Bool.and_eq_true, Bool.not_eq_true'] at this
    exact this.1
  · unfold isAgg at ha
    cases hs : T.sh t with
    | struct fs =>
      have := (parts t (by rw [hs]; simp)).2.2.2.2
      rw [hs] at this
      simp only [heldB, he, cond_true, Bool.and_eq_true, Bool.not_eq_true'] at this
      exact this.2
    | arr n e =>
      have := (parts t (by rw [hs]; simp)).2.2.2.2
      rw [hs] at this
      simp only [heldB, he, cond_true, Bool.not_eq_true'] at this
      exact this
    | _ => rw [hs] at ha; simp at ha
end Go.Ab
namespace Go.Ab
open Go.Proofs
/-- The table without functions. -/
noncomputable def tab0 : Tab := { tab with fn := fun _ => none }
theorem types_ok : shs.allF (typeB tab0 Try.prog) (fun n => n) = true := by kernel_rfl
theorem kinds_ok : kss.allF (fun t ks => tab0.sh t != .other || ks == [.x]) (fun n => n) = true := by kernel_rfl
theorem rks_ok : rks.allF (fun _ r => Nat.blt r 9999) (fun n => n) = true := by kernel_rfl
theorem tab_ok' {P : Program} (h1 : shs.allF (typeB tab0 P) (fun n => n) = true) : TabOK tab0 P :=
  tab_ok (S := shs) (K := kss) (R := rks) (fun _ => rfl) (fun _ => rfl) (fun _ => rfl) h1 kinds_ok rks_ok (fun _ _ h => by cases h) (fun _ _ h => by cases h)
theorem tab0_ok : TabOK tab0 Try.prog := tab_ok' types_ok

theorem TabOK_fn {T : Tab} {P : Program} (h0 : TabOK T P) {fn' : Nat → Option Func} (hf : ∀ f fn, fn' f = some fn → P.funcs[f]? = some fn ∧ (fn.name == "runtime.NumGoroutine") = false) : TabOK { T with fn := fn' } P :=
  ⟨h0.sh, h0.ks, h0.info, fun f fn h => (hf f fn h).1, fun f fn h => (hf f fn h).2, h0.rkS, h0.rkA, h0.rk, h0.held, h0.eqg⟩

theorem base_of {T : Tab} {P : Program} (hP : Try.prog = P) (hT : TabOK T P) (hk1 : ∀ f, T.known f = 1 → f = 194) (hk2 : ∀ f, T.known f = 2 → f = 112) (hk3 : ∀ f, T.known f = 3 → f = 114)
    (hc : ∀ f fn c, T.fn f = some fn → fn.body = some c → drawsOk (okRegion T f) c = true) : Base T P (okRegion T) :=
  ⟨hT, fun C Lp fid _ => knownLaw hP hk1 hk2 hk3 fid, fun C Lp fid hcl => draw_sound hT hcl, hc⟩
end Go.Ab
namespace Go.Ab
open Go.Proofs
def FnOk (f : Nat) : Prop := ∀ fn, fns.get f = some fn → Try.prog.funcs[f]? = some fn ∧ (fn.name == "runtime.NumGoroutine") = false
theorem fnOk_of {f : Nat} {fn : Func} (h1 : fns.get f = some fn) (h2 : Try.prog.funcs[f]? = some fn) (h3 : (fn.name == "runtime.NumGoroutine") = false) : FnOk f := by
  intro fn' h
  rw [h1] at h
  cases h
  exact ⟨h2, h3⟩
/-- The table with these functions alone. -/
noncomputable def tabW (s : List Nat) : Tab := { tab0 with fn := fun f => bif s.contains f then fns.get f else none }
theorem tabW_fn {s : List Nat} {f : Nat} {fn : Func} (hf : (tabW s).fn f = some fn) : s.contains f = true ∧ fns.get f = some fn := by
  have hf' : (bif s.contains f then fns.get f else none) = some fn := hf
  cases hc : s.contains f with
  | false => rw [hc] at hf'; cases hf'
  | true => rw [hc, cond_true] at hf'; exact ⟨rfl, hf'⟩
theorem tabW_ok (s : List Nat) (h : ∀ f ∈ s, FnOk f) : TabOK (tabW s) Try.prog :=
  TabOK_fn tab0_ok fun f fn hf => by
    obtain ⟨h1, h2⟩ := tabW_fn (s := s) hf
    exact h f (by simpa using h1) fn h2
noncomputable def codeB (f : Nat) : Bool := optB (fun fn => optB (drawsOk (okRegion tab0 f)) fn.body) (fns.get f)
theorem codes_ok {s : List Nat} (h : s.all codeB = true) : ∀ f fn c, (tabW s).fn f = some fn → fn.body = some c → drawsOk (okRegion (tabW s) f) c = true := by
  intro f fn c hf hb
  obtain ⟨h1, h2⟩ := tabW_fn hf
  have := List.all_eq_true.1 h f (by simpa using h1)
  simp only [codeB, h2, optB, hb] at this
  exact this
theorem known_of {f k : Nat} (h : knowns f = k + 1) : (k = 1 → f = 112) ∧ (k = 2 → f = 114) ∧ (k = 0 → f = 194) := by
  unfold knowns at h
  split at h <;> first | (refine ⟨fun h => ?_, fun h => ?_, fun h => ?_⟩ <;> first | rfl | omega) | omega
theorem base_ok (s : List Nat) (h1 : ∀ f ∈ s, FnOk f) (h2 : s.all codeB = true) : Base (tabW s) Try.prog (okRegion (tabW s)) := by
  exact base_of rfl (tabW_ok s h1) (fun f hf => (known_of (k := 0) hf).2.2 rfl) (fun f hf => (known_of (k := 1) hf).1 rfl) (fun f hf => (known_of (k := 2) hf).2.1 rfl) (codes_ok h2)
theorem fo3 : FnOk 3 := fnOk_of (fn := Try.f3) (by kernel_rfl) Try.func3 (by kernel_rfl)
theorem fo4 : FnOk 4 := fnOk_of (fn := Try.f4) (by kernel_rfl) Try.func4 (by kernel_rfl)
theorem fo5 : FnOk 5 := fnOk_of (fn := Try.f5) (by kernel_rfl) Try.func5 (by kernel_rfl)
theorem fo6 : FnOk 6 := fnOk_of (fn := Try.f6) (by kernel_rfl) Try.func6 (by kernel_rfl)
theorem fo7 : FnOk 7 := fnOk_of (fn := Try.f7) (by kernel_rfl) Try.func7 (by kernel_rfl)
theorem fo8 : FnOk 8 := fnOk_of (fn := Try.f8) (by kernel_rfl) Try.func8 (by kernel_rfl)
theorem fo9 : FnOk 9 := fnOk_of (fn := Try.f9) (by kernel_rfl) Try.func9 (by kernel_rfl)
theorem fo10 : FnOk 10 := fnOk_of (fn := Try.f10) (by kernel_rfl) Try.func10 (by kernel_rfl)
theorem fo11 : FnOk 11 := fnOk_of (fn := Try.f11) (by kernel_rfl) Try.func11 (by kernel_rfl)
theorem fo12 : FnOk 12 := fnOk_of (fn := Try.f12) (by kernel_rfl) Try.func12 (by kernel_rfl)
theorem fo13 : FnOk 13 := fnOk_of (fn := Try.f13) (by kernel_rfl) Try.func13 (by kernel_rfl)
theorem fo14 : FnOk 14 := fnOk_of (fn := Try.f14) (by kernel_rfl) Try.func14 (by kernel_rfl)
theorem fo15 : FnOk 15 := fnOk_of (fn := Try.f15) (by kernel_rfl) Try.func15 (by kernel_rfl)
theorem fo16 : FnOk 16 := fnOk_of (fn := Try.f16) (by kernel_rfl) Try.func16 (by kernel_rfl)
theorem fo17 : FnOk 17 := fnOk_of (fn := Try.f17) (by kernel_rfl) Try.func17 (by kernel_rfl)
theorem fo18 : FnOk 18 := fnOk_of (fn := Try.f18) (by kernel_rfl) Try.func18 (by kernel_rfl)
theorem fo19 : FnOk 19 := fnOk_of (fn := Try.f19) (by kernel_rfl) Try.func19 (by kernel_rfl)
theorem fo20 : FnOk 20 := fnOk_of (fn := Try.f20) (by kernel_rfl) Try.func20 (by kernel_rfl)
theorem fo21 : FnOk 21 := fnOk_of (fn := Try.f21) (by kernel_rfl) Try.func21 (by kernel_rfl)
theorem fo22 : FnOk 22 := fnOk_of (fn := Try.f22) (by kernel_rfl) Try.func22 (by kernel_rfl)
theorem fo23 : FnOk 23 := fnOk_of (fn := Try.f23) (by kernel_rfl) Try.func23 (by kernel_rfl)
theorem fo24 : FnOk 24 := fnOk_of (fn := Try.f24) (by kernel_rfl) Try.func24 (by kernel_rfl)
theorem fo25 : FnOk 25 := fnOk_of (fn := Try.f25) (by kernel_rfl) Try.func25 (by kernel_rfl)
theorem fo26 : FnOk 26 := fnOk_of (fn := Try.f26) (by kernel_rfl) Try.func26 (by kernel_rfl)
theorem fo27 : FnOk 27 := fnOk_of (fn := Try.f27) (by kernel_rfl) Try.func27 (by kernel_rfl)
theorem fo28 : FnOk 28 := fnOk_of (fn := Try.f28) (by kernel_rfl) Try.func28 (by kernel_rfl)
theorem fo29 : FnOk 29 := fnOk_of (fn := Try.f29) (by kernel_rfl) Try.func29 (by kernel_rfl)
theorem fo30 : FnOk 30 := fnOk_of (fn := Try.f30) (by kernel_rfl) Try.func30 (by kernel_rfl)
theorem fo31 : FnOk 31 := fnOk_of (fn := Try.f31) (by kernel_rfl) Try.func31 (by kernel_rfl)
theorem fo32 : FnOk 32 := fnOk_of (fn := Try.f32) (by kernel_rfl) Try.func32 (by kernel_rfl)
theorem fo33 : FnOk 33 := fnOk_of (fn := Try.f33) (by kernel_rfl) Try.func33 (by kernel_rfl)
theorem fo34 : FnOk 34 := fnOk_of (fn := Try.f34) (by kernel_rfl) Try.func34 (by kernel_rfl)
theorem fo35 : FnOk 35 := fnOk_of (fn := Try.f35) (by kernel_rfl) Try.func35 (by kernel_rfl)
theorem fo36 : FnOk 36 := fnOk_of (fn := Try.f36) (by kernel_rfl) Try.func36 (by kernel_rfl)
theorem fo37 : FnOk 37 := fnOk_of (fn := Try.f37) (by kernel_rfl) Try.func37 (by kernel_rfl)
theorem fo38 : FnOk 38 := fnOk_of (fn := Try.f38) (by kernel_rfl) Try.func38 (by kernel_rfl)
theorem fo39 : FnOk 39 := fnOk_of (fn := Try.f39) (by kernel_rfl) Try.func39 (by kernel_rfl)
theorem fo40 : FnOk 40 := fnOk_of (fn := Try.f40) (by kernel_rfl) Try.func40 (by kernel_rfl)
theorem fo41 : FnOk 41 := fnOk_of (fn := Try.f41) (by kernel_rfl) Try.func41 (by kernel_rfl)
theorem fo42 : FnOk 42 := fnOk_of (fn := Try.f42) (by kernel_rfl) Try.func42 (by kernel_rfl)
theorem fo43 : FnOk 43 := fnOk_of (fn := Try.f43) (by kernel_rfl) Try.func43 (by kernel_rfl)
theorem fo44 : FnOk 44 := fnOk_of (fn := Try.f44) (by kernel_rfl) Try.func44 (by kernel_rfl)
theorem fo45 : FnOk 45 := fnOk_of (fn := Try.f45) (by kernel_rfl) Try.func45 (by kernel_rfl)
theorem fo46 : FnOk 46 := fnOk_of (fn := Try.f46) (by kernel_rfl) Try.func46 (by kernel_rfl)
theorem fo47 : FnOk 47 := fnOk_of (fn := Try.f47) (by kernel_rfl) Try.func47 (by kernel_rfl)
theorem fo48 : FnOk 48 := fnOk_of (fn := Try.f48) (by kernel_rfl) Try.func48 (by kernel_rfl)
theorem fo49 : FnOk 49 := fnOk_of (fn := Try.f49) (by kernel_rfl) Try.func49 (by kernel_rfl)
theorem fo50 : FnOk 50 := fnOk_of (fn := Try.f50) (by kernel_rfl) Try.func50 (by kernel_rfl)
theorem fo51 : FnOk 51 := fnOk_of (fn := Try.f51) (by kernel_rfl) Try.func51 (by kernel_rfl)
theorem fo52 : FnOk 52 := fnOk_of (fn := Try.f52) (by kernel_rfl) Try.func52 (by kernel_rfl)
theorem fo53 : FnOk 53 := fnOk_of (fn := Try.f53) (by kernel_rfl) Try.func53 (by kernel_rfl)
theorem fo54 : FnOk 54 := fnOk_of (fn := Try.f54) (by kernel_rfl) Try.func54 (by kernel_rfl)
theorem fo55 : FnOk 55 := fnOk_of (fn := Try.f55) (by kernel_rfl) Try.func55 (by kernel_rfl)
theorem fo56 : FnOk 56 := fnOk_of (fn := Try.f56) (by kernel_rfl) Try.func56 (by kernel_rfl)
theorem fo57 : FnOk 57 := fnOk_of (fn := Try.f57) (by kernel_rfl) Try.func57 (by kernel_rfl)
theorem fo58 : FnOk 58 := fnOk_of (fn := Try.f58) (by kernel_rfl) Try.func58 (by kernel_rfl)
theorem fo59 : FnOk 59 := fnOk_of (fn := Try.f59) (by kernel_rfl) Try.func59 (by kernel_rfl)
theorem fo60 : FnOk 60 := fnOk_of (fn := Try.f60) (by kernel_rfl) Try.func60 (by kernel_rfl)
theorem fo61 : FnOk 61 := fnOk_of (fn := Try.f61) (by kernel_rfl) Try.func61 (by kernel_rfl)
theorem fo62 : FnOk 62 := fnOk_of (fn := Try.f62) (by kernel_rfl) Try.func62 (by kernel_rfl)
theorem fo63 : FnOk 63 := fnOk_of (fn := Try.f63) (by kernel_rfl) Try.func63 (by kernel_rfl)
theorem fo64 : FnOk 64 := fnOk_of (fn := Try.f64) (by kernel_rfl) Try.func64 (by kernel_rfl)
theorem fo65 : FnOk 65 := fnOk_of (fn := Try.f65) (by kernel_rfl) Try.func65 (by kernel_rfl)
theorem fo66 : FnOk 66 := fnOk_of (fn := Try.f66) (by kernel_rfl) Try.func66 (by kernel_rfl)
theorem fo67 : FnOk 67 := fnOk_of (fn := Try.f67) (by kernel_rfl) Try.func67 (by kernel_rfl)
theorem fo68 : FnOk 68 := fnOk_of (fn := Try.f68) (by kernel_rfl) Try.func68 (by kernel_rfl)
theorem fo69 : FnOk 69 := fnOk_of (fn := Try.f69) (by kernel_rfl) Try.func69 (by kernel_rfl)
theorem fo70 : FnOk 70 := fnOk_of (fn := Try.f70) (by kernel_rfl) Try.func70 (by kernel_rfl)
theorem fo71 : FnOk 71 := fnOk_of (fn := Try.f71) (by kernel_rfl) Try.func71 (by kernel_rfl)
theorem fo72 : FnOk 72 := fnOk_of (fn := Try.f72) (by kernel_rfl) Try.func72 (by kernel_rfl)
theorem fo73 : FnOk 73 := fnOk_of (fn := Try.f73) (by kernel_rfl) Try.func73 (by kernel_rfl)
theorem fo74 : FnOk 74 := fnOk_of (fn := Try.f74) (by kernel_rfl) Try.func74 (by kernel_rfl)
theorem fo75 : FnOk 75 := fnOk_of (fn := Try.f75) (by kernel_rfl) Try.func75 (by kernel_rfl)
theorem fo76 : FnOk 76 := fnOk_of (fn := Try.f76) (by kernel_rfl) Try.func76 (by kernel_rfl)
theorem fo77 : FnOk 77 := fnOk_of (fn := Try.f77) (by kernel_rfl) Try.func77 (by kernel_rfl)
theorem fo78 : FnOk 78 := fnOk_of (fn := Try.f78) (by kernel_rfl) Try.func78 (by kernel_rfl)
theorem fo79 : FnOk 79 := fnOk_of (fn := Try.f79) (by kernel_rfl) Try.func79 (by kernel_rfl)
theorem fo80 : FnOk 80 := fnOk_of (fn := Try.f80) (by kernel_rfl) Try.func80 (by kernel_rfl)
theorem fo81 : FnOk 81 := fnOk_of (fn := Try.f81) (by kernel_rfl) Try.func81 (by kernel_rfl)
theorem fo82 : FnOk 82 := fnOk_of (fn := Try.f82) (by kernel_rfl) Try.func82 (by kernel_rfl)
theorem fo83 : FnOk 83 := fnOk_of (fn := Try.f83) (by kernel_rfl) Try.func83 (by kernel_rfl)
theorem fo84 : FnOk 84 := fnOk_of (fn := Try.f84) (by kernel_rfl) Try.func84 (by kernel_rfl)
theorem fo85 : FnOk 85 := fnOk_of (fn := Try.f85) (by kernel_rfl) Try.func85 (by kernel_rfl)
theorem fo86 : FnOk 86 := fnOk_of (fn := Try.f86) (by kernel_rfl) Try.func86 (by kernel_rfl)
theorem fo87 : FnOk 87 := fnOk_of (fn := Try.f87) (by kernel_rfl) Try.func87 (by kernel_rfl)
theorem fo88 : FnOk 88 := fnOk_of (fn := Try.f88) (by kernel_rfl) Try.func88 (by kernel_rfl)
theorem fo89 : FnOk 89 := fnOk_of (fn := Try.f89) (by kernel_rfl) Try.func89 (by kernel_rfl)
theorem fo90 : FnOk 90 := fnOk_of (fn := Try.f90) (by kernel_rfl) Try.func90 (by kernel_rfl)
theorem fo91 : FnOk 91 := fnOk_of (fn := Try.f91) (by kernel_rfl) Try.func91 (by kernel_rfl)
theorem fo92 : FnOk 92 := fnOk_of (fn := Try.f92) (by kernel_rfl) Try.func92 (by kernel_rfl)
theorem fo93 : FnOk 93 := fnOk_of (fn := Try.f93) (by kernel_rfl) Try.func93 (by kernel_rfl)
theorem fo94 : FnOk 94 := fnOk_of (fn := Try.f94) (by kernel_rfl) Try.func94 (by kernel_rfl)
theorem fo95 : FnOk 95 := fnOk_of (fn := Try.f95) (by kernel_rfl) Try.func95 (by kernel_rfl)
theorem fo96 : FnOk 96 := fnOk_of (fn := Try.f96) (by kernel_rfl) Try.func96 (by kernel_rfl)
theorem fo97 : FnOk 97 := fnOk_of (fn := Try.f97) (by kernel_rfl) Try.func97 (by kernel_rfl)
theorem fo98 : FnOk 98 := fnOk_of (fn := Try.f98) (by kernel_rfl) Try.func98 (by kernel_rfl)
theorem fo99 : FnOk 99 := fnOk_of (fn := Try.f99) (by kernel_rfl) Try.func99 (by kernel_rfl)
theorem fo100 : FnOk 100 := fnOk_of (fn := Try.f100) (by kernel_rfl) Try.func100 (by kernel_rfl)
theorem fo101 : FnOk 101 := fnOk_of (fn := Try.f101) (by kernel_rfl) Try.func101 (by kernel_rfl)
theorem fo102 : FnOk 102 := fnOk_of (fn := Try.f102) (by kernel_rfl) Try.func102 (by kernel_rfl)
theorem fo103 : FnOk 103 := fnOk_of (fn := Try.f103) (by kernel_rfl) Try.func103 (by kernel_rfl)
theorem fo104 : FnOk 104 := fnOk_of (fn := Try.f104) (by kernel_rfl) Try.func104 (by kernel_rfl)
theorem fo105 : FnOk 105 := fnOk_of (fn := Try.f105) (by kernel_rfl) Try.func105 (by kernel_rfl)
theorem fo106 : FnOk 106 := fnOk_of (fn := Try.f106) (by kernel_rfl) Try.func106 (by kernel_rfl)
theorem fo107 : FnOk 107 := fnOk_of (fn := Try.f107) (by kernel_rfl) Try.func107 (by kernel_rfl)
theorem fo108 : FnOk 108 := fnOk_of (fn := Try.f108) (by kernel_rfl) Try.func108 (by kernel_rfl)
theorem fo109 : FnOk 109 := fnOk_of (fn := Try.f109) (by kernel_rfl) Try.func109 (by kernel_rfl)
theorem fo110 : FnOk 110 := fnOk_of (fn := Try.f110) (by kernel_rfl) Try.func110 (by kernel_rfl)
theorem fo111 : FnOk 111 := fnOk_of (fn := Try.f111) (by kernel_rfl) Try.func111 (by kernel_rfl)
theorem fo112 : FnOk 112 := fnOk_of (fn := Try.f112) (by kernel_rfl) Try.func112 (by kernel_rfl)
theorem fo113 : FnOk 113 := fnOk_of (fn := Try.f113) (by kernel_rfl) Try.func113 (by kernel_rfl)
theorem fo114 : FnOk 114 := fnOk_of (fn := Try.f114) (by kernel_rfl) Try.func114 (by kernel_rfl)
theorem fo115 : FnOk 115 := fnOk_of (fn := Try.f115) (by kernel_rfl) Try.func115 (by kernel_rfl)
theorem fo116 : FnOk 116 := fnOk_of (fn := Try.f116) (by kernel_rfl) Try.func116 (by kernel_rfl)
theorem fo117 : FnOk 117 := fnOk_of (fn := Try.f117) (by kernel_rfl) Try.func117 (by kernel_rfl)
theorem fo118 : FnOk 118 := fnOk_of (fn := Try.f118) (by kernel_rfl) Try.func118 (by kernel_rfl)
theorem fo119 : FnOk 119 := fnOk_of (fn := Try.f119) (by kernel_rfl) Try.func119 (by kernel_rfl)
theorem fo120 : FnOk 120 := fnOk_of (fn := Try.f120) (by kernel_rfl) Try.func120 (by kernel_rfl)
theorem fo121 : FnOk 121 := fnOk_of (fn := Try.f121) (by kernel_rfl) Try.func121 (by kernel_rfl)
theorem fo122 : FnOk 122 := fnOk_of (fn := Try.f122) (by kernel_rfl) Try.func122 (by kernel_rfl)
theorem fo123 : FnOk 123 := fnOk_of (fn := Try.f123) (by kernel_rfl) Try.func123 (by kernel_rfl)
theorem fo124 : FnOk 124 := fnOk_of (fn := Try.f124) (by kernel_rfl) Try.func124 (by kernel_rfl)
theorem fo125 : FnOk 125 := fnOk_of (fn := Try.f125) (by kernel_rfl) Try.func125 (by kernel_rfl)
theorem fo126 : FnOk 126 := fnOk_of (fn := Try.f126) (by kernel_rfl) Try.func126 (by kernel_rfl)
theorem fo127 : FnOk 127 := fnOk_of (fn := Try.f127) (by kernel_rfl) Try.func127 (by kernel_rfl)
theorem fo128 : FnOk 128 := fnOk_of (fn := Try.f128) (by kernel_rfl) Try.func128 (by kernel_rfl)
theorem fo129 : FnOk 129 := fnOk_of (fn := Try.f129) (by kernel_rfl) Try.func129 (by kernel_rfl)
theorem fo130 : FnOk 130 := fnOk_of (fn := Try.f130) (by kernel_rfl) Try.func130 (by kernel_rfl)
theorem fo131 : FnOk 131 := fnOk_of (fn := Try.f131) (by kernel_rfl) Try.func131 (by kernel_rfl)
theorem fo132 : FnOk 132 := fnOk_of (fn := Try.f132) (by kernel_rfl) Try.func132 (by kernel_rfl)
theorem fo133 : FnOk 133 := fnOk_of (fn := Try.f133) (by kernel_rfl) Try.func133 (by kernel_rfl)
theorem fo134 : FnOk 134 := fnOk_of (fn := Try.f134) (by kernel_rfl) Try.func134 (by kernel_rfl)
theorem fo135 : FnOk 135 := fnOk_of (fn := Try.f135) (by kernel_rfl) Try.func135 (by kernel_rfl)
theorem fo136 : FnOk 136 := fnOk_of (fn := Try.f136) (by kernel_rfl) Try.func136 (by kernel_rfl)
theorem fo137 : FnOk 137 := fnOk_of (fn := Try.f137) (by kernel_rfl) Try.func137 (by kernel_rfl)
theorem fo138 : FnOk 138 := fnOk_of (fn := Try.f138) (by kernel_rfl) Try.func138 (by kernel_rfl)
theorem fo139 : FnOk 139 := fnOk_of (fn := Try.f139) (by kernel_rfl) Try.func139 (by kernel_rfl)
theorem fo140 : FnOk 140 := fnOk_of (fn := Try.f140) (by kernel_rfl) Try.func140 (by kernel_rfl)
theorem fo141 : FnOk 141 := fnOk_of (fn := Try.f141) (by kernel_rfl) Try.func141 (by kernel_rfl)
theorem fo142 : FnOk 142 := fnOk_of (fn := Try.f142) (by kernel_rfl) Try.func142 (by kernel_rfl)
theorem fo143 : FnOk 143 := fnOk_of (fn := Try.f143) (by kernel_rfl) Try.func143 (by kernel_rfl)
theorem fo144 : FnOk 144 := fnOk_of (fn := Try.f144) (by kernel_rfl) Try.func144 (by kernel_rfl)
theorem fo145 : FnOk 145 := fnOk_of (fn := Try.f145) (by kernel_rfl) Try.func145 (by kernel_rfl)
theorem fo146 : FnOk 146 := fnOk_of (fn := Try.f146) (by kernel_rfl) Try.func146 (by kernel_rfl)
theorem fo147 : FnOk 147 := fnOk_of (fn := Try.f147) (by kernel_rfl) Try.func147 (by kernel_rfl)
theorem fo148 : FnOk 148 := fnOk_of (fn := Try.f148) (by kernel_rfl) Try.func148 (by kernel_rfl)
theorem fo149 : FnOk 149 := fnOk_of (fn := Try.f149) (by kernel_rfl) Try.func149 (by kernel_rfl)
theorem fo150 : FnOk 150 := fnOk_of (fn := Try.f150) (by kernel_rfl) Try.func150 (by kernel_rfl)
theorem fo151 : FnOk 151 := fnOk_of (fn := Try.f151) (by kernel_rfl) Try.func151 (by kernel_rfl)
theorem fo152 : FnOk 152 := fnOk_of (fn := Try.f152) (by kernel_rfl) Try.func152 (by kernel_rfl)
theorem fo153 : FnOk 153 := fnOk_of (fn := Try.f153) (by kernel_rfl) Try.func153 (by kernel_rfl)
theorem fo154 : FnOk 154 := fnOk_of (fn := Try.f154) (by kernel_rfl) Try.func154 (by kernel_rfl)
theorem fo155 : FnOk 155 := fnOk_of (fn := Try.f155) (by kernel_rfl) Try.func155 (by kernel_rfl)
theorem fo156 : FnOk 156 := fnOk_of (fn := Try.f156) (by kernel_rfl) Try.func156 (by kernel_rfl)
theorem fo157 : FnOk 157 := fnOk_of (fn := Try.f157) (by kernel_rfl) Try.func157 (by kernel_rfl)
theorem fo158 : FnOk 158 := fnOk_of (fn := Try.f158) (by kernel_rfl) Try.func158 (by kernel_rfl)
theorem fo159 : FnOk 159 := fnOk_of (fn := Try.f159) (by kernel_rfl) Try.func159 (by kernel_rfl)
theorem fo160 : FnOk 160 := fnOk_of (fn := Try.f160) (by kernel_rfl) Try.func160 (by kernel_rfl)
theorem fo161 : FnOk 161 := fnOk_of (fn := Try.f161) (by kernel_rfl) Try.func161 (by kernel_rfl)
theorem fo162 : FnOk 162 := fnOk_of (fn := Try.f162) (by kernel_rfl) Try.func162 (by kernel_rfl)
theorem fo163 : FnOk 163 := fnOk_of (fn := Try.f163) (by kernel_rfl) Try.func163 (by kernel_rfl)
theorem fo164 : FnOk 164 := fnOk_of (fn := Try.f164) (by kernel_rfl) Try.func164 (by kernel_rfl)
theorem fo165 : FnOk 165 := fnOk_of (fn := Try.f165) (by kernel_rfl) Try.func165 (by kernel_rfl)
theorem fo166 : FnOk 166 := fnOk_of (fn := Try.f166) (by kernel_rfl) Try.func166 (by kernel_rfl)
theorem fo167 : FnOk 167 := fnOk_of (fn := Try.f167) (by kernel_rfl) Try.func167 (by kernel_rfl)
theorem fo168 : FnOk 168 := fnOk_of (fn := Try.f168) (by kernel_rfl) Try.func168 (by kernel_rfl)
theorem fo169 : FnOk 169 := fnOk_of (fn := Try.f169) (by kernel_rfl) Try.func169 (by kernel_rfl)
theorem fo170 : FnOk 170 := fnOk_of (fn := Try.f170) (by kernel_rfl) Try.func170 (by kernel_rfl)
theorem fo171 : FnOk 171 := fnOk_of (fn := Try.f171) (by kernel_rfl) Try.func171 (by kernel_rfl)
theorem fo172 : FnOk 172 := fnOk_of (fn := Try.f172) (by kernel_rfl) Try.func172 (by kernel_rfl)
theorem fo173 : FnOk 173 := fnOk_of (fn := Try.f173) (by kernel_rfl) Try.func173 (by kernel_rfl)
theorem fo174 : FnOk 174 := fnOk_of (fn := Try.f174) (by kernel_rfl) Try.func174 (by kernel_rfl)
theorem fo175 : FnOk 175 := fnOk_of (fn := Try.f175) (by kernel_rfl) Try.func175 (by kernel_rfl)
theorem fo176 : FnOk 176 := fnOk_of (fn := Try.f176) (by kernel_rfl) Try.func176 (by kernel_rfl)
theorem fo177 : FnOk 177 := fnOk_of (fn := Try.f177) (by kernel_rfl) Try.func177 (by kernel_rfl)
theorem fo178 : FnOk 178 := fnOk_of (fn := Try.f178) (by kernel_rfl) Try.func178 (by kernel_rfl)
theorem fo179 : FnOk 179 := fnOk_of (fn := Try.f179) (by kernel_rfl) Try.func179 (by kernel_rfl)
theorem fo180 : FnOk 180 := fnOk_of (fn := Try.f180) (by kernel_rfl) Try.func180 (by kernel_rfl)
theorem fo181 : FnOk 181 := fnOk_of (fn := Try.f181) (by kernel_rfl) Try.func181 (by kernel_rfl)
theorem fo182 : FnOk 182 := fnOk_of (fn := Try.f182) (by kernel_rfl) Try.func182 (by kernel_rfl)
theorem fo183 : FnOk 183 := fnOk_of (fn := Try.f183) (by kernel_rfl) Try.func183 (by kernel_rfl)
theorem fo184 : FnOk 184 := fnOk_of (fn := Try.f184) (by kernel_rfl) Try.func184 (by kernel_rfl)
theorem fo185 : FnOk 185 := fnOk_of (fn := Try.f185) (by kernel_rfl) Try.func185 (by kernel_rfl)
theorem fo186 : FnOk 186 := fnOk_of (fn := Try.f186) (by kernel_rfl) Try.func186 (by kernel_rfl)
theorem fo187 : FnOk 187 := fnOk_of (fn := Try.f187) (by kernel_rfl) Try.func187 (by kernel_rfl)
theorem fo188 : FnOk 188 := fnOk_of (fn := Try.f188) (by kernel_rfl) Try.func188 (by kernel_rfl)
theorem fo189 : FnOk 189 := fnOk_of (fn := Try.f189) (by kernel_rfl) Try.func189 (by kernel_rfl)
theorem fo190 : FnOk 190 := fnOk_of (fn := Try.f190) (by kernel_rfl) Try.func190 (by kernel_rfl)
theorem fo191 : FnOk 191 := fnOk_of (fn := Try.f191) (by kernel_rfl) Try.func191 (by kernel_rfl)
theorem fo192 : FnOk 192 := fnOk_of (fn := Try.f192) (by kernel_rfl) Try.func192 (by kernel_rfl)
theorem fo193 : FnOk 193 := fnOk_of (fn := Try.f193) (by kernel_rfl) Try.func193 (by kernel_rfl)
theorem fo194 : FnOk 194 := fnOk_of (fn := Try.f194) (by kernel_rfl) Try.func194 (by kernel_rfl)
theorem fo195 : FnOk 195 := fnOk_of (fn := Try.f195) (by kernel_rfl) Try.func195 (by kernel_rfl)
theorem fo196 : FnOk 196 := fnOk_of (fn := Try.f196) (by kernel_rfl) Try.func196 (by kernel_rfl)
theorem fo197 : FnOk 197 := fnOk_of (fn := Try.f197) (by kernel_rfl) Try.func197 (by kernel_rfl)
theorem fo198 : FnOk 198 := fnOk_of (fn := Try.f198) (by kernel_rfl) Try.func198 (by kernel_rfl)
theorem fo199 : FnOk 199 := fnOk_of (fn := Try.f199) (by kernel_rfl) Try.func199 (by kernel_rfl)
theorem fo200 : FnOk 200 := fnOk_of (fn := Try.f200) (by kernel_rfl) Try.func200 (by kernel_rfl)
theorem fo201 : FnOk 201 := fnOk_of (fn := Try.f201) (by kernel_rfl) Try.func201 (by kernel_rfl)
theorem fo202 : FnOk 202 := fnOk_of (fn := Try.f202) (by kernel_rfl) Try.func202 (by kernel_rfl)
theorem fo203 : FnOk 203 := fnOk_of (fn := Try.f203) (by kernel_rfl) Try.func203 (by kernel_rfl)
theorem fo204 : FnOk 204 := fnOk_of (fn := Try.f204) (by kernel_rfl) Try.func204 (by kernel_rfl)
theorem fo205 : FnOk 205 := fnOk_of (fn := Try.f205) (by kernel_rfl) Try.func205 (by kernel_rfl)
theorem fo206 : FnOk 206 := fnOk_of (fn := Try.f206) (by kernel_rfl) Try.func206 (by kernel_rfl)
theorem fo207 : FnOk 207 := fnOk_of (fn := Try.f207) (by kernel_rfl) Try.func207 (by kernel_rfl)
theorem fo208 : FnOk 208 := fnOk_of (fn := Try.f208) (by kernel_rfl) Try.func208 (by kernel_rfl)
theorem fo209 : FnOk 209 := fnOk_of (fn := Try.f209) (by kernel_rfl) Try.func209 (by kernel_rfl)
theorem fo210 : FnOk 210 := fnOk_of (fn := Try.f210) (by kernel_rfl) Try.func210 (by kernel_rfl)
theorem fo211 : FnOk 211 := fnOk_of (fn := Try.f211) (by kernel_rfl) Try.func211 (by kernel_rfl)
theorem fo212 : FnOk 212 := fnOk_of (fn := Try.f212) (by kernel_rfl) Try.func212 (by kernel_rfl)
theorem fo213 : FnOk 213 := fnOk_of (fn := Try.f213) (by kernel_rfl) Try.func213 (by kernel_rfl)
theorem fo214 : FnOk 214 := fnOk_of (fn := Try.f214) (by kernel_rfl) Try.func214 (by kernel_rfl)
theorem fo215 : FnOk 215 := fnOk_of (fn := Try.f215) (by kernel_rfl) Try.func215 (by kernel_rfl)
theorem fo216 : FnOk 216 := fnOk_of (fn := Try.f216) (by kernel_rfl) Try.func216 (by kernel_rfl)
theorem fo217 : FnOk 217 := fnOk_of (fn := Try.f217) (by kernel_rfl) Try.func217 (by kernel_rfl)
theorem fo218 : FnOk 218 := fnOk_of (fn := Try.f218) (by kernel_rfl) Try.func218 (by kernel_rfl)
theorem fo219 : FnOk 219 := fnOk_of (fn := Try.f219) (by kernel_rfl) Try.func219 (by kernel_rfl)
theorem fo220 : FnOk 220 := fnOk_of (fn := Try.f220) (by kernel_rfl) Try.func220 (by kernel_rfl)
theorem fo221 : FnOk 221 := fnOk_of (fn := Try.f221) (by kernel_rfl) Try.func221 (by kernel_rfl)
theorem fo222 : FnOk 222 := fnOk_of (fn := Try.f222) (by kernel_rfl) Try.func222 (by kernel_rfl)
theorem fo223 : FnOk 223 := fnOk_of (fn := Try.f223) (by kernel_rfl) Try.func223 (by kernel_rfl)
theorem fo224 : FnOk 224 := fnOk_of (fn := Try.f224) (by kernel_rfl) Try.func224 (by kernel_rfl)
theorem fo225 : FnOk 225 := fnOk_of (fn := Try.f225) (by kernel_rfl) Try.func225 (by kernel_rfl)
theorem fo226 : FnOk 226 := fnOk_of (fn := Try.f226) (by kernel_rfl) Try.func226 (by kernel_rfl)
theorem fo227 : FnOk 227 := fnOk_of (fn := Try.f227) (by kernel_rfl) Try.func227 (by kernel_rfl)
theorem fo228 : FnOk 228 := fnOk_of (fn := Try.f228) (by kernel_rfl) Try.func228 (by kernel_rfl)
theorem fo229 : FnOk 229 := fnOk_of (fn := Try.f229) (by kernel_rfl) Try.func229 (by kernel_rfl)
theorem fo230 : FnOk 230 := fnOk_of (fn := Try.f230) (by kernel_rfl) Try.func230 (by kernel_rfl)
theorem fo231 : FnOk 231 := fnOk_of (fn := Try.f231) (by kernel_rfl) Try.func231 (by kernel_rfl)
theorem fo232 : FnOk 232 := fnOk_of (fn := Try.f232) (by kernel_rfl) Try.func232 (by kernel_rfl)
theorem fo233 : FnOk 233 := fnOk_of (fn := Try.f233) (by kernel_rfl) Try.func233 (by kernel_rfl)
end Go.Ab
