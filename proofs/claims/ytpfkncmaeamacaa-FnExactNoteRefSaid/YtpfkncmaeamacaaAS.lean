/- The functions' contracts, printed by a program of the prover's own. -/
import Derived.Test.YtpfkncmaeamacaaAR
import Derived.Test.YtpfkncmaeamacaaProg
namespace Go.Proofs
open Go Fw
set_option maxRecDepth 100000
def Sg.eqs : List Nat := [30, 39, 43, 111, 122, 124]
def Sg.tab : List (Nat × Fw.TyI) := [
(1, .one),
(2, .leaf (.int .i64)),
(3, .leaf (.int .i64)),
(4, .leaf .bool),
(5, .leaf (.int .u8)),
(6, .leaf (.int .u8)),
(7, .struct (.pair (.int .i64) (.pair (.int .i64) (.pair .bool (.int .u8)))) [(0, 2), (1, 3), (2, 4), (3, 6)]),
(8, .struct (.pair (.int .i64) (.pair (.int .i64) (.pair .bool (.int .u8)))) [(0, 2), (1, 3), (2, 4), (3, 6)]),
(9, .leaf .str),
(10, .leaf .str),
(11, .leaf .str),
(12, .leaf (.int .u64)),
(13, .struct (.pair .str (.int .u64)) [(0, 9), (1, 12)]),
(14, .struct (.pair .str (.int .u64)) [(0, 9), (1, 12)]),
(21, .leaf (.int .i32)),
(22, .slice 111 (.pair (.int .i64) (.pair (.int .i64) .bool)) 0),
(23, .struct (.pair .str (.pair (.int .i64) (.sl (.pair (.int .i64) (.pair (.int .i64) .bool))))) [(0, 9), (1, 3), (2, 22)]),
(24, .struct (.pair .str (.pair (.int .i64) (.sl (.pair (.int .i64) (.pair (.int .i64) .bool))))) [(0, 9), (1, 3), (2, 22)]),
(25, .one),
(26, .slice 30 (.pair (.int .i64) (.pair (.int .i64) .bool)) 0),
(27, .struct (.pair .str (.pair (.int .i64) (.sl (.pair (.int .i64) (.pair (.int .i64) .bool))))) [(0, 9), (1, 3), (2, 26)]),
(28, .struct (.pair .str (.pair (.int .i64) (.sl (.pair (.int .i64) (.pair (.int .i64) .bool))))) [(0, 9), (1, 3), (2, 26)]),
(29, .struct (.pair (.int .i64) (.pair (.int .i64) .bool)) [(0, 3), (1, 3), (2, 4)]),
(30, .struct (.pair (.int .i64) (.pair (.int .i64) .bool)) [(0, 3), (1, 3), (2, 4)]),
(32, .one),
(33, .one),
(34, .one),
(35, .one),
(36, .one),
(37, .one),
(38, .struct (.pair .str (.pair (.int .i64) (.pair (.int .i64) .bool))) [(0, 9), (1, 3), (2, 3), (3, 4)]),
(39, .struct (.pair .str (.pair (.int .i64) (.pair (.int .i64) .bool))) [(0, 9), (1, 3), (2, 3), (3, 4)]),
(40, .one),
(42, .one),
(43, .struct (.pair .str (.pair (.int .i64) (.pair (.int .i64) .bool))) [(0, 9), (1, 3), (2, 3), (3, 4)]),
(44, .one),
(45, .one),
(46, .slice 5 (.int .u8) 0),
(47, .one),
(48, .one),
(49, .one),
(51, .one),
(52, .one),
(53, .one),
(54, .slice 43 (.pair .str (.pair (.int .i64) (.pair (.int .i64) .bool))) 0),
(55, .one),
(56, .one),
(57, .one),
(58, .slice 62 (.pair (.sl (.int .i64)) (.sl (.pair .str (.int .i64)))) 0),
(59, .slice 3 (.int .i64) 0),
(60, .slice 122 (.pair .str (.int .i64)) 0),
(61, .struct (.pair (.sl (.int .i64)) (.sl (.pair .str (.int .i64)))) [(0, 59), (1, 60)]),
(62, .struct (.pair (.sl (.int .i64)) (.sl (.pair .str (.int .i64)))) [(0, 59), (1, 60)]),
(63, .one),
(64, .one),
(65, .slice 71 (.pair (.sl (.int .i64)) (.sl (.pair .str (.int .i64)))) 0),
(67, .one),
(68, .one),
(69, .slice 124 (.pair .str (.int .i64)) 0),
(70, .struct (.pair (.sl (.int .i64)) (.sl (.pair .str (.int .i64)))) [(0, 59), (1, 69)]),
(71, .struct (.pair (.sl (.int .i64)) (.sl (.pair .str (.int .i64)))) [(0, 59), (1, 69)]),
(72, .one),
(73, .one),
(74, .one),
(75, .one),
(76, .one),
(77, .one),
(78, .one),
(79, .one),
(80, .one),
(81, .one),
(82, .one),
(83, .one),
(84, .one),
(85, .one),
(86, .one),
(87, .one),
(88, .one),
(89, .one),
(90, .one),
(91, .one),
(92, .one),
(93, .one),
(94, .one),
(95, .one),
(96, .one),
(97, .one),
(98, .one),
(99, .one),
(100, .one),
(101, .one),
(102, .one),
(103, .one),
(104, .one),
(105, .one),
(106, .one),
(107, .one),
(108, .one),
(109, .one),
(110, .one),
(111, .struct (.pair (.int .i64) (.pair (.int .i64) .bool)) [(0, 3), (1, 3), (2, 4)]),
(112, .struct (.pair (.sl (.int .u8)) (.pair (.int .i64) (.int .i64))) [(0, 46), (1, 3), (2, 3)]),
(113, .struct (.pair (.sl (.int .u8)) (.pair (.int .i64) (.int .i64))) [(0, 46), (1, 3), (2, 3)]),
(114, .one),
(115, .one),
(116, .one),
(117, .one),
(118, .one),
(119, .slice 9 .str 0),
(120, .one),
(121, .struct (.pair .str (.int .i64)) [(0, 9), (1, 3)]),
(122, .struct (.pair .str (.int .i64)) [(0, 9), (1, 3)]),
(123, .one),
(124, .struct (.pair .str (.int .i64)) [(0, 9), (1, 3)]),
(125, .one),
(126, .one),
(127, .one),
(128, .one),
(129, .one),
(130, .one),
(131, .one),
(132, .one),
(133, .one),
(134, .one),
(135, .one),
(141, .leaf (.int .u32)),
(142, .leaf (.int .u8)),
(143, .leaf (.int .u8)),
(144, .one),
(146, .leaf (.int .i32)),
(147, .leaf (.int .i32))]
def Sg.ptrs : List (Nat × Fw.Ty) := [(87, (.pair (.sl (.int .u8)) (.pair (.int .i64) (.int .i64))))]
theorem Sg.tabOK : Fw.chkAll Try.prog Sg.tab = true := by kernel_rfl
theorem Sg.eqsOK : Fw.eqFacts Try.prog Sg.tab Sg.eqs = true := by kernel_rfl
theorem Sg.mixOK : Try.prog.follows .mixedOrders = true := by kernel_rfl
noncomputable def Sg.f_laws_szEventS : Fw.PFn := Fw.PFn.get Try.f41
noncomputable def Sg.i_laws_szEventS : List (Nat × Fw.PFn) := []
noncomputable def Sg.s_laws_szEventS (K : Nat) : Fw.Sig := { ins := [.val false (.sl (.pair (.int .i64) (.pair (.int .i64) .bool))), .val false (.int .i64)], outs := [⟨false, (.int .i64), false⟩], F := fun x => R.laws_szEventS K x.1 x.2.1 }
noncomputable def Sg.c_laws_szEventS (K : Nat) : Fw.Cfg := { tab := Sg.tab, eqs := Sg.eqs, sig := [], inl := [], lo := [], K := K, jo := [] }
noncomputable def Sg.f_laws_szWatch : Fw.PFn := Fw.PFn.get Try.f7
noncomputable def Sg.i_laws_szWatch : List (Nat × Fw.PFn) := []
noncomputable def Sg.s_laws_szWatch (K : Nat) : Fw.Sig := { ins := [.val true (.pair .str (.pair (.int .i64) (.sl (.pair (.int .i64) (.pair (.int .i64) .bool))))), .val false (.int .i64)], outs := [⟨false, (.int .i64), false⟩], F := fun x => R.laws_szWatch K x.1 x.2.1 }
noncomputable def Sg.c_laws_szWatch (K : Nat) : Fw.Cfg := { tab := Sg.tab, eqs := Sg.eqs, sig := [(41, Sg.s_laws_szEventS K)], inl := [], lo := [], K := K, jo := [] }
noncomputable def Sg.f_laws_szRef : Fw.PFn := Fw.PFn.get Try.f15
noncomputable def Sg.i_laws_szRef : List (Nat × Fw.PFn) := []
noncomputable def Sg.s_laws_szRef (K : Nat) : Fw.Sig := { ins := [.val true (.pair .str (.pair (.int .i64) (.pair (.int .i64) .bool))), .val false (.int .i64)], outs := [⟨false, (.int .i64), false⟩], F := fun x => R.laws_szRef K x.1 x.2.1 }
noncomputable def Sg.c_laws_szRef (K : Nat) : Fw.Cfg := { tab := Sg.tab, eqs := Sg.eqs, sig := [], inl := [], lo := [], K := K, jo := [] }
noncomputable def Sg.f_laws_toEvent : Fw.PFn := Fw.PFn.get Try.f88
noncomputable def Sg.i_laws_toEvent : List (Nat × Fw.PFn) := []
noncomputable def Sg.s_laws_toEvent (K : Nat) : Fw.Sig := { ins := [.val true (.pair (.int .i64) (.pair (.int .i64) .bool))], outs := [⟨true, (.pair (.int .i64) (.pair (.int .i64) .bool)), false⟩], F := fun x => R.laws_toEvent K x.1 }
noncomputable def Sg.c_laws_toEvent (K : Nat) : Fw.Cfg := { tab := Sg.tab, eqs := Sg.eqs, sig := [], inl := [], lo := [], K := K, jo := [] }
def Sg.h_laws_toEventS_0 : Fw.StSh := ⟨[(0, (.d (.sl (.pair (.int .i64) (.pair (.int .i64) .bool))))), (2, (.row 0)), (3, (.row 1)), (4, (.d (.int .i64)))], [(0, (.row (.pair (.int .i64) (.pair (.int .i64) .bool)) true)), (1, (.row (.pair (.int .i64) (.pair (.int .i64) .bool)) true))], 2, 23, ⟨0, []⟩⟩
def Sg.o_laws_toEventS_0 : Fw.StSh := ⟨[(2, (.row 0)), (3, (.row 1))], [(0, (.row (.pair (.int .i64) (.pair (.int .i64) .bool)) true)), (1, (.row (.pair (.int .i64) (.pair (.int .i64) .bool)) true))], 2, 23, ⟨0, []⟩⟩
def Sg.r_laws_toEventS_0 : Fw.StSh := ⟨[], [], 2, 23, ⟨0, []⟩⟩
noncomputable def Sg.p_laws_toEventS_0 (K : Nat) : Fw.LSpec := { g := 44, b := 0, lv := 6, l0 := 0, li := 0, head := Sg.h_laws_toEventS_0, post := Sg.o_laws_toEventS_0, retn := Sg.r_laws_toEventS_0, ex := 0, L := R.L_laws_toEventS_0 K }
noncomputable def Sg.f_laws_toEventS : Fw.PFn := Fw.PFn.get Try.f44
noncomputable def Sg.i_laws_toEventS : List (Nat × Fw.PFn) := []
noncomputable def Sg.s_laws_toEventS (K : Nat) : Fw.Sig := { ins := [.val false (.sl (.pair (.int .i64) (.pair (.int .i64) .bool)))], outs := [⟨false, (.sl (.pair (.int .i64) (.pair (.int .i64) .bool))), true⟩], F := fun x => R.laws_toEventS K x.1 }
noncomputable def Sg.c_laws_toEventS (K : Nat) : Fw.Cfg := { tab := Sg.tab, eqs := Sg.eqs, sig := [(88, Sg.s_laws_toEvent K)], inl := [], lo := Sg.p_laws_toEventS_0 K :: [], K := K, jo := [] }
noncomputable def Sg.f_laws_toWatch : Fw.PFn := Fw.PFn.get Try.f9
noncomputable def Sg.i_laws_toWatch : List (Nat × Fw.PFn) := []
noncomputable def Sg.s_laws_toWatch (K : Nat) : Fw.Sig := { ins := [.val true (.pair .str (.pair (.int .i64) (.sl (.pair (.int .i64) (.pair (.int .i64) .bool)))))], outs := [⟨true, (.pair .str (.pair (.int .i64) (.sl (.pair (.int .i64) (.pair (.int .i64) .bool))))), true⟩], F := fun x => R.laws_toWatch K x.1 }
noncomputable def Sg.c_laws_toWatch (K : Nat) : Fw.Cfg := { tab := Sg.tab, eqs := Sg.eqs, sig := [(44, Sg.s_laws_toEventS K)], inl := [], lo := [], K := K, jo := [] }
noncomputable def Sg.f_laws_toRef : Fw.PFn := Fw.PFn.get Try.f17
noncomputable def Sg.i_laws_toRef : List (Nat × Fw.PFn) := []
noncomputable def Sg.s_laws_toRef (K : Nat) : Fw.Sig := { ins := [.val true (.pair .str (.pair (.int .i64) (.pair (.int .i64) .bool)))], outs := [⟨true, (.pair .str (.pair (.int .i64) (.pair (.int .i64) .bool))), false⟩], F := fun x => R.laws_toRef K x.1 }
noncomputable def Sg.c_laws_toRef (K : Nat) : Fw.Cfg := { tab := Sg.tab, eqs := Sg.eqs, sig := [], inl := [], lo := [], K := K, jo := [] }
noncomputable def Sg.f_spec_l00Letter : Fw.PFn := Fw.PFn.get Try.f106
noncomputable def Sg.i_spec_l00Letter : List (Nat × Fw.PFn) := []
noncomputable def Sg.s_spec_l00Letter (K : Nat) : Fw.Sig := { ins := [.val false (.int .u8)], outs := [⟨false, .bool, false⟩], F := fun x => R.spec_l00Letter K x.1 }
noncomputable def Sg.c_spec_l00Letter (K : Nat) : Fw.Cfg := { tab := Sg.tab, eqs := Sg.eqs, sig := [], inl := [], lo := [], K := K, jo := [] }
noncomputable def Sg.f_spec_l00Digit : Fw.PFn := Fw.PFn.get Try.f107
noncomputable def Sg.i_spec_l00Digit : List (Nat × Fw.PFn) := []
noncomputable def Sg.s_spec_l00Digit (K : Nat) : Fw.Sig := { ins := [.val false (.int .u8)], outs := [⟨false, .bool, false⟩], F := fun x => R.spec_l00Digit K x.1 }
noncomputable def Sg.c_spec_l00Digit (K : Nat) : Fw.Cfg := { tab := Sg.tab, eqs := Sg.eqs, sig := [], inl := [], lo := [], K := K, jo := [] }
def Sg.h_spec_l00Word_0 : Fw.StSh := ⟨[(0, (.d .str)), (2, (.d .bool)), (3, (.d (.int .i64)))], [], 0, 36, ⟨0, []⟩⟩
def Sg.o_spec_l00Word_0 : Fw.StSh := ⟨[(2, (.d .bool))], [], 0, 36, ⟨0, []⟩⟩
def Sg.r_spec_l00Word_0 : Fw.StSh := ⟨[(2, (.d .bool))], [], 0, 36, ⟨0, []⟩⟩
noncomputable def Sg.p_spec_l00Word_0 (K : Nat) : Fw.LSpec := { g := 65, b := 0, lv := 6, l0 := 0, li := 0, head := Sg.h_spec_l00Word_0, post := Sg.o_spec_l00Word_0, retn := Sg.r_spec_l00Word_0, ex := 0, L := R.L_spec_l00Word_0 K }
noncomputable def Sg.f_spec_l00Word : Fw.PFn := Fw.PFn.get Try.f65
noncomputable def Sg.i_spec_l00Word : List (Nat × Fw.PFn) := []
noncomputable def Sg.s_spec_l00Word (K : Nat) : Fw.Sig := { ins := [.val false .str], outs := [⟨false, .bool, false⟩], F := fun x => R.spec_l00Word K x.1 }
noncomputable def Sg.c_spec_l00Word (K : Nat) : Fw.Cfg := { tab := Sg.tab, eqs := Sg.eqs, sig := [(106, Sg.s_spec_l00Letter K), (107, Sg.s_spec_l00Digit K)], inl := [], lo := Sg.p_spec_l00Word_0 K :: [], K := K, jo := [] }
noncomputable def Sg.f_spec_l01In : Fw.PFn := Fw.PFn.get Try.f86
noncomputable def Sg.i_spec_l01In : List (Nat × Fw.PFn) := []
noncomputable def Sg.s_spec_l01In (K : Nat) : Fw.Sig := { ins := [.val false (.int .i64), .val false (.int .i64), .val false (.int .i64)], outs := [⟨false, .bool, false⟩], F := fun x => R.spec_l01In K x.1 x.2.1 x.2.2.1 }
noncomputable def Sg.c_spec_l01In (K : Nat) : Fw.Cfg := { tab := Sg.tab, eqs := Sg.eqs, sig := [], inl := [], lo := [], K := K, jo := [] }
def Sg.h_spec_l06Events_0 : Fw.StSh := ⟨[(0, (.d (.sl (.pair (.int .i64) (.pair (.int .i64) .bool))))), (2, (.d .bool)), (3, (.d (.int .i64)))], [], 0, 61, ⟨0, []⟩⟩
def Sg.o_spec_l06Events_0 : Fw.StSh := ⟨[(2, (.d .bool))], [], 0, 61, ⟨0, []⟩⟩
def Sg.r_spec_l06Events_0 : Fw.StSh := ⟨[(2, (.d .bool))], [], 1, 61, ⟨0, []⟩⟩
noncomputable def Sg.p_spec_l06Events_0 (K : Nat) : Fw.LSpec := { g := 87, b := 0, lv := 6, l0 := 0, li := 0, head := Sg.h_spec_l06Events_0, post := Sg.o_spec_l06Events_0, retn := Sg.r_spec_l06Events_0, ex := 0, L := R.L_spec_l06Events_0 K }
noncomputable def Sg.f_spec_l06Events : Fw.PFn := Fw.PFn.get Try.f87
noncomputable def Sg.i_spec_l06Events : List (Nat × Fw.PFn) := []
noncomputable def Sg.s_spec_l06Events (K : Nat) : Fw.Sig := { ins := [.val false (.sl (.pair (.int .i64) (.pair (.int .i64) .bool)))], outs := [⟨false, .bool, false⟩], F := fun x => R.spec_l06Events K x.1 }
noncomputable def Sg.c_spec_l06Events (K : Nat) : Fw.Cfg := { tab := Sg.tab, eqs := Sg.eqs, sig := [(86, Sg.s_spec_l01In K)], inl := [], lo := Sg.p_spec_l06Events_0 K :: [], K := K, jo := ⟨87, 0, 6, 0, 5, none⟩ :: [] }
def Sg.h_spec_l06OK_0 : Fw.StSh := ⟨[(1, (.ref 0 0)), (2, (.d .bool)), (3, (.d (.int .i64))), (4, (.d (.int .i64)))], [(0, (.box [(.d .str), (.d (.int .i64)), (.d (.sl (.pair (.int .i64) (.pair (.int .i64) .bool))))]))], 1, 55, ⟨0, []⟩⟩
def Sg.o_spec_l06OK_0 : Fw.StSh := ⟨[(2, (.d .bool))], [], 1, 55, ⟨0, []⟩⟩
def Sg.r_spec_l06OK_0 : Fw.StSh := ⟨[(2, (.d .bool))], [], 1, 55, ⟨0, []⟩⟩
noncomputable def Sg.p_spec_l06OK_0 (K : Nat) : Fw.LSpec := { g := 42, b := 0, lv := 6, l0 := 0, li := 0, head := Sg.h_spec_l06OK_0, post := Sg.o_spec_l06OK_0, retn := Sg.r_spec_l06OK_0, ex := 0, L := R.L_spec_l06OK_0 K }
noncomputable def Sg.f_spec_l06OK : Fw.PFn := Fw.PFn.get Try.f42
noncomputable def Sg.i_spec_l06OK : List (Nat × Fw.PFn) := []
noncomputable def Sg.s_spec_l06OK (K : Nat) : Fw.Sig := { ins := [.val true (.pair .str (.pair (.int .i64) (.sl (.pair (.int .i64) (.pair (.int .i64) .bool)))))], outs := [⟨false, .bool, false⟩], F := fun x => R.spec_l06OK K x.1 }
noncomputable def Sg.c_spec_l06OK (K : Nat) : Fw.Cfg := { tab := Sg.tab, eqs := Sg.eqs, sig := [(65, Sg.s_spec_l00Word K), (86, Sg.s_spec_l01In K), (87, Sg.s_spec_l06Events K)], inl := [], lo := Sg.p_spec_l06OK_0 K :: [], K := K, jo := ⟨42, 0, 6, 0, 2, none⟩ :: [] }
def Sg.h_spec_l04At_0 : Fw.StSh := ⟨[(0, (.d (.sl (.pair .str (.pair (.int .i64) (.pair (.int .i64) .bool)))))), (1, (.d .str)), (4, (.d (.int .i64))), (5, (.d (.int .i64)))], [], 0, 20, ⟨0, []⟩⟩
def Sg.o_spec_l04At_0 : Fw.StSh := ⟨[(4, (.d (.int .i64)))], [], 0, 20, ⟨0, []⟩⟩
def Sg.r_spec_l04At_0 : Fw.StSh := ⟨[(4, (.d (.int .i64)))], [], 0, 20, ⟨0, []⟩⟩
noncomputable def Sg.p_spec_l04At_0 (K : Nat) : Fw.LSpec := { g := 89, b := 0, lv := 6, l0 := 0, li := 0, head := Sg.h_spec_l04At_0, post := Sg.o_spec_l04At_0, retn := Sg.r_spec_l04At_0, ex := 0, L := R.L_spec_l04At_0 K }
noncomputable def Sg.f_spec_l04At : Fw.PFn := Fw.PFn.get Try.f89
noncomputable def Sg.i_spec_l04At : List (Nat × Fw.PFn) := []
noncomputable def Sg.s_spec_l04At (K : Nat) : Fw.Sig := { ins := [.val false (.sl (.pair .str (.pair (.int .i64) (.pair (.int .i64) .bool)))), .val false .str], outs := [⟨false, (.int .i64), false⟩], F := fun x => R.spec_l04At K x.1 x.2.1 }
noncomputable def Sg.c_spec_l04At (K : Nat) : Fw.Cfg := { tab := Sg.tab, eqs := Sg.eqs, sig := [], inl := [], lo := Sg.p_spec_l04At_0 K :: [], K := K, jo := [] }
def Sg.h_spec_l04OK_0 : Fw.StSh := ⟨[(0, (.d (.sl (.pair .str (.pair (.int .i64) (.pair (.int .i64) .bool)))))), (2, (.d .bool)), (3, (.d (.int .i64)))], [], 0, 56, ⟨0, []⟩⟩
def Sg.o_spec_l04OK_0 : Fw.StSh := ⟨[(2, (.d .bool))], [], 0, 56, ⟨0, []⟩⟩
def Sg.r_spec_l04OK_0 : Fw.StSh := ⟨[(2, (.d .bool))], [], 1, 56, ⟨0, []⟩⟩
noncomputable def Sg.p_spec_l04OK_0 (K : Nat) : Fw.LSpec := { g := 49, b := 0, lv := 6, l0 := 0, li := 0, head := Sg.h_spec_l04OK_0, post := Sg.o_spec_l04OK_0, retn := Sg.r_spec_l04OK_0, ex := 0, L := R.L_spec_l04OK_0 K }
noncomputable def Sg.f_spec_l04OK : Fw.PFn := Fw.PFn.get Try.f49
noncomputable def Sg.i_spec_l04OK : List (Nat × Fw.PFn) := []
noncomputable def Sg.s_spec_l04OK (K : Nat) : Fw.Sig := { ins := [.val false (.sl (.pair .str (.pair (.int .i64) (.pair (.int .i64) .bool))))], outs := [⟨false, .bool, false⟩], F := fun x => R.spec_l04OK K x.1 }
noncomputable def Sg.c_spec_l04OK (K : Nat) : Fw.Cfg := { tab := Sg.tab, eqs := Sg.eqs, sig := [(65, Sg.s_spec_l00Word K), (86, Sg.s_spec_l01In K), (89, Sg.s_spec_l04At K)], inl := [], lo := Sg.p_spec_l04OK_0 K :: [], K := K, jo := [] }
noncomputable def Sg.f_spec_l06Own : Fw.PFn := Fw.PFn.get Try.f43
noncomputable def Sg.i_spec_l06Own : List (Nat × Fw.PFn) := []
noncomputable def Sg.s_spec_l06Own (K : Nat) : Fw.Sig := { ins := [.val true (.pair .str (.pair (.int .i64) (.sl (.pair (.int .i64) (.pair (.int .i64) .bool)))))], outs := [⟨true, (.pair .str (.pair (.int .i64) (.sl (.pair (.int .i64) (.pair (.int .i64) .bool))))), true⟩], F := fun x => R.spec_l06Own K x.1 }
noncomputable def Sg.c_spec_l06Own (K : Nat) : Fw.Cfg := { tab := Sg.tab, eqs := Sg.eqs, sig := [], inl := [], lo := [], K := K, jo := [] }
def Sg.j_spec_l06Note_0 : Fw.StSh := ⟨[(2, (.ref 0 0)), (3, (.ref 1 0)), (4, (.ref 3 0))], [(0, (.box [(.d .str), (.d (.int .i64)), (.row 6)])), (1, (.box [(.d .str), (.d (.int .i64)), (.d (.int .i64)), (.d .bool)])), (3, (.box [(.d .str), (.d (.int .i64)), (.row 2)])), (6, (.row (.pair (.int .i64) (.pair (.int .i64) .bool)) true)), (2, (.row (.pair (.int .i64) (.pair (.int .i64) .bool)) true))], 8, 30, ⟨0, []⟩⟩
noncomputable def Sg.f_spec_l06Note : Fw.PFn := Fw.PFn.get Try.f50
noncomputable def Sg.i_spec_l06Note : List (Nat × Fw.PFn) := []
noncomputable def Sg.s_spec_l06Note (K : Nat) : Fw.Sig := { ins := [.val true (.pair .str (.pair (.int .i64) (.sl (.pair (.int .i64) (.pair (.int .i64) .bool))))), .val true (.pair .str (.pair (.int .i64) (.pair (.int .i64) .bool)))], outs := [⟨true, (.pair .str (.pair (.int .i64) (.sl (.pair (.int .i64) (.pair (.int .i64) .bool))))), true⟩], F := fun x => R.spec_l06Note K x.1 x.2.1 }
noncomputable def Sg.c_spec_l06Note (K : Nat) : Fw.Cfg := { tab := Sg.tab, eqs := Sg.eqs, sig := [], inl := [], lo := [], K := K, jo := ⟨50, 0, 6, 0, 5, some Sg.j_spec_l06Note_0⟩ :: [] }
noncomputable def Sg.f_spec_NoteRef : Fw.PFn := Fw.PFn.get Try.f16
noncomputable def Sg.i_spec_NoteRef : List (Nat × Fw.PFn) := []
noncomputable def Sg.s_spec_NoteRef (K : Nat) : Fw.Sig := { ins := [.val true (.pair .str (.pair (.int .i64) (.sl (.pair (.int .i64) (.pair (.int .i64) .bool))))), .val true (.pair .str (.pair (.int .i64) (.pair (.int .i64) .bool)))], outs := [⟨true, (.pair .str (.pair (.int .i64) (.sl (.pair (.int .i64) (.pair (.int .i64) .bool))))), true⟩, ⟨false, (.int .i64), false⟩], F := fun x => R.spec_NoteRef K x.1 x.2.1 }
noncomputable def Sg.c_spec_NoteRef (K : Nat) : Fw.Cfg := { tab := Sg.tab, eqs := Sg.eqs, sig := [(42, Sg.s_spec_l06OK K), (49, Sg.s_spec_l04OK K), (43, Sg.s_spec_l06Own K), (50, Sg.s_spec_l06Note K)], inl := [], lo := [], K := K, jo := [] }
noncomputable def Sg.f_impl_within : Fw.PFn := Fw.PFn.get Try.f57
noncomputable def Sg.i_impl_within : List (Nat × Fw.PFn) := []
noncomputable def Sg.s_impl_within (K : Nat) : Fw.Sig := { ins := [.val false (.int .i64), .val false (.int .i64), .val false (.int .i64)], outs := [⟨false, .bool, false⟩], F := fun x => R.impl_within K x.1 x.2.1 x.2.2.1 }
noncomputable def Sg.c_impl_within (K : Nat) : Fw.Cfg := { tab := Sg.tab, eqs := Sg.eqs, sig := [], inl := [], lo := [], K := K, jo := [] }
noncomputable def Sg.f_impl_isLetter : Fw.PFn := Fw.PFn.get Try.f95
noncomputable def Sg.i_impl_isLetter : List (Nat × Fw.PFn) := []
noncomputable def Sg.s_impl_isLetter (K : Nat) : Fw.Sig := { ins := [.val false (.int .u8)], outs := [⟨false, .bool, false⟩], F := fun x => R.impl_isLetter K x.1 }
noncomputable def Sg.c_impl_isLetter (K : Nat) : Fw.Cfg := { tab := Sg.tab, eqs := Sg.eqs, sig := [], inl := [], lo := [], K := K, jo := [] }
noncomputable def Sg.f_impl_areAll_byte_1 : Fw.PFn := Fw.PFn.get Try.f120
noncomputable def Sg.f_slices_IndexFunc_byte : Fw.PFn := Fw.PFn.get Try.f128
noncomputable def Sg.f_slices_ContainsFunc_byte : Fw.PFn := Fw.PFn.get Try.f119
noncomputable def Sg.f_impl_areAll_byte : Fw.PFn := Fw.PFn.get Try.f96
noncomputable def Sg.f_impl_isDigit : Fw.PFn := Fw.PFn.get Try.f98
noncomputable def Sg.i_impl_isDigit : List (Nat × Fw.PFn) := []
noncomputable def Sg.s_impl_isDigit (K : Nat) : Fw.Sig := { ins := [.val false (.int .u8)], outs := [⟨false, .bool, false⟩], F := fun x => R.impl_isDigit K x.1 }
noncomputable def Sg.c_impl_isDigit (K : Nat) : Fw.Cfg := { tab := Sg.tab, eqs := Sg.eqs, sig := [], inl := [], lo := [], K := K, jo := [] }
noncomputable def Sg.f_impl_NameOK_1 : Fw.PFn := Fw.PFn.get Try.f97
noncomputable def Sg.i_impl_NameOK_1 : List (Nat × Fw.PFn) := []
noncomputable def Sg.s_impl_NameOK_1 (K : Nat) : Fw.Sig := { ins := [.val false (.int .u8)], outs := [⟨false, .bool, false⟩], F := fun x => R.impl_NameOK_1 K x.1 }
noncomputable def Sg.c_impl_NameOK_1 (K : Nat) : Fw.Cfg := { tab := Sg.tab, eqs := Sg.eqs, sig := [(95, Sg.s_impl_isLetter K), (98, Sg.s_impl_isDigit K)], inl := [], lo := [], K := K, jo := [] }
def Sg.h_impl_areAll_byte__impl_NameOK_1_0 : Fw.StSh := ⟨[(0, (.d (.sl (.int .u8)))), (1, (.fn 97 [])), (3, (.ref 0 0)), (4, (.d .bool)), (5, (.d (.sl (.int .u8)))), (6, (.fn 120 [(.ref 0 0)])), (9, (.d (.sl (.int .u8)))), (10, (.fn 120 [(.ref 0 0)])), (13, (.d .bool)), (14, (.d (.sl (.int .u8)))), (15, (.fn 120 [(.ref 0 0)])), (18, (.d (.sl (.int .u8)))), (19, (.fn 120 [(.ref 0 0)])), (22, (.d (.int .i64))), (25, (.d (.int .i64))), (26, (.d (.int .i64)))], [(0, (.box [(.fn 97 [])]))], 1, 37, ⟨0, []⟩⟩
def Sg.o_impl_areAll_byte__impl_NameOK_1_0 : Fw.StSh := ⟨[(0, (.d (.sl (.int .u8)))), (1, (.fn 97 [])), (3, (.ref 0 0)), (4, (.d .bool)), (5, (.d (.sl (.int .u8)))), (6, (.fn 120 [(.ref 0 0)])), (9, (.d (.sl (.int .u8)))), (10, (.fn 120 [(.ref 0 0)])), (13, (.d .bool)), (14, (.d (.sl (.int .u8)))), (15, (.fn 120 [(.ref 0 0)])), (22, (.d (.int .i64)))], [(0, (.box [(.fn 97 [])]))], 1, 37, ⟨0, []⟩⟩
def Sg.r_impl_areAll_byte__impl_NameOK_1_0 : Fw.StSh := ⟨[(0, (.d (.sl (.int .u8)))), (1, (.fn 97 [])), (3, (.ref 0 0)), (4, (.d .bool)), (5, (.d (.sl (.int .u8)))), (6, (.fn 120 [(.ref 0 0)])), (9, (.d (.sl (.int .u8)))), (10, (.fn 120 [(.ref 0 0)])), (13, (.d .bool)), (14, (.d (.sl (.int .u8)))), (15, (.fn 120 [(.ref 0 0)])), (22, (.d (.int .i64)))], [(0, (.box [(.fn 97 [])]))], 1, 45, ⟨0, []⟩⟩
noncomputable def Sg.p_impl_areAll_byte__impl_NameOK_1_0 (K : Nat) : Fw.LSpec := { g := 128, b := 18, lv := 4, l0 := 1, li := 0, head := Sg.h_impl_areAll_byte__impl_NameOK_1_0, post := Sg.o_impl_areAll_byte__impl_NameOK_1_0, retn := Sg.r_impl_areAll_byte__impl_NameOK_1_0, ex := 0, L := R.L_impl_areAll_byte__impl_NameOK_1_0 K }
noncomputable def Sg.i_impl_areAll_byte__impl_NameOK_1 : List (Nat × Fw.PFn) := [(120, Sg.f_impl_areAll_byte_1), (128, Sg.f_slices_IndexFunc_byte), (119, Sg.f_slices_ContainsFunc_byte)]
noncomputable def Sg.s_impl_areAll_byte__impl_NameOK_1 (K : Nat) : Fw.Sig := { ins := [.val false (.sl (.int .u8)), .fn 97 []], outs := [⟨false, .bool, false⟩], F := fun x => R.impl_areAll_byte__impl_NameOK_1 K x.1 }
noncomputable def Sg.c_impl_areAll_byte__impl_NameOK_1 (K : Nat) : Fw.Cfg := { tab := Sg.tab, eqs := Sg.eqs, sig := [(97, Sg.s_impl_NameOK_1 K)], inl := [(120, Try.f120), (128, Try.f128), (119, Try.f119)], lo := Sg.p_impl_areAll_byte__impl_NameOK_1_0 K :: [], K := K, jo := [] }
noncomputable def Sg.f_impl_NameOK : Fw.PFn := Fw.PFn.get Try.f56
noncomputable def Sg.i_impl_NameOK : List (Nat × Fw.PFn) := [(120, Sg.f_impl_areAll_byte_1), (128, Sg.f_slices_IndexFunc_byte), (119, Sg.f_slices_ContainsFunc_byte), (96, Sg.f_impl_areAll_byte)]
noncomputable def Sg.s_impl_NameOK (K : Nat) : Fw.Sig := { ins := [.val false .str], outs := [⟨false, .bool, false⟩], F := fun x => R.impl_NameOK K x.1 }
noncomputable def Sg.c_impl_NameOK (K : Nat) : Fw.Cfg := { tab := Sg.tab, eqs := Sg.eqs, sig := [(57, Sg.s_impl_within K), (95, Sg.s_impl_isLetter K), (97, Sg.s_impl_NameOK_1 K), (96, Sg.s_impl_areAll_byte__impl_NameOK_1 K)], inl := [(120, Try.f120), (128, Try.f128), (119, Try.f119), (96, Try.f96)], lo := [], K := K, jo := [] }
noncomputable def Sg.f_impl_isList_impl_Event : Fw.PFn := Fw.PFn.get Try.f61
noncomputable def Sg.i_impl_isList_impl_Event : List (Nat × Fw.PFn) := []
noncomputable def Sg.s_impl_isList_impl_Event (K : Nat) : Fw.Sig := { ins := [.val false (.sl (.pair (.int .i64) (.pair (.int .i64) .bool)))], outs := [⟨false, .bool, false⟩], F := fun x => R.impl_isList_impl_Event K x.1 }
noncomputable def Sg.c_impl_isList_impl_Event (K : Nat) : Fw.Cfg := { tab := Sg.tab, eqs := Sg.eqs, sig := [], inl := [], lo := [], K := K, jo := [] }
def Sg.h_impl_EventsOK_0 : Fw.StSh := ⟨[(0, (.d (.sl (.pair (.int .i64) (.pair (.int .i64) .bool))))), (2, (.d .bool)), (5, (.d (.sl (.pair (.int .i64) (.pair (.int .i64) .bool))))), (6, (.d (.int .i64))), (7, (.d (.int .i64)))], [], 0, 55, ⟨0, []⟩⟩
def Sg.o_impl_EventsOK_0 : Fw.StSh := ⟨[(0, (.d (.sl (.pair (.int .i64) (.pair (.int .i64) .bool))))), (2, (.d .bool))], [], 0, 55, ⟨0, []⟩⟩
def Sg.r_impl_EventsOK_0 : Fw.StSh := ⟨[(2, (.d .bool))], [], 1, 55, ⟨0, []⟩⟩
noncomputable def Sg.p_impl_EventsOK_0 (K : Nat) : Fw.LSpec := { g := 26, b := 0, lv := 6, l0 := 0, li := 0, head := Sg.h_impl_EventsOK_0, post := Sg.o_impl_EventsOK_0, retn := Sg.r_impl_EventsOK_0, ex := 0, L := R.L_impl_EventsOK_0 K }
noncomputable def Sg.f_impl_EventsOK : Fw.PFn := Fw.PFn.get Try.f26
noncomputable def Sg.i_impl_EventsOK : List (Nat × Fw.PFn) := []
noncomputable def Sg.s_impl_EventsOK (K : Nat) : Fw.Sig := { ins := [.val false (.sl (.pair (.int .i64) (.pair (.int .i64) .bool)))], outs := [⟨false, .bool, false⟩], F := fun x => R.impl_EventsOK K x.1 }
noncomputable def Sg.c_impl_EventsOK (K : Nat) : Fw.Cfg := { tab := Sg.tab, eqs := Sg.eqs, sig := [(57, Sg.s_impl_within K), (61, Sg.s_impl_isList_impl_Event K)], inl := [], lo := Sg.p_impl_EventsOK_0 K :: [], K := K, jo := ⟨26, 0, 6, 0, 6, none⟩ :: [] }
noncomputable def Sg.f_impl_areAll_impl_Event_1 : Fw.PFn := Fw.PFn.get Try.f100
noncomputable def Sg.f_slices_IndexFunc_impl_Event : Fw.PFn := Fw.PFn.get Try.f121
noncomputable def Sg.f_slices_ContainsFunc_impl_Event : Fw.PFn := Fw.PFn.get Try.f99
noncomputable def Sg.f_impl_areAll_impl_Event : Fw.PFn := Fw.PFn.get Try.f58
noncomputable def Sg.f_impl_WatchOK_1 : Fw.PFn := Fw.PFn.get Try.f59
noncomputable def Sg.i_impl_WatchOK_1 : List (Nat × Fw.PFn) := []
noncomputable def Sg.s_impl_WatchOK_1 (K : Nat) : Fw.Sig := { ins := [.val true (.pair (.int .i64) (.pair (.int .i64) .bool))], outs := [⟨false, .bool, false⟩], F := fun x => R.impl_WatchOK_1 K x.1 }
noncomputable def Sg.c_impl_WatchOK_1 (K : Nat) : Fw.Cfg := { tab := Sg.tab, eqs := Sg.eqs, sig := [], inl := [], lo := [], K := K, jo := [] }
def Sg.h_impl_areAll_impl_Event__impl_WatchOK_1_0 : Fw.StSh := ⟨[(0, (.d (.sl (.pair (.int .i64) (.pair (.int .i64) .bool))))), (1, (.fn 59 [])), (3, (.ref 0 0)), (4, (.d .bool)), (5, (.d (.sl (.pair (.int .i64) (.pair (.int .i64) .bool))))), (6, (.fn 100 [(.ref 0 0)])), (9, (.d (.sl (.pair (.int .i64) (.pair (.int .i64) .bool))))), (10, (.fn 100 [(.ref 0 0)])), (13, (.d .bool)), (14, (.d (.sl (.pair (.int .i64) (.pair (.int .i64) .bool))))), (15, (.fn 100 [(.ref 0 0)])), (18, (.d (.sl (.pair (.int .i64) (.pair (.int .i64) .bool))))), (19, (.fn 100 [(.ref 0 0)])), (22, (.d (.int .i64))), (25, (.d (.int .i64))), (26, (.d (.int .i64)))], [(0, (.box [(.fn 59 [])]))], 1, 37, ⟨0, []⟩⟩
def Sg.o_impl_areAll_impl_Event__impl_WatchOK_1_0 : Fw.StSh := ⟨[(0, (.d (.sl (.pair (.int .i64) (.pair (.int .i64) .bool))))), (1, (.fn 59 [])), (3, (.ref 0 0)), (4, (.d .bool)), (5, (.d (.sl (.pair (.int .i64) (.pair (.int .i64) .bool))))), (6, (.fn 100 [(.ref 0 0)])), (9, (.d (.sl (.pair (.int .i64) (.pair (.int .i64) .bool))))), (10, (.fn 100 [(.ref 0 0)])), (13, (.d .bool)), (14, (.d (.sl (.pair (.int .i64) (.pair (.int .i64) .bool))))), (15, (.fn 100 [(.ref 0 0)])), (22, (.d (.int .i64)))], [(0, (.box [(.fn 59 [])]))], 1, 37, ⟨0, []⟩⟩
def Sg.r_impl_areAll_impl_Event__impl_WatchOK_1_0 : Fw.StSh := ⟨[(0, (.d (.sl (.pair (.int .i64) (.pair (.int .i64) .bool))))), (1, (.fn 59 [])), (3, (.ref 0 0)), (4, (.d .bool)), (5, (.d (.sl (.pair (.int .i64) (.pair (.int .i64) .bool))))), (6, (.fn 100 [(.ref 0 0)])), (9, (.d (.sl (.pair (.int .i64) (.pair (.int .i64) .bool))))), (10, (.fn 100 [(.ref 0 0)])), (13, (.d .bool)), (14, (.d (.sl (.pair (.int .i64) (.pair (.int .i64) .bool))))), (15, (.fn 100 [(.ref 0 0)])), (22, (.d (.int .i64)))], [(0, (.box [(.fn 59 [])]))], 2, 45, ⟨0, []⟩⟩
noncomputable def Sg.p_impl_areAll_impl_Event__impl_WatchOK_1_0 (K : Nat) : Fw.LSpec := { g := 121, b := 18, lv := 4, l0 := 1, li := 0, head := Sg.h_impl_areAll_impl_Event__impl_WatchOK_1_0, post := Sg.o_impl_areAll_impl_Event__impl_WatchOK_1_0, retn := Sg.r_impl_areAll_impl_Event__impl_WatchOK_1_0, ex := 0, L := R.L_impl_areAll_impl_Event__impl_WatchOK_1_0 K }
noncomputable def Sg.i_impl_areAll_impl_Event__impl_WatchOK_1 : List (Nat × Fw.PFn) := [(100, Sg.f_impl_areAll_impl_Event_1), (121, Sg.f_slices_IndexFunc_impl_Event), (99, Sg.f_slices_ContainsFunc_impl_Event)]
noncomputable def Sg.s_impl_areAll_impl_Event__impl_WatchOK_1 (K : Nat) : Fw.Sig := { ins := [.val false (.sl (.pair (.int .i64) (.pair (.int .i64) .bool))), .fn 59 []], outs := [⟨false, .bool, false⟩], F := fun x => R.impl_areAll_impl_Event__impl_WatchOK_1 K x.1 }
noncomputable def Sg.c_impl_areAll_impl_Event__impl_WatchOK_1 (K : Nat) : Fw.Cfg := { tab := Sg.tab, eqs := Sg.eqs, sig := [(59, Sg.s_impl_WatchOK_1 K)], inl := [(100, Try.f100), (121, Try.f121), (99, Try.f99)], lo := Sg.p_impl_areAll_impl_Event__impl_WatchOK_1_0 K :: [], K := K, jo := [] }
noncomputable def Sg.f_impl_WatchOK : Fw.PFn := Fw.PFn.get Try.f22
noncomputable def Sg.i_impl_WatchOK : List (Nat × Fw.PFn) := [(100, Sg.f_impl_areAll_impl_Event_1), (121, Sg.f_slices_IndexFunc_impl_Event), (99, Sg.f_slices_ContainsFunc_impl_Event), (58, Sg.f_impl_areAll_impl_Event)]
noncomputable def Sg.s_impl_WatchOK (K : Nat) : Fw.Sig := { ins := [.val true (.pair .str (.pair (.int .i64) (.sl (.pair (.int .i64) (.pair (.int .i64) .bool)))))], outs := [⟨false, .bool, false⟩], F := fun x => R.impl_WatchOK K x.1 }
noncomputable def Sg.c_impl_WatchOK (K : Nat) : Fw.Cfg := { tab := Sg.tab, eqs := Sg.eqs, sig := [(57, Sg.s_impl_within K), (56, Sg.s_impl_NameOK K), (26, Sg.s_impl_EventsOK K), (59, Sg.s_impl_WatchOK_1 K), (58, Sg.s_impl_areAll_impl_Event__impl_WatchOK_1 K)], inl := [(100, Try.f100), (121, Try.f121), (99, Try.f99), (58, Try.f58)], lo := [], K := K, jo := ⟨22, 0, 6, 0, 4, none⟩ :: [] }
noncomputable def Sg.f_impl_isHead : Fw.PFn := Fw.PFn.get Try.f90
noncomputable def Sg.i_impl_isHead : List (Nat × Fw.PFn) := []
noncomputable def Sg.s_impl_isHead (K : Nat) : Fw.Sig := { ins := [.val false (.int .i64)], outs := [⟨false, .bool, false⟩], F := fun x => R.impl_isHead K x.1 }
noncomputable def Sg.c_impl_isHead (K : Nat) : Fw.Cfg := { tab := Sg.tab, eqs := Sg.eqs, sig := [(57, Sg.s_impl_within K)], inl := [], lo := [], K := K, jo := [] }
noncomputable def Sg.f_impl_isRef : Fw.PFn := Fw.PFn.get Try.f51
noncomputable def Sg.i_impl_isRef : List (Nat × Fw.PFn) := []
noncomputable def Sg.s_impl_isRef (K : Nat) : Fw.Sig := { ins := [.val true (.pair .str (.pair (.int .i64) (.pair (.int .i64) .bool)))], outs := [⟨false, .bool, false⟩], F := fun x => R.impl_isRef K x.1 }
noncomputable def Sg.c_impl_isRef (K : Nat) : Fw.Cfg := { tab := Sg.tab, eqs := Sg.eqs, sig := [(57, Sg.s_impl_within K), (56, Sg.s_impl_NameOK K), (90, Sg.s_impl_isHead K)], inl := [], lo := [], K := K, jo := [] }
noncomputable def Sg.f_slices_Clone_impl_Event : Fw.PFn := Fw.PFn.get Try.f60
noncomputable def Sg.i_slices_Clone_impl_Event : List (Nat × Fw.PFn) := []
noncomputable def Sg.s_slices_Clone_impl_Event (K : Nat) : Fw.Sig := { ins := [.val false (.sl (.pair (.int .i64) (.pair (.int .i64) .bool)))], outs := [⟨false, (.sl (.pair (.int .i64) (.pair (.int .i64) .bool))), true⟩], F := fun x => R.slices_Clone_impl_Event K x.1 }
noncomputable def Sg.c_slices_Clone_impl_Event (K : Nat) : Fw.Cfg := { tab := Sg.tab, eqs := Sg.eqs, sig := [], inl := [], lo := [], K := K, jo := [] }
noncomputable def Sg.f_impl_Watch_own : Fw.PFn := Fw.PFn.get Try.f45
noncomputable def Sg.i_impl_Watch_own : List (Nat × Fw.PFn) := []
noncomputable def Sg.s_impl_Watch_own (K : Nat) : Fw.Sig := { ins := [.val true (.pair .str (.pair (.int .i64) (.sl (.pair (.int .i64) (.pair (.int .i64) .bool)))))], outs := [⟨true, (.pair .str (.pair (.int .i64) (.sl (.pair (.int .i64) (.pair (.int .i64) .bool))))), true⟩], F := fun x => R.impl_Watch_own K x.1 }
noncomputable def Sg.c_impl_Watch_own (K : Nat) : Fw.Cfg := { tab := Sg.tab, eqs := Sg.eqs, sig := [(60, Sg.s_slices_Clone_impl_Event K)], inl := [], lo := [], K := K, jo := [] }
noncomputable def Sg.f_impl_Watch_note : Fw.PFn := Fw.PFn.get Try.f52
noncomputable def Sg.i_impl_Watch_note : List (Nat × Fw.PFn) := []
noncomputable def Sg.s_impl_Watch_note (K : Nat) : Fw.Sig := { ins := [.val true (.pair .str (.pair (.int .i64) (.sl (.pair (.int .i64) (.pair (.int .i64) .bool))))), .val true (.pair .str (.pair (.int .i64) (.pair (.int .i64) .bool)))], outs := [⟨true, (.pair .str (.pair (.int .i64) (.sl (.pair (.int .i64) (.pair (.int .i64) .bool))))), true⟩], F := fun x => R.impl_Watch_note K x.1 x.2.1 }
noncomputable def Sg.c_impl_Watch_note (K : Nat) : Fw.Cfg := { tab := Sg.tab, eqs := Sg.eqs, sig := [(45, Sg.s_impl_Watch_own K)], inl := [], lo := [], K := K, jo := [] }
noncomputable def Sg.f_impl_NoteRef : Fw.PFn := Fw.PFn.get Try.f18
noncomputable def Sg.i_impl_NoteRef : List (Nat × Fw.PFn) := []
noncomputable def Sg.s_impl_NoteRef (K : Nat) : Fw.Sig := { ins := [.val true (.pair .str (.pair (.int .i64) (.sl (.pair (.int .i64) (.pair (.int .i64) .bool))))), .val true (.pair .str (.pair (.int .i64) (.pair (.int .i64) .bool)))], outs := [⟨true, (.pair .str (.pair (.int .i64) (.sl (.pair (.int .i64) (.pair (.int .i64) .bool))))), true⟩, ⟨false, (.int .i64), false⟩], F := fun x => R.impl_NoteRef K x.1 x.2.1 }
noncomputable def Sg.c_impl_NoteRef (K : Nat) : Fw.Cfg := { tab := Sg.tab, eqs := Sg.eqs, sig := [(22, Sg.s_impl_WatchOK K), (51, Sg.s_impl_isRef K), (45, Sg.s_impl_Watch_own K), (52, Sg.s_impl_Watch_note K)], inl := [], lo := [], K := K, jo := [] }
noncomputable def Sg.f_laws_eqEvent : Fw.PFn := Fw.PFn.get Try.f12
noncomputable def Sg.i_laws_eqEvent : List (Nat × Fw.PFn) := []
noncomputable def Sg.s_laws_eqEvent (K : Nat) : Fw.Sig := { ins := [.val true (.pair (.int .i64) (.pair (.int .i64) .bool)), .val true (.pair (.int .i64) (.pair (.int .i64) .bool))], outs := [⟨false, .bool, false⟩], F := fun x => R.laws_eqEvent K x.1 x.2.1 }
noncomputable def Sg.c_laws_eqEvent (K : Nat) : Fw.Cfg := { tab := Sg.tab, eqs := Sg.eqs, sig := [], inl := [], lo := [], K := K, jo := [] }
def Sg.h_laws_eqEventS_0 : Fw.StSh := ⟨[(0, (.d (.sl (.pair (.int .i64) (.pair (.int .i64) .bool))))), (1, (.d (.sl (.pair (.int .i64) (.pair (.int .i64) .bool))))), (4, (.d .bool)), (5, (.d (.int .i64)))], [], 0, 27, ⟨0, []⟩⟩
def Sg.o_laws_eqEventS_0 : Fw.StSh := ⟨[(4, (.d .bool))], [], 0, 27, ⟨0, []⟩⟩
def Sg.r_laws_eqEventS_0 : Fw.StSh := ⟨[(4, (.d .bool))], [], 0, 27, ⟨0, []⟩⟩
noncomputable def Sg.p_laws_eqEventS_0 (K : Nat) : Fw.LSpec := { g := 46, b := 0, lv := 6, l0 := 0, li := 0, head := Sg.h_laws_eqEventS_0, post := Sg.o_laws_eqEventS_0, retn := Sg.r_laws_eqEventS_0, ex := 0, L := R.L_laws_eqEventS_0 K }
noncomputable def Sg.f_laws_eqEventS : Fw.PFn := Fw.PFn.get Try.f46
noncomputable def Sg.i_laws_eqEventS : List (Nat × Fw.PFn) := []
noncomputable def Sg.s_laws_eqEventS (K : Nat) : Fw.Sig := { ins := [.val false (.sl (.pair (.int .i64) (.pair (.int .i64) .bool))), .val false (.sl (.pair (.int .i64) (.pair (.int .i64) .bool)))], outs := [⟨false, .bool, false⟩], F := fun x => R.laws_eqEventS K x.1 x.2.1 }
noncomputable def Sg.c_laws_eqEventS (K : Nat) : Fw.Cfg := { tab := Sg.tab, eqs := Sg.eqs, sig := [(12, Sg.s_laws_eqEvent K)], inl := [], lo := Sg.p_laws_eqEventS_0 K :: [], K := K, jo := ⟨46, 0, 6, 0, 6, none⟩ :: [] }
noncomputable def Sg.f_laws_eqWatch : Fw.PFn := Fw.PFn.get Try.f11
noncomputable def Sg.i_laws_eqWatch : List (Nat × Fw.PFn) := []
noncomputable def Sg.s_laws_eqWatch (K : Nat) : Fw.Sig := { ins := [.val true (.pair .str (.pair (.int .i64) (.sl (.pair (.int .i64) (.pair (.int .i64) .bool))))), .val true (.pair .str (.pair (.int .i64) (.sl (.pair (.int .i64) (.pair (.int .i64) .bool)))))], outs := [⟨false, .bool, false⟩], F := fun x => R.laws_eqWatch K x.1 x.2.1 }
noncomputable def Sg.c_laws_eqWatch (K : Nat) : Fw.Cfg := { tab := Sg.tab, eqs := Sg.eqs, sig := [(46, Sg.s_laws_eqEventS K)], inl := [], lo := [], K := K, jo := [] }
def Sg.h_laws_markEventS_0 : Fw.StSh := ⟨[(0, (.row 0)), (1, (.row 0)), (2, (.d (.int .i64))), (5, (.d (.int .i64))), (6, (.d (.int .i64)))], [(0, (.row (.pair (.int .i64) (.pair (.int .i64) .bool)) true))], 1, 37, ⟨0, []⟩⟩
def Sg.o_laws_markEventS_0 : Fw.StSh := ⟨[(0, (.row 0)), (2, (.d (.int .i64))), (5, (.d (.int .i64)))], [(0, (.row (.pair (.int .i64) (.pair (.int .i64) .bool)) true))], 1, 37, ⟨0, []⟩⟩
def Sg.r_laws_markEventS_0 : Fw.StSh := ⟨[], [], 1, 37, ⟨0, []⟩⟩
noncomputable def Sg.p_laws_markEventS_0 (K : Nat) : Fw.LSpec := { g := 47, b := 1, lv := 6, l0 := 1, li := 0, head := Sg.h_laws_markEventS_0, post := Sg.o_laws_markEventS_0, retn := Sg.r_laws_markEventS_0, ex := 0, L := R.L_laws_markEventS_0 K }
noncomputable def Sg.f_laws_markEventS : Fw.PFn := Fw.PFn.get Try.f47
noncomputable def Sg.i_laws_markEventS : List (Nat × Fw.PFn) := []
noncomputable def Sg.s_laws_markEventS (K : Nat) : Fw.Sig := { ins := [.mut false (.sl (.pair (.int .i64) (.pair (.int .i64) .bool))), .val false (.int .i64)], outs := [⟨false, (.int .i64), false⟩], F := fun x => R.laws_markEventS K x.1 x.2.1 }
noncomputable def Sg.c_laws_markEventS (K : Nat) : Fw.Cfg := { tab := Sg.tab, eqs := Sg.eqs, sig := [], inl := [], lo := Sg.p_laws_markEventS_0 K :: [], K := K, jo := [] }
noncomputable def Sg.f_laws_markWatch : Fw.PFn := Fw.PFn.get Try.f13
noncomputable def Sg.i_laws_markWatch : List (Nat × Fw.PFn) := []
noncomputable def Sg.s_laws_markWatch (K : Nat) : Fw.Sig := { ins := [.mut true (.pair .str (.pair (.int .i64) (.sl (.pair (.int .i64) (.pair (.int .i64) .bool))))), .val false (.int .i64)], outs := [⟨false, (.int .i64), false⟩], F := fun x => R.laws_markWatch K x.1 x.2.1 }
noncomputable def Sg.c_laws_markWatch (K : Nat) : Fw.Cfg := { tab := Sg.tab, eqs := Sg.eqs, sig := [(47, Sg.s_laws_markEventS K)], inl := [], lo := [], K := K, jo := [] }
def Sg.h_laws_heldEventS_0 : Fw.StSh := ⟨[(0, (.d (.sl (.pair (.int .i64) (.pair (.int .i64) .bool))))), (1, (.d (.int .i64))), (4, (.d (.int .i64))), (5, (.d (.int .i64)))], [], 0, 42, ⟨0, []⟩⟩
def Sg.o_laws_heldEventS_0 : Fw.StSh := ⟨[(1, (.d (.int .i64))), (4, (.d (.int .i64)))], [], 0, 42, ⟨0, []⟩⟩
def Sg.r_laws_heldEventS_0 : Fw.StSh := ⟨[(4, (.d (.int .i64)))], [], 0, 42, ⟨0, []⟩⟩
noncomputable def Sg.p_laws_heldEventS_0 (K : Nat) : Fw.LSpec := { g := 48, b := 0, lv := 6, l0 := 0, li := 0, head := Sg.h_laws_heldEventS_0, post := Sg.o_laws_heldEventS_0, retn := Sg.r_laws_heldEventS_0, ex := 0, L := R.L_laws_heldEventS_0 K }
noncomputable def Sg.f_laws_heldEventS : Fw.PFn := Fw.PFn.get Try.f48
noncomputable def Sg.i_laws_heldEventS : List (Nat × Fw.PFn) := []
noncomputable def Sg.s_laws_heldEventS (K : Nat) : Fw.Sig := { ins := [.val false (.sl (.pair (.int .i64) (.pair (.int .i64) .bool))), .val false (.int .i64)], outs := [⟨false, (.int .i64), false⟩], F := fun x => R.laws_heldEventS K x.1 x.2.1 }
noncomputable def Sg.c_laws_heldEventS (K : Nat) : Fw.Cfg := { tab := Sg.tab, eqs := Sg.eqs, sig := [], inl := [], lo := Sg.p_laws_heldEventS_0 K :: [], K := K, jo := [] }
noncomputable def Sg.f_laws_heldWatch : Fw.PFn := Fw.PFn.get Try.f14
noncomputable def Sg.i_laws_heldWatch : List (Nat × Fw.PFn) := []
noncomputable def Sg.s_laws_heldWatch (K : Nat) : Fw.Sig := { ins := [.val true (.pair .str (.pair (.int .i64) (.sl (.pair (.int .i64) (.pair (.int .i64) .bool))))), .val false (.int .i64)], outs := [⟨false, (.int .i64), false⟩], F := fun x => R.laws_heldWatch K x.1 x.2.1 }
noncomputable def Sg.c_laws_heldWatch (K : Nat) : Fw.Cfg := { tab := Sg.tab, eqs := Sg.eqs, sig := [(48, Sg.s_laws_heldEventS K)], inl := [], lo := [], K := K, jo := [] }
def Sg.j_laws_FnExactNoteRef_0 : Fw.StSh := ⟨[(2, (.ref 0 0)), (3, (.ref 1 0)), (4, (.d .bool)), (6, (.ref 5 0)), (7, (.d (.int .i64)))], [(0, (.box [(.d .str), (.d (.int .i64)), (.d (.sl (.pair (.int .i64) (.pair (.int .i64) .bool))))])), (1, (.box [(.d .str), (.d (.int .i64)), (.d (.int .i64)), (.d .bool)])), (5, (.box [(.d .str), (.d (.int .i64)), (.row 3)])), (3, (.row (.pair (.int .i64) (.pair (.int .i64) .bool)) true))], 6, 109, ⟨0, []⟩⟩
def Sg.j_laws_FnExactNoteRef_1 : Fw.StSh := ⟨[(2, (.ref 0 0)), (3, (.ref 1 0)), (4, (.d .bool)), (6, (.ref 5 0)), (7, (.d (.int .i64))), (8, (.ref 8 0)), (9, (.ref 11 0)), (10, (.d (.int .i64)))], [(0, (.box [(.d .str), (.d (.int .i64)), (.d (.sl (.pair (.int .i64) (.pair (.int .i64) .bool))))])), (1, (.box [(.d .str), (.d (.int .i64)), (.d (.int .i64)), (.d .bool)])), (5, (.box [(.d .str), (.d (.int .i64)), (.row 3)])), (8, (.box [(.d .str), (.d (.int .i64)), (.row 6)])), (11, (.box [(.d .str), (.d (.int .i64)), (.row 9)])), (3, (.row (.pair (.int .i64) (.pair (.int .i64) .bool)) true)), (6, (.row (.pair (.int .i64) (.pair (.int .i64) .bool)) true)), (9, (.row (.pair (.int .i64) (.pair (.int .i64) .bool)) true))], 12, 109, ⟨0, []⟩⟩
def Sg.j_laws_FnExactNoteRef_3 : Fw.StSh := ⟨[(4, (.d .bool)), (6, (.ref 5 0)), (7, (.d (.int .i64))), (9, (.ref 11 0)), (12, (.d (.int .i64))), (14, (.ref 16 0)), (15, (.d (.int .i64)))], [(5, (.box [(.d .str), (.d (.int .i64)), (.row 3)])), (11, (.box [(.d .str), (.d (.int .i64)), (.row 9)])), (16, (.box [(.d .str), (.d (.int .i64)), (.row 14)])), (3, (.row (.pair (.int .i64) (.pair (.int .i64) .bool)) true)), (9, (.row (.pair (.int .i64) (.pair (.int .i64) .bool)) true)), (14, (.row (.pair (.int .i64) (.pair (.int .i64) .bool)) true))], 17, 109, ⟨0, []⟩⟩
noncomputable def Sg.f_laws_FnExactNoteRef : Fw.PFn := Fw.PFn.get Try.f4
noncomputable def Sg.i_laws_FnExactNoteRef : List (Nat × Fw.PFn) := []
noncomputable def Sg.s_laws_FnExactNoteRef (K : Nat) : Fw.Sig := { ins := [.val true (.pair .str (.pair (.int .i64) (.sl (.pair (.int .i64) (.pair (.int .i64) .bool))))), .val true (.pair .str (.pair (.int .i64) (.pair (.int .i64) .bool)))], outs := [⟨false, .bool, false⟩], F := fun x => R.laws_FnExactNoteRef K x.1 x.2.1 }
noncomputable def Sg.c_laws_FnExactNoteRef (K : Nat) : Fw.Cfg := { tab := Sg.tab, eqs := Sg.eqs, sig := [(7, Sg.s_laws_szWatch K), (15, Sg.s_laws_szRef K), (9, Sg.s_laws_toWatch K), (17, Sg.s_laws_toRef K), (16, Sg.s_spec_NoteRef K), (18, Sg.s_impl_NoteRef K), (11, Sg.s_laws_eqWatch K), (13, Sg.s_laws_markWatch K), (14, Sg.s_laws_heldWatch K)], inl := [], lo := [], K := K, jo := ⟨4, 0, 6, 0, 8, some Sg.j_laws_FnExactNoteRef_0⟩ :: ⟨4, 0, 6, 0, 10, some Sg.j_laws_FnExactNoteRef_1⟩ :: ⟨4, 0, 6, 0, 13, none⟩ :: ⟨4, 0, 6, 0, 27, some Sg.j_laws_FnExactNoteRef_3⟩ :: [] }
theorem fun_laws_szEventS : Try.prog.funcs[41]? = some Try.f41 := by kernel_rfl
theorem call_laws_szEventS : Fw.Callable Try.prog 41 := Fw.callable_of fun_laws_szEventS (by kernel_rfl) (by kernel_rfl)
theorem pf_laws_szEventS : Fw.PFn.of Try.f41 = some Sg.f_laws_szEventS := Fw.PFn.of_get (by kernel_rfl)
theorem ok_laws_szEventS (K : Nat) : Fw.Ok Try.prog 41 (Sg.s_laws_szEventS K) := Fw.funP_ok (c := Sg.c_laws_szEventS K) (pi := Sg.i_laws_szEventS) (depth := 6) (Fw.cfgP_ok (pi := Sg.i_laws_szEventS) Sg.tabOK Sg.eqsOK Sg.mixOK trivial trivial trivial pf_laws_szEventS trivial rfl) trivial pf_laws_szEventS fun_laws_szEventS call_laws_szEventS (fun x => by kernel_rfl)
theorem fun_laws_szWatch : Try.prog.funcs[7]? = some Try.f7 := by kernel_rfl
theorem call_laws_szWatch : Fw.Callable Try.prog 7 := Fw.callable_of fun_laws_szWatch (by kernel_rfl) (by kernel_rfl)
theorem pf_laws_szWatch : Fw.PFn.of Try.f7 = some Sg.f_laws_szWatch := Fw.PFn.of_get (by kernel_rfl)
theorem ok_laws_szWatch (K : Nat) : Fw.Ok Try.prog 7 (Sg.s_laws_szWatch K) := Fw.funP_ok (c := Sg.c_laws_szWatch K) (pi := Sg.i_laws_szWatch) (depth := 6) (Fw.cfgP_ok (pi := Sg.i_laws_szWatch) Sg.tabOK Sg.eqsOK Sg.mixOK ⟨ok_laws_szEventS K, trivial⟩ trivial trivial pf_laws_szWatch trivial rfl) trivial pf_laws_szWatch fun_laws_szWatch call_laws_szWatch (fun x => by kernel_rfl)
theorem fun_laws_szRef : Try.prog.funcs[15]? = some Try.f15 := by kernel_rfl
theorem call_laws_szRef : Fw.Callable Try.prog 15 := Fw.callable_of fun_laws_szRef (by kernel_rfl) (by kernel_rfl)
theorem pf_laws_szRef : Fw.PFn.of Try.f15 = some Sg.f_laws_szRef := Fw.PFn.of_get (by kernel_rfl)
theorem ok_laws_szRef (K : Nat) : Fw.Ok Try.prog 15 (Sg.s_laws_szRef K) := Fw.funP_ok (c := Sg.c_laws_szRef K) (pi := Sg.i_laws_szRef) (depth := 6) (Fw.cfgP_ok (pi := Sg.i_laws_szRef) Sg.tabOK Sg.eqsOK Sg.mixOK trivial trivial trivial pf_laws_szRef trivial rfl) trivial pf_laws_szRef fun_laws_szRef call_laws_szRef (fun x => by kernel_rfl)
theorem fun_laws_toEvent : Try.prog.funcs[88]? = some Try.f88 := by kernel_rfl
theorem call_laws_toEvent : Fw.Callable Try.prog 88 := Fw.callable_of fun_laws_toEvent (by kernel_rfl) (by kernel_rfl)
theorem pf_laws_toEvent : Fw.PFn.of Try.f88 = some Sg.f_laws_toEvent := Fw.PFn.of_get (by kernel_rfl)
theorem ok_laws_toEvent (K : Nat) : Fw.Ok Try.prog 88 (Sg.s_laws_toEvent K) := Fw.funP_ok (c := Sg.c_laws_toEvent K) (pi := Sg.i_laws_toEvent) (depth := 6) (Fw.cfgP_ok (pi := Sg.i_laws_toEvent) Sg.tabOK Sg.eqsOK Sg.mixOK trivial trivial trivial pf_laws_toEvent trivial rfl) trivial pf_laws_toEvent fun_laws_toEvent call_laws_toEvent (fun x => by kernel_rfl)
theorem fun_laws_toEventS : Try.prog.funcs[44]? = some Try.f44 := by kernel_rfl
theorem call_laws_toEventS : Fw.Callable Try.prog 44 := Fw.callable_of fun_laws_toEventS (by kernel_rfl) (by kernel_rfl)
theorem pf_laws_toEventS : Fw.PFn.of Try.f44 = some Sg.f_laws_toEventS := Fw.PFn.of_get (by kernel_rfl)
theorem l_laws_toEventS_0 (K : Nat) : Fw.LoopP (Sg.c_laws_toEventS K) Sg.i_laws_toEventS Sg.f_laws_toEventS (Sg.p_laws_toEventS_0 K) := ⟨fun _ => by kernel_rfl, fun n p => by kernel_rfl⟩
theorem ok_laws_toEventS (K : Nat) : Fw.Ok Try.prog 44 (Sg.s_laws_toEventS K) := Fw.funP_ok (c := Sg.c_laws_toEventS K) (pi := Sg.i_laws_toEventS) (depth := 6) (Fw.cfgP_ok (pi := Sg.i_laws_toEventS) Sg.tabOK Sg.eqsOK Sg.mixOK ⟨ok_laws_toEvent K, trivial⟩ trivial trivial pf_laws_toEventS ⟨⟨_, rfl, l_laws_toEventS_0 K⟩, trivial⟩ rfl) trivial pf_laws_toEventS fun_laws_toEventS call_laws_toEventS (fun x => by kernel_rfl)
theorem fun_laws_toWatch : Try.prog.funcs[9]? = some Try.f9 := by kernel_rfl
theorem call_laws_toWatch : Fw.Callable Try.prog 9 := Fw.callable_of fun_laws_toWatch (by kernel_rfl) (by kernel_rfl)
theorem pf_laws_toWatch : Fw.PFn.of Try.f9 = some Sg.f_laws_toWatch := Fw.PFn.of_get (by kernel_rfl)
theorem ok_laws_toWatch (K : Nat) : Fw.Ok Try.prog 9 (Sg.s_laws_toWatch K) := Fw.funP_ok (c := Sg.c_laws_toWatch K) (pi := Sg.i_laws_toWatch) (depth := 6) (Fw.cfgP_ok (pi := Sg.i_laws_toWatch) Sg.tabOK Sg.eqsOK Sg.mixOK ⟨ok_laws_toEventS K, trivial⟩ trivial trivial pf_laws_toWatch trivial rfl) trivial pf_laws_toWatch fun_laws_toWatch call_laws_toWatch (fun x => by kernel_rfl)
theorem fun_laws_toRef : Try.prog.funcs[17]? = some Try.f17 := by kernel_rfl
theorem call_laws_toRef : Fw.Callable Try.prog 17 := Fw.callable_of fun_laws_toRef (by kernel_rfl) (by kernel_rfl)
theorem pf_laws_toRef : Fw.PFn.of Try.f17 = some Sg.f_laws_toRef := Fw.PFn.of_get (by kernel_rfl)
theorem ok_laws_toRef (K : Nat) : Fw.Ok Try.prog 17 (Sg.s_laws_toRef K) := Fw.funP_ok (c := Sg.c_laws_toRef K) (pi := Sg.i_laws_toRef) (depth := 6) (Fw.cfgP_ok (pi := Sg.i_laws_toRef) Sg.tabOK Sg.eqsOK Sg.mixOK trivial trivial trivial pf_laws_toRef trivial rfl) trivial pf_laws_toRef fun_laws_toRef call_laws_toRef (fun x => by kernel_rfl)
theorem fun_spec_l00Letter : Try.prog.funcs[106]? = some Try.f106 := by kernel_rfl
theorem call_spec_l00Letter : Fw.Callable Try.prog 106 := Fw.callable_of fun_spec_l00Letter (by kernel_rfl) (by kernel_rfl)
theorem pf_spec_l00Letter : Fw.PFn.of Try.f106 = some Sg.f_spec_l00Letter := Fw.PFn.of_get (by kernel_rfl)
theorem ok_spec_l00Letter (K : Nat) : Fw.Ok Try.prog 106 (Sg.s_spec_l00Letter K) := Fw.funP_ok (c := Sg.c_spec_l00Letter K) (pi := Sg.i_spec_l00Letter) (depth := 6) (Fw.cfgP_ok (pi := Sg.i_spec_l00Letter) Sg.tabOK Sg.eqsOK Sg.mixOK trivial trivial trivial pf_spec_l00Letter trivial rfl) trivial pf_spec_l00Letter fun_spec_l00Letter call_spec_l00Letter (fun x => by kernel_rfl)
theorem fun_spec_l00Digit : Try.prog.funcs[107]? = some Try.f107 := by kernel_rfl
theorem call_spec_l00Digit : Fw.Callable Try.prog 107 := Fw.callable_of fun_spec_l00Digit (by kernel_rfl) (by kernel_rfl)
theorem pf_spec_l00Digit : Fw.PFn.of Try.f107 = some Sg.f_spec_l00Digit := Fw.PFn.of_get (by kernel_rfl)
theorem ok_spec_l00Digit (K : Nat) : Fw.Ok Try.prog 107 (Sg.s_spec_l00Digit K) := Fw.funP_ok (c := Sg.c_spec_l00Digit K) (pi := Sg.i_spec_l00Digit) (depth := 6) (Fw.cfgP_ok (pi := Sg.i_spec_l00Digit) Sg.tabOK Sg.eqsOK Sg.mixOK trivial trivial trivial pf_spec_l00Digit trivial rfl) trivial pf_spec_l00Digit fun_spec_l00Digit call_spec_l00Digit (fun x => by kernel_rfl)
theorem fun_spec_l00Word : Try.prog.funcs[65]? = some Try.f65 := by kernel_rfl
theorem call_spec_l00Word : Fw.Callable Try.prog 65 := Fw.callable_of fun_spec_l00Word (by kernel_rfl) (by kernel_rfl)
theorem pf_spec_l00Word : Fw.PFn.of Try.f65 = some Sg.f_spec_l00Word := Fw.PFn.of_get (by kernel_rfl)
theorem l_spec_l00Word_0 (K : Nat) : Fw.LoopP (Sg.c_spec_l00Word K) Sg.i_spec_l00Word Sg.f_spec_l00Word (Sg.p_spec_l00Word_0 K) := ⟨fun _ => by kernel_rfl, fun n p => by kernel_rfl⟩
theorem ok_spec_l00Word (K : Nat) : Fw.Ok Try.prog 65 (Sg.s_spec_l00Word K) := Fw.funP_ok (c := Sg.c_spec_l00Word K) (pi := Sg.i_spec_l00Word) (depth := 6) (Fw.cfgP_ok (pi := Sg.i_spec_l00Word) Sg.tabOK Sg.eqsOK Sg.mixOK ⟨ok_spec_l00Letter K, ok_spec_l00Digit K, trivial⟩ trivial trivial pf_spec_l00Word ⟨⟨_, rfl, l_spec_l00Word_0 K⟩, trivial⟩ rfl) trivial pf_spec_l00Word fun_spec_l00Word call_spec_l00Word (fun x => by kernel_rfl)
theorem fun_spec_l01In : Try.prog.funcs[86]? = some Try.f86 := by kernel_rfl
theorem call_spec_l01In : Fw.Callable Try.prog 86 := Fw.callable_of fun_spec_l01In (by kernel_rfl) (by kernel_rfl)
theorem pf_spec_l01In : Fw.PFn.of Try.f86 = some Sg.f_spec_l01In := Fw.PFn.of_get (by kernel_rfl)
theorem ok_spec_l01In (K : Nat) : Fw.Ok Try.prog 86 (Sg.s_spec_l01In K) := Fw.funP_ok (c := Sg.c_spec_l01In K) (pi := Sg.i_spec_l01In) (depth := 6) (Fw.cfgP_ok (pi := Sg.i_spec_l01In) Sg.tabOK Sg.eqsOK Sg.mixOK trivial trivial trivial pf_spec_l01In trivial rfl) trivial pf_spec_l01In fun_spec_l01In call_spec_l01In (fun x => by kernel_rfl)
theorem fun_spec_l06Events : Try.prog.funcs[87]? = some Try.f87 := by kernel_rfl
theorem call_spec_l06Events : Fw.Callable Try.prog 87 := Fw.callable_of fun_spec_l06Events (by kernel_rfl) (by kernel_rfl)
theorem pf_spec_l06Events : Fw.PFn.of Try.f87 = some Sg.f_spec_l06Events := Fw.PFn.of_get (by kernel_rfl)
theorem l_spec_l06Events_0 (K : Nat) : Fw.LoopP (Sg.c_spec_l06Events K) Sg.i_spec_l06Events Sg.f_spec_l06Events (Sg.p_spec_l06Events_0 K) := ⟨fun _ => by kernel_rfl, fun n p => by kernel_rfl⟩
theorem ok_spec_l06Events (K : Nat) : Fw.Ok Try.prog 87 (Sg.s_spec_l06Events K) := Fw.funP_ok (c := Sg.c_spec_l06Events K) (pi := Sg.i_spec_l06Events) (depth := 6) (Fw.cfgP_ok (pi := Sg.i_spec_l06Events) Sg.tabOK Sg.eqsOK Sg.mixOK ⟨ok_spec_l01In K, trivial⟩ trivial trivial pf_spec_l06Events ⟨⟨_, rfl, l_spec_l06Events_0 K⟩, trivial⟩ rfl) trivial pf_spec_l06Events fun_spec_l06Events call_spec_l06Events (fun x => by kernel_rfl)
theorem fun_spec_l06OK : Try.prog.funcs[42]? = some Try.f42 := by kernel_rfl
theorem call_spec_l06OK : Fw.Callable Try.prog 42 := Fw.callable_of fun_spec_l06OK (by kernel_rfl) (by kernel_rfl)
theorem pf_spec_l06OK : Fw.PFn.of Try.f42 = some Sg.f_spec_l06OK := Fw.PFn.of_get (by kernel_rfl)
theorem l_spec_l06OK_0 (K : Nat) : Fw.LoopP (Sg.c_spec_l06OK K) Sg.i_spec_l06OK Sg.f_spec_l06OK (Sg.p_spec_l06OK_0 K) := ⟨fun _ => by kernel_rfl, fun n p => by kernel_rfl⟩
theorem ok_spec_l06OK (K : Nat) : Fw.Ok Try.prog 42 (Sg.s_spec_l06OK K) := Fw.funP_ok (c := Sg.c_spec_l06OK K) (pi := Sg.i_spec_l06OK) (depth := 6) (Fw.cfgP_ok (pi := Sg.i_spec_l06OK) Sg.tabOK Sg.eqsOK Sg.mixOK ⟨ok_spec_l00Word K, ok_spec_l01In K, ok_spec_l06Events K, trivial⟩ trivial trivial pf_spec_l06OK ⟨⟨_, rfl, l_spec_l06OK_0 K⟩, trivial⟩ rfl) trivial pf_spec_l06OK fun_spec_l06OK call_spec_l06OK (fun x => by kernel_rfl)
theorem fun_spec_l04At : Try.prog.funcs[89]? = some Try.f89 := by kernel_rfl
theorem call_spec_l04At : Fw.Callable Try.prog 89 := Fw.callable_of fun_spec_l04At (by kernel_rfl) (by kernel_rfl)
theorem pf_spec_l04At : Fw.PFn.of Try.f89 = some Sg.f_spec_l04At := Fw.PFn.of_get (by kernel_rfl)
theorem l_spec_l04At_0 (K : Nat) : Fw.LoopP (Sg.c_spec_l04At K) Sg.i_spec_l04At Sg.f_spec_l04At (Sg.p_spec_l04At_0 K) := ⟨fun _ => by kernel_rfl, fun n p => by kernel_rfl⟩
theorem ok_spec_l04At (K : Nat) : Fw.Ok Try.prog 89 (Sg.s_spec_l04At K) := Fw.funP_ok (c := Sg.c_spec_l04At K) (pi := Sg.i_spec_l04At) (depth := 6) (Fw.cfgP_ok (pi := Sg.i_spec_l04At) Sg.tabOK Sg.eqsOK Sg.mixOK trivial trivial trivial pf_spec_l04At ⟨⟨_, rfl, l_spec_l04At_0 K⟩, trivial⟩ rfl) trivial pf_spec_l04At fun_spec_l04At call_spec_l04At (fun x => by kernel_rfl)
theorem fun_spec_l04OK : Try.prog.funcs[49]? = some Try.f49 := by kernel_rfl
theorem call_spec_l04OK : Fw.Callable Try.prog 49 := Fw.callable_of fun_spec_l04OK (by kernel_rfl) (by kernel_rfl)
theorem pf_spec_l04OK : Fw.PFn.of Try.f49 = some Sg.f_spec_l04OK := Fw.PFn.of_get (by kernel_rfl)
theorem l_spec_l04OK_0 (K : Nat) : Fw.LoopP (Sg.c_spec_l04OK K) Sg.i_spec_l04OK Sg.f_spec_l04OK (Sg.p_spec_l04OK_0 K) := ⟨fun _ => by kernel_rfl, fun n p => by kernel_rfl⟩
theorem ok_spec_l04OK (K : Nat) : Fw.Ok Try.prog 49 (Sg.s_spec_l04OK K) := Fw.funP_ok (c := Sg.c_spec_l04OK K) (pi := Sg.i_spec_l04OK) (depth := 6) (Fw.cfgP_ok (pi := Sg.i_spec_l04OK) Sg.tabOK Sg.eqsOK Sg.mixOK ⟨ok_spec_l00Word K, ok_spec_l01In K, ok_spec_l04At K, trivial⟩ trivial trivial pf_spec_l04OK ⟨⟨_, rfl, l_spec_l04OK_0 K⟩, trivial⟩ rfl) trivial pf_spec_l04OK fun_spec_l04OK call_spec_l04OK (fun x => by kernel_rfl)
theorem fun_spec_l06Own : Try.prog.funcs[43]? = some Try.f43 := by kernel_rfl
theorem call_spec_l06Own : Fw.Callable Try.prog 43 := Fw.callable_of fun_spec_l06Own (by kernel_rfl) (by kernel_rfl)
theorem pf_spec_l06Own : Fw.PFn.of Try.f43 = some Sg.f_spec_l06Own := Fw.PFn.of_get (by kernel_rfl)
theorem ok_spec_l06Own (K : Nat) : Fw.Ok Try.prog 43 (Sg.s_spec_l06Own K) := Fw.funP_ok (c := Sg.c_spec_l06Own K) (pi := Sg.i_spec_l06Own) (depth := 6) (Fw.cfgP_ok (pi := Sg.i_spec_l06Own) Sg.tabOK Sg.eqsOK Sg.mixOK trivial trivial trivial pf_spec_l06Own trivial rfl) trivial pf_spec_l06Own fun_spec_l06Own call_spec_l06Own (fun x => by kernel_rfl)
theorem fun_spec_l06Note : Try.prog.funcs[50]? = some Try.f50 := by kernel_rfl
theorem call_spec_l06Note : Fw.Callable Try.prog 50 := Fw.callable_of fun_spec_l06Note (by kernel_rfl) (by kernel_rfl)
theorem pf_spec_l06Note : Fw.PFn.of Try.f50 = some Sg.f_spec_l06Note := Fw.PFn.of_get (by kernel_rfl)
theorem ok_spec_l06Note (K : Nat) : Fw.Ok Try.prog 50 (Sg.s_spec_l06Note K) := Fw.funP_ok (c := Sg.c_spec_l06Note K) (pi := Sg.i_spec_l06Note) (depth := 6) (Fw.cfgP_ok (pi := Sg.i_spec_l06Note) Sg.tabOK Sg.eqsOK Sg.mixOK trivial trivial trivial pf_spec_l06Note trivial rfl) trivial pf_spec_l06Note fun_spec_l06Note call_spec_l06Note (fun x => by kernel_rfl)
theorem fun_spec_NoteRef : Try.prog.funcs[16]? = some Try.f16 := by kernel_rfl
theorem call_spec_NoteRef : Fw.Callable Try.prog 16 := Fw.callable_of fun_spec_NoteRef (by kernel_rfl) (by kernel_rfl)
theorem pf_spec_NoteRef : Fw.PFn.of Try.f16 = some Sg.f_spec_NoteRef := Fw.PFn.of_get (by kernel_rfl)
theorem ok_spec_NoteRef (K : Nat) : Fw.Ok Try.prog 16 (Sg.s_spec_NoteRef K) := Fw.funP_ok (c := Sg.c_spec_NoteRef K) (pi := Sg.i_spec_NoteRef) (depth := 6) (Fw.cfgP_ok (pi := Sg.i_spec_NoteRef) Sg.tabOK Sg.eqsOK Sg.mixOK ⟨ok_spec_l06OK K, ok_spec_l04OK K, ok_spec_l06Own K, ok_spec_l06Note K, trivial⟩ trivial trivial pf_spec_NoteRef trivial rfl) trivial pf_spec_NoteRef fun_spec_NoteRef call_spec_NoteRef (fun x => by kernel_rfl)
theorem fun_impl_within : Try.prog.funcs[57]? = some Try.f57 := by kernel_rfl
theorem call_impl_within : Fw.Callable Try.prog 57 := Fw.callable_of fun_impl_within (by kernel_rfl) (by kernel_rfl)
theorem pf_impl_within : Fw.PFn.of Try.f57 = some Sg.f_impl_within := Fw.PFn.of_get (by kernel_rfl)
theorem ok_impl_within (K : Nat) : Fw.Ok Try.prog 57 (Sg.s_impl_within K) := Fw.funP_ok (c := Sg.c_impl_within K) (pi := Sg.i_impl_within) (depth := 6) (Fw.cfgP_ok (pi := Sg.i_impl_within) Sg.tabOK Sg.eqsOK Sg.mixOK trivial trivial trivial pf_impl_within trivial rfl) trivial pf_impl_within fun_impl_within call_impl_within (fun x => by kernel_rfl)
theorem fun_impl_isLetter : Try.prog.funcs[95]? = some Try.f95 := by kernel_rfl
theorem call_impl_isLetter : Fw.Callable Try.prog 95 := Fw.callable_of fun_impl_isLetter (by kernel_rfl) (by kernel_rfl)
theorem pf_impl_isLetter : Fw.PFn.of Try.f95 = some Sg.f_impl_isLetter := Fw.PFn.of_get (by kernel_rfl)
theorem ok_impl_isLetter (K : Nat) : Fw.Ok Try.prog 95 (Sg.s_impl_isLetter K) := Fw.funP_ok (c := Sg.c_impl_isLetter K) (pi := Sg.i_impl_isLetter) (depth := 6) (Fw.cfgP_ok (pi := Sg.i_impl_isLetter) Sg.tabOK Sg.eqsOK Sg.mixOK trivial trivial trivial pf_impl_isLetter trivial rfl) trivial pf_impl_isLetter fun_impl_isLetter call_impl_isLetter (fun x => by kernel_rfl)
theorem fun_impl_areAll_byte_1 : Try.prog.funcs[120]? = some Try.f120 := by kernel_rfl
theorem call_impl_areAll_byte_1 : Fw.Callable Try.prog 120 := Fw.callable_of fun_impl_areAll_byte_1 (by kernel_rfl) (by kernel_rfl)
theorem pf_impl_areAll_byte_1 : Fw.PFn.of Try.f120 = some Sg.f_impl_areAll_byte_1 := Fw.PFn.of_get (by kernel_rfl)
theorem fun_slices_IndexFunc_byte : Try.prog.funcs[128]? = some Try.f128 := by kernel_rfl
theorem call_slices_IndexFunc_byte : Fw.Callable Try.prog 128 := Fw.callable_of fun_slices_IndexFunc_byte (by kernel_rfl) (by kernel_rfl)
theorem pf_slices_IndexFunc_byte : Fw.PFn.of Try.f128 = some Sg.f_slices_IndexFunc_byte := Fw.PFn.of_get (by kernel_rfl)
theorem fun_slices_ContainsFunc_byte : Try.prog.funcs[119]? = some Try.f119 := by kernel_rfl
theorem call_slices_ContainsFunc_byte : Fw.Callable Try.prog 119 := Fw.callable_of fun_slices_ContainsFunc_byte (by kernel_rfl) (by kernel_rfl)
theorem pf_slices_ContainsFunc_byte : Fw.PFn.of Try.f119 = some Sg.f_slices_ContainsFunc_byte := Fw.PFn.of_get (by kernel_rfl)
theorem fun_impl_areAll_byte : Try.prog.funcs[96]? = some Try.f96 := by kernel_rfl
theorem call_impl_areAll_byte : Fw.Callable Try.prog 96 := Fw.callable_of fun_impl_areAll_byte (by kernel_rfl) (by kernel_rfl)
theorem pf_impl_areAll_byte : Fw.PFn.of Try.f96 = some Sg.f_impl_areAll_byte := Fw.PFn.of_get (by kernel_rfl)
theorem fun_impl_isDigit : Try.prog.funcs[98]? = some Try.f98 := by kernel_rfl
theorem call_impl_isDigit : Fw.Callable Try.prog 98 := Fw.callable_of fun_impl_isDigit (by kernel_rfl) (by kernel_rfl)
theorem pf_impl_isDigit : Fw.PFn.of Try.f98 = some Sg.f_impl_isDigit := Fw.PFn.of_get (by kernel_rfl)
theorem ok_impl_isDigit (K : Nat) : Fw.Ok Try.prog 98 (Sg.s_impl_isDigit K) := Fw.funP_ok (c := Sg.c_impl_isDigit K) (pi := Sg.i_impl_isDigit) (depth := 6) (Fw.cfgP_ok (pi := Sg.i_impl_isDigit) Sg.tabOK Sg.eqsOK Sg.mixOK trivial trivial trivial pf_impl_isDigit trivial rfl) trivial pf_impl_isDigit fun_impl_isDigit call_impl_isDigit (fun x => by kernel_rfl)
theorem fun_impl_NameOK_1 : Try.prog.funcs[97]? = some Try.f97 := by kernel_rfl
theorem call_impl_NameOK_1 : Fw.Callable Try.prog 97 := Fw.callable_of fun_impl_NameOK_1 (by kernel_rfl) (by kernel_rfl)
theorem pf_impl_NameOK_1 : Fw.PFn.of Try.f97 = some Sg.f_impl_NameOK_1 := Fw.PFn.of_get (by kernel_rfl)
theorem ok_impl_NameOK_1 (K : Nat) : Fw.Ok Try.prog 97 (Sg.s_impl_NameOK_1 K) := Fw.funP_ok (c := Sg.c_impl_NameOK_1 K) (pi := Sg.i_impl_NameOK_1) (depth := 6) (Fw.cfgP_ok (pi := Sg.i_impl_NameOK_1) Sg.tabOK Sg.eqsOK Sg.mixOK ⟨ok_impl_isLetter K, ok_impl_isDigit K, trivial⟩ trivial trivial pf_impl_NameOK_1 trivial rfl) trivial pf_impl_NameOK_1 fun_impl_NameOK_1 call_impl_NameOK_1 (fun x => by kernel_rfl)
theorem l_impl_areAll_byte__impl_NameOK_1_0 (K : Nat) : Fw.LoopP (Sg.c_impl_areAll_byte__impl_NameOK_1 K) Sg.i_impl_areAll_byte__impl_NameOK_1 Sg.f_slices_IndexFunc_byte (Sg.p_impl_areAll_byte__impl_NameOK_1_0 K) := ⟨fun _ => by kernel_rfl, fun n p => by kernel_rfl⟩
theorem ok_impl_areAll_byte__impl_NameOK_1 (K : Nat) : Fw.Ok Try.prog 96 (Sg.s_impl_areAll_byte__impl_NameOK_1 K) := Fw.funP_ok (c := Sg.c_impl_areAll_byte__impl_NameOK_1 K) (pi := Sg.i_impl_areAll_byte__impl_NameOK_1) (depth := 6) (Fw.cfgP_ok (pi := Sg.i_impl_areAll_byte__impl_NameOK_1) Sg.tabOK Sg.eqsOK Sg.mixOK ⟨ok_impl_NameOK_1 K, trivial⟩ ⟨⟨fun_impl_areAll_byte_1, call_impl_areAll_byte_1⟩, ⟨fun_slices_IndexFunc_byte, call_slices_IndexFunc_byte⟩, ⟨fun_slices_ContainsFunc_byte, call_slices_ContainsFunc_byte⟩, trivial⟩ ⟨⟨rfl, pf_impl_areAll_byte_1⟩, ⟨rfl, pf_slices_IndexFunc_byte⟩, ⟨rfl, pf_slices_ContainsFunc_byte⟩, trivial⟩ pf_impl_areAll_byte ⟨⟨_, rfl, l_impl_areAll_byte__impl_NameOK_1_0 K⟩, trivial⟩ rfl) ⟨⟨rfl, pf_impl_areAll_byte_1⟩, ⟨rfl, pf_slices_IndexFunc_byte⟩, ⟨rfl, pf_slices_ContainsFunc_byte⟩, trivial⟩ pf_impl_areAll_byte fun_impl_areAll_byte call_impl_areAll_byte (fun x => by kernel_rfl)
theorem fun_impl_NameOK : Try.prog.funcs[56]? = some Try.f56 := by kernel_rfl
theorem call_impl_NameOK : Fw.Callable Try.prog 56 := Fw.callable_of fun_impl_NameOK (by kernel_rfl) (by kernel_rfl)
theorem pf_impl_NameOK : Fw.PFn.of Try.f56 = some Sg.f_impl_NameOK := Fw.PFn.of_get (by kernel_rfl)
theorem ok_impl_NameOK (K : Nat) : Fw.Ok Try.prog 56 (Sg.s_impl_NameOK K) := Fw.funP_ok (c := Sg.c_impl_NameOK K) (pi := Sg.i_impl_NameOK) (depth := 6) (Fw.cfgP_ok (pi := Sg.i_impl_NameOK) Sg.tabOK Sg.eqsOK Sg.mixOK ⟨ok_impl_within K, ok_impl_isLetter K, ok_impl_NameOK_1 K, ok_impl_areAll_byte__impl_NameOK_1 K, trivial⟩ ⟨⟨fun_impl_areAll_byte_1, call_impl_areAll_byte_1⟩, ⟨fun_slices_IndexFunc_byte, call_slices_IndexFunc_byte⟩, ⟨fun_slices_ContainsFunc_byte, call_slices_ContainsFunc_byte⟩, ⟨fun_impl_areAll_byte, call_impl_areAll_byte⟩, trivial⟩ ⟨⟨rfl, pf_impl_areAll_byte_1⟩, ⟨rfl, pf_slices_IndexFunc_byte⟩, ⟨rfl, pf_slices_ContainsFunc_byte⟩, ⟨rfl, pf_impl_areAll_byte⟩, trivial⟩ pf_impl_NameOK trivial rfl) ⟨⟨rfl, pf_impl_areAll_byte_1⟩, ⟨rfl, pf_slices_IndexFunc_byte⟩, ⟨rfl, pf_slices_ContainsFunc_byte⟩, ⟨rfl, pf_impl_areAll_byte⟩, trivial⟩ pf_impl_NameOK fun_impl_NameOK call_impl_NameOK (fun x => by kernel_rfl)
theorem fun_impl_isList_impl_Event : Try.prog.funcs[61]? = some Try.f61 := by kernel_rfl
theorem call_impl_isList_impl_Event : Fw.Callable Try.prog 61 := Fw.callable_of fun_impl_isList_impl_Event (by kernel_rfl) (by kernel_rfl)
theorem pf_impl_isList_impl_Event : Fw.PFn.of Try.f61 = some Sg.f_impl_isList_impl_Event := Fw.PFn.of_get (by kernel_rfl)
theorem ok_impl_isList_impl_Event (K : Nat) : Fw.Ok Try.prog 61 (Sg.s_impl_isList_impl_Event K) := Fw.funP_ok (c := Sg.c_impl_isList_impl_Event K) (pi := Sg.i_impl_isList_impl_Event) (depth := 6) (Fw.cfgP_ok (pi := Sg.i_impl_isList_impl_Event) Sg.tabOK Sg.eqsOK Sg.mixOK trivial trivial trivial pf_impl_isList_impl_Event trivial rfl) trivial pf_impl_isList_impl_Event fun_impl_isList_impl_Event call_impl_isList_impl_Event (fun x => by kernel_rfl)
theorem fun_impl_EventsOK : Try.prog.funcs[26]? = some Try.f26 := by kernel_rfl
theorem call_impl_EventsOK : Fw.Callable Try.prog 26 := Fw.callable_of fun_impl_EventsOK (by kernel_rfl) (by kernel_rfl)
theorem pf_impl_EventsOK : Fw.PFn.of Try.f26 = some Sg.f_impl_EventsOK := Fw.PFn.of_get (by kernel_rfl)
theorem l_impl_EventsOK_0 (K : Nat) : Fw.LoopP (Sg.c_impl_EventsOK K) Sg.i_impl_EventsOK Sg.f_impl_EventsOK (Sg.p_impl_EventsOK_0 K) := ⟨fun _ => by kernel_rfl, fun n p => by kernel_rfl⟩
theorem ok_impl_EventsOK (K : Nat) : Fw.Ok Try.prog 26 (Sg.s_impl_EventsOK K) := Fw.funP_ok (c := Sg.c_impl_EventsOK K) (pi := Sg.i_impl_EventsOK) (depth := 6) (Fw.cfgP_ok (pi := Sg.i_impl_EventsOK) Sg.tabOK Sg.eqsOK Sg.mixOK ⟨ok_impl_within K, ok_impl_isList_impl_Event K, trivial⟩ trivial trivial pf_impl_EventsOK ⟨⟨_, rfl, l_impl_EventsOK_0 K⟩, trivial⟩ rfl) trivial pf_impl_EventsOK fun_impl_EventsOK call_impl_EventsOK (fun x => by kernel_rfl)
theorem fun_impl_areAll_impl_Event_1 : Try.prog.funcs[100]? = some Try.f100 := by kernel_rfl
theorem call_impl_areAll_impl_Event_1 : Fw.Callable Try.prog 100 := Fw.callable_of fun_impl_areAll_impl_Event_1 (by kernel_rfl) (by kernel_rfl)
theorem pf_impl_areAll_impl_Event_1 : Fw.PFn.of Try.f100 = some Sg.f_impl_areAll_impl_Event_1 := Fw.PFn.of_get (by kernel_rfl)
theorem fun_slices_IndexFunc_impl_Event : Try.prog.funcs[121]? = some Try.f121 := by kernel_rfl
theorem call_slices_IndexFunc_impl_Event : Fw.Callable Try.prog 121 := Fw.callable_of fun_slices_IndexFunc_impl_Event (by kernel_rfl) (by kernel_rfl)
theorem pf_slices_IndexFunc_impl_Event : Fw.PFn.of Try.f121 = some Sg.f_slices_IndexFunc_impl_Event := Fw.PFn.of_get (by kernel_rfl)
theorem fun_slices_ContainsFunc_impl_Event : Try.prog.funcs[99]? = some Try.f99 := by kernel_rfl
theorem call_slices_ContainsFunc_impl_Event : Fw.Callable Try.prog 99 := Fw.callable_of fun_slices_ContainsFunc_impl_Event (by kernel_rfl) (by kernel_rfl)
theorem pf_slices_ContainsFunc_impl_Event : Fw.PFn.of Try.f99 = some Sg.f_slices_ContainsFunc_impl_Event := Fw.PFn.of_get (by kernel_rfl)
theorem fun_impl_areAll_impl_Event : Try.prog.funcs[58]? = some Try.f58 := by kernel_rfl
theorem call_impl_areAll_impl_Event : Fw.Callable Try.prog 58 := Fw.callable_of fun_impl_areAll_impl_Event (by kernel_rfl) (by kernel_rfl)
theorem pf_impl_areAll_impl_Event : Fw.PFn.of Try.f58 = some Sg.f_impl_areAll_impl_Event := Fw.PFn.of_get (by kernel_rfl)
theorem fun_impl_WatchOK_1 : Try.prog.funcs[59]? = some Try.f59 := by kernel_rfl
theorem call_impl_WatchOK_1 : Fw.Callable Try.prog 59 := Fw.callable_of fun_impl_WatchOK_1 (by kernel_rfl) (by kernel_rfl)
theorem pf_impl_WatchOK_1 : Fw.PFn.of Try.f59 = some Sg.f_impl_WatchOK_1 := Fw.PFn.of_get (by kernel_rfl)
theorem ok_impl_WatchOK_1 (K : Nat) : Fw.Ok Try.prog 59 (Sg.s_impl_WatchOK_1 K) := Fw.funP_ok (c := Sg.c_impl_WatchOK_1 K) (pi := Sg.i_impl_WatchOK_1) (depth := 6) (Fw.cfgP_ok (pi := Sg.i_impl_WatchOK_1) Sg.tabOK Sg.eqsOK Sg.mixOK trivial trivial trivial pf_impl_WatchOK_1 trivial rfl) trivial pf_impl_WatchOK_1 fun_impl_WatchOK_1 call_impl_WatchOK_1 (fun x => by kernel_rfl)
theorem l_impl_areAll_impl_Event__impl_WatchOK_1_0 (K : Nat) : Fw.LoopP (Sg.c_impl_areAll_impl_Event__impl_WatchOK_1 K) Sg.i_impl_areAll_impl_Event__impl_WatchOK_1 Sg.f_slices_IndexFunc_impl_Event (Sg.p_impl_areAll_impl_Event__impl_WatchOK_1_0 K) := ⟨fun _ => by kernel_rfl, fun n p => by kernel_rfl⟩
theorem ok_impl_areAll_impl_Event__impl_WatchOK_1 (K : Nat) : Fw.Ok Try.prog 58 (Sg.s_impl_areAll_impl_Event__impl_WatchOK_1 K) := Fw.funP_ok (c := Sg.c_impl_areAll_impl_Event__impl_WatchOK_1 K) (pi := Sg.i_impl_areAll_impl_Event__impl_WatchOK_1) (depth := 6) (Fw.cfgP_ok (pi := Sg.i_impl_areAll_impl_Event__impl_WatchOK_1) Sg.tabOK Sg.eqsOK Sg.mixOK ⟨ok_impl_WatchOK_1 K, trivial⟩ ⟨⟨fun_impl_areAll_impl_Event_1, call_impl_areAll_impl_Event_1⟩, ⟨fun_slices_IndexFunc_impl_Event, call_slices_IndexFunc_impl_Event⟩, ⟨fun_slices_ContainsFunc_impl_Event, call_slices_ContainsFunc_impl_Event⟩, trivial⟩ ⟨⟨rfl, pf_impl_areAll_impl_Event_1⟩, ⟨rfl, pf_slices_IndexFunc_impl_Event⟩, ⟨rfl, pf_slices_ContainsFunc_impl_Event⟩, trivial⟩ pf_impl_areAll_impl_Event ⟨⟨_, rfl, l_impl_areAll_impl_Event__impl_WatchOK_1_0 K⟩, trivial⟩ rfl) ⟨⟨rfl, pf_impl_areAll_impl_Event_1⟩, ⟨rfl, pf_slices_IndexFunc_impl_Event⟩, ⟨rfl, pf_slices_ContainsFunc_impl_Event⟩, trivial⟩ pf_impl_areAll_impl_Event fun_impl_areAll_impl_Event call_impl_areAll_impl_Event (fun x => by kernel_rfl)
theorem fun_impl_WatchOK : Try.prog.funcs[22]? = some Try.f22 := by kernel_rfl
theorem call_impl_WatchOK : Fw.Callable Try.prog 22 := Fw.callable_of fun_impl_WatchOK (by kernel_rfl) (by kernel_rfl)
theorem pf_impl_WatchOK : Fw.PFn.of Try.f22 = some Sg.f_impl_WatchOK := Fw.PFn.of_get (by kernel_rfl)
theorem ok_impl_WatchOK (K : Nat) : Fw.Ok Try.prog 22 (Sg.s_impl_WatchOK K) := Fw.funP_ok (c := Sg.c_impl_WatchOK K) (pi := Sg.i_impl_WatchOK) (depth := 6) (Fw.cfgP_ok (pi := Sg.i_impl_WatchOK) Sg.tabOK Sg.eqsOK Sg.mixOK ⟨ok_impl_within K, ok_impl_NameOK K, ok_impl_EventsOK K, ok_impl_WatchOK_1 K, ok_impl_areAll_impl_Event__impl_WatchOK_1 K, trivial⟩ ⟨⟨fun_impl_areAll_impl_Event_1, call_impl_areAll_impl_Event_1⟩, ⟨fun_slices_IndexFunc_impl_Event, call_slices_IndexFunc_impl_Event⟩, ⟨fun_slices_ContainsFunc_impl_Event, call_slices_ContainsFunc_impl_Event⟩, ⟨fun_impl_areAll_impl_Event, call_impl_areAll_impl_Event⟩, trivial⟩ ⟨⟨rfl, pf_impl_areAll_impl_Event_1⟩, ⟨rfl, pf_slices_IndexFunc_impl_Event⟩, ⟨rfl, pf_slices_ContainsFunc_impl_Event⟩, ⟨rfl, pf_impl_areAll_impl_Event⟩, trivial⟩ pf_impl_WatchOK trivial rfl) ⟨⟨rfl, pf_impl_areAll_impl_Event_1⟩, ⟨rfl, pf_slices_IndexFunc_impl_Event⟩, ⟨rfl, pf_slices_ContainsFunc_impl_Event⟩, ⟨rfl, pf_impl_areAll_impl_Event⟩, trivial⟩ pf_impl_WatchOK fun_impl_WatchOK call_impl_WatchOK (fun x => by kernel_rfl)
theorem fun_impl_isHead : Try.prog.funcs[90]? = some Try.f90 := by kernel_rfl
theorem call_impl_isHead : Fw.Callable Try.prog 90 := Fw.callable_of fun_impl_isHead (by kernel_rfl) (by kernel_rfl)
theorem pf_impl_isHead : Fw.PFn.of Try.f90 = some Sg.f_impl_isHead := Fw.PFn.of_get (by kernel_rfl)
theorem ok_impl_isHead (K : Nat) : Fw.Ok Try.prog 90 (Sg.s_impl_isHead K) := Fw.funP_ok (c := Sg.c_impl_isHead K) (pi := Sg.i_impl_isHead) (depth := 6) (Fw.cfgP_ok (pi := Sg.i_impl_isHead) Sg.tabOK Sg.eqsOK Sg.mixOK ⟨ok_impl_within K, trivial⟩ trivial trivial pf_impl_isHead trivial rfl) trivial pf_impl_isHead fun_impl_isHead call_impl_isHead (fun x => by kernel_rfl)
theorem fun_impl_isRef : Try.prog.funcs[51]? = some Try.f51 := by kernel_rfl
theorem call_impl_isRef : Fw.Callable Try.prog 51 := Fw.callable_of fun_impl_isRef (by kernel_rfl) (by kernel_rfl)
theorem pf_impl_isRef : Fw.PFn.of Try.f51 = some Sg.f_impl_isRef := Fw.PFn.of_get (by kernel_rfl)
theorem ok_impl_isRef (K : Nat) : Fw.Ok Try.prog 51 (Sg.s_impl_isRef K) := Fw.funP_ok (c := Sg.c_impl_isRef K) (pi := Sg.i_impl_isRef) (depth := 6) (Fw.cfgP_ok (pi := Sg.i_impl_isRef) Sg.tabOK Sg.eqsOK Sg.mixOK ⟨ok_impl_within K, ok_impl_NameOK K, ok_impl_isHead K, trivial⟩ trivial trivial pf_impl_isRef trivial rfl) trivial pf_impl_isRef fun_impl_isRef call_impl_isRef (fun x => by kernel_rfl)
theorem fun_slices_Clone_impl_Event : Try.prog.funcs[60]? = some Try.f60 := by kernel_rfl
theorem call_slices_Clone_impl_Event : Fw.Callable Try.prog 60 := Fw.callable_of fun_slices_Clone_impl_Event (by kernel_rfl) (by kernel_rfl)
theorem pf_slices_Clone_impl_Event : Fw.PFn.of Try.f60 = some Sg.f_slices_Clone_impl_Event := Fw.PFn.of_get (by kernel_rfl)
theorem ok_slices_Clone_impl_Event (K : Nat) : Fw.Ok Try.prog 60 (Sg.s_slices_Clone_impl_Event K) := Fw.funP_ok (c := Sg.c_slices_Clone_impl_Event K) (pi := Sg.i_slices_Clone_impl_Event) (depth := 6) (Fw.cfgP_ok (pi := Sg.i_slices_Clone_impl_Event) Sg.tabOK Sg.eqsOK Sg.mixOK trivial trivial trivial pf_slices_Clone_impl_Event trivial rfl) trivial pf_slices_Clone_impl_Event fun_slices_Clone_impl_Event call_slices_Clone_impl_Event (fun x => by kernel_rfl)
theorem fun_impl_Watch_own : Try.prog.funcs[45]? = some Try.f45 := by kernel_rfl
theorem call_impl_Watch_own : Fw.Callable Try.prog 45 := Fw.callable_of fun_impl_Watch_own (by kernel_rfl) (by kernel_rfl)
theorem pf_impl_Watch_own : Fw.PFn.of Try.f45 = some Sg.f_impl_Watch_own := Fw.PFn.of_get (by kernel_rfl)
theorem ok_impl_Watch_own (K : Nat) : Fw.Ok Try.prog 45 (Sg.s_impl_Watch_own K) := Fw.funP_ok (c := Sg.c_impl_Watch_own K) (pi := Sg.i_impl_Watch_own) (depth := 6) (Fw.cfgP_ok (pi := Sg.i_impl_Watch_own) Sg.tabOK Sg.eqsOK Sg.mixOK ⟨ok_slices_Clone_impl_Event K, trivial⟩ trivial trivial pf_impl_Watch_own trivial rfl) trivial pf_impl_Watch_own fun_impl_Watch_own call_impl_Watch_own (fun x => by kernel_rfl)
theorem fun_impl_Watch_note : Try.prog.funcs[52]? = some Try.f52 := by kernel_rfl
theorem call_impl_Watch_note : Fw.Callable Try.prog 52 := Fw.callable_of fun_impl_Watch_note (by kernel_rfl) (by kernel_rfl)
theorem pf_impl_Watch_note : Fw.PFn.of Try.f52 = some Sg.f_impl_Watch_note := Fw.PFn.of_get (by kernel_rfl)
theorem ok_impl_Watch_note (K : Nat) : Fw.Ok Try.prog 52 (Sg.s_impl_Watch_note K) := Fw.funP_ok (c := Sg.c_impl_Watch_note K) (pi := Sg.i_impl_Watch_note) (depth := 6) (Fw.cfgP_ok (pi := Sg.i_impl_Watch_note) Sg.tabOK Sg.eqsOK Sg.mixOK ⟨ok_impl_Watch_own K, trivial⟩ trivial trivial pf_impl_Watch_note trivial rfl) trivial pf_impl_Watch_note fun_impl_Watch_note call_impl_Watch_note (fun x => by kernel_rfl)
theorem fun_impl_NoteRef : Try.prog.funcs[18]? = some Try.f18 := by kernel_rfl
theorem call_impl_NoteRef : Fw.Callable Try.prog 18 := Fw.callable_of fun_impl_NoteRef (by kernel_rfl) (by kernel_rfl)
theorem pf_impl_NoteRef : Fw.PFn.of Try.f18 = some Sg.f_impl_NoteRef := Fw.PFn.of_get (by kernel_rfl)
theorem ok_impl_NoteRef (K : Nat) : Fw.Ok Try.prog 18 (Sg.s_impl_NoteRef K) := Fw.funP_ok (c := Sg.c_impl_NoteRef K) (pi := Sg.i_impl_NoteRef) (depth := 6) (Fw.cfgP_ok (pi := Sg.i_impl_NoteRef) Sg.tabOK Sg.eqsOK Sg.mixOK ⟨ok_impl_WatchOK K, ok_impl_isRef K, ok_impl_Watch_own K, ok_impl_Watch_note K, trivial⟩ trivial trivial pf_impl_NoteRef trivial rfl) trivial pf_impl_NoteRef fun_impl_NoteRef call_impl_NoteRef (fun x => by kernel_rfl)
theorem fun_laws_eqEvent : Try.prog.funcs[12]? = some Try.f12 := by kernel_rfl
theorem call_laws_eqEvent : Fw.Callable Try.prog 12 := Fw.callable_of fun_laws_eqEvent (by kernel_rfl) (by kernel_rfl)
theorem pf_laws_eqEvent : Fw.PFn.of Try.f12 = some Sg.f_laws_eqEvent := Fw.PFn.of_get (by kernel_rfl)
theorem ok_laws_eqEvent (K : Nat) : Fw.Ok Try.prog 12 (Sg.s_laws_eqEvent K) := Fw.funP_ok (c := Sg.c_laws_eqEvent K) (pi := Sg.i_laws_eqEvent) (depth := 6) (Fw.cfgP_ok (pi := Sg.i_laws_eqEvent) Sg.tabOK Sg.eqsOK Sg.mixOK trivial trivial trivial pf_laws_eqEvent trivial rfl) trivial pf_laws_eqEvent fun_laws_eqEvent call_laws_eqEvent (fun x => by kernel_rfl)
theorem fun_laws_eqEventS : Try.prog.funcs[46]? = some Try.f46 := by kernel_rfl
theorem call_laws_eqEventS : Fw.Callable Try.prog 46 := Fw.callable_of fun_laws_eqEventS (by kernel_rfl) (by kernel_rfl)
theorem pf_laws_eqEventS : Fw.PFn.of Try.f46 = some Sg.f_laws_eqEventS := Fw.PFn.of_get (by kernel_rfl)
theorem l_laws_eqEventS_0 (K : Nat) : Fw.LoopP (Sg.c_laws_eqEventS K) Sg.i_laws_eqEventS Sg.f_laws_eqEventS (Sg.p_laws_eqEventS_0 K) := ⟨fun _ => by kernel_rfl, fun n p => by kernel_rfl⟩
theorem ok_laws_eqEventS (K : Nat) : Fw.Ok Try.prog 46 (Sg.s_laws_eqEventS K) := Fw.funP_ok (c := Sg.c_laws_eqEventS K) (pi := Sg.i_laws_eqEventS) (depth := 6) (Fw.cfgP_ok (pi := Sg.i_laws_eqEventS) Sg.tabOK Sg.eqsOK Sg.mixOK ⟨ok_laws_eqEvent K, trivial⟩ trivial trivial pf_laws_eqEventS ⟨⟨_, rfl, l_laws_eqEventS_0 K⟩, trivial⟩ rfl) trivial pf_laws_eqEventS fun_laws_eqEventS call_laws_eqEventS (fun x => by kernel_rfl)
theorem fun_laws_eqWatch : Try.prog.funcs[11]? = some Try.f11 := by kernel_rfl
theorem call_laws_eqWatch : Fw.Callable Try.prog 11 := Fw.callable_of fun_laws_eqWatch (by kernel_rfl) (by kernel_rfl)
theorem pf_laws_eqWatch : Fw.PFn.of Try.f11 = some Sg.f_laws_eqWatch := Fw.PFn.of_get (by kernel_rfl)
theorem ok_laws_eqWatch (K : Nat) : Fw.Ok Try.prog 11 (Sg.s_laws_eqWatch K) := Fw.funP_ok (c := Sg.c_laws_eqWatch K) (pi := Sg.i_laws_eqWatch) (depth := 6) (Fw.cfgP_ok (pi := Sg.i_laws_eqWatch) Sg.tabOK Sg.eqsOK Sg.mixOK ⟨ok_laws_eqEventS K, trivial⟩ trivial trivial pf_laws_eqWatch trivial rfl) trivial pf_laws_eqWatch fun_laws_eqWatch call_laws_eqWatch (fun x => by kernel_rfl)
theorem fun_laws_markEventS : Try.prog.funcs[47]? = some Try.f47 := by kernel_rfl
theorem call_laws_markEventS : Fw.Callable Try.prog 47 := Fw.callable_of fun_laws_markEventS (by kernel_rfl) (by kernel_rfl)
theorem pf_laws_markEventS : Fw.PFn.of Try.f47 = some Sg.f_laws_markEventS := Fw.PFn.of_get (by kernel_rfl)
theorem l_laws_markEventS_0 (K : Nat) : Fw.LoopP (Sg.c_laws_markEventS K) Sg.i_laws_markEventS Sg.f_laws_markEventS (Sg.p_laws_markEventS_0 K) := ⟨fun _ => by kernel_rfl, fun n p => by kernel_rfl⟩
theorem ok_laws_markEventS (K : Nat) : Fw.Ok Try.prog 47 (Sg.s_laws_markEventS K) := Fw.funP_ok (c := Sg.c_laws_markEventS K) (pi := Sg.i_laws_markEventS) (depth := 6) (Fw.cfgP_ok (pi := Sg.i_laws_markEventS) Sg.tabOK Sg.eqsOK Sg.mixOK trivial trivial trivial pf_laws_markEventS ⟨⟨_, rfl, l_laws_markEventS_0 K⟩, trivial⟩ rfl) trivial pf_laws_markEventS fun_laws_markEventS call_laws_markEventS (fun x => by kernel_rfl)
theorem fun_laws_markWatch : Try.prog.funcs[13]? = some Try.f13 := by kernel_rfl
theorem call_laws_markWatch : Fw.Callable Try.prog 13 := Fw.callable_of fun_laws_markWatch (by kernel_rfl) (by kernel_rfl)
theorem pf_laws_markWatch : Fw.PFn.of Try.f13 = some Sg.f_laws_markWatch := Fw.PFn.of_get (by kernel_rfl)
theorem ok_laws_markWatch (K : Nat) : Fw.Ok Try.prog 13 (Sg.s_laws_markWatch K) := Fw.funP_ok (c := Sg.c_laws_markWatch K) (pi := Sg.i_laws_markWatch) (depth := 6) (Fw.cfgP_ok (pi := Sg.i_laws_markWatch) Sg.tabOK Sg.eqsOK Sg.mixOK ⟨ok_laws_markEventS K, trivial⟩ trivial trivial pf_laws_markWatch trivial rfl) trivial pf_laws_markWatch fun_laws_markWatch call_laws_markWatch (fun x => by kernel_rfl)
theorem fun_laws_heldEventS : Try.prog.funcs[48]? = some Try.f48 := by kernel_rfl
theorem call_laws_heldEventS : Fw.Callable Try.prog 48 := Fw.callable_of fun_laws_heldEventS (by kernel_rfl) (by kernel_rfl)
theorem pf_laws_heldEventS : Fw.PFn.of Try.f48 = some Sg.f_laws_heldEventS := Fw.PFn.of_get (by kernel_rfl)
theorem l_laws_heldEventS_0 (K : Nat) : Fw.LoopP (Sg.c_laws_heldEventS K) Sg.i_laws_heldEventS Sg.f_laws_heldEventS (Sg.p_laws_heldEventS_0 K) := ⟨fun _ => by kernel_rfl, fun n p => by kernel_rfl⟩
theorem ok_laws_heldEventS (K : Nat) : Fw.Ok Try.prog 48 (Sg.s_laws_heldEventS K) := Fw.funP_ok (c := Sg.c_laws_heldEventS K) (pi := Sg.i_laws_heldEventS) (depth := 6) (Fw.cfgP_ok (pi := Sg.i_laws_heldEventS) Sg.tabOK Sg.eqsOK Sg.mixOK trivial trivial trivial pf_laws_heldEventS ⟨⟨_, rfl, l_laws_heldEventS_0 K⟩, trivial⟩ rfl) trivial pf_laws_heldEventS fun_laws_heldEventS call_laws_heldEventS (fun x => by kernel_rfl)
theorem fun_laws_heldWatch : Try.prog.funcs[14]? = some Try.f14 := by kernel_rfl
theorem call_laws_heldWatch : Fw.Callable Try.prog 14 := Fw.callable_of fun_laws_heldWatch (by kernel_rfl) (by kernel_rfl)
theorem pf_laws_heldWatch : Fw.PFn.of Try.f14 = some Sg.f_laws_heldWatch := Fw.PFn.of_get (by kernel_rfl)
theorem ok_laws_heldWatch (K : Nat) : Fw.Ok Try.prog 14 (Sg.s_laws_heldWatch K) := Fw.funP_ok (c := Sg.c_laws_heldWatch K) (pi := Sg.i_laws_heldWatch) (depth := 6) (Fw.cfgP_ok (pi := Sg.i_laws_heldWatch) Sg.tabOK Sg.eqsOK Sg.mixOK ⟨ok_laws_heldEventS K, trivial⟩ trivial trivial pf_laws_heldWatch trivial rfl) trivial pf_laws_heldWatch fun_laws_heldWatch call_laws_heldWatch (fun x => by kernel_rfl)
theorem fun_laws_FnExactNoteRef : Try.prog.funcs[4]? = some Try.f4 := by kernel_rfl
theorem call_laws_FnExactNoteRef : Fw.Callable Try.prog 4 := Fw.callable_of fun_laws_FnExactNoteRef (by kernel_rfl) (by kernel_rfl)
theorem pf_laws_FnExactNoteRef : Fw.PFn.of Try.f4 = some Sg.f_laws_FnExactNoteRef := Fw.PFn.of_get (by kernel_rfl)
theorem ok_laws_FnExactNoteRef (K : Nat) : Fw.Ok Try.prog 4 (Sg.s_laws_FnExactNoteRef K) := Fw.funP_ok (c := Sg.c_laws_FnExactNoteRef K) (pi := Sg.i_laws_FnExactNoteRef) (depth := 6) (Fw.cfgP_ok (pi := Sg.i_laws_FnExactNoteRef) Sg.tabOK Sg.eqsOK Sg.mixOK ⟨ok_laws_szWatch K, ok_laws_szRef K, ok_laws_toWatch K, ok_laws_toRef K, ok_spec_NoteRef K, ok_impl_NoteRef K, ok_laws_eqWatch K, ok_laws_markWatch K, ok_laws_heldWatch K, trivial⟩ trivial trivial pf_laws_FnExactNoteRef trivial rfl) trivial pf_laws_FnExactNoteRef fun_laws_FnExactNoteRef call_laws_FnExactNoteRef (fun x => by kernel_rfl)
end Go.Proofs
