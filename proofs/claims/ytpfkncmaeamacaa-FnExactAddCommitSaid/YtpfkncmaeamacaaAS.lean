/- The functions' contracts, printed by a program of the prover's own. -/
import Derived.Test.YtpfkncmaeamacaaAR
import Derived.Test.YtpfkncmaeamacaaProg
set_option linter.all false
namespace Go.Proofs
open Go Fw
set_option maxRecDepth 100000
def Sg.eqs : List Nat := [30, 39, 43, 111, 122, 124]
def Sg.tab : List (Nat × Fw.TyI) := [
(1, .one),
(2, .leaf (.int .i64)),
(3, .leaf (.int .i64)),
(4, .leaf .bool),
(5, .leaf (.int .u8)),
(6, .leaf (.int .u8)),
(7, .struct (.pair (.int .i64) (.pair (.int .i64) (.pair .bool (.int .u8)))) [(0, 2), (1, 3), (2, 4), (3, 6)]),
(8, .struct (.pair (.int .i64) (.pair (.int .i64) (.pair .bool (.int .u8)))) [(0, 2), (1, 3), (2, 4), (3, 6)]),
(9, .leaf .str),
(10, .leaf .str),
(11, .leaf .str),
(12, .leaf (.int .u64)),
(13, .struct (.pair .str (.int .u64)) [(0, 9), (1, 12)]),
(14, .struct (.pair .str (.int .u64)) [(0, 9), (1, 12)]),
(21, .leaf (.int .i32)),
(22, .slice 111 (.pair (.int .i64) (.pair (.int .i64) .bool)) 0),
(23, .struct (.pair .str (.pair (.int .i64) (.sl (.pair (.int .i64) (.pair (.int .i64) .bool))))) [(0, 9), (1, 3), (2, 22)]),
(24, .struct (.pair .str (.pair (.int .i64) (.sl (.pair (.int .i64) (.pair (.int .i64) .bool))))) [(0, 9), (1, 3), (2, 22)]),
(25, .one),
(26, .slice 30 (.pair (.int .i64) (.pair (.int .i64) .bool)) 0),
(27, .struct (.pair .str (.pair (.int .i64) (.sl (.pair (.int .i64) (.pair (.int .i64) .bool))))) [(0, 9), (1, 3), (2, 26)]),
(28, .struct (.pair .str (.pair (.int .i64) (.sl (.pair (.int .i64) (.pair (.int .i64) .bool))))) [(0, 9), (1, 3), (2, 26)]),
(29, .struct (.pair (.int .i64) (.pair (.int .i64) .bool)) [(0, 3), (1, 3), (2, 4)]),
(30, .struct (.pair (.int .i64) (.pair (.int .i64) .bool)) [(0, 3), (1, 3), (2, 4)]),
(32, .one),
(33, .one),
(34, .one),
(35, .one),
(36, .one),
(37, .one),
(38, .struct (.pair .str (.pair (.int .i64) (.pair (.int .i64) .bool))) [(0, 9), (1, 3), (2, 3), (3, 4)]),
(39, .struct (.pair .str (.pair (.int .i64) (.pair (.int .i64) .bool))) [(0, 9), (1, 3), (2, 3), (3, 4)]),
(40, .one),
(42, .one),
(43, .struct (.pair .str (.pair (.int .i64) (.pair (.int .i64) .bool))) [(0, 9), (1, 3), (2, 3), (3, 4)]),
(44, .one),
(45, .one),
(46, .slice 5 (.int .u8) 0),
(47, .one),
(48, .one),
(49, .one),
(51, .one),
(52, .one),
(53, .one),
(54, .slice 43 (.pair .str (.pair (.int .i64) (.pair (.int .i64) .bool))) 0),
(55, .one),
(56, .one),
(57, .one),
(58, .slice 62 (.pair (.sl (.int .i64)) (.sl (.pair .str (.int .i64)))) 0),
(59, .slice 3 (.int .i64) 0),
(60, .slice 122 (.pair .str (.int .i64)) 0),
(61, .struct (.pair (.sl (.int .i64)) (.sl (.pair .str (.int .i64)))) [(0, 59), (1, 60)]),
(62, .struct (.pair (.sl (.int .i64)) (.sl (.pair .str (.int .i64)))) [(0, 59), (1, 60)]),
(63, .one),
(64, .one),
(65, .slice 71 (.pair (.sl (.int .i64)) (.sl (.pair .str (.int .i64)))) 0),
(67, .one),
(68, .one),
(69, .slice 124 (.pair .str (.int .i64)) 0),
(70, .struct (.pair (.sl (.int .i64)) (.sl (.pair .str (.int .i64)))) [(0, 59), (1, 69)]),
(71, .struct (.pair (.sl (.int .i64)) (.sl (.pair .str (.int .i64)))) [(0, 59), (1, 69)]),
(72, .one),
(73, .one),
(74, .one),
(75, .one),
(76, .one),
(77, .one),
(78, .one),
(79, .one),
(80, .one),
(81, .one),
(82, .one),
(83, .one),
(84, .one),
(85, .one),
(86, .one),
(87, .one),
(88, .one),
(89, .one),
(90, .one),
(91, .one),
(92, .one),
(93, .one),
(94, .one),
(95, .one),
(96, .one),
(97, .one),
(98, .one),
(99, .one),
(100, .one),
(101, .one),
(102, .one),
(103, .one),
(104, .one),
(105, .one),
(106, .one),
(107, .one),
(108, .one),
(109, .one),
(110, .one),
(111, .struct (.pair (.int .i64) (.pair (.int .i64) .bool)) [(0, 3), (1, 3), (2, 4)]),
(112, .struct (.pair (.sl (.int .u8)) (.pair (.int .i64) (.int .i64))) [(0, 46), (1, 3), (2, 3)]),
(113, .struct (.pair (.sl (.int .u8)) (.pair (.int .i64) (.int .i64))) [(0, 46), (1, 3), (2, 3)]),
(114, .one),
(115, .one),
(116, .one),
(117, .one),
(118, .one),
(119, .slice 9 .str 0),
(120, .one),
(121, .struct (.pair .str (.int .i64)) [(0, 9), (1, 3)]),
(122, .struct (.pair .str (.int .i64)) [(0, 9), (1, 3)]),
(123, .one),
(124, .struct (.pair .str (.int .i64)) [(0, 9), (1, 3)]),
(125, .one),
(126, .one),
(127, .one),
(128, .one),
(129, .one),
(130, .one),
(131, .one),
(132, .one),
(133, .one),
(134, .one),
(135, .one),
(141, .leaf (.int .u32)),
(142, .leaf (.int .u8)),
(143, .leaf (.int .u8)),
(144, .one),
(146, .leaf (.int .i32)),
(147, .leaf (.int .i32))]
def Sg.ptrs : List (Nat × Fw.Ty) := [(87, (.pair (.sl (.int .u8)) (.pair (.int .i64) (.int .i64))))]
theorem Sg.tabOK : Fw.chkAll Try.prog Sg.tab = true := by kernel_rfl
theorem Sg.eqsOK : Fw.eqFacts Try.prog Sg.tab Sg.eqs = true := by kernel_rfl
theorem Sg.mixOK : Try.prog.follows .mixedOrders = true := by kernel_rfl
instance Sg.glob : Fw.GInv := ⟨fun _ => True, fun _ => False, fun _ _ _ h => h⟩
noncomputable def Sg.f_laws_szIntS : Fw.PFn := Fw.PFn.get Try.f67
noncomputable def Sg.i_laws_szIntS : List (Nat × Fw.PFn) := []
noncomputable def Sg.s_laws_szIntS (K : Nat) : Fw.Sig := { ins := [.val false (.sl (.int .i64)), .val false (.int .i64)], outs := [⟨false, (.int .i64), false⟩], F := fun x => R.laws_szIntS K x.1 x.2.1 }
noncomputable def Sg.c_laws_szIntS (K : Nat) : Fw.Cfg := { tab := Sg.tab, eqs := Sg.eqs, sig := [], inl := [], lo := [], K := K, jo := [], opn := [13, 38, 39, 47, 82, 83] }
noncomputable def Sg.f_laws_szEntry : Fw.PFn := Fw.PFn.get Try.f108
noncomputable def Sg.i_laws_szEntry : List (Nat × Fw.PFn) := []
noncomputable def Sg.s_laws_szEntry (K : Nat) : Fw.Sig := { ins := [.val true (.pair .str (.int .i64)), .val false (.int .i64)], outs := [⟨false, (.int .i64), false⟩], F := fun x => R.laws_szEntry K x.1 x.2.1 }
noncomputable def Sg.c_laws_szEntry (K : Nat) : Fw.Cfg := { tab := Sg.tab, eqs := Sg.eqs, sig := [], inl := [], lo := [], K := K, jo := [], opn := [13, 38, 39, 47, 82, 83] }
def Sg.h_laws_szEntryS_0 : Fw.StSh := ⟨[(0, (.d (.sl (.pair .str (.int .i64))))), (1, (.d (.int .i64))), (4, (.d (.int .i64))), (5, (.d (.int .i64)))], [], 0, 27, ⟨0, []⟩⟩
def Sg.o_laws_szEntryS_0 : Fw.StSh := ⟨[(1, (.d (.int .i64))), (4, (.d (.int .i64)))], [], 0, 27, ⟨0, []⟩⟩
def Sg.r_laws_szEntryS_0 : Fw.StSh := ⟨[(4, (.d (.int .i64)))], [], 0, 27, ⟨0, []⟩⟩
noncomputable def Sg.p_laws_szEntryS_0 (K : Nat) : Fw.LSpec := { g := 68, b := 0, lv := 6, l0 := 0, li := 0, head := Sg.h_laws_szEntryS_0, post := Sg.o_laws_szEntryS_0, retn := Sg.r_laws_szEntryS_0, ex := 0, L := R.L_laws_szEntryS_0 K }
noncomputable def Sg.f_laws_szEntryS : Fw.PFn := Fw.PFn.get Try.f68
noncomputable def Sg.i_laws_szEntryS : List (Nat × Fw.PFn) := []
noncomputable def Sg.s_laws_szEntryS (K : Nat) : Fw.Sig := { ins := [.val false (.sl (.pair .str (.int .i64))), .val false (.int .i64)], outs := [⟨false, (.int .i64), false⟩], F := fun x => R.laws_szEntryS K x.1 x.2.1 }
noncomputable def Sg.c_laws_szEntryS (K : Nat) : Fw.Cfg := { tab := Sg.tab, eqs := Sg.eqs, sig := [(108, Sg.s_laws_szEntry K)], inl := [], lo := Sg.p_laws_szEntryS_0 K :: [], K := K, jo := [], opn := [13, 38, 39, 47, 82, 83] }
noncomputable def Sg.f_laws_szCommit : Fw.PFn := Fw.PFn.get Try.f31
noncomputable def Sg.i_laws_szCommit : List (Nat × Fw.PFn) := []
noncomputable def Sg.s_laws_szCommit (K : Nat) : Fw.Sig := { ins := [.val true (.pair (.sl (.int .i64)) (.sl (.pair .str (.int .i64)))), .val false (.int .i64)], outs := [⟨false, (.int .i64), false⟩], F := fun x => R.laws_szCommit K x.1 x.2.1 }
noncomputable def Sg.c_laws_szCommit (K : Nat) : Fw.Cfg := { tab := Sg.tab, eqs := Sg.eqs, sig := [(67, Sg.s_laws_szIntS K), (68, Sg.s_laws_szEntryS K)], inl := [], lo := [], K := K, jo := [], opn := [13, 38, 39, 47, 82, 83] }
def Sg.h_laws_szCommitS_0 : Fw.StSh := ⟨[(0, (.d (.sl (.pair (.sl (.int .i64)) (.sl (.pair .str (.int .i64))))))), (1, (.d (.int .i64))), (4, (.d (.int .i64))), (5, (.d (.int .i64)))], [], 0, 27, ⟨0, []⟩⟩
def Sg.o_laws_szCommitS_0 : Fw.StSh := ⟨[(1, (.d (.int .i64))), (4, (.d (.int .i64)))], [], 0, 27, ⟨0, []⟩⟩
def Sg.r_laws_szCommitS_0 : Fw.StSh := ⟨[(4, (.d (.int .i64)))], [], 0, 27, ⟨0, []⟩⟩
noncomputable def Sg.p_laws_szCommitS_0 (K : Nat) : Fw.LSpec := { g := 30, b := 0, lv := 6, l0 := 0, li := 0, head := Sg.h_laws_szCommitS_0, post := Sg.o_laws_szCommitS_0, retn := Sg.r_laws_szCommitS_0, ex := 0, L := R.L_laws_szCommitS_0 K }
noncomputable def Sg.f_laws_szCommitS : Fw.PFn := Fw.PFn.get Try.f30
noncomputable def Sg.i_laws_szCommitS : List (Nat × Fw.PFn) := []
noncomputable def Sg.s_laws_szCommitS (K : Nat) : Fw.Sig := { ins := [.val false (.sl (.pair (.sl (.int .i64)) (.sl (.pair .str (.int .i64))))), .val false (.int .i64)], outs := [⟨false, (.int .i64), false⟩], F := fun x => R.laws_szCommitS K x.1 x.2.1 }
noncomputable def Sg.c_laws_szCommitS (K : Nat) : Fw.Cfg := { tab := Sg.tab, eqs := Sg.eqs, sig := [(31, Sg.s_laws_szCommit K)], inl := [], lo := Sg.p_laws_szCommitS_0 K :: [], K := K, jo := [], opn := [13, 38, 39, 47, 82, 83] }
def Sg.h_laws_toIntS_0 : Fw.StSh := ⟨[(0, (.d (.sl (.int .i64)))), (2, (.row 0)), (3, (.row 1)), (4, (.d (.int .i64)))], [(0, (.row (.int .i64) true)), (1, (.row (.int .i64) true))], 2, 22, ⟨0, []⟩⟩
def Sg.o_laws_toIntS_0 : Fw.StSh := ⟨[(2, (.row 0)), (3, (.row 1))], [(0, (.row (.int .i64) true)), (1, (.row (.int .i64) true))], 2, 22, ⟨0, []⟩⟩
def Sg.r_laws_toIntS_0 : Fw.StSh := ⟨[], [], 2, 22, ⟨0, []⟩⟩
noncomputable def Sg.p_laws_toIntS_0 (K : Nat) : Fw.LSpec := { g := 73, b := 0, lv := 6, l0 := 0, li := 0, head := Sg.h_laws_toIntS_0, post := Sg.o_laws_toIntS_0, retn := Sg.r_laws_toIntS_0, ex := 0, L := R.L_laws_toIntS_0 K }
noncomputable def Sg.f_laws_toIntS : Fw.PFn := Fw.PFn.get Try.f73
noncomputable def Sg.i_laws_toIntS : List (Nat × Fw.PFn) := []
noncomputable def Sg.s_laws_toIntS (K : Nat) : Fw.Sig := { ins := [.val false (.sl (.int .i64))], outs := [⟨false, (.sl (.int .i64)), true⟩], F := fun x => R.laws_toIntS K x.1 }
noncomputable def Sg.c_laws_toIntS (K : Nat) : Fw.Cfg := { tab := Sg.tab, eqs := Sg.eqs, sig := [], inl := [], lo := Sg.p_laws_toIntS_0 K :: [], K := K, jo := [], opn := [13, 38, 39, 47, 82, 83] }
noncomputable def Sg.f_laws_toEntry : Fw.PFn := Fw.PFn.get Try.f110
noncomputable def Sg.i_laws_toEntry : List (Nat × Fw.PFn) := []
noncomputable def Sg.s_laws_toEntry (K : Nat) : Fw.Sig := { ins := [.val true (.pair .str (.int .i64))], outs := [⟨true, (.pair .str (.int .i64)), false⟩], F := fun x => R.laws_toEntry K x.1 }
noncomputable def Sg.c_laws_toEntry (K : Nat) : Fw.Cfg := { tab := Sg.tab, eqs := Sg.eqs, sig := [], inl := [], lo := [], K := K, jo := [], opn := [13, 38, 39, 47, 82, 83] }
def Sg.h_laws_toEntryS_0 : Fw.StSh := ⟨[(0, (.d (.sl (.pair .str (.int .i64))))), (2, (.row 0)), (3, (.row 1)), (4, (.d (.int .i64)))], [(0, (.row (.pair .str (.int .i64)) true)), (1, (.row (.pair .str (.int .i64)) true))], 2, 23, ⟨0, []⟩⟩
def Sg.o_laws_toEntryS_0 : Fw.StSh := ⟨[(2, (.row 0)), (3, (.row 1))], [(0, (.row (.pair .str (.int .i64)) true)), (1, (.row (.pair .str (.int .i64)) true))], 2, 23, ⟨0, []⟩⟩
def Sg.r_laws_toEntryS_0 : Fw.StSh := ⟨[], [], 2, 23, ⟨0, []⟩⟩
noncomputable def Sg.p_laws_toEntryS_0 (K : Nat) : Fw.LSpec := { g := 74, b := 0, lv := 6, l0 := 0, li := 0, head := Sg.h_laws_toEntryS_0, post := Sg.o_laws_toEntryS_0, retn := Sg.r_laws_toEntryS_0, ex := 0, L := R.L_laws_toEntryS_0 K }
noncomputable def Sg.f_laws_toEntryS : Fw.PFn := Fw.PFn.get Try.f74
noncomputable def Sg.i_laws_toEntryS : List (Nat × Fw.PFn) := []
noncomputable def Sg.s_laws_toEntryS (K : Nat) : Fw.Sig := { ins := [.val false (.sl (.pair .str (.int .i64)))], outs := [⟨false, (.sl (.pair .str (.int .i64))), true⟩], F := fun x => R.laws_toEntryS K x.1 }
noncomputable def Sg.c_laws_toEntryS (K : Nat) : Fw.Cfg := { tab := Sg.tab, eqs := Sg.eqs, sig := [(110, Sg.s_laws_toEntry K)], inl := [], lo := Sg.p_laws_toEntryS_0 K :: [], K := K, jo := [], opn := [13, 38, 39, 47, 82, 83] }
noncomputable def Sg.f_laws_toCommit : Fw.PFn := Fw.PFn.get Try.f34
noncomputable def Sg.i_laws_toCommit : List (Nat × Fw.PFn) := []
noncomputable def Sg.s_laws_toCommit (K : Nat) : Fw.Sig := { ins := [.val true (.pair (.sl (.int .i64)) (.sl (.pair .str (.int .i64))))], outs := [⟨true, (.pair (.sl (.int .i64)) (.sl (.pair .str (.int .i64)))), true⟩], F := fun x => R.laws_toCommit K x.1 }
noncomputable def Sg.c_laws_toCommit (K : Nat) : Fw.Cfg := { tab := Sg.tab, eqs := Sg.eqs, sig := [(73, Sg.s_laws_toIntS K), (74, Sg.s_laws_toEntryS K)], inl := [], lo := [], K := K, jo := [], opn := [13, 38, 39, 47, 82, 83] }
def Sg.h_laws_toCommitS_0 : Fw.StSh := ⟨[(0, (.d (.sl (.pair (.sl (.int .i64)) (.sl (.pair .str (.int .i64))))))), (2, (.row 0)), (3, (.row 1)), (4, (.d (.int .i64)))], [(0, (.row (.pair (.sl (.int .i64)) (.sl (.pair .str (.int .i64)))) true)), (1, (.row (.pair (.sl (.int .i64)) (.sl (.pair .str (.int .i64)))) true))], 2, 23, ⟨0, []⟩⟩
def Sg.o_laws_toCommitS_0 : Fw.StSh := ⟨[(2, (.row 0)), (3, (.row 1))], [(0, (.row (.pair (.sl (.int .i64)) (.sl (.pair .str (.int .i64)))) true)), (1, (.row (.pair (.sl (.int .i64)) (.sl (.pair .str (.int .i64)))) true))], 2, 23, ⟨0, []⟩⟩
def Sg.r_laws_toCommitS_0 : Fw.StSh := ⟨[], [], 2, 23, ⟨0, []⟩⟩
noncomputable def Sg.p_laws_toCommitS_0 (K : Nat) : Fw.LSpec := { g := 33, b := 0, lv := 6, l0 := 0, li := 0, head := Sg.h_laws_toCommitS_0, post := Sg.o_laws_toCommitS_0, retn := Sg.r_laws_toCommitS_0, ex := 0, L := R.L_laws_toCommitS_0 K }
noncomputable def Sg.f_laws_toCommitS : Fw.PFn := Fw.PFn.get Try.f33
noncomputable def Sg.i_laws_toCommitS : List (Nat × Fw.PFn) := []
noncomputable def Sg.s_laws_toCommitS (K : Nat) : Fw.Sig := { ins := [.val false (.sl (.pair (.sl (.int .i64)) (.sl (.pair .str (.int .i64)))))], outs := [⟨false, (.sl (.pair (.sl (.int .i64)) (.sl (.pair .str (.int .i64))))), true⟩], F := fun x => R.laws_toCommitS K x.1 }
noncomputable def Sg.c_laws_toCommitS (K : Nat) : Fw.Cfg := { tab := Sg.tab, eqs := Sg.eqs, sig := [(34, Sg.s_laws_toCommit K)], inl := [], lo := Sg.p_laws_toCommitS_0 K :: [], K := K, jo := [], opn := [13, 38, 39, 47, 82, 83] }
noncomputable def Sg.f_spec_l01In : Fw.PFn := Fw.PFn.get Try.f86
noncomputable def Sg.i_spec_l01In : List (Nat × Fw.PFn) := []
noncomputable def Sg.s_spec_l01In (K : Nat) : Fw.Sig := { ins := [.val false (.int .i64), .val false (.int .i64), .val false (.int .i64)], outs := [⟨false, .bool, false⟩], F := fun x => R.spec_l01In K x.1 x.2.1 x.2.2.1 }
noncomputable def Sg.c_spec_l01In (K : Nat) : Fw.Cfg := { tab := Sg.tab, eqs := Sg.eqs, sig := [], inl := [], lo := [], K := K, jo := [], opn := [13, 38, 39, 47, 82, 83] }
noncomputable def Sg.f_spec_l00Letter : Fw.PFn := Fw.PFn.get Try.f106
noncomputable def Sg.i_spec_l00Letter : List (Nat × Fw.PFn) := []
noncomputable def Sg.s_spec_l00Letter (K : Nat) : Fw.Sig := { ins := [.val false (.int .u8)], outs := [⟨false, .bool, false⟩], F := fun x => R.spec_l00Letter K x.1 }
noncomputable def Sg.c_spec_l00Letter (K : Nat) : Fw.Cfg := { tab := Sg.tab, eqs := Sg.eqs, sig := [], inl := [], lo := [], K := K, jo := [], opn := [13, 38, 39, 47, 82, 83] }
noncomputable def Sg.f_spec_l00Digit : Fw.PFn := Fw.PFn.get Try.f107
noncomputable def Sg.i_spec_l00Digit : List (Nat × Fw.PFn) := []
noncomputable def Sg.s_spec_l00Digit (K : Nat) : Fw.Sig := { ins := [.val false (.int .u8)], outs := [⟨false, .bool, false⟩], F := fun x => R.spec_l00Digit K x.1 }
noncomputable def Sg.c_spec_l00Digit (K : Nat) : Fw.Cfg := { tab := Sg.tab, eqs := Sg.eqs, sig := [], inl := [], lo := [], K := K, jo := [], opn := [13, 38, 39, 47, 82, 83] }
def Sg.h_spec_l00Word_0 : Fw.StSh := ⟨[(0, (.d .str)), (2, (.d .bool)), (3, (.d (.int .i64)))], [], 0, 36, ⟨0, []⟩⟩
def Sg.o_spec_l00Word_0 : Fw.StSh := ⟨[(2, (.d .bool))], [], 0, 36, ⟨0, []⟩⟩
def Sg.r_spec_l00Word_0 : Fw.StSh := ⟨[(2, (.d .bool))], [], 0, 36, ⟨0, []⟩⟩
noncomputable def Sg.p_spec_l00Word_0 (K : Nat) : Fw.LSpec := { g := 65, b := 0, lv := 6, l0 := 0, li := 0, head := Sg.h_spec_l00Word_0, post := Sg.o_spec_l00Word_0, retn := Sg.r_spec_l00Word_0, ex := 0, L := R.L_spec_l00Word_0 K }
noncomputable def Sg.f_spec_l00Word : Fw.PFn := Fw.PFn.get Try.f65
noncomputable def Sg.i_spec_l00Word : List (Nat × Fw.PFn) := []
noncomputable def Sg.s_spec_l00Word (K : Nat) : Fw.Sig := { ins := [.val false .str], outs := [⟨false, .bool, false⟩], F := fun x => R.spec_l00Word K x.1 }
noncomputable def Sg.c_spec_l00Word (K : Nat) : Fw.Cfg := { tab := Sg.tab, eqs := Sg.eqs, sig := [(106, Sg.s_spec_l00Letter K), (107, Sg.s_spec_l00Digit K)], inl := [], lo := Sg.p_spec_l00Word_0 K :: [], K := K, jo := [], opn := [13, 38, 39, 47, 82, 83] }
def Sg.h_spec_l01OK_0 : Fw.StSh := ⟨[(0, (.d (.sl (.pair .str (.int .i64))))), (2, (.d .bool)), (3, (.d (.int .i64)))], [], 0, 47, ⟨0, []⟩⟩
def Sg.o_spec_l01OK_0 : Fw.StSh := ⟨[(2, (.d .bool))], [], 0, 47, ⟨0, []⟩⟩
def Sg.r_spec_l01OK_0 : Fw.StSh := ⟨[(2, (.d .bool))], [], 0, 47, ⟨0, []⟩⟩
noncomputable def Sg.p_spec_l01OK_0 (K : Nat) : Fw.LSpec := { g := 109, b := 0, lv := 6, l0 := 0, li := 0, head := Sg.h_spec_l01OK_0, post := Sg.o_spec_l01OK_0, retn := Sg.r_spec_l01OK_0, ex := 0, L := R.L_spec_l01OK_0 K }
noncomputable def Sg.f_spec_l01OK : Fw.PFn := Fw.PFn.get Try.f109
noncomputable def Sg.i_spec_l01OK : List (Nat × Fw.PFn) := []
noncomputable def Sg.s_spec_l01OK (K : Nat) : Fw.Sig := { ins := [.val false (.sl (.pair .str (.int .i64)))], outs := [⟨false, .bool, false⟩], F := fun x => R.spec_l01OK K x.1 }
noncomputable def Sg.c_spec_l01OK (K : Nat) : Fw.Cfg := { tab := Sg.tab, eqs := Sg.eqs, sig := [(86, Sg.s_spec_l01In K), (65, Sg.s_spec_l00Word K)], inl := [], lo := Sg.p_spec_l01OK_0 K :: [], K := K, jo := ⟨109, 0, 6, 0, 6, none⟩ :: [], opn := [13, 38, 39, 47, 82, 83] }
def Sg.h_spec_l03Commit_0 : Fw.StSh := ⟨[(0, (.d (.sl (.pair (.sl (.int .i64)) (.sl (.pair .str (.int .i64))))))), (3, (.ref 0 0)), (4, (.d .bool)), (5, (.d (.int .i64))), (6, (.d (.int .i64)))], [(0, (.box [(.d (.sl (.int .i64))), (.d (.sl (.pair .str (.int .i64))))]))], 1, 56, ⟨0, []⟩⟩
def Sg.o_spec_l03Commit_0 : Fw.StSh := ⟨[(4, (.d .bool))], [], 1, 56, ⟨0, []⟩⟩
def Sg.r_spec_l03Commit_0 : Fw.StSh := ⟨[(4, (.d .bool))], [], 1, 56, ⟨0, []⟩⟩
noncomputable def Sg.p_spec_l03Commit_0 (K : Nat) : Fw.LSpec := { g := 70, b := 0, lv := 6, l0 := 0, li := 0, head := Sg.h_spec_l03Commit_0, post := Sg.o_spec_l03Commit_0, retn := Sg.r_spec_l03Commit_0, ex := 0, L := R.L_spec_l03Commit_0 K }
noncomputable def Sg.f_spec_l03Commit : Fw.PFn := Fw.PFn.get Try.f70
noncomputable def Sg.i_spec_l03Commit : List (Nat × Fw.PFn) := []
noncomputable def Sg.s_spec_l03Commit (K : Nat) : Fw.Sig := { ins := [.val false (.sl (.pair (.sl (.int .i64)) (.sl (.pair .str (.int .i64))))), .val true (.pair (.sl (.int .i64)) (.sl (.pair .str (.int .i64))))], outs := [⟨false, .bool, false⟩], F := fun x => R.spec_l03Commit K x.1 x.2.1 }
noncomputable def Sg.c_spec_l03Commit (K : Nat) : Fw.Cfg := { tab := Sg.tab, eqs := Sg.eqs, sig := [(86, Sg.s_spec_l01In K), (109, Sg.s_spec_l01OK K)], inl := [], lo := Sg.p_spec_l03Commit_0 K :: [], K := K, jo := ⟨70, 0, 6, 0, 7, none⟩ :: [], opn := [13, 38, 39, 47, 82, 83] }
def Sg.h_spec_l03OK_0 : Fw.StSh := ⟨[(0, (.d (.sl (.pair (.sl (.int .i64)) (.sl (.pair .str (.int .i64))))))), (2, (.d .bool)), (3, (.d (.int .i64)))], [], 0, 23, ⟨0, []⟩⟩
def Sg.o_spec_l03OK_0 : Fw.StSh := ⟨[(2, (.d .bool))], [], 0, 23, ⟨0, []⟩⟩
def Sg.r_spec_l03OK_0 : Fw.StSh := ⟨[(2, (.d .bool))], [], 0, 23, ⟨0, []⟩⟩
noncomputable def Sg.p_spec_l03OK_0 (K : Nat) : Fw.LSpec := { g := 69, b := 0, lv := 6, l0 := 0, li := 0, head := Sg.h_spec_l03OK_0, post := Sg.o_spec_l03OK_0, retn := Sg.r_spec_l03OK_0, ex := 0, L := R.L_spec_l03OK_0 K }
noncomputable def Sg.f_spec_l03OK : Fw.PFn := Fw.PFn.get Try.f69
noncomputable def Sg.i_spec_l03OK : List (Nat × Fw.PFn) := []
noncomputable def Sg.s_spec_l03OK (K : Nat) : Fw.Sig := { ins := [.val false (.sl (.pair (.sl (.int .i64)) (.sl (.pair .str (.int .i64)))))], outs := [⟨false, .bool, false⟩], F := fun x => R.spec_l03OK K x.1 }
noncomputable def Sg.c_spec_l03OK (K : Nat) : Fw.Cfg := { tab := Sg.tab, eqs := Sg.eqs, sig := [(86, Sg.s_spec_l01In K), (70, Sg.s_spec_l03Commit K)], inl := [], lo := Sg.p_spec_l03OK_0 K :: [], K := K, jo := ⟨69, 0, 6, 0, 6, none⟩ :: [], opn := [13, 38, 39, 47, 82, 83] }
def Sg.j_spec_l03Own_0 : Fw.StSh := ⟨[(2, (.ref 3 0))], [(3, (.box [(.row 4), (.row 5)])), (4, (.row (.int .i64) true)), (5, (.row (.pair .str (.int .i64)) true))], 6, 12, ⟨0, []⟩⟩
noncomputable def Sg.f_spec_l03Own : Fw.PFn := Fw.PFn.get Try.f72
noncomputable def Sg.i_spec_l03Own : List (Nat × Fw.PFn) := []
noncomputable def Sg.s_spec_l03Own (K : Nat) : Fw.Sig := { ins := [.val true (.pair (.sl (.int .i64)) (.sl (.pair .str (.int .i64))))], outs := [⟨true, (.pair (.sl (.int .i64)) (.sl (.pair .str (.int .i64)))), true⟩], F := fun x => R.spec_l03Own K x.1 }
noncomputable def Sg.c_spec_l03Own (K : Nat) : Fw.Cfg := { tab := Sg.tab, eqs := Sg.eqs, sig := [], inl := [], lo := [], K := K, jo := ⟨72, 0, 6, 0, 1, some Sg.j_spec_l03Own_0⟩ :: [], opn := [13, 38, 39, 47, 82, 83] }
def Sg.h_spec_l03Copy_0 : Fw.StSh := ⟨[(0, (.d (.sl (.pair (.sl (.int .i64)) (.sl (.pair .str (.int .i64))))))), (2, (.row 0)), (3, (.row 1)), (4, (.d (.int .i64)))], [(0, (.row (.pair (.sl (.int .i64)) (.sl (.pair .str (.int .i64)))) true)), (1, (.row (.pair (.sl (.int .i64)) (.sl (.pair .str (.int .i64)))) true))], 2, 21, ⟨0, []⟩⟩
def Sg.o_spec_l03Copy_0 : Fw.StSh := ⟨[(2, (.row 0)), (3, (.row 1))], [(0, (.row (.pair (.sl (.int .i64)) (.sl (.pair .str (.int .i64)))) true)), (1, (.row (.pair (.sl (.int .i64)) (.sl (.pair .str (.int .i64)))) true))], 2, 21, ⟨0, []⟩⟩
def Sg.r_spec_l03Copy_0 : Fw.StSh := ⟨[], [], 2, 21, ⟨0, []⟩⟩
noncomputable def Sg.p_spec_l03Copy_0 (K : Nat) : Fw.LSpec := { g := 71, b := 0, lv := 6, l0 := 0, li := 0, head := Sg.h_spec_l03Copy_0, post := Sg.o_spec_l03Copy_0, retn := Sg.r_spec_l03Copy_0, ex := 0, L := R.L_spec_l03Copy_0 K }
noncomputable def Sg.f_spec_l03Copy : Fw.PFn := Fw.PFn.get Try.f71
noncomputable def Sg.i_spec_l03Copy : List (Nat × Fw.PFn) := []
noncomputable def Sg.s_spec_l03Copy (K : Nat) : Fw.Sig := { ins := [.val false (.sl (.pair (.sl (.int .i64)) (.sl (.pair .str (.int .i64)))))], outs := [⟨false, (.sl (.pair (.sl (.int .i64)) (.sl (.pair .str (.int .i64))))), true⟩], F := fun x => R.spec_l03Copy K x.1 }
noncomputable def Sg.c_spec_l03Copy (K : Nat) : Fw.Cfg := { tab := Sg.tab, eqs := Sg.eqs, sig := [(72, Sg.s_spec_l03Own K)], inl := [], lo := Sg.p_spec_l03Copy_0 K :: [], K := K, jo := [], opn := [13, 38, 39, 47, 82, 83] }
noncomputable def Sg.f_spec_AddCommit : Fw.PFn := Fw.PFn.get Try.f32
noncomputable def Sg.i_spec_AddCommit : List (Nat × Fw.PFn) := []
noncomputable def Sg.s_spec_AddCommit (K : Nat) : Fw.Sig := { ins := [.val false (.sl (.pair (.sl (.int .i64)) (.sl (.pair .str (.int .i64))))), .val true (.pair (.sl (.int .i64)) (.sl (.pair .str (.int .i64))))], outs := [⟨false, (.sl (.pair (.sl (.int .i64)) (.sl (.pair .str (.int .i64))))), true⟩, ⟨false, (.int .i64), false⟩, ⟨false, (.int .i64), false⟩], F := fun x => R.spec_AddCommit K x.1 x.2.1 }
noncomputable def Sg.c_spec_AddCommit (K : Nat) : Fw.Cfg := { tab := Sg.tab, eqs := Sg.eqs, sig := [(70, Sg.s_spec_l03Commit K), (69, Sg.s_spec_l03OK K), (72, Sg.s_spec_l03Own K), (71, Sg.s_spec_l03Copy K)], inl := [], lo := [], K := K, jo := ⟨32, 0, 6, 0, 7, none⟩ :: [], opn := [13, 38, 39, 47, 82, 83] }
noncomputable def Sg.f_impl_isList_impl_Commit : Fw.PFn := Fw.PFn.get Try.f75
noncomputable def Sg.i_impl_isList_impl_Commit : List (Nat × Fw.PFn) := []
noncomputable def Sg.s_impl_isList_impl_Commit (K : Nat) : Fw.Sig := { ins := [.val false (.sl (.pair (.sl (.int .i64)) (.sl (.pair .str (.int .i64)))))], outs := [⟨false, .bool, false⟩], F := fun x => R.impl_isList_impl_Commit K x.1 }
noncomputable def Sg.c_impl_isList_impl_Commit (K : Nat) : Fw.Cfg := { tab := Sg.tab, eqs := Sg.eqs, sig := [], inl := [], lo := [], K := K, jo := [], opn := [13, 38, 39, 47, 82, 83] }
noncomputable def Sg.f_impl_within : Fw.PFn := Fw.PFn.get Try.f57
noncomputable def Sg.i_impl_within : List (Nat × Fw.PFn) := []
noncomputable def Sg.s_impl_within (K : Nat) : Fw.Sig := { ins := [.val false (.int .i64), .val false (.int .i64), .val false (.int .i64)], outs := [⟨false, .bool, false⟩], F := fun x => R.impl_within K x.1 x.2.1 x.2.2.1 }
noncomputable def Sg.c_impl_within (K : Nat) : Fw.Cfg := { tab := Sg.tab, eqs := Sg.eqs, sig := [], inl := [], lo := [], K := K, jo := [], opn := [13, 38, 39, 47, 82, 83] }
noncomputable def Sg.f_impl_isLetter : Fw.PFn := Fw.PFn.get Try.f95
noncomputable def Sg.i_impl_isLetter : List (Nat × Fw.PFn) := []
noncomputable def Sg.s_impl_isLetter (K : Nat) : Fw.Sig := { ins := [.val false (.int .u8)], outs := [⟨false, .bool, false⟩], F := fun x => R.impl_isLetter K x.1 }
noncomputable def Sg.c_impl_isLetter (K : Nat) : Fw.Cfg := { tab := Sg.tab, eqs := Sg.eqs, sig := [], inl := [], lo := [], K := K, jo := [], opn := [13, 38, 39, 47, 82, 83] }
noncomputable def Sg.f_impl_areAll_byte_1 : Fw.PFn := Fw.PFn.get Try.f120
noncomputable def Sg.f_slices_IndexFunc_byte : Fw.PFn := Fw.PFn.get Try.f128
noncomputable def Sg.f_slices_ContainsFunc_byte : Fw.PFn := Fw.PFn.get Try.f119
noncomputable def Sg.f_impl_areAll_byte : Fw.PFn := Fw.PFn.get Try.f96
noncomputable def Sg.f_impl_isDigit : Fw.PFn := Fw.PFn.get Try.f98
noncomputable def Sg.i_impl_isDigit : List (Nat × Fw.PFn) := []
noncomputable def Sg.s_impl_isDigit (K : Nat) : Fw.Sig := { ins := [.val false (.int .u8)], outs := [⟨false, .bool, false⟩], F := fun x => R.impl_isDigit K x.1 }
noncomputable def Sg.c_impl_isDigit (K : Nat) : Fw.Cfg := { tab := Sg.tab, eqs := Sg.eqs, sig := [], inl := [], lo := [], K := K, jo := [], opn := [13, 38, 39, 47, 82, 83] }
noncomputable def Sg.f_impl_NameOK_1 : Fw.PFn := Fw.PFn.get Try.f97
noncomputable def Sg.i_impl_NameOK_1 : List (Nat × Fw.PFn) := []
noncomputable def Sg.s_impl_NameOK_1 (K : Nat) : Fw.Sig := { ins := [.val false (.int .u8)], outs := [⟨false, .bool, false⟩], F := fun x => R.impl_NameOK_1 K x.1 }
noncomputable def Sg.c_impl_NameOK_1 (K : Nat) : Fw.Cfg := { tab := Sg.tab, eqs := Sg.eqs, sig := [(95, Sg.s_impl_isLetter K), (98, Sg.s_impl_isDigit K)], inl := [], lo := [], K := K, jo := [], opn := [13, 38, 39, 47, 82, 83] }
def Sg.h_impl_areAll_byte__impl_NameOK_1_0 : Fw.StSh := ⟨[(0, (.d (.sl (.int .u8)))), (1, (.fn 97 [])), (3, (.ref 0 0)), (4, (.d .bool)), (5, (.d (.sl (.int .u8)))), (6, (.fn 120 [(.ref 0 0)])), (9, (.d (.sl (.int .u8)))), (10, (.fn 120 [(.ref 0 0)])), (13, (.d .bool)), (14, (.d (.sl (.int .u8)))), (15, (.fn 120 [(.ref 0 0)])), (18, (.d (.sl (.int .u8)))), (19, (.fn 120 [(.ref 0 0)])), (22, (.d (.int .i64))), (25, (.d (.int .i64))), (26, (.d (.int .i64)))], [(0, (.box [(.fn 97 [])]))], 1, 37, ⟨0, []⟩⟩
def Sg.o_impl_areAll_byte__impl_NameOK_1_0 : Fw.StSh := ⟨[(0, (.d (.sl (.int .u8)))), (1, (.fn 97 [])), (3, (.ref 0 0)), (4, (.d .bool)), (5, (.d (.sl (.int .u8)))), (6, (.fn 120 [(.ref 0 0)])), (9, (.d (.sl (.int .u8)))), (10, (.fn 120 [(.ref 0 0)])), (13, (.d .bool)), (14, (.d (.sl (.int .u8)))), (15, (.fn 120 [(.ref 0 0)])), (22, (.d (.int .i64)))], [(0, (.box [(.fn 97 [])]))], 1, 37, ⟨0, []⟩⟩
def Sg.r_impl_areAll_byte__impl_NameOK_1_0 : Fw.StSh := ⟨[(0, (.d (.sl (.int .u8)))), (1, (.fn 97 [])), (3, (.ref 0 0)), (4, (.d .bool)), (5, (.d (.sl (.int .u8)))), (6, (.fn 120 [(.ref 0 0)])), (9, (.d (.sl (.int .u8)))), (10, (.fn 120 [(.ref 0 0)])), (13, (.d .bool)), (14, (.d (.sl (.int .u8)))), (15, (.fn 120 [(.ref 0 0)])), (22, (.d (.int .i64)))], [(0, (.box [(.fn 97 [])]))], 1, 45, ⟨0, []⟩⟩
noncomputable def Sg.p_impl_areAll_byte__impl_NameOK_1_0 (K : Nat) : Fw.LSpec := { g := 128, b := 18, lv := 4, l0 := 1, li := 0, head := Sg.h_impl_areAll_byte__impl_NameOK_1_0, post := Sg.o_impl_areAll_byte__impl_NameOK_1_0, retn := Sg.r_impl_areAll_byte__impl_NameOK_1_0, ex := 0, L := R.L_impl_areAll_byte__impl_NameOK_1_0 K }
noncomputable def Sg.i_impl_areAll_byte__impl_NameOK_1 : List (Nat × Fw.PFn) := [(120, Sg.f_impl_areAll_byte_1), (128, Sg.f_slices_IndexFunc_byte), (119, Sg.f_slices_ContainsFunc_byte)]
noncomputable def Sg.s_impl_areAll_byte__impl_NameOK_1 (K : Nat) : Fw.Sig := { ins := [.val false (.sl (.int .u8)), .fn 97 []], outs := [⟨false, .bool, false⟩], F := fun x => R.impl_areAll_byte__impl_NameOK_1 K x.1 }
noncomputable def Sg.c_impl_areAll_byte__impl_NameOK_1 (K : Nat) : Fw.Cfg := { tab := Sg.tab, eqs := Sg.eqs, sig := [(97, Sg.s_impl_NameOK_1 K)], inl := [(120, Try.f120), (128, Try.f128), (119, Try.f119)], lo := Sg.p_impl_areAll_byte__impl_NameOK_1_0 K :: [], K := K, jo := [], opn := [13, 38, 39, 47, 82, 83] }
noncomputable def Sg.f_impl_NameOK : Fw.PFn := Fw.PFn.get Try.f56
noncomputable def Sg.i_impl_NameOK : List (Nat × Fw.PFn) := [(120, Sg.f_impl_areAll_byte_1), (128, Sg.f_slices_IndexFunc_byte), (119, Sg.f_slices_ContainsFunc_byte), (96, Sg.f_impl_areAll_byte)]
noncomputable def Sg.s_impl_NameOK (K : Nat) : Fw.Sig := { ins := [.val false .str], outs := [⟨false, .bool, false⟩], F := fun x => R.impl_NameOK K x.1 }
noncomputable def Sg.c_impl_NameOK (K : Nat) : Fw.Cfg := { tab := Sg.tab, eqs := Sg.eqs, sig := [(57, Sg.s_impl_within K), (95, Sg.s_impl_isLetter K), (97, Sg.s_impl_NameOK_1 K), (96, Sg.s_impl_areAll_byte__impl_NameOK_1 K)], inl := [(120, Try.f120), (128, Try.f128), (119, Try.f119), (96, Try.f96)], lo := [], K := K, jo := [], opn := [13, 38, 39, 47, 82, 83] }
noncomputable def Sg.f_impl_isValue : Fw.PFn := Fw.PFn.get Try.f125
noncomputable def Sg.i_impl_isValue : List (Nat × Fw.PFn) := []
noncomputable def Sg.s_impl_isValue (K : Nat) : Fw.Sig := { ins := [.val false (.int .i64)], outs := [⟨false, .bool, false⟩], F := fun x => R.impl_isValue K x.1 }
noncomputable def Sg.c_impl_isValue (K : Nat) : Fw.Cfg := { tab := Sg.tab, eqs := Sg.eqs, sig := [(57, Sg.s_impl_within K)], inl := [], lo := [], K := K, jo := [], opn := [13, 38, 39, 47, 82, 83] }
def Sg.h_impl_MapOK_0 : Fw.StSh := ⟨[(0, (.d (.sl (.pair .str (.int .i64))))), (2, (.d .bool)), (5, (.d (.sl (.pair .str (.int .i64))))), (6, (.d (.int .i64))), (7, (.d (.int .i64)))], [], 0, 41, ⟨0, []⟩⟩
def Sg.o_impl_MapOK_0 : Fw.StSh := ⟨[(0, (.d (.sl (.pair .str (.int .i64))))), (2, (.d .bool))], [], 0, 41, ⟨0, []⟩⟩
def Sg.r_impl_MapOK_0 : Fw.StSh := ⟨[(2, (.d .bool))], [], 1, 41, ⟨0, []⟩⟩
noncomputable def Sg.p_impl_MapOK_0 (K : Nat) : Fw.LSpec := { g := 111, b := 0, lv := 6, l0 := 0, li := 0, head := Sg.h_impl_MapOK_0, post := Sg.o_impl_MapOK_0, retn := Sg.r_impl_MapOK_0, ex := 0, L := R.L_impl_MapOK_0 K }
noncomputable def Sg.f_impl_MapOK : Fw.PFn := Fw.PFn.get Try.f111
noncomputable def Sg.i_impl_MapOK : List (Nat × Fw.PFn) := []
noncomputable def Sg.s_impl_MapOK (K : Nat) : Fw.Sig := { ins := [.val false (.sl (.pair .str (.int .i64)))], outs := [⟨false, .bool, false⟩], F := fun x => R.impl_MapOK K x.1 }
noncomputable def Sg.c_impl_MapOK (K : Nat) : Fw.Cfg := { tab := Sg.tab, eqs := Sg.eqs, sig := [(56, Sg.s_impl_NameOK K), (125, Sg.s_impl_isValue K)], inl := [], lo := Sg.p_impl_MapOK_0 K :: [], K := K, jo := ⟨111, 0, 6, 0, 4, none⟩ :: [], opn := [13, 38, 39, 47, 82, 83] }
noncomputable def Sg.f_impl_Commit_isAt_1 : Fw.PFn := Fw.PFn.get Try.f113
noncomputable def Sg.f_impl_areAll_int_1 : Fw.PFn := Fw.PFn.get Try.f127
noncomputable def Sg.f_slices_IndexFunc_int : Fw.PFn := Fw.PFn.get Try.f131
noncomputable def Sg.f_slices_ContainsFunc_int : Fw.PFn := Fw.PFn.get Try.f126
noncomputable def Sg.f_impl_areAll_int : Fw.PFn := Fw.PFn.get Try.f112
def Sg.h_impl_areAll_int__impl_Commit_isAt_1_0 : Fw.StSh := ⟨[(0, (.d (.sl (.int .i64)))), (1, (.fn 113 [(.dref (.int .i64) 0)])), (3, (.ref 0 0)), (4, (.d .bool)), (5, (.d (.sl (.int .i64)))), (6, (.fn 127 [(.ref 0 0)])), (9, (.d (.sl (.int .i64)))), (10, (.fn 127 [(.ref 0 0)])), (13, (.d .bool)), (14, (.d (.sl (.int .i64)))), (15, (.fn 127 [(.ref 0 0)])), (18, (.d (.sl (.int .i64)))), (19, (.fn 127 [(.ref 0 0)])), (22, (.d (.int .i64))), (25, (.d (.int .i64))), (26, (.d (.int .i64)))], [(0, (.box [(.fn 113 [(.dref (.int .i64) 0)])]))], 1, 37, ⟨0, []⟩⟩
def Sg.o_impl_areAll_int__impl_Commit_isAt_1_0 : Fw.StSh := ⟨[(0, (.d (.sl (.int .i64)))), (1, (.fn 113 [(.dref (.int .i64) 0)])), (3, (.ref 0 0)), (4, (.d .bool)), (5, (.d (.sl (.int .i64)))), (6, (.fn 127 [(.ref 0 0)])), (9, (.d (.sl (.int .i64)))), (10, (.fn 127 [(.ref 0 0)])), (13, (.d .bool)), (14, (.d (.sl (.int .i64)))), (15, (.fn 127 [(.ref 0 0)])), (22, (.d (.int .i64)))], [(0, (.box [(.fn 113 [(.dref (.int .i64) 0)])]))], 1, 37, ⟨0, []⟩⟩
def Sg.r_impl_areAll_int__impl_Commit_isAt_1_0 : Fw.StSh := ⟨[(0, (.d (.sl (.int .i64)))), (1, (.fn 113 [(.dref (.int .i64) 0)])), (3, (.ref 0 0)), (4, (.d .bool)), (5, (.d (.sl (.int .i64)))), (6, (.fn 127 [(.ref 0 0)])), (9, (.d (.sl (.int .i64)))), (10, (.fn 127 [(.ref 0 0)])), (13, (.d .bool)), (14, (.d (.sl (.int .i64)))), (15, (.fn 127 [(.ref 0 0)])), (22, (.d (.int .i64)))], [(0, (.box [(.fn 113 [(.dref (.int .i64) 0)])]))], 1, 53, ⟨0, []⟩⟩
noncomputable def Sg.p_impl_areAll_int__impl_Commit_isAt_1_0 (K : Nat) : Fw.LSpec := { g := 131, b := 18, lv := 4, l0 := 1, li := 0, head := Sg.h_impl_areAll_int__impl_Commit_isAt_1_0, post := Sg.o_impl_areAll_int__impl_Commit_isAt_1_0, retn := Sg.r_impl_areAll_int__impl_Commit_isAt_1_0, ex := 0, L := R.L_impl_areAll_int__impl_Commit_isAt_1_0 K }
noncomputable def Sg.i_impl_areAll_int__impl_Commit_isAt_1 : List (Nat × Fw.PFn) := [(113, Sg.f_impl_Commit_isAt_1), (127, Sg.f_impl_areAll_int_1), (131, Sg.f_slices_IndexFunc_int), (126, Sg.f_slices_ContainsFunc_int)]
noncomputable def Sg.s_impl_areAll_int__impl_Commit_isAt_1 (K : Nat) : Fw.Sig := { ins := [.val false (.sl (.int .i64)), .fn 113 [(.int .i64)]], outs := [⟨false, .bool, false⟩], F := fun x => R.impl_areAll_int__impl_Commit_isAt_1 K x.1 x.2.1.1 }
noncomputable def Sg.c_impl_areAll_int__impl_Commit_isAt_1 (K : Nat) : Fw.Cfg := { tab := Sg.tab, eqs := Sg.eqs, sig := [(57, Sg.s_impl_within K)], inl := [(113, Try.f113), (127, Try.f127), (131, Try.f131), (126, Try.f126)], lo := Sg.p_impl_areAll_int__impl_Commit_isAt_1_0 K :: [], K := K, jo := [], opn := [13, 38, 39, 47, 82, 83] }
noncomputable def Sg.f_impl_Commit_isAt : Fw.PFn := Fw.PFn.get Try.f77
noncomputable def Sg.i_impl_Commit_isAt : List (Nat × Fw.PFn) := [(113, Sg.f_impl_Commit_isAt_1), (127, Sg.f_impl_areAll_int_1), (131, Sg.f_slices_IndexFunc_int), (126, Sg.f_slices_ContainsFunc_int), (112, Sg.f_impl_areAll_int)]
noncomputable def Sg.s_impl_Commit_isAt (K : Nat) : Fw.Sig := { ins := [.val true (.pair (.sl (.int .i64)) (.sl (.pair .str (.int .i64)))), .val false (.int .i64)], outs := [⟨false, .bool, false⟩], F := fun x => R.impl_Commit_isAt K x.1 x.2.1 }
noncomputable def Sg.c_impl_Commit_isAt (K : Nat) : Fw.Cfg := { tab := Sg.tab, eqs := Sg.eqs, sig := [(57, Sg.s_impl_within K), (111, Sg.s_impl_MapOK K), (112, Sg.s_impl_areAll_int__impl_Commit_isAt_1 K)], inl := [(113, Try.f113), (127, Try.f127), (131, Try.f131), (126, Try.f126), (112, Try.f112)], lo := [], K := K, jo := ⟨77, 0, 6, 0, 2, none⟩ :: [], opn := [13, 38, 39, 47, 82, 83] }
def Sg.h_impl_areCommits_0 : Fw.StSh := ⟨[(0, (.d (.sl (.pair (.sl (.int .i64)) (.sl (.pair .str (.int .i64))))))), (2, (.d .bool)), (5, (.d (.sl (.pair (.sl (.int .i64)) (.sl (.pair .str (.int .i64))))))), (6, (.d (.int .i64))), (7, (.d (.int .i64)))], [], 0, 21, ⟨0, []⟩⟩
def Sg.o_impl_areCommits_0 : Fw.StSh := ⟨[(0, (.d (.sl (.pair (.sl (.int .i64)) (.sl (.pair .str (.int .i64))))))), (2, (.d .bool))], [], 0, 21, ⟨0, []⟩⟩
def Sg.r_impl_areCommits_0 : Fw.StSh := ⟨[(2, (.d .bool))], [], 3, 21, ⟨0, []⟩⟩
noncomputable def Sg.p_impl_areCommits_0 (K : Nat) : Fw.LSpec := { g := 76, b := 0, lv := 6, l0 := 0, li := 0, head := Sg.h_impl_areCommits_0, post := Sg.o_impl_areCommits_0, retn := Sg.r_impl_areCommits_0, ex := 0, L := R.L_impl_areCommits_0 K }
noncomputable def Sg.f_impl_areCommits : Fw.PFn := Fw.PFn.get Try.f76
noncomputable def Sg.i_impl_areCommits : List (Nat × Fw.PFn) := []
noncomputable def Sg.s_impl_areCommits (K : Nat) : Fw.Sig := { ins := [.val false (.sl (.pair (.sl (.int .i64)) (.sl (.pair .str (.int .i64)))))], outs := [⟨false, .bool, false⟩], F := fun x => R.impl_areCommits K x.1 }
noncomputable def Sg.c_impl_areCommits (K : Nat) : Fw.Cfg := { tab := Sg.tab, eqs := Sg.eqs, sig := [(77, Sg.s_impl_Commit_isAt K)], inl := [], lo := Sg.p_impl_areCommits_0 K :: [], K := K, jo := [], opn := [13, 38, 39, 47, 82, 83] }
noncomputable def Sg.f_slices_Clone_int : Fw.PFn := Fw.PFn.get Try.f114
noncomputable def Sg.i_slices_Clone_int : List (Nat × Fw.PFn) := []
noncomputable def Sg.s_slices_Clone_int (K : Nat) : Fw.Sig := { ins := [.val false (.sl (.int .i64))], outs := [⟨false, (.sl (.int .i64)), true⟩], F := fun x => R.slices_Clone_int K x.1 }
noncomputable def Sg.c_slices_Clone_int (K : Nat) : Fw.Cfg := { tab := Sg.tab, eqs := Sg.eqs, sig := [], inl := [], lo := [], K := K, jo := [], opn := [13, 38, 39, 47, 82, 83] }
noncomputable def Sg.f_slices_Clone_impl_Entry : Fw.PFn := Fw.PFn.get Try.f115
noncomputable def Sg.i_slices_Clone_impl_Entry : List (Nat × Fw.PFn) := []
noncomputable def Sg.s_slices_Clone_impl_Entry (K : Nat) : Fw.Sig := { ins := [.val false (.sl (.pair .str (.int .i64)))], outs := [⟨false, (.sl (.pair .str (.int .i64))), true⟩], F := fun x => R.slices_Clone_impl_Entry K x.1 }
noncomputable def Sg.c_slices_Clone_impl_Entry (K : Nat) : Fw.Cfg := { tab := Sg.tab, eqs := Sg.eqs, sig := [], inl := [], lo := [], K := K, jo := [], opn := [13, 38, 39, 47, 82, 83] }
noncomputable def Sg.f_impl_Commit_own : Fw.PFn := Fw.PFn.get Try.f79
noncomputable def Sg.i_impl_Commit_own : List (Nat × Fw.PFn) := []
noncomputable def Sg.s_impl_Commit_own (K : Nat) : Fw.Sig := { ins := [.val true (.pair (.sl (.int .i64)) (.sl (.pair .str (.int .i64))))], outs := [⟨true, (.pair (.sl (.int .i64)) (.sl (.pair .str (.int .i64)))), true⟩], F := fun x => R.impl_Commit_own K x.1 }
noncomputable def Sg.c_impl_Commit_own (K : Nat) : Fw.Cfg := { tab := Sg.tab, eqs := Sg.eqs, sig := [(114, Sg.s_slices_Clone_int K), (115, Sg.s_slices_Clone_impl_Entry K)], inl := [], lo := [], K := K, jo := ⟨79, 0, 6, 0, 1, none⟩ :: [], opn := [13, 38, 39, 47, 82, 83] }
def Sg.h_impl_ownStore_0 : Fw.StSh := ⟨[(2, (.row 0)), (3, (.row 1)), (6, (.d (.sl (.pair (.sl (.int .i64)) (.sl (.pair .str (.int .i64))))))), (7, (.d (.int .i64))), (8, (.d (.int .i64)))], [(0, (.row (.pair (.sl (.int .i64)) (.sl (.pair .str (.int .i64)))) true)), (1, (.row (.pair (.sl (.int .i64)) (.sl (.pair .str (.int .i64)))) true))], 2, 19, ⟨0, []⟩⟩
def Sg.o_impl_ownStore_0 : Fw.StSh := ⟨[(2, (.row 0)), (3, (.row 1))], [(0, (.row (.pair (.sl (.int .i64)) (.sl (.pair .str (.int .i64)))) true)), (1, (.row (.pair (.sl (.int .i64)) (.sl (.pair .str (.int .i64)))) true))], 2, 19, ⟨0, []⟩⟩
def Sg.r_impl_ownStore_0 : Fw.StSh := ⟨[], [], 2, 19, ⟨0, []⟩⟩
noncomputable def Sg.p_impl_ownStore_0 (K : Nat) : Fw.LSpec := { g := 78, b := 0, lv := 6, l0 := 0, li := 0, head := Sg.h_impl_ownStore_0, post := Sg.o_impl_ownStore_0, retn := Sg.r_impl_ownStore_0, ex := 0, L := R.L_impl_ownStore_0 K }
noncomputable def Sg.f_impl_ownStore : Fw.PFn := Fw.PFn.get Try.f78
noncomputable def Sg.i_impl_ownStore : List (Nat × Fw.PFn) := []
noncomputable def Sg.s_impl_ownStore (K : Nat) : Fw.Sig := { ins := [.val false (.sl (.pair (.sl (.int .i64)) (.sl (.pair .str (.int .i64)))))], outs := [⟨false, (.sl (.pair (.sl (.int .i64)) (.sl (.pair .str (.int .i64))))), true⟩], F := fun x => R.impl_ownStore K x.1 }
noncomputable def Sg.c_impl_ownStore (K : Nat) : Fw.Cfg := { tab := Sg.tab, eqs := Sg.eqs, sig := [(79, Sg.s_impl_Commit_own K)], inl := [], lo := Sg.p_impl_ownStore_0 K :: [], K := K, jo := [], opn := [13, 38, 39, 47, 82, 83] }
noncomputable def Sg.f_impl_AddCommit : Fw.PFn := Fw.PFn.get Try.f35
noncomputable def Sg.i_impl_AddCommit : List (Nat × Fw.PFn) := []
noncomputable def Sg.s_impl_AddCommit (K : Nat) : Fw.Sig := { ins := [.val false (.sl (.pair (.sl (.int .i64)) (.sl (.pair .str (.int .i64))))), .val true (.pair (.sl (.int .i64)) (.sl (.pair .str (.int .i64))))], outs := [⟨false, (.sl (.pair (.sl (.int .i64)) (.sl (.pair .str (.int .i64))))), true⟩, ⟨false, (.int .i64), false⟩, ⟨false, (.int .i64), false⟩], F := fun x => R.impl_AddCommit K x.1 x.2.1 }
noncomputable def Sg.c_impl_AddCommit (K : Nat) : Fw.Cfg := { tab := Sg.tab, eqs := Sg.eqs, sig := [(75, Sg.s_impl_isList_impl_Commit K), (77, Sg.s_impl_Commit_isAt K), (76, Sg.s_impl_areCommits K), (79, Sg.s_impl_Commit_own K), (78, Sg.s_impl_ownStore K)], inl := [], lo := [], K := K, jo := ⟨35, 0, 6, 0, 7, none⟩ :: [], opn := [13, 38, 39, 47, 82, 83] }
def Sg.h_laws_eqIntS_0 : Fw.StSh := ⟨[(0, (.d (.sl (.int .i64)))), (1, (.d (.sl (.int .i64)))), (4, (.d .bool)), (5, (.d (.int .i64)))], [], 0, 26, ⟨0, []⟩⟩
def Sg.o_laws_eqIntS_0 : Fw.StSh := ⟨[(4, (.d .bool))], [], 0, 26, ⟨0, []⟩⟩
def Sg.r_laws_eqIntS_0 : Fw.StSh := ⟨[(4, (.d .bool))], [], 0, 26, ⟨0, []⟩⟩
noncomputable def Sg.p_laws_eqIntS_0 (K : Nat) : Fw.LSpec := { g := 80, b := 0, lv := 6, l0 := 0, li := 0, head := Sg.h_laws_eqIntS_0, post := Sg.o_laws_eqIntS_0, retn := Sg.r_laws_eqIntS_0, ex := 0, L := R.L_laws_eqIntS_0 K }
noncomputable def Sg.f_laws_eqIntS : Fw.PFn := Fw.PFn.get Try.f80
noncomputable def Sg.i_laws_eqIntS : List (Nat × Fw.PFn) := []
noncomputable def Sg.s_laws_eqIntS (K : Nat) : Fw.Sig := { ins := [.val false (.sl (.int .i64)), .val false (.sl (.int .i64))], outs := [⟨false, .bool, false⟩], F := fun x => R.laws_eqIntS K x.1 x.2.1 }
noncomputable def Sg.c_laws_eqIntS (K : Nat) : Fw.Cfg := { tab := Sg.tab, eqs := Sg.eqs, sig := [], inl := [], lo := Sg.p_laws_eqIntS_0 K :: [], K := K, jo := ⟨80, 0, 6, 0, 6, none⟩ :: [], opn := [13, 38, 39, 47, 82, 83] }
noncomputable def Sg.f_laws_eqEntry : Fw.PFn := Fw.PFn.get Try.f116
noncomputable def Sg.i_laws_eqEntry : List (Nat × Fw.PFn) := []
noncomputable def Sg.s_laws_eqEntry (K : Nat) : Fw.Sig := { ins := [.val true (.pair .str (.int .i64)), .val true (.pair .str (.int .i64))], outs := [⟨false, .bool, false⟩], F := fun x => R.laws_eqEntry K x.1 x.2.1 }
noncomputable def Sg.c_laws_eqEntry (K : Nat) : Fw.Cfg := { tab := Sg.tab, eqs := Sg.eqs, sig := [], inl := [], lo := [], K := K, jo := [], opn := [13, 38, 39, 47, 82, 83] }
def Sg.h_laws_eqEntryS_0 : Fw.StSh := ⟨[(0, (.d (.sl (.pair .str (.int .i64))))), (1, (.d (.sl (.pair .str (.int .i64))))), (4, (.d .bool)), (5, (.d (.int .i64)))], [], 0, 27, ⟨0, []⟩⟩
def Sg.o_laws_eqEntryS_0 : Fw.StSh := ⟨[(4, (.d .bool))], [], 0, 27, ⟨0, []⟩⟩
def Sg.r_laws_eqEntryS_0 : Fw.StSh := ⟨[(4, (.d .bool))], [], 0, 27, ⟨0, []⟩⟩
noncomputable def Sg.p_laws_eqEntryS_0 (K : Nat) : Fw.LSpec := { g := 81, b := 0, lv := 6, l0 := 0, li := 0, head := Sg.h_laws_eqEntryS_0, post := Sg.o_laws_eqEntryS_0, retn := Sg.r_laws_eqEntryS_0, ex := 0, L := R.L_laws_eqEntryS_0 K }
noncomputable def Sg.f_laws_eqEntryS : Fw.PFn := Fw.PFn.get Try.f81
noncomputable def Sg.i_laws_eqEntryS : List (Nat × Fw.PFn) := []
noncomputable def Sg.s_laws_eqEntryS (K : Nat) : Fw.Sig := { ins := [.val false (.sl (.pair .str (.int .i64))), .val false (.sl (.pair .str (.int .i64)))], outs := [⟨false, .bool, false⟩], F := fun x => R.laws_eqEntryS K x.1 x.2.1 }
noncomputable def Sg.c_laws_eqEntryS (K : Nat) : Fw.Cfg := { tab := Sg.tab, eqs := Sg.eqs, sig := [(116, Sg.s_laws_eqEntry K)], inl := [], lo := Sg.p_laws_eqEntryS_0 K :: [], K := K, jo := ⟨81, 0, 6, 0, 6, none⟩ :: [], opn := [13, 38, 39, 47, 82, 83] }
noncomputable def Sg.f_laws_eqCommit : Fw.PFn := Fw.PFn.get Try.f37
noncomputable def Sg.i_laws_eqCommit : List (Nat × Fw.PFn) := []
noncomputable def Sg.s_laws_eqCommit (K : Nat) : Fw.Sig := { ins := [.val true (.pair (.sl (.int .i64)) (.sl (.pair .str (.int .i64)))), .val true (.pair (.sl (.int .i64)) (.sl (.pair .str (.int .i64))))], outs := [⟨false, .bool, false⟩], F := fun x => R.laws_eqCommit K x.1 x.2.1 }
noncomputable def Sg.c_laws_eqCommit (K : Nat) : Fw.Cfg := { tab := Sg.tab, eqs := Sg.eqs, sig := [(80, Sg.s_laws_eqIntS K), (81, Sg.s_laws_eqEntryS K)], inl := [], lo := [], K := K, jo := [], opn := [13, 38, 39, 47, 82, 83] }
def Sg.h_laws_eqCommitS_0 : Fw.StSh := ⟨[(0, (.d (.sl (.pair (.sl (.int .i64)) (.sl (.pair .str (.int .i64))))))), (1, (.d (.sl (.pair (.sl (.int .i64)) (.sl (.pair .str (.int .i64))))))), (4, (.d .bool)), (5, (.d (.int .i64)))], [], 0, 27, ⟨0, []⟩⟩
def Sg.o_laws_eqCommitS_0 : Fw.StSh := ⟨[(4, (.d .bool))], [], 0, 27, ⟨0, []⟩⟩
def Sg.r_laws_eqCommitS_0 : Fw.StSh := ⟨[(4, (.d .bool))], [], 0, 27, ⟨0, []⟩⟩
noncomputable def Sg.p_laws_eqCommitS_0 (K : Nat) : Fw.LSpec := { g := 36, b := 0, lv := 6, l0 := 0, li := 0, head := Sg.h_laws_eqCommitS_0, post := Sg.o_laws_eqCommitS_0, retn := Sg.r_laws_eqCommitS_0, ex := 0, L := R.L_laws_eqCommitS_0 K }
noncomputable def Sg.f_laws_eqCommitS : Fw.PFn := Fw.PFn.get Try.f36
noncomputable def Sg.i_laws_eqCommitS : List (Nat × Fw.PFn) := []
noncomputable def Sg.s_laws_eqCommitS (K : Nat) : Fw.Sig := { ins := [.val false (.sl (.pair (.sl (.int .i64)) (.sl (.pair .str (.int .i64))))), .val false (.sl (.pair (.sl (.int .i64)) (.sl (.pair .str (.int .i64)))))], outs := [⟨false, .bool, false⟩], F := fun x => R.laws_eqCommitS K x.1 x.2.1 }
noncomputable def Sg.c_laws_eqCommitS (K : Nat) : Fw.Cfg := { tab := Sg.tab, eqs := Sg.eqs, sig := [(37, Sg.s_laws_eqCommit K)], inl := [], lo := Sg.p_laws_eqCommitS_0 K :: [], K := K, jo := ⟨36, 0, 6, 0, 6, none⟩ :: [], opn := [13, 38, 39, 47, 82, 83] }
def Sg.h_laws_markIntS_0 : Fw.StSh := ⟨[(0, (.row 0)), (1, (.row 0)), (2, (.d (.int .i64))), (5, (.d (.int .i64))), (6, (.d (.int .i64)))], [(0, (.row (.int .i64) true))], 1, 20, ⟨0, []⟩⟩
def Sg.o_laws_markIntS_0 : Fw.StSh := ⟨[(0, (.row 0)), (2, (.d (.int .i64))), (5, (.d (.int .i64)))], [(0, (.row (.int .i64) true))], 1, 20, ⟨0, []⟩⟩
def Sg.r_laws_markIntS_0 : Fw.StSh := ⟨[], [], 1, 20, ⟨0, []⟩⟩
noncomputable def Sg.p_laws_markIntS_0 (K : Nat) : Fw.LSpec := { g := 82, b := 1, lv := 6, l0 := 1, li := 0, head := Sg.h_laws_markIntS_0, post := Sg.o_laws_markIntS_0, retn := Sg.r_laws_markIntS_0, ex := 0, L := R.L_laws_markIntS_0 K }
noncomputable def Sg.f_laws_markIntS : Fw.PFn := Fw.PFn.get Try.f82
noncomputable def Sg.i_laws_markIntS : List (Nat × Fw.PFn) := []
noncomputable def Sg.s_laws_markIntS (K : Nat) : Fw.Sig := { ins := [.mut false (.sl (.int .i64)), .val false (.int .i64)], outs := [⟨false, (.int .i64), false⟩], F := fun x => R.laws_markIntS K x.1 x.2.1 }
noncomputable def Sg.c_laws_markIntS (K : Nat) : Fw.Cfg := { tab := Sg.tab, eqs := Sg.eqs, sig := [], inl := [], lo := Sg.p_laws_markIntS_0 K :: [], K := K, jo := [], opn := [13, 38, 39, 47, 82, 83] }
def Sg.h_laws_markText_0 : Fw.StSh := ⟨[(0, (.d (.int .i64))), (2, (.d .str)), (3, (.d .str))], [], 0, 20, ⟨0, []⟩⟩
def Sg.o_laws_markText_0 : Fw.StSh := ⟨[(2, (.d .str)), (3, (.d .str))], [], 0, 20, ⟨0, []⟩⟩
def Sg.r_laws_markText_0 : Fw.StSh := ⟨[], [], 0, 20, ⟨0, []⟩⟩
noncomputable def Sg.p_laws_markText_0 (K : Nat) : Fw.LSpec := { g := 117, b := 0, lv := 6, l0 := 0, li := 0, head := Sg.h_laws_markText_0, post := Sg.o_laws_markText_0, retn := Sg.r_laws_markText_0, ex := 0, L := R.L_laws_markText_0 K }
noncomputable def Sg.f_laws_markText : Fw.PFn := Fw.PFn.get Try.f117
noncomputable def Sg.i_laws_markText : List (Nat × Fw.PFn) := []
noncomputable def Sg.s_laws_markText (K : Nat) : Fw.Sig := { ins := [.val false (.int .i64)], outs := [⟨false, .str, false⟩], F := fun x => R.laws_markText K x.1 }
noncomputable def Sg.c_laws_markText (K : Nat) : Fw.Cfg := { tab := Sg.tab, eqs := Sg.eqs, sig := [], inl := [], lo := Sg.p_laws_markText_0 K :: [], K := K, jo := [], opn := [13, 38, 39, 47, 82, 83] }
def Sg.h_laws_markEntryS_0 : Fw.StSh := ⟨[(0, (.row 0)), (1, (.row 0)), (2, (.d (.int .i64))), (5, (.d (.int .i64))), (6, (.d (.int .i64)))], [(0, (.row (.pair .str (.int .i64)) true))], 1, 29, ⟨0, []⟩⟩
def Sg.o_laws_markEntryS_0 : Fw.StSh := ⟨[(0, (.row 0)), (2, (.d (.int .i64))), (5, (.d (.int .i64)))], [(0, (.row (.pair .str (.int .i64)) true))], 1, 29, ⟨0, []⟩⟩
def Sg.r_laws_markEntryS_0 : Fw.StSh := ⟨[], [], 1, 29, ⟨0, []⟩⟩
noncomputable def Sg.p_laws_markEntryS_0 (K : Nat) : Fw.LSpec := { g := 83, b := 1, lv := 6, l0 := 1, li := 0, head := Sg.h_laws_markEntryS_0, post := Sg.o_laws_markEntryS_0, retn := Sg.r_laws_markEntryS_0, ex := 0, L := R.L_laws_markEntryS_0 K }
noncomputable def Sg.f_laws_markEntryS : Fw.PFn := Fw.PFn.get Try.f83
noncomputable def Sg.i_laws_markEntryS : List (Nat × Fw.PFn) := []
noncomputable def Sg.s_laws_markEntryS (K : Nat) : Fw.Sig := { ins := [.mut false (.sl (.pair .str (.int .i64))), .val false (.int .i64)], outs := [⟨false, (.int .i64), false⟩], F := fun x => R.laws_markEntryS K x.1 x.2.1 }
noncomputable def Sg.c_laws_markEntryS (K : Nat) : Fw.Cfg := { tab := Sg.tab, eqs := Sg.eqs, sig := [(117, Sg.s_laws_markText K)], inl := [], lo := Sg.p_laws_markEntryS_0 K :: [], K := K, jo := [], opn := [13, 38, 39, 47, 82, 83] }
def Sg.h_laws_markCommitS_0 : Fw.StSh := ⟨[(0, (.row 0)), (1, (.row 0)), (2, (.d (.int .i64))), (5, (.d (.int .i64))), (6, (.d (.int .i64)))], [(0, (.row (.pair (.sl (.int .i64)) (.sl (.pair .str (.int .i64)))) true))], 1, 28, ⟨0, []⟩⟩
def Sg.o_laws_markCommitS_0 : Fw.StSh := ⟨[(0, (.row 0)), (2, (.d (.int .i64))), (5, (.d (.int .i64)))], [(0, (.row (.pair (.sl (.int .i64)) (.sl (.pair .str (.int .i64)))) true))], 1, 28, ⟨0, []⟩⟩
def Sg.r_laws_markCommitS_0 : Fw.StSh := ⟨[], [], 1, 28, ⟨0, []⟩⟩
noncomputable def Sg.p_laws_markCommitS_0 (K : Nat) : Fw.LSpec := { g := 38, b := 1, lv := 6, l0 := 1, li := 0, head := Sg.h_laws_markCommitS_0, post := Sg.o_laws_markCommitS_0, retn := Sg.r_laws_markCommitS_0, ex := 0, L := R.L_laws_markCommitS_0 K }
noncomputable def Sg.f_laws_markCommitS : Fw.PFn := Fw.PFn.get Try.f38
noncomputable def Sg.i_laws_markCommitS : List (Nat × Fw.PFn) := []
noncomputable def Sg.s_laws_markCommitS (K : Nat) : Fw.Sig := { ins := [.mut false (.sl (.pair (.sl (.int .i64)) (.sl (.pair .str (.int .i64))))), .val false (.int .i64)], outs := [⟨false, (.int .i64), false⟩], F := fun x => R.laws_markCommitS K x.1 x.2.1 }
noncomputable def Sg.c_laws_markCommitS (K : Nat) : Fw.Cfg := { tab := Sg.tab, eqs := Sg.eqs, sig := [(82, Sg.s_laws_markIntS K), (83, Sg.s_laws_markEntryS K)], inl := [], lo := Sg.p_laws_markCommitS_0 K :: [], K := K, jo := [], opn := [13, 38, 39, 47, 82, 83] }
noncomputable def Sg.f_laws_markCommit : Fw.PFn := Fw.PFn.get Try.f39
noncomputable def Sg.i_laws_markCommit : List (Nat × Fw.PFn) := []
noncomputable def Sg.s_laws_markCommit (K : Nat) : Fw.Sig := { ins := [.mut true (.pair (.sl (.int .i64)) (.sl (.pair .str (.int .i64)))), .val false (.int .i64)], outs := [⟨false, (.int .i64), false⟩], F := fun x => R.laws_markCommit K x.1 x.2.1 }
noncomputable def Sg.c_laws_markCommit (K : Nat) : Fw.Cfg := { tab := Sg.tab, eqs := Sg.eqs, sig := [(82, Sg.s_laws_markIntS K), (83, Sg.s_laws_markEntryS K)], inl := [], lo := [], K := K, jo := [], opn := [13, 38, 39, 47, 82, 83] }
def Sg.h_laws_heldIntS_0 : Fw.StSh := ⟨[(0, (.d (.sl (.int .i64)))), (1, (.d (.int .i64))), (4, (.d (.int .i64))), (5, (.d (.int .i64)))], [], 0, 21, ⟨0, []⟩⟩
def Sg.o_laws_heldIntS_0 : Fw.StSh := ⟨[(1, (.d (.int .i64))), (4, (.d (.int .i64)))], [], 0, 21, ⟨0, []⟩⟩
def Sg.r_laws_heldIntS_0 : Fw.StSh := ⟨[(4, (.d (.int .i64)))], [], 0, 21, ⟨0, []⟩⟩
noncomputable def Sg.p_laws_heldIntS_0 (K : Nat) : Fw.LSpec := { g := 84, b := 0, lv := 6, l0 := 0, li := 0, head := Sg.h_laws_heldIntS_0, post := Sg.o_laws_heldIntS_0, retn := Sg.r_laws_heldIntS_0, ex := 0, L := R.L_laws_heldIntS_0 K }
noncomputable def Sg.f_laws_heldIntS : Fw.PFn := Fw.PFn.get Try.f84
noncomputable def Sg.i_laws_heldIntS : List (Nat × Fw.PFn) := []
noncomputable def Sg.s_laws_heldIntS (K : Nat) : Fw.Sig := { ins := [.val false (.sl (.int .i64)), .val false (.int .i64)], outs := [⟨false, (.int .i64), false⟩], F := fun x => R.laws_heldIntS K x.1 x.2.1 }
noncomputable def Sg.c_laws_heldIntS (K : Nat) : Fw.Cfg := { tab := Sg.tab, eqs := Sg.eqs, sig := [], inl := [], lo := Sg.p_laws_heldIntS_0 K :: [], K := K, jo := [], opn := [13, 38, 39, 47, 82, 83] }
def Sg.h_laws_heldEntryS_0 : Fw.StSh := ⟨[(0, (.d (.sl (.pair .str (.int .i64))))), (1, (.d (.int .i64))), (4, (.d (.int .i64))), (5, (.d (.int .i64)))], [], 0, 32, ⟨0, []⟩⟩
def Sg.o_laws_heldEntryS_0 : Fw.StSh := ⟨[(1, (.d (.int .i64))), (4, (.d (.int .i64)))], [], 0, 32, ⟨0, []⟩⟩
def Sg.r_laws_heldEntryS_0 : Fw.StSh := ⟨[(4, (.d (.int .i64)))], [], 0, 32, ⟨0, []⟩⟩
noncomputable def Sg.p_laws_heldEntryS_0 (K : Nat) : Fw.LSpec := { g := 85, b := 0, lv := 6, l0 := 0, li := 0, head := Sg.h_laws_heldEntryS_0, post := Sg.o_laws_heldEntryS_0, retn := Sg.r_laws_heldEntryS_0, ex := 0, L := R.L_laws_heldEntryS_0 K }
noncomputable def Sg.f_laws_heldEntryS : Fw.PFn := Fw.PFn.get Try.f85
noncomputable def Sg.i_laws_heldEntryS : List (Nat × Fw.PFn) := []
noncomputable def Sg.s_laws_heldEntryS (K : Nat) : Fw.Sig := { ins := [.val false (.sl (.pair .str (.int .i64))), .val false (.int .i64)], outs := [⟨false, (.int .i64), false⟩], F := fun x => R.laws_heldEntryS K x.1 x.2.1 }
noncomputable def Sg.c_laws_heldEntryS (K : Nat) : Fw.Cfg := { tab := Sg.tab, eqs := Sg.eqs, sig := [(117, Sg.s_laws_markText K)], inl := [], lo := Sg.p_laws_heldEntryS_0 K :: [], K := K, jo := ⟨85, 0, 6, 0, 4, none⟩ :: [], opn := [13, 38, 39, 47, 82, 83] }
def Sg.h_laws_heldCommitS_0 : Fw.StSh := ⟨[(0, (.d (.sl (.pair (.sl (.int .i64)) (.sl (.pair .str (.int .i64))))))), (1, (.d (.int .i64))), (4, (.d (.int .i64))), (5, (.d (.int .i64)))], [], 0, 31, ⟨0, []⟩⟩
def Sg.o_laws_heldCommitS_0 : Fw.StSh := ⟨[(1, (.d (.int .i64))), (4, (.d (.int .i64)))], [], 0, 31, ⟨0, []⟩⟩
def Sg.r_laws_heldCommitS_0 : Fw.StSh := ⟨[(4, (.d (.int .i64)))], [], 0, 31, ⟨0, []⟩⟩
noncomputable def Sg.p_laws_heldCommitS_0 (K : Nat) : Fw.LSpec := { g := 40, b := 0, lv := 6, l0 := 0, li := 0, head := Sg.h_laws_heldCommitS_0, post := Sg.o_laws_heldCommitS_0, retn := Sg.r_laws_heldCommitS_0, ex := 0, L := R.L_laws_heldCommitS_0 K }
noncomputable def Sg.f_laws_heldCommitS : Fw.PFn := Fw.PFn.get Try.f40
noncomputable def Sg.i_laws_heldCommitS : List (Nat × Fw.PFn) := []
noncomputable def Sg.s_laws_heldCommitS (K : Nat) : Fw.Sig := { ins := [.val false (.sl (.pair (.sl (.int .i64)) (.sl (.pair .str (.int .i64))))), .val false (.int .i64)], outs := [⟨false, (.int .i64), false⟩], F := fun x => R.laws_heldCommitS K x.1 x.2.1 }
noncomputable def Sg.c_laws_heldCommitS (K : Nat) : Fw.Cfg := { tab := Sg.tab, eqs := Sg.eqs, sig := [(84, Sg.s_laws_heldIntS K), (85, Sg.s_laws_heldEntryS K)], inl := [], lo := Sg.p_laws_heldCommitS_0 K :: [], K := K, jo := [], opn := [13, 38, 39, 47, 82, 83] }
noncomputable def Sg.f_laws_FnExactAddCommit : Fw.PFn := Fw.PFn.get Try.f6
noncomputable def Sg.i_laws_FnExactAddCommit : List (Nat × Fw.PFn) := []
noncomputable def Sg.s_laws_FnExactAddCommit (K : Nat) : Fw.Sig := { ins := [.val false (.sl (.pair (.sl (.int .i64)) (.sl (.pair .str (.int .i64))))), .val true (.pair (.sl (.int .i64)) (.sl (.pair .str (.int .i64))))], outs := [⟨false, .bool, false⟩], F := fun x => R.laws_FnExactAddCommit K x.1 x.2.1 }
noncomputable def Sg.c_laws_FnExactAddCommit (K : Nat) : Fw.Cfg := { tab := Sg.tab, eqs := Sg.eqs, sig := [(31, Sg.s_laws_szCommit K), (30, Sg.s_laws_szCommitS K), (34, Sg.s_laws_toCommit K), (33, Sg.s_laws_toCommitS K), (32, Sg.s_spec_AddCommit K), (35, Sg.s_impl_AddCommit K), (37, Sg.s_laws_eqCommit K), (36, Sg.s_laws_eqCommitS K), (38, Sg.s_laws_markCommitS K), (39, Sg.s_laws_markCommit K), (40, Sg.s_laws_heldCommitS K)], inl := [], lo := [], K := K, jo := ⟨6, 0, 6, 0, 8, none⟩ :: ⟨6, 0, 6, 0, 16, none⟩ :: ⟨6, 0, 6, 0, 31, none⟩ :: [], opn := [13, 38, 39, 47, 82, 83] }
theorem fun_laws_szIntS : Try.prog.funcs[67]? = some Try.f67 := by kernel_rfl
theorem call_laws_szIntS : Fw.Callable Try.prog 67 := Fw.callable_of fun_laws_szIntS (by kernel_rfl) (by kernel_rfl)
theorem pf_laws_szIntS : Fw.PFn.of Try.f67 = some Sg.f_laws_szIntS := Fw.PFn.of_get (by kernel_rfl)
theorem ok_laws_szIntS (K : Nat) : Fw.Ok Try.prog 67 (Sg.s_laws_szIntS K) := Fw.funP_ok (c := Sg.c_laws_szIntS K) (pi := Sg.i_laws_szIntS) (depth := 6) (Fw.cfgP_ok (pi := Sg.i_laws_szIntS) Sg.tabOK Sg.eqsOK Sg.mixOK trivial trivial trivial pf_laws_szIntS trivial rfl) trivial pf_laws_szIntS fun_laws_szIntS call_laws_szIntS (fun x => by kernel_rfl)
theorem fun_laws_szEntry : Try.prog.funcs[108]? = some Try.f108 := by kernel_rfl
theorem call_laws_szEntry : Fw.Callable Try.prog 108 := Fw.callable_of fun_laws_szEntry (by kernel_rfl) (by kernel_rfl)
theorem pf_laws_szEntry : Fw.PFn.of Try.f108 = some Sg.f_laws_szEntry := Fw.PFn.of_get (by kernel_rfl)
theorem ok_laws_szEntry (K : Nat) : Fw.Ok Try.prog 108 (Sg.s_laws_szEntry K) := Fw.funP_ok (c := Sg.c_laws_szEntry K) (pi := Sg.i_laws_szEntry) (depth := 6) (Fw.cfgP_ok (pi := Sg.i_laws_szEntry) Sg.tabOK Sg.eqsOK Sg.mixOK trivial trivial trivial pf_laws_szEntry trivial rfl) trivial pf_laws_szEntry fun_laws_szEntry call_laws_szEntry (fun x => by kernel_rfl)
theorem fun_laws_szEntryS : Try.prog.funcs[68]? = some Try.f68 := by kernel_rfl
theorem call_laws_szEntryS : Fw.Callable Try.prog 68 := Fw.callable_of fun_laws_szEntryS (by kernel_rfl) (by kernel_rfl)
theorem pf_laws_szEntryS : Fw.PFn.of Try.f68 = some Sg.f_laws_szEntryS := Fw.PFn.of_get (by kernel_rfl)
theorem l_laws_szEntryS_0 (K : Nat) : Fw.LoopP (Sg.c_laws_szEntryS K) Sg.i_laws_szEntryS Sg.f_laws_szEntryS (Sg.p_laws_szEntryS_0 K) := ⟨fun _ => by kernel_rfl, fun n p => by kernel_rfl⟩
theorem ok_laws_szEntryS (K : Nat) : Fw.Ok Try.prog 68 (Sg.s_laws_szEntryS K) := Fw.funP_ok (c := Sg.c_laws_szEntryS K) (pi := Sg.i_laws_szEntryS) (depth := 6) (Fw.cfgP_ok (pi := Sg.i_laws_szEntryS) Sg.tabOK Sg.eqsOK Sg.mixOK ⟨ok_laws_szEntry K, trivial⟩ trivial trivial pf_laws_szEntryS ⟨⟨_, rfl, l_laws_szEntryS_0 K⟩, trivial⟩ rfl) trivial pf_laws_szEntryS fun_laws_szEntryS call_laws_szEntryS (fun x => by kernel_rfl)
theorem fun_laws_szCommit : Try.prog.funcs[31]? = some Try.f31 := by kernel_rfl
theorem call_laws_szCommit : Fw.Callable Try.prog 31 := Fw.callable_of fun_laws_szCommit (by kernel_rfl) (by kernel_rfl)
theorem pf_laws_szCommit : Fw.PFn.of Try.f31 = some Sg.f_laws_szCommit := Fw.PFn.of_get (by kernel_rfl)
theorem ok_laws_szCommit (K : Nat) : Fw.Ok Try.prog 31 (Sg.s_laws_szCommit K) := Fw.funP_ok (c := Sg.c_laws_szCommit K) (pi := Sg.i_laws_szCommit) (depth := 6) (Fw.cfgP_ok (pi := Sg.i_laws_szCommit) Sg.tabOK Sg.eqsOK Sg.mixOK ⟨ok_laws_szIntS K, ok_laws_szEntryS K, trivial⟩ trivial trivial pf_laws_szCommit trivial rfl) trivial pf_laws_szCommit fun_laws_szCommit call_laws_szCommit (fun x => by kernel_rfl)
theorem fun_laws_szCommitS : Try.prog.funcs[30]? = some Try.f30 := by kernel_rfl
theorem call_laws_szCommitS : Fw.Callable Try.prog 30 := Fw.callable_of fun_laws_szCommitS (by kernel_rfl) (by kernel_rfl)
theorem pf_laws_szCommitS : Fw.PFn.of Try.f30 = some Sg.f_laws_szCommitS := Fw.PFn.of_get (by kernel_rfl)
theorem l_laws_szCommitS_0 (K : Nat) : Fw.LoopP (Sg.c_laws_szCommitS K) Sg.i_laws_szCommitS Sg.f_laws_szCommitS (Sg.p_laws_szCommitS_0 K) := ⟨fun _ => by kernel_rfl, fun n p => by kernel_rfl⟩
theorem ok_laws_szCommitS (K : Nat) : Fw.Ok Try.prog 30 (Sg.s_laws_szCommitS K) := Fw.funP_ok (c := Sg.c_laws_szCommitS K) (pi := Sg.i_laws_szCommitS) (depth := 6) (Fw.cfgP_ok (pi := Sg.i_laws_szCommitS) Sg.tabOK Sg.eqsOK Sg.mixOK ⟨ok_laws_szCommit K, trivial⟩ trivial trivial pf_laws_szCommitS ⟨⟨_, rfl, l_laws_szCommitS_0 K⟩, trivial⟩ rfl) trivial pf_laws_szCommitS fun_laws_szCommitS call_laws_szCommitS (fun x => by kernel_rfl)
theorem fun_laws_toIntS : Try.prog.funcs[73]? = some Try.f73 := by kernel_rfl
theorem call_laws_toIntS : Fw.Callable Try.prog 73 := Fw.callable_of fun_laws_toIntS (by kernel_rfl) (by kernel_rfl)
theorem pf_laws_toIntS : Fw.PFn.of Try.f73 = some Sg.f_laws_toIntS := Fw.PFn.of_get (by kernel_rfl)
theorem l_laws_toIntS_0 (K : Nat) : Fw.LoopP (Sg.c_laws_toIntS K) Sg.i_laws_toIntS Sg.f_laws_toIntS (Sg.p_laws_toIntS_0 K) := ⟨fun _ => by kernel_rfl, fun n p => by kernel_rfl⟩
theorem ok_laws_toIntS (K : Nat) : Fw.Ok Try.prog 73 (Sg.s_laws_toIntS K) := Fw.funP_ok (c := Sg.c_laws_toIntS K) (pi := Sg.i_laws_toIntS) (depth := 6) (Fw.cfgP_ok (pi := Sg.i_laws_toIntS) Sg.tabOK Sg.eqsOK Sg.mixOK trivial trivial trivial pf_laws_toIntS ⟨⟨_, rfl, l_laws_toIntS_0 K⟩, trivial⟩ rfl) trivial pf_laws_toIntS fun_laws_toIntS call_laws_toIntS (fun x => by kernel_rfl)
theorem fun_laws_toEntry : Try.prog.funcs[110]? = some Try.f110 := by kernel_rfl
theorem call_laws_toEntry : Fw.Callable Try.prog 110 := Fw.callable_of fun_laws_toEntry (by kernel_rfl) (by kernel_rfl)
theorem pf_laws_toEntry : Fw.PFn.of Try.f110 = some Sg.f_laws_toEntry := Fw.PFn.of_get (by kernel_rfl)
theorem ok_laws_toEntry (K : Nat) : Fw.Ok Try.prog 110 (Sg.s_laws_toEntry K) := Fw.funP_ok (c := Sg.c_laws_toEntry K) (pi := Sg.i_laws_toEntry) (depth := 6) (Fw.cfgP_ok (pi := Sg.i_laws_toEntry) Sg.tabOK Sg.eqsOK Sg.mixOK trivial trivial trivial pf_laws_toEntry trivial rfl) trivial pf_laws_toEntry fun_laws_toEntry call_laws_toEntry (fun x => by kernel_rfl)
theorem fun_laws_toEntryS : Try.prog.funcs[74]? = some Try.f74 := by kernel_rfl
theorem call_laws_toEntryS : Fw.Callable Try.prog 74 := Fw.callable_of fun_laws_toEntryS (by kernel_rfl) (by kernel_rfl)
theorem pf_laws_toEntryS : Fw.PFn.of Try.f74 = some Sg.f_laws_toEntryS := Fw.PFn.of_get (by kernel_rfl)
theorem l_laws_toEntryS_0 (K : Nat) : Fw.LoopP (Sg.c_laws_toEntryS K) Sg.i_laws_toEntryS Sg.f_laws_toEntryS (Sg.p_laws_toEntryS_0 K) := ⟨fun _ => by kernel_rfl, fun n p => by kernel_rfl⟩
theorem ok_laws_toEntryS (K : Nat) : Fw.Ok Try.prog 74 (Sg.s_laws_toEntryS K) := Fw.funP_ok (c := Sg.c_laws_toEntryS K) (pi := Sg.i_laws_toEntryS) (depth := 6) (Fw.cfgP_ok (pi := Sg.i_laws_toEntryS) Sg.tabOK Sg.eqsOK Sg.mixOK ⟨ok_laws_toEntry K, trivial⟩ trivial trivial pf_laws_toEntryS ⟨⟨_, rfl, l_laws_toEntryS_0 K⟩, trivial⟩ rfl) trivial pf_laws_toEntryS fun_laws_toEntryS call_laws_toEntryS (fun x => by kernel_rfl)
theorem fun_laws_toCommit : Try.prog.funcs[34]? = some Try.f34 := by kernel_rfl
theorem call_laws_toCommit : Fw.Callable Try.prog 34 := Fw.callable_of fun_laws_toCommit (by kernel_rfl) (by kernel_rfl)
theorem pf_laws_toCommit : Fw.PFn.of Try.f34 = some Sg.f_laws_toCommit := Fw.PFn.of_get (by kernel_rfl)
theorem ok_laws_toCommit (K : Nat) : Fw.Ok Try.prog 34 (Sg.s_laws_toCommit K) := Fw.funP_ok (c := Sg.c_laws_toCommit K) (pi := Sg.i_laws_toCommit) (depth := 6) (Fw.cfgP_ok (pi := Sg.i_laws_toCommit) Sg.tabOK Sg.eqsOK Sg.mixOK ⟨ok_laws_toIntS K, ok_laws_toEntryS K, trivial⟩ trivial trivial pf_laws_toCommit trivial rfl) trivial pf_laws_toCommit fun_laws_toCommit call_laws_toCommit (fun x => by kernel_rfl)
theorem fun_laws_toCommitS : Try.prog.funcs[33]? = some Try.f33 := by kernel_rfl
theorem call_laws_toCommitS : Fw.Callable Try.prog 33 := Fw.callable_of fun_laws_toCommitS (by kernel_rfl) (by kernel_rfl)
theorem pf_laws_toCommitS : Fw.PFn.of Try.f33 = some Sg.f_laws_toCommitS := Fw.PFn.of_get (by kernel_rfl)
theorem l_laws_toCommitS_0 (K : Nat) : Fw.LoopP (Sg.c_laws_toCommitS K) Sg.i_laws_toCommitS Sg.f_laws_toCommitS (Sg.p_laws_toCommitS_0 K) := ⟨fun _ => by kernel_rfl, fun n p => by kernel_rfl⟩
theorem ok_laws_toCommitS (K : Nat) : Fw.Ok Try.prog 33 (Sg.s_laws_toCommitS K) := Fw.funP_ok (c := Sg.c_laws_toCommitS K) (pi := Sg.i_laws_toCommitS) (depth := 6) (Fw.cfgP_ok (pi := Sg.i_laws_toCommitS) Sg.tabOK Sg.eqsOK Sg.mixOK ⟨ok_laws_toCommit K, trivial⟩ trivial trivial pf_laws_toCommitS ⟨⟨_, rfl, l_laws_toCommitS_0 K⟩, trivial⟩ rfl) trivial pf_laws_toCommitS fun_laws_toCommitS call_laws_toCommitS (fun x => by kernel_rfl)
theorem fun_spec_l01In : Try.prog.funcs[86]? = some Try.f86 := by kernel_rfl
theorem call_spec_l01In : Fw.Callable Try.prog 86 := Fw.callable_of fun_spec_l01In (by kernel_rfl) (by kernel_rfl)
theorem pf_spec_l01In : Fw.PFn.of Try.f86 = some Sg.f_spec_l01In := Fw.PFn.of_get (by kernel_rfl)
theorem ok_spec_l01In (K : Nat) : Fw.Ok Try.prog 86 (Sg.s_spec_l01In K) := Fw.funP_ok (c := Sg.c_spec_l01In K) (pi := Sg.i_spec_l01In) (depth := 6) (Fw.cfgP_ok (pi := Sg.i_spec_l01In) Sg.tabOK Sg.eqsOK Sg.mixOK trivial trivial trivial pf_spec_l01In trivial rfl) trivial pf_spec_l01In fun_spec_l01In call_spec_l01In (fun x => by kernel_rfl)
theorem fun_spec_l00Letter : Try.prog.funcs[106]? = some Try.f106 := by kernel_rfl
theorem call_spec_l00Letter : Fw.Callable Try.prog 106 := Fw.callable_of fun_spec_l00Letter (by kernel_rfl) (by kernel_rfl)
theorem pf_spec_l00Letter : Fw.PFn.of Try.f106 = some Sg.f_spec_l00Letter := Fw.PFn.of_get (by kernel_rfl)
theorem ok_spec_l00Letter (K : Nat) : Fw.Ok Try.prog 106 (Sg.s_spec_l00Letter K) := Fw.funP_ok (c := Sg.c_spec_l00Letter K) (pi := Sg.i_spec_l00Letter) (depth := 6) (Fw.cfgP_ok (pi := Sg.i_spec_l00Letter) Sg.tabOK Sg.eqsOK Sg.mixOK trivial trivial trivial pf_spec_l00Letter trivial rfl) trivial pf_spec_l00Letter fun_spec_l00Letter call_spec_l00Letter (fun x => by kernel_rfl)
theorem fun_spec_l00Digit : Try.prog.funcs[107]? = some Try.f107 := by kernel_rfl
theorem call_spec_l00Digit : Fw.Callable Try.prog 107 := Fw.callable_of fun_spec_l00Digit (by kernel_rfl) (by kernel_rfl)
theorem pf_spec_l00Digit : Fw.PFn.of Try.f107 = some Sg.f_spec_l00Digit := Fw.PFn.of_get (by kernel_rfl)
theorem ok_spec_l00Digit (K : Nat) : Fw.Ok Try.prog 107 (Sg.s_spec_l00Digit K) := Fw.funP_ok (c := Sg.c_spec_l00Digit K) (pi := Sg.i_spec_l00Digit) (depth := 6) (Fw.cfgP_ok (pi := Sg.i_spec_l00Digit) Sg.tabOK Sg.eqsOK Sg.mixOK trivial trivial trivial pf_spec_l00Digit trivial rfl) trivial pf_spec_l00Digit fun_spec_l00Digit call_spec_l00Digit (fun x => by kernel_rfl)
theorem fun_spec_l00Word : Try.prog.funcs[65]? = some Try.f65 := by kernel_rfl
theorem call_spec_l00Word : Fw.Callable Try.prog 65 := Fw.callable_of fun_spec_l00Word (by kernel_rfl) (by kernel_rfl)
theorem pf_spec_l00Word : Fw.PFn.of Try.f65 = some Sg.f_spec_l00Word := Fw.PFn.of_get (by kernel_rfl)
theorem l_spec_l00Word_0 (K : Nat) : Fw.LoopP (Sg.c_spec_l00Word K) Sg.i_spec_l00Word Sg.f_spec_l00Word (Sg.p_spec_l00Word_0 K) := ⟨fun _ => by kernel_rfl, fun n p => by kernel_rfl⟩
theorem ok_spec_l00Word (K : Nat) : Fw.Ok Try.prog 65 (Sg.s_spec_l00Word K) := Fw.funP_ok (c := Sg.c_spec_l00Word K) (pi := Sg.i_spec_l00Word) (depth := 6) (Fw.cfgP_ok (pi := Sg.i_spec_l00Word) Sg.tabOK Sg.eqsOK Sg.mixOK ⟨ok_spec_l00Letter K, ok_spec_l00Digit K, trivial⟩ trivial trivial pf_spec_l00Word ⟨⟨_, rfl, l_spec_l00Word_0 K⟩, trivial⟩ rfl) trivial pf_spec_l00Word fun_spec_l00Word call_spec_l00Word (fun x => by kernel_rfl)
theorem fun_spec_l01OK : Try.prog.funcs[109]? = some Try.f109 := by kernel_rfl
theorem call_spec_l01OK : Fw.Callable Try.prog 109 := Fw.callable_of fun_spec_l01OK (by kernel_rfl) (by kernel_rfl)
theorem pf_spec_l01OK : Fw.PFn.of Try.f109 = some Sg.f_spec_l01OK := Fw.PFn.of_get (by kernel_rfl)
theorem l_spec_l01OK_0 (K : Nat) : Fw.LoopP (Sg.c_spec_l01OK K) Sg.i_spec_l01OK Sg.f_spec_l01OK (Sg.p_spec_l01OK_0 K) := ⟨fun _ => by kernel_rfl, fun n p => by kernel_rfl⟩
theorem ok_spec_l01OK (K : Nat) : Fw.Ok Try.prog 109 (Sg.s_spec_l01OK K) := Fw.funP_ok (c := Sg.c_spec_l01OK K) (pi := Sg.i_spec_l01OK) (depth := 6) (Fw.cfgP_ok (pi := Sg.i_spec_l01OK) Sg.tabOK Sg.eqsOK Sg.mixOK ⟨ok_spec_l01In K, ok_spec_l00Word K, trivial⟩ trivial trivial pf_spec_l01OK ⟨⟨_, rfl, l_spec_l01OK_0 K⟩, trivial⟩ rfl) trivial pf_spec_l01OK fun_spec_l01OK call_spec_l01OK (fun x => by kernel_rfl)
theorem fun_spec_l03Commit : Try.prog.funcs[70]? = some Try.f70 := by kernel_rfl
theorem call_spec_l03Commit : Fw.Callable Try.prog 70 := Fw.callable_of fun_spec_l03Commit (by kernel_rfl) (by kernel_rfl)
theorem pf_spec_l03Commit : Fw.PFn.of Try.f70 = some Sg.f_spec_l03Commit := Fw.PFn.of_get (by kernel_rfl)
theorem l_spec_l03Commit_0 (K : Nat) : Fw.LoopP (Sg.c_spec_l03Commit K) Sg.i_spec_l03Commit Sg.f_spec_l03Commit (Sg.p_spec_l03Commit_0 K) := ⟨fun _ => by kernel_rfl, fun n p => by kernel_rfl⟩
theorem ok_spec_l03Commit (K : Nat) : Fw.Ok Try.prog 70 (Sg.s_spec_l03Commit K) := Fw.funP_ok (c := Sg.c_spec_l03Commit K) (pi := Sg.i_spec_l03Commit) (depth := 6) (Fw.cfgP_ok (pi := Sg.i_spec_l03Commit) Sg.tabOK Sg.eqsOK Sg.mixOK ⟨ok_spec_l01In K, ok_spec_l01OK K, trivial⟩ trivial trivial pf_spec_l03Commit ⟨⟨_, rfl, l_spec_l03Commit_0 K⟩, trivial⟩ rfl) trivial pf_spec_l03Commit fun_spec_l03Commit call_spec_l03Commit (fun x => by kernel_rfl)
theorem fun_spec_l03OK : Try.prog.funcs[69]? = some Try.f69 := by kernel_rfl
theorem call_spec_l03OK : Fw.Callable Try.prog 69 := Fw.callable_of fun_spec_l03OK (by kernel_rfl) (by kernel_rfl)
theorem pf_spec_l03OK : Fw.PFn.of Try.f69 = some Sg.f_spec_l03OK := Fw.PFn.of_get (by kernel_rfl)
theorem l_spec_l03OK_0 (K : Nat) : Fw.LoopP (Sg.c_spec_l03OK K) Sg.i_spec_l03OK Sg.f_spec_l03OK (Sg.p_spec_l03OK_0 K) := ⟨fun _ => by kernel_rfl, fun n p => by kernel_rfl⟩
theorem ok_spec_l03OK (K : Nat) : Fw.Ok Try.prog 69 (Sg.s_spec_l03OK K) := Fw.funP_ok (c := Sg.c_spec_l03OK K) (pi := Sg.i_spec_l03OK) (depth := 6) (Fw.cfgP_ok (pi := Sg.i_spec_l03OK) Sg.tabOK Sg.eqsOK Sg.mixOK ⟨ok_spec_l01In K, ok_spec_l03Commit K, trivial⟩ trivial trivial pf_spec_l03OK ⟨⟨_, rfl, l_spec_l03OK_0 K⟩, trivial⟩ rfl) trivial pf_spec_l03OK fun_spec_l03OK call_spec_l03OK (fun x => by kernel_rfl)
theorem fun_spec_l03Own : Try.prog.funcs[72]? = some Try.f72 := by kernel_rfl
theorem call_spec_l03Own : Fw.Callable Try.prog 72 := Fw.callable_of fun_spec_l03Own (by kernel_rfl) (by kernel_rfl)
theorem pf_spec_l03Own : Fw.PFn.of Try.f72 = some Sg.f_spec_l03Own := Fw.PFn.of_get (by kernel_rfl)
theorem ok_spec_l03Own (K : Nat) : Fw.Ok Try.prog 72 (Sg.s_spec_l03Own K) := Fw.funP_ok (c := Sg.c_spec_l03Own K) (pi := Sg.i_spec_l03Own) (depth := 6) (Fw.cfgP_ok (pi := Sg.i_spec_l03Own) Sg.tabOK Sg.eqsOK Sg.mixOK trivial trivial trivial pf_spec_l03Own trivial rfl) trivial pf_spec_l03Own fun_spec_l03Own call_spec_l03Own (fun x => by kernel_rfl)
theorem fun_spec_l03Copy : Try.prog.funcs[71]? = some Try.f71 := by kernel_rfl
theorem call_spec_l03Copy : Fw.Callable Try.prog 71 := Fw.callable_of fun_spec_l03Copy (by kernel_rfl) (by kernel_rfl)
theorem pf_spec_l03Copy : Fw.PFn.of Try.f71 = some Sg.f_spec_l03Copy := Fw.PFn.of_get (by kernel_rfl)
theorem l_spec_l03Copy_0 (K : Nat) : Fw.LoopP (Sg.c_spec_l03Copy K) Sg.i_spec_l03Copy Sg.f_spec_l03Copy (Sg.p_spec_l03Copy_0 K) := ⟨fun _ => by kernel_rfl, fun n p => by kernel_rfl⟩
theorem ok_spec_l03Copy (K : Nat) : Fw.Ok Try.prog 71 (Sg.s_spec_l03Copy K) := Fw.funP_ok (c := Sg.c_spec_l03Copy K) (pi := Sg.i_spec_l03Copy) (depth := 6) (Fw.cfgP_ok (pi := Sg.i_spec_l03Copy) Sg.tabOK Sg.eqsOK Sg.mixOK ⟨ok_spec_l03Own K, trivial⟩ trivial trivial pf_spec_l03Copy ⟨⟨_, rfl, l_spec_l03Copy_0 K⟩, trivial⟩ rfl) trivial pf_spec_l03Copy fun_spec_l03Copy call_spec_l03Copy (fun x => by kernel_rfl)
theorem fun_spec_AddCommit : Try.prog.funcs[32]? = some Try.f32 := by kernel_rfl
theorem call_spec_AddCommit : Fw.Callable Try.prog 32 := Fw.callable_of fun_spec_AddCommit (by kernel_rfl) (by kernel_rfl)
theorem pf_spec_AddCommit : Fw.PFn.of Try.f32 = some Sg.f_spec_AddCommit := Fw.PFn.of_get (by kernel_rfl)
theorem ok_spec_AddCommit (K : Nat) : Fw.Ok Try.prog 32 (Sg.s_spec_AddCommit K) := Fw.funP_ok (c := Sg.c_spec_AddCommit K) (pi := Sg.i_spec_AddCommit) (depth := 6) (Fw.cfgP_ok (pi := Sg.i_spec_AddCommit) Sg.tabOK Sg.eqsOK Sg.mixOK ⟨ok_spec_l03Commit K, ok_spec_l03OK K, ok_spec_l03Own K, ok_spec_l03Copy K, trivial⟩ trivial trivial pf_spec_AddCommit trivial rfl) trivial pf_spec_AddCommit fun_spec_AddCommit call_spec_AddCommit (fun x => by kernel_rfl)
theorem fun_impl_isList_impl_Commit : Try.prog.funcs[75]? = some Try.f75 := by kernel_rfl
theorem call_impl_isList_impl_Commit : Fw.Callable Try.prog 75 := Fw.callable_of fun_impl_isList_impl_Commit (by kernel_rfl) (by kernel_rfl)
theorem pf_impl_isList_impl_Commit : Fw.PFn.of Try.f75 = some Sg.f_impl_isList_impl_Commit := Fw.PFn.of_get (by kernel_rfl)
theorem ok_impl_isList_impl_Commit (K : Nat) : Fw.Ok Try.prog 75 (Sg.s_impl_isList_impl_Commit K) := Fw.funP_ok (c := Sg.c_impl_isList_impl_Commit K) (pi := Sg.i_impl_isList_impl_Commit) (depth := 6) (Fw.cfgP_ok (pi := Sg.i_impl_isList_impl_Commit) Sg.tabOK Sg.eqsOK Sg.mixOK trivial trivial trivial pf_impl_isList_impl_Commit trivial rfl) trivial pf_impl_isList_impl_Commit fun_impl_isList_impl_Commit call_impl_isList_impl_Commit (fun x => by kernel_rfl)
theorem fun_impl_within : Try.prog.funcs[57]? = some Try.f57 := by kernel_rfl
theorem call_impl_within : Fw.Callable Try.prog 57 := Fw.callable_of fun_impl_within (by kernel_rfl) (by kernel_rfl)
theorem pf_impl_within : Fw.PFn.of Try.f57 = some Sg.f_impl_within := Fw.PFn.of_get (by kernel_rfl)
theorem ok_impl_within (K : Nat) : Fw.Ok Try.prog 57 (Sg.s_impl_within K) := Fw.funP_ok (c := Sg.c_impl_within K) (pi := Sg.i_impl_within) (depth := 6) (Fw.cfgP_ok (pi := Sg.i_impl_within) Sg.tabOK Sg.eqsOK Sg.mixOK trivial trivial trivial pf_impl_within trivial rfl) trivial pf_impl_within fun_impl_within call_impl_within (fun x => by kernel_rfl)
theorem fun_impl_isLetter : Try.prog.funcs[95]? = some Try.f95 := by kernel_rfl
theorem call_impl_isLetter : Fw.Callable Try.prog 95 := Fw.callable_of fun_impl_isLetter (by kernel_rfl) (by kernel_rfl)
theorem pf_impl_isLetter : Fw.PFn.of Try.f95 = some Sg.f_impl_isLetter := Fw.PFn.of_get (by kernel_rfl)
theorem ok_impl_isLetter (K : Nat) : Fw.Ok Try.prog 95 (Sg.s_impl_isLetter K) := Fw.funP_ok (c := Sg.c_impl_isLetter K) (pi := Sg.i_impl_isLetter) (depth := 6) (Fw.cfgP_ok (pi := Sg.i_impl_isLetter) Sg.tabOK Sg.eqsOK Sg.mixOK trivial trivial trivial pf_impl_isLetter trivial rfl) trivial pf_impl_isLetter fun_impl_isLetter call_impl_isLetter (fun x => by kernel_rfl)
theorem fun_impl_areAll_byte_1 : Try.prog.funcs[120]? = some Try.f120 := by kernel_rfl
theorem call_impl_areAll_byte_1 : Fw.Callable Try.prog 120 := Fw.callable_of fun_impl_areAll_byte_1 (by kernel_rfl) (by kernel_rfl)
theorem pf_impl_areAll_byte_1 : Fw.PFn.of Try.f120 = some Sg.f_impl_areAll_byte_1 := Fw.PFn.of_get (by kernel_rfl)
theorem fun_slices_IndexFunc_byte : Try.prog.funcs[128]? = some Try.f128 := by kernel_rfl
theorem call_slices_IndexFunc_byte : Fw.Callable Try.prog 128 := Fw.callable_of fun_slices_IndexFunc_byte (by kernel_rfl) (by kernel_rfl)
theorem pf_slices_IndexFunc_byte : Fw.PFn.of Try.f128 = some Sg.f_slices_IndexFunc_byte := Fw.PFn.of_get (by kernel_rfl)
theorem fun_slices_ContainsFunc_byte : Try.prog.funcs[119]? = some Try.f119 := by kernel_rfl
theorem call_slices_ContainsFunc_byte : Fw.Callable Try.prog 119 := Fw.callable_of fun_slices_ContainsFunc_byte (by kernel_rfl) (by kernel_rfl)
theorem pf_slices_ContainsFunc_byte : Fw.PFn.of Try.f119 = some Sg.f_slices_ContainsFunc_byte := Fw.PFn.of_get (by kernel_rfl)
theorem fun_impl_areAll_byte : Try.prog.funcs[96]? = some Try.f96 := by kernel_rfl
theorem call_impl_areAll_byte : Fw.Callable Try.prog 96 := Fw.callable_of fun_impl_areAll_byte (by kernel_rfl) (by kernel_rfl)
theorem pf_impl_areAll_byte : Fw.PFn.of Try.f96 = some Sg.f_impl_areAll_byte := Fw.PFn.of_get (by kernel_rfl)
theorem fun_impl_isDigit : Try.prog.funcs[98]? = some Try.f98 := by kernel_rfl
theorem call_impl_isDigit : Fw.Callable Try.prog 98 := Fw.callable_of fun_impl_isDigit (by kernel_rfl) (by kernel_rfl)
theorem pf_impl_isDigit : Fw.PFn.of Try.f98 = some Sg.f_impl_isDigit := Fw.PFn.of_get (by kernel_rfl)
theorem ok_impl_isDigit (K : Nat) : Fw.Ok Try.prog 98 (Sg.s_impl_isDigit K) := Fw.funP_ok (c := Sg.c_impl_isDigit K) (pi := Sg.i_impl_isDigit) (depth := 6) (Fw.cfgP_ok (pi := Sg.i_impl_isDigit) Sg.tabOK Sg.eqsOK Sg.mixOK trivial trivial trivial pf_impl_isDigit trivial rfl) trivial pf_impl_isDigit fun_impl_isDigit call_impl_isDigit (fun x => by kernel_rfl)
theorem fun_impl_NameOK_1 : Try.prog.funcs[97]? = some Try.f97 := by kernel_rfl
theorem call_impl_NameOK_1 : Fw.Callable Try.prog 97 := Fw.callable_of fun_impl_NameOK_1 (by kernel_rfl) (by kernel_rfl)
theorem pf_impl_NameOK_1 : Fw.PFn.of Try.f97 = some Sg.f_impl_NameOK_1 := Fw.PFn.of_get (by kernel_rfl)
theorem ok_impl_NameOK_1 (K : Nat) : Fw.Ok Try.prog 97 (Sg.s_impl_NameOK_1 K) := Fw.funP_ok (c := Sg.c_impl_NameOK_1 K) (pi := Sg.i_impl_NameOK_1) (depth := 6) (Fw.cfgP_ok (pi := Sg.i_impl_NameOK_1) Sg.tabOK Sg.eqsOK Sg.mixOK ⟨ok_impl_isLetter K, ok_impl_isDigit K, trivial⟩ trivial trivial pf_impl_NameOK_1 trivial rfl) trivial pf_impl_NameOK_1 fun_impl_NameOK_1 call_impl_NameOK_1 (fun x => by kernel_rfl)
theorem l_impl_areAll_byte__impl_NameOK_1_0 (K : Nat) : Fw.LoopP (Sg.c_impl_areAll_byte__impl_NameOK_1 K) Sg.i_impl_areAll_byte__impl_NameOK_1 Sg.f_slices_IndexFunc_byte (Sg.p_impl_areAll_byte__impl_NameOK_1_0 K) := ⟨fun _ => by kernel_rfl, fun n p => by kernel_rfl⟩
theorem ok_impl_areAll_byte__impl_NameOK_1 (K : Nat) : Fw.Ok Try.prog 96 (Sg.s_impl_areAll_byte__impl_NameOK_1 K) := Fw.funP_ok (c := Sg.c_impl_areAll_byte__impl_NameOK_1 K) (pi := Sg.i_impl_areAll_byte__impl_NameOK_1) (depth := 6) (Fw.cfgP_ok (pi := Sg.i_impl_areAll_byte__impl_NameOK_1) Sg.tabOK Sg.eqsOK Sg.mixOK ⟨ok_impl_NameOK_1 K, trivial⟩ ⟨⟨fun_impl_areAll_byte_1, call_impl_areAll_byte_1⟩, ⟨fun_slices_IndexFunc_byte, call_slices_IndexFunc_byte⟩, ⟨fun_slices_ContainsFunc_byte, call_slices_ContainsFunc_byte⟩, trivial⟩ ⟨⟨rfl, pf_impl_areAll_byte_1⟩, ⟨rfl, pf_slices_IndexFunc_byte⟩, ⟨rfl, pf_slices_ContainsFunc_byte⟩, trivial⟩ pf_impl_areAll_byte ⟨⟨_, rfl, l_impl_areAll_byte__impl_NameOK_1_0 K⟩, trivial⟩ rfl) ⟨⟨rfl, pf_impl_areAll_byte_1⟩, ⟨rfl, pf_slices_IndexFunc_byte⟩, ⟨rfl, pf_slices_ContainsFunc_byte⟩, trivial⟩ pf_impl_areAll_byte fun_impl_areAll_byte call_impl_areAll_byte (fun x => by kernel_rfl)
theorem fun_impl_NameOK : Try.prog.funcs[56]? = some Try.f56 := by kernel_rfl
theorem call_impl_NameOK : Fw.Callable Try.prog 56 := Fw.callable_of fun_impl_NameOK (by kernel_rfl) (by kernel_rfl)
theorem pf_impl_NameOK : Fw.PFn.of Try.f56 = some Sg.f_impl_NameOK := Fw.PFn.of_get (by kernel_rfl)
theorem ok_impl_NameOK (K : Nat) : Fw.Ok Try.prog 56 (Sg.s_impl_NameOK K) := Fw.funP_ok (c := Sg.c_impl_NameOK K) (pi := Sg.i_impl_NameOK) (depth := 6) (Fw.cfgP_ok (pi := Sg.i_impl_NameOK) Sg.tabOK Sg.eqsOK Sg.mixOK ⟨ok_impl_within K, ok_impl_isLetter K, ok_impl_NameOK_1 K, ok_impl_areAll_byte__impl_NameOK_1 K, trivial⟩ ⟨⟨fun_impl_areAll_byte_1, call_impl_areAll_byte_1⟩, ⟨fun_slices_IndexFunc_byte, call_slices_IndexFunc_byte⟩, ⟨fun_slices_ContainsFunc_byte, call_slices_ContainsFunc_byte⟩, ⟨fun_impl_areAll_byte, call_impl_areAll_byte⟩, trivial⟩ ⟨⟨rfl, pf_impl_areAll_byte_1⟩, ⟨rfl, pf_slices_IndexFunc_byte⟩, ⟨rfl, pf_slices_ContainsFunc_byte⟩, ⟨rfl, pf_impl_areAll_byte⟩, trivial⟩ pf_impl_NameOK trivial rfl) ⟨⟨rfl, pf_impl_areAll_byte_1⟩, ⟨rfl, pf_slices_IndexFunc_byte⟩, ⟨rfl, pf_slices_ContainsFunc_byte⟩, ⟨rfl, pf_impl_areAll_byte⟩, trivial⟩ pf_impl_NameOK fun_impl_NameOK call_impl_NameOK (fun x => by kernel_rfl)
theorem fun_impl_isValue : Try.prog.funcs[125]? = some Try.f125 := by kernel_rfl
theorem call_impl_isValue : Fw.Callable Try.prog 125 := Fw.callable_of fun_impl_isValue (by kernel_rfl) (by kernel_rfl)
theorem pf_impl_isValue : Fw.PFn.of Try.f125 = some Sg.f_impl_isValue := Fw.PFn.of_get (by kernel_rfl)
theorem ok_impl_isValue (K : Nat) : Fw.Ok Try.prog 125 (Sg.s_impl_isValue K) := Fw.funP_ok (c := Sg.c_impl_isValue K) (pi := Sg.i_impl_isValue) (depth := 6) (Fw.cfgP_ok (pi := Sg.i_impl_isValue) Sg.tabOK Sg.eqsOK Sg.mixOK ⟨ok_impl_within K, trivial⟩ trivial trivial pf_impl_isValue trivial rfl) trivial pf_impl_isValue fun_impl_isValue call_impl_isValue (fun x => by kernel_rfl)
theorem fun_impl_MapOK : Try.prog.funcs[111]? = some Try.f111 := by kernel_rfl
theorem call_impl_MapOK : Fw.Callable Try.prog 111 := Fw.callable_of fun_impl_MapOK (by kernel_rfl) (by kernel_rfl)
theorem pf_impl_MapOK : Fw.PFn.of Try.f111 = some Sg.f_impl_MapOK := Fw.PFn.of_get (by kernel_rfl)
theorem l_impl_MapOK_0 (K : Nat) : Fw.LoopP (Sg.c_impl_MapOK K) Sg.i_impl_MapOK Sg.f_impl_MapOK (Sg.p_impl_MapOK_0 K) := ⟨fun _ => by kernel_rfl, fun n p => by kernel_rfl⟩
theorem ok_impl_MapOK (K : Nat) : Fw.Ok Try.prog 111 (Sg.s_impl_MapOK K) := Fw.funP_ok (c := Sg.c_impl_MapOK K) (pi := Sg.i_impl_MapOK) (depth := 6) (Fw.cfgP_ok (pi := Sg.i_impl_MapOK) Sg.tabOK Sg.eqsOK Sg.mixOK ⟨ok_impl_NameOK K, ok_impl_isValue K, trivial⟩ trivial trivial pf_impl_MapOK ⟨⟨_, rfl, l_impl_MapOK_0 K⟩, trivial⟩ rfl) trivial pf_impl_MapOK fun_impl_MapOK call_impl_MapOK (fun x => by kernel_rfl)
theorem fun_impl_Commit_isAt_1 : Try.prog.funcs[113]? = some Try.f113 := by kernel_rfl
theorem call_impl_Commit_isAt_1 : Fw.Callable Try.prog 113 := Fw.callable_of fun_impl_Commit_isAt_1 (by kernel_rfl) (by kernel_rfl)
theorem pf_impl_Commit_isAt_1 : Fw.PFn.of Try.f113 = some Sg.f_impl_Commit_isAt_1 := Fw.PFn.of_get (by kernel_rfl)
theorem fun_impl_areAll_int_1 : Try.prog.funcs[127]? = some Try.f127 := by kernel_rfl
theorem call_impl_areAll_int_1 : Fw.Callable Try.prog 127 := Fw.callable_of fun_impl_areAll_int_1 (by kernel_rfl) (by kernel_rfl)
theorem pf_impl_areAll_int_1 : Fw.PFn.of Try.f127 = some Sg.f_impl_areAll_int_1 := Fw.PFn.of_get (by kernel_rfl)
theorem fun_slices_IndexFunc_int : Try.prog.funcs[131]? = some Try.f131 := by kernel_rfl
theorem call_slices_IndexFunc_int : Fw.Callable Try.prog 131 := Fw.callable_of fun_slices_IndexFunc_int (by kernel_rfl) (by kernel_rfl)
theorem pf_slices_IndexFunc_int : Fw.PFn.of Try.f131 = some Sg.f_slices_IndexFunc_int := Fw.PFn.of_get (by kernel_rfl)
theorem fun_slices_ContainsFunc_int : Try.prog.funcs[126]? = some Try.f126 := by kernel_rfl
theorem call_slices_ContainsFunc_int : Fw.Callable Try.prog 126 := Fw.callable_of fun_slices_ContainsFunc_int (by kernel_rfl) (by kernel_rfl)
theorem pf_slices_ContainsFunc_int : Fw.PFn.of Try.f126 = some Sg.f_slices_ContainsFunc_int := Fw.PFn.of_get (by kernel_rfl)
theorem fun_impl_areAll_int : Try.prog.funcs[112]? = some Try.f112 := by kernel_rfl
theorem call_impl_areAll_int : Fw.Callable Try.prog 112 := Fw.callable_of fun_impl_areAll_int (by kernel_rfl) (by kernel_rfl)
theorem pf_impl_areAll_int : Fw.PFn.of Try.f112 = some Sg.f_impl_areAll_int := Fw.PFn.of_get (by kernel_rfl)
theorem l_impl_areAll_int__impl_Commit_isAt_1_0 (K : Nat) : Fw.LoopP (Sg.c_impl_areAll_int__impl_Commit_isAt_1 K) Sg.i_impl_areAll_int__impl_Commit_isAt_1 Sg.f_slices_IndexFunc_int (Sg.p_impl_areAll_int__impl_Commit_isAt_1_0 K) := ⟨fun _ => by kernel_rfl, fun n p => by kernel_rfl⟩
theorem ok_impl_areAll_int__impl_Commit_isAt_1 (K : Nat) : Fw.Ok Try.prog 112 (Sg.s_impl_areAll_int__impl_Commit_isAt_1 K) := Fw.funP_ok (c := Sg.c_impl_areAll_int__impl_Commit_isAt_1 K) (pi := Sg.i_impl_areAll_int__impl_Commit_isAt_1) (depth := 6) (Fw.cfgP_ok (pi := Sg.i_impl_areAll_int__impl_Commit_isAt_1) Sg.tabOK Sg.eqsOK Sg.mixOK ⟨ok_impl_within K, trivial⟩ ⟨⟨fun_impl_Commit_isAt_1, call_impl_Commit_isAt_1⟩, ⟨fun_impl_areAll_int_1, call_impl_areAll_int_1⟩, ⟨fun_slices_IndexFunc_int, call_slices_IndexFunc_int⟩, ⟨fun_slices_ContainsFunc_int, call_slices_ContainsFunc_int⟩, trivial⟩ ⟨⟨rfl, pf_impl_Commit_isAt_1⟩, ⟨rfl, pf_impl_areAll_int_1⟩, ⟨rfl, pf_slices_IndexFunc_int⟩, ⟨rfl, pf_slices_ContainsFunc_int⟩, trivial⟩ pf_impl_areAll_int ⟨⟨_, rfl, l_impl_areAll_int__impl_Commit_isAt_1_0 K⟩, trivial⟩ rfl) ⟨⟨rfl, pf_impl_Commit_isAt_1⟩, ⟨rfl, pf_impl_areAll_int_1⟩, ⟨rfl, pf_slices_IndexFunc_int⟩, ⟨rfl, pf_slices_ContainsFunc_int⟩, trivial⟩ pf_impl_areAll_int fun_impl_areAll_int call_impl_areAll_int (fun x => by kernel_rfl)
theorem fun_impl_Commit_isAt : Try.prog.funcs[77]? = some Try.f77 := by kernel_rfl
theorem call_impl_Commit_isAt : Fw.Callable Try.prog 77 := Fw.callable_of fun_impl_Commit_isAt (by kernel_rfl) (by kernel_rfl)
theorem pf_impl_Commit_isAt : Fw.PFn.of Try.f77 = some Sg.f_impl_Commit_isAt := Fw.PFn.of_get (by kernel_rfl)
theorem ok_impl_Commit_isAt (K : Nat) : Fw.Ok Try.prog 77 (Sg.s_impl_Commit_isAt K) := Fw.funP_ok (c := Sg.c_impl_Commit_isAt K) (pi := Sg.i_impl_Commit_isAt) (depth := 6) (Fw.cfgP_ok (pi := Sg.i_impl_Commit_isAt) Sg.tabOK Sg.eqsOK Sg.mixOK ⟨ok_impl_within K, ok_impl_MapOK K, ok_impl_areAll_int__impl_Commit_isAt_1 K, trivial⟩ ⟨⟨fun_impl_Commit_isAt_1, call_impl_Commit_isAt_1⟩, ⟨fun_impl_areAll_int_1, call_impl_areAll_int_1⟩, ⟨fun_slices_IndexFunc_int, call_slices_IndexFunc_int⟩, ⟨fun_slices_ContainsFunc_int, call_slices_ContainsFunc_int⟩, ⟨fun_impl_areAll_int, call_impl_areAll_int⟩, trivial⟩ ⟨⟨rfl, pf_impl_Commit_isAt_1⟩, ⟨rfl, pf_impl_areAll_int_1⟩, ⟨rfl, pf_slices_IndexFunc_int⟩, ⟨rfl, pf_slices_ContainsFunc_int⟩, ⟨rfl, pf_impl_areAll_int⟩, trivial⟩ pf_impl_Commit_isAt trivial rfl) ⟨⟨rfl, pf_impl_Commit_isAt_1⟩, ⟨rfl, pf_impl_areAll_int_1⟩, ⟨rfl, pf_slices_IndexFunc_int⟩, ⟨rfl, pf_slices_ContainsFunc_int⟩, ⟨rfl, pf_impl_areAll_int⟩, trivial⟩ pf_impl_Commit_isAt fun_impl_Commit_isAt call_impl_Commit_isAt (fun x => by kernel_rfl)
theorem fun_impl_areCommits : Try.prog.funcs[76]? = some Try.f76 := by kernel_rfl
theorem call_impl_areCommits : Fw.Callable Try.prog 76 := Fw.callable_of fun_impl_areCommits (by kernel_rfl) (by kernel_rfl)
theorem pf_impl_areCommits : Fw.PFn.of Try.f76 = some Sg.f_impl_areCommits := Fw.PFn.of_get (by kernel_rfl)
theorem l_impl_areCommits_0 (K : Nat) : Fw.LoopP (Sg.c_impl_areCommits K) Sg.i_impl_areCommits Sg.f_impl_areCommits (Sg.p_impl_areCommits_0 K) := ⟨fun _ => by kernel_rfl, fun n p => by kernel_rfl⟩
theorem ok_impl_areCommits (K : Nat) : Fw.Ok Try.prog 76 (Sg.s_impl_areCommits K) := Fw.funP_ok (c := Sg.c_impl_areCommits K) (pi := Sg.i_impl_areCommits) (depth := 6) (Fw.cfgP_ok (pi := Sg.i_impl_areCommits) Sg.tabOK Sg.eqsOK Sg.mixOK ⟨ok_impl_Commit_isAt K, trivial⟩ trivial trivial pf_impl_areCommits ⟨⟨_, rfl, l_impl_areCommits_0 K⟩, trivial⟩ rfl) trivial pf_impl_areCommits fun_impl_areCommits call_impl_areCommits (fun x => by kernel_rfl)
theorem fun_slices_Clone_int : Try.prog.funcs[114]? = some Try.f114 := by kernel_rfl
theorem call_slices_Clone_int : Fw.Callable Try.prog 114 := Fw.callable_of fun_slices_Clone_int (by kernel_rfl) (by kernel_rfl)
theorem pf_slices_Clone_int : Fw.PFn.of Try.f114 = some Sg.f_slices_Clone_int := Fw.PFn.of_get (by kernel_rfl)
theorem ok_slices_Clone_int (K : Nat) : Fw.Ok Try.prog 114 (Sg.s_slices_Clone_int K) := Fw.funP_ok (c := Sg.c_slices_Clone_int K) (pi := Sg.i_slices_Clone_int) (depth := 6) (Fw.cfgP_ok (pi := Sg.i_slices_Clone_int) Sg.tabOK Sg.eqsOK Sg.mixOK trivial trivial trivial pf_slices_Clone_int trivial rfl) trivial pf_slices_Clone_int fun_slices_Clone_int call_slices_Clone_int (fun x => by kernel_rfl)
theorem fun_slices_Clone_impl_Entry : Try.prog.funcs[115]? = some Try.f115 := by kernel_rfl
theorem call_slices_Clone_impl_Entry : Fw.Callable Try.prog 115 := Fw.callable_of fun_slices_Clone_impl_Entry (by kernel_rfl) (by kernel_rfl)
theorem pf_slices_Clone_impl_Entry : Fw.PFn.of Try.f115 = some Sg.f_slices_Clone_impl_Entry := Fw.PFn.of_get (by kernel_rfl)
theorem ok_slices_Clone_impl_Entry (K : Nat) : Fw.Ok Try.prog 115 (Sg.s_slices_Clone_impl_Entry K) := Fw.funP_ok (c := Sg.c_slices_Clone_impl_Entry K) (pi := Sg.i_slices_Clone_impl_Entry) (depth := 6) (Fw.cfgP_ok (pi := Sg.i_slices_Clone_impl_Entry) Sg.tabOK Sg.eqsOK Sg.mixOK trivial trivial trivial pf_slices_Clone_impl_Entry trivial rfl) trivial pf_slices_Clone_impl_Entry fun_slices_Clone_impl_Entry call_slices_Clone_impl_Entry (fun x => by kernel_rfl)
theorem fun_impl_Commit_own : Try.prog.funcs[79]? = some Try.f79 := by kernel_rfl
theorem call_impl_Commit_own : Fw.Callable Try.prog 79 := Fw.callable_of fun_impl_Commit_own (by kernel_rfl) (by kernel_rfl)
theorem pf_impl_Commit_own : Fw.PFn.of Try.f79 = some Sg.f_impl_Commit_own := Fw.PFn.of_get (by kernel_rfl)
theorem ok_impl_Commit_own (K : Nat) : Fw.Ok Try.prog 79 (Sg.s_impl_Commit_own K) := Fw.funP_ok (c := Sg.c_impl_Commit_own K) (pi := Sg.i_impl_Commit_own) (depth := 6) (Fw.cfgP_ok (pi := Sg.i_impl_Commit_own) Sg.tabOK Sg.eqsOK Sg.mixOK ⟨ok_slices_Clone_int K, ok_slices_Clone_impl_Entry K, trivial⟩ trivial trivial pf_impl_Commit_own trivial rfl) trivial pf_impl_Commit_own fun_impl_Commit_own call_impl_Commit_own (fun x => by kernel_rfl)
theorem fun_impl_ownStore : Try.prog.funcs[78]? = some Try.f78 := by kernel_rfl
theorem call_impl_ownStore : Fw.Callable Try.prog 78 := Fw.callable_of fun_impl_ownStore (by kernel_rfl) (by kernel_rfl)
theorem pf_impl_ownStore : Fw.PFn.of Try.f78 = some Sg.f_impl_ownStore := Fw.PFn.of_get (by kernel_rfl)
theorem l_impl_ownStore_0 (K : Nat) : Fw.LoopP (Sg.c_impl_ownStore K) Sg.i_impl_ownStore Sg.f_impl_ownStore (Sg.p_impl_ownStore_0 K) := ⟨fun _ => by kernel_rfl, fun n p => by kernel_rfl⟩
theorem ok_impl_ownStore (K : Nat) : Fw.Ok Try.prog 78 (Sg.s_impl_ownStore K) := Fw.funP_ok (c := Sg.c_impl_ownStore K) (pi := Sg.i_impl_ownStore) (depth := 6) (Fw.cfgP_ok (pi := Sg.i_impl_ownStore) Sg.tabOK Sg.eqsOK Sg.mixOK ⟨ok_impl_Commit_own K, trivial⟩ trivial trivial pf_impl_ownStore ⟨⟨_, rfl, l_impl_ownStore_0 K⟩, trivial⟩ rfl) trivial pf_impl_ownStore fun_impl_ownStore call_impl_ownStore (fun x => by kernel_rfl)
theorem fun_impl_AddCommit : Try.prog.funcs[35]? = some Try.f35 := by kernel_rfl
theorem call_impl_AddCommit : Fw.Callable Try.prog 35 := Fw.callable_of fun_impl_AddCommit (by kernel_rfl) (by kernel_rfl)
theorem pf_impl_AddCommit : Fw.PFn.of Try.f35 = some Sg.f_impl_AddCommit := Fw.PFn.of_get (by kernel_rfl)
theorem ok_impl_AddCommit (K : Nat) : Fw.Ok Try.prog 35 (Sg.s_impl_AddCommit K) := Fw.funP_ok (c := Sg.c_impl_AddCommit K) (pi := Sg.i_impl_AddCommit) (depth := 6) (Fw.cfgP_ok (pi := Sg.i_impl_AddCommit) Sg.tabOK Sg.eqsOK Sg.mixOK ⟨ok_impl_isList_impl_Commit K, ok_impl_Commit_isAt K, ok_impl_areCommits K, ok_impl_Commit_own K, ok_impl_ownStore K, trivial⟩ trivial trivial pf_impl_AddCommit trivial rfl) trivial pf_impl_AddCommit fun_impl_AddCommit call_impl_AddCommit (fun x => by kernel_rfl)
theorem fun_laws_eqIntS : Try.prog.funcs[80]? = some Try.f80 := by kernel_rfl
theorem call_laws_eqIntS : Fw.Callable Try.prog 80 := Fw.callable_of fun_laws_eqIntS (by kernel_rfl) (by kernel_rfl)
theorem pf_laws_eqIntS : Fw.PFn.of Try.f80 = some Sg.f_laws_eqIntS := Fw.PFn.of_get (by kernel_rfl)
theorem l_laws_eqIntS_0 (K : Nat) : Fw.LoopP (Sg.c_laws_eqIntS K) Sg.i_laws_eqIntS Sg.f_laws_eqIntS (Sg.p_laws_eqIntS_0 K) := ⟨fun _ => by kernel_rfl, fun n p => by kernel_rfl⟩
theorem ok_laws_eqIntS (K : Nat) : Fw.Ok Try.prog 80 (Sg.s_laws_eqIntS K) := Fw.funP_ok (c := Sg.c_laws_eqIntS K) (pi := Sg.i_laws_eqIntS) (depth := 6) (Fw.cfgP_ok (pi := Sg.i_laws_eqIntS) Sg.tabOK Sg.eqsOK Sg.mixOK trivial trivial trivial pf_laws_eqIntS ⟨⟨_, rfl, l_laws_eqIntS_0 K⟩, trivial⟩ rfl) trivial pf_laws_eqIntS fun_laws_eqIntS call_laws_eqIntS (fun x => by kernel_rfl)
theorem fun_laws_eqEntry : Try.prog.funcs[116]? = some Try.f116 := by kernel_rfl
theorem call_laws_eqEntry : Fw.Callable Try.prog 116 := Fw.callable_of fun_laws_eqEntry (by kernel_rfl) (by kernel_rfl)
theorem pf_laws_eqEntry : Fw.PFn.of Try.f116 = some Sg.f_laws_eqEntry := Fw.PFn.of_get (by kernel_rfl)
theorem ok_laws_eqEntry (K : Nat) : Fw.Ok Try.prog 116 (Sg.s_laws_eqEntry K) := Fw.funP_ok (c := Sg.c_laws_eqEntry K) (pi := Sg.i_laws_eqEntry) (depth := 6) (Fw.cfgP_ok (pi := Sg.i_laws_eqEntry) Sg.tabOK Sg.eqsOK Sg.mixOK trivial trivial trivial pf_laws_eqEntry trivial rfl) trivial pf_laws_eqEntry fun_laws_eqEntry call_laws_eqEntry (fun x => by kernel_rfl)
theorem fun_laws_eqEntryS : Try.prog.funcs[81]? = some Try.f81 := by kernel_rfl
theorem call_laws_eqEntryS : Fw.Callable Try.prog 81 := Fw.callable_of fun_laws_eqEntryS (by kernel_rfl) (by kernel_rfl)
theorem pf_laws_eqEntryS : Fw.PFn.of Try.f81 = some Sg.f_laws_eqEntryS := Fw.PFn.of_get (by kernel_rfl)
theorem l_laws_eqEntryS_0 (K : Nat) : Fw.LoopP (Sg.c_laws_eqEntryS K) Sg.i_laws_eqEntryS Sg.f_laws_eqEntryS (Sg.p_laws_eqEntryS_0 K) := ⟨fun _ => by kernel_rfl, fun n p => by kernel_rfl⟩
theorem ok_laws_eqEntryS (K : Nat) : Fw.Ok Try.prog 81 (Sg.s_laws_eqEntryS K) := Fw.funP_ok (c := Sg.c_laws_eqEntryS K) (pi := Sg.i_laws_eqEntryS) (depth := 6) (Fw.cfgP_ok (pi := Sg.i_laws_eqEntryS) Sg.tabOK Sg.eqsOK Sg.mixOK ⟨ok_laws_eqEntry K, trivial⟩ trivial trivial pf_laws_eqEntryS ⟨⟨_, rfl, l_laws_eqEntryS_0 K⟩, trivial⟩ rfl) trivial pf_laws_eqEntryS fun_laws_eqEntryS call_laws_eqEntryS (fun x => by kernel_rfl)
theorem fun_laws_eqCommit : Try.prog.funcs[37]? = some Try.f37 := by kernel_rfl
theorem call_laws_eqCommit : Fw.Callable Try.prog 37 := Fw.callable_of fun_laws_eqCommit (by kernel_rfl) (by kernel_rfl)
theorem pf_laws_eqCommit : Fw.PFn.of Try.f37 = some Sg.f_laws_eqCommit := Fw.PFn.of_get (by kernel_rfl)
theorem ok_laws_eqCommit (K : Nat) : Fw.Ok Try.prog 37 (Sg.s_laws_eqCommit K) := Fw.funP_ok (c := Sg.c_laws_eqCommit K) (pi := Sg.i_laws_eqCommit) (depth := 6) (Fw.cfgP_ok (pi := Sg.i_laws_eqCommit) Sg.tabOK Sg.eqsOK Sg.mixOK ⟨ok_laws_eqIntS K, ok_laws_eqEntryS K, trivial⟩ trivial trivial pf_laws_eqCommit trivial rfl) trivial pf_laws_eqCommit fun_laws_eqCommit call_laws_eqCommit (fun x => by kernel_rfl)
theorem fun_laws_eqCommitS : Try.prog.funcs[36]? = some Try.f36 := by kernel_rfl
theorem call_laws_eqCommitS : Fw.Callable Try.prog 36 := Fw.callable_of fun_laws_eqCommitS (by kernel_rfl) (by kernel_rfl)
theorem pf_laws_eqCommitS : Fw.PFn.of Try.f36 = some Sg.f_laws_eqCommitS := Fw.PFn.of_get (by kernel_rfl)
theorem l_laws_eqCommitS_0 (K : Nat) : Fw.LoopP (Sg.c_laws_eqCommitS K) Sg.i_laws_eqCommitS Sg.f_laws_eqCommitS (Sg.p_laws_eqCommitS_0 K) := ⟨fun _ => by kernel_rfl, fun n p => by kernel_rfl⟩
theorem ok_laws_eqCommitS (K : Nat) : Fw.Ok Try.prog 36 (Sg.s_laws_eqCommitS K) := Fw.funP_ok (c := Sg.c_laws_eqCommitS K) (pi := Sg.i_laws_eqCommitS) (depth := 6) (Fw.cfgP_ok (pi := Sg.i_laws_eqCommitS) Sg.tabOK Sg.eqsOK Sg.mixOK ⟨ok_laws_eqCommit K, trivial⟩ trivial trivial pf_laws_eqCommitS ⟨⟨_, rfl, l_laws_eqCommitS_0 K⟩, trivial⟩ rfl) trivial pf_laws_eqCommitS fun_laws_eqCommitS call_laws_eqCommitS (fun x => by kernel_rfl)
theorem fun_laws_markIntS : Try.prog.funcs[82]? = some Try.f82 := by kernel_rfl
theorem call_laws_markIntS : Fw.Callable Try.prog 82 := Fw.callable_of fun_laws_markIntS (by kernel_rfl) (by kernel_rfl)
theorem pf_laws_markIntS : Fw.PFn.of Try.f82 = some Sg.f_laws_markIntS := Fw.PFn.of_get (by kernel_rfl)
theorem l_laws_markIntS_0 (K : Nat) : Fw.LoopP (Sg.c_laws_markIntS K) Sg.i_laws_markIntS Sg.f_laws_markIntS (Sg.p_laws_markIntS_0 K) := ⟨fun _ => by kernel_rfl, fun n p => by kernel_rfl⟩
theorem ok_laws_markIntS (K : Nat) : Fw.Ok Try.prog 82 (Sg.s_laws_markIntS K) := Fw.funP_ok (c := Sg.c_laws_markIntS K) (pi := Sg.i_laws_markIntS) (depth := 6) (Fw.cfgP_ok (pi := Sg.i_laws_markIntS) Sg.tabOK Sg.eqsOK Sg.mixOK trivial trivial trivial pf_laws_markIntS ⟨⟨_, rfl, l_laws_markIntS_0 K⟩, trivial⟩ rfl) trivial pf_laws_markIntS fun_laws_markIntS call_laws_markIntS (fun x => by kernel_rfl)
theorem fun_laws_markText : Try.prog.funcs[117]? = some Try.f117 := by kernel_rfl
theorem call_laws_markText : Fw.Callable Try.prog 117 := Fw.callable_of fun_laws_markText (by kernel_rfl) (by kernel_rfl)
theorem pf_laws_markText : Fw.PFn.of Try.f117 = some Sg.f_laws_markText := Fw.PFn.of_get (by kernel_rfl)
theorem l_laws_markText_0 (K : Nat) : Fw.LoopP (Sg.c_laws_markText K) Sg.i_laws_markText Sg.f_laws_markText (Sg.p_laws_markText_0 K) := ⟨fun _ => by kernel_rfl, fun n p => by kernel_rfl⟩
theorem ok_laws_markText (K : Nat) : Fw.Ok Try.prog 117 (Sg.s_laws_markText K) := Fw.funP_ok (c := Sg.c_laws_markText K) (pi := Sg.i_laws_markText) (depth := 6) (Fw.cfgP_ok (pi := Sg.i_laws_markText) Sg.tabOK Sg.eqsOK Sg.mixOK trivial trivial trivial pf_laws_markText ⟨⟨_, rfl, l_laws_markText_0 K⟩, trivial⟩ rfl) trivial pf_laws_markText fun_laws_markText call_laws_markText (fun x => by kernel_rfl)
theorem fun_laws_markEntryS : Try.prog.funcs[83]? = some Try.f83 := by kernel_rfl
theorem call_laws_markEntryS : Fw.Callable Try.prog 83 := Fw.callable_of fun_laws_markEntryS (by kernel_rfl) (by kernel_rfl)
theorem pf_laws_markEntryS : Fw.PFn.of Try.f83 = some Sg.f_laws_markEntryS := Fw.PFn.of_get (by kernel_rfl)
theorem l_laws_markEntryS_0 (K : Nat) : Fw.LoopP (Sg.c_laws_markEntryS K) Sg.i_laws_markEntryS Sg.f_laws_markEntryS (Sg.p_laws_markEntryS_0 K) := ⟨fun _ => by kernel_rfl, fun n p => by kernel_rfl⟩
theorem ok_laws_markEntryS (K : Nat) : Fw.Ok Try.prog 83 (Sg.s_laws_markEntryS K) := Fw.funP_ok (c := Sg.c_laws_markEntryS K) (pi := Sg.i_laws_markEntryS) (depth := 6) (Fw.cfgP_ok (pi := Sg.i_laws_markEntryS) Sg.tabOK Sg.eqsOK Sg.mixOK ⟨ok_laws_markText K, trivial⟩ trivial trivial pf_laws_markEntryS ⟨⟨_, rfl, l_laws_markEntryS_0 K⟩, trivial⟩ rfl) trivial pf_laws_markEntryS fun_laws_markEntryS call_laws_markEntryS (fun x => by kernel_rfl)
theorem fun_laws_markCommitS : Try.prog.funcs[38]? = some Try.f38 := by kernel_rfl
theorem call_laws_markCommitS : Fw.Callable Try.prog 38 := Fw.callable_of fun_laws_markCommitS (by kernel_rfl) (by kernel_rfl)
theorem pf_laws_markCommitS : Fw.PFn.of Try.f38 = some Sg.f_laws_markCommitS := Fw.PFn.of_get (by kernel_rfl)
theorem l_laws_markCommitS_0 (K : Nat) : Fw.LoopP (Sg.c_laws_markCommitS K) Sg.i_laws_markCommitS Sg.f_laws_markCommitS (Sg.p_laws_markCommitS_0 K) := ⟨fun _ => by kernel_rfl, fun n p => by kernel_rfl⟩
theorem ok_laws_markCommitS (K : Nat) : Fw.Ok Try.prog 38 (Sg.s_laws_markCommitS K) := Fw.funP_ok (c := Sg.c_laws_markCommitS K) (pi := Sg.i_laws_markCommitS) (depth := 6) (Fw.cfgP_ok (pi := Sg.i_laws_markCommitS) Sg.tabOK Sg.eqsOK Sg.mixOK ⟨ok_laws_markIntS K, ok_laws_markEntryS K, trivial⟩ trivial trivial pf_laws_markCommitS ⟨⟨_, rfl, l_laws_markCommitS_0 K⟩, trivial⟩ rfl) trivial pf_laws_markCommitS fun_laws_markCommitS call_laws_markCommitS (fun x => by kernel_rfl)
theorem fun_laws_markCommit : Try.prog.funcs[39]? = some Try.f39 := by kernel_rfl
theorem call_laws_markCommit : Fw.Callable Try.prog 39 := Fw.callable_of fun_laws_markCommit (by kernel_rfl) (by kernel_rfl)
theorem pf_laws_markCommit : Fw.PFn.of Try.f39 = some Sg.f_laws_markCommit := Fw.PFn.of_get (by kernel_rfl)
theorem ok_laws_markCommit (K : Nat) : Fw.Ok Try.prog 39 (Sg.s_laws_markCommit K) := Fw.funP_ok (c := Sg.c_laws_markCommit K) (pi := Sg.i_laws_markCommit) (depth := 6) (Fw.cfgP_ok (pi := Sg.i_laws_markCommit) Sg.tabOK Sg.eqsOK Sg.mixOK ⟨ok_laws_markIntS K, ok_laws_markEntryS K, trivial⟩ trivial trivial pf_laws_markCommit trivial rfl) trivial pf_laws_markCommit fun_laws_markCommit call_laws_markCommit (fun x => by kernel_rfl)
theorem fun_laws_heldIntS : Try.prog.funcs[84]? = some Try.f84 := by kernel_rfl
theorem call_laws_heldIntS : Fw.Callable Try.prog 84 := Fw.callable_of fun_laws_heldIntS (by kernel_rfl) (by kernel_rfl)
theorem pf_laws_heldIntS : Fw.PFn.of Try.f84 = some Sg.f_laws_heldIntS := Fw.PFn.of_get (by kernel_rfl)
theorem l_laws_heldIntS_0 (K : Nat) : Fw.LoopP (Sg.c_laws_heldIntS K) Sg.i_laws_heldIntS Sg.f_laws_heldIntS (Sg.p_laws_heldIntS_0 K) := ⟨fun _ => by kernel_rfl, fun n p => by kernel_rfl⟩
theorem ok_laws_heldIntS (K : Nat) : Fw.Ok Try.prog 84 (Sg.s_laws_heldIntS K) := Fw.funP_ok (c := Sg.c_laws_heldIntS K) (pi := Sg.i_laws_heldIntS) (depth := 6) (Fw.cfgP_ok (pi := Sg.i_laws_heldIntS) Sg.tabOK Sg.eqsOK Sg.mixOK trivial trivial trivial pf_laws_heldIntS ⟨⟨_, rfl, l_laws_heldIntS_0 K⟩, trivial⟩ rfl) trivial pf_laws_heldIntS fun_laws_heldIntS call_laws_heldIntS (fun x => by kernel_rfl)
theorem fun_laws_heldEntryS : Try.prog.funcs[85]? = some Try.f85 := by kernel_rfl
theorem call_laws_heldEntryS : Fw.Callable Try.prog 85 := Fw.callable_of fun_laws_heldEntryS (by kernel_rfl) (by kernel_rfl)
theorem pf_laws_heldEntryS : Fw.PFn.of Try.f85 = some Sg.f_laws_heldEntryS := Fw.PFn.of_get (by kernel_rfl)
theorem l_laws_heldEntryS_0 (K : Nat) : Fw.LoopP (Sg.c_laws_heldEntryS K) Sg.i_laws_heldEntryS Sg.f_laws_heldEntryS (Sg.p_laws_heldEntryS_0 K) := ⟨fun _ => by kernel_rfl, fun n p => by kernel_rfl⟩
theorem ok_laws_heldEntryS (K : Nat) : Fw.Ok Try.prog 85 (Sg.s_laws_heldEntryS K) := Fw.funP_ok (c := Sg.c_laws_heldEntryS K) (pi := Sg.i_laws_heldEntryS) (depth := 6) (Fw.cfgP_ok (pi := Sg.i_laws_heldEntryS) Sg.tabOK Sg.eqsOK Sg.mixOK ⟨ok_laws_markText K, trivial⟩ trivial trivial pf_laws_heldEntryS ⟨⟨_, rfl, l_laws_heldEntryS_0 K⟩, trivial⟩ rfl) trivial pf_laws_heldEntryS fun_laws_heldEntryS call_laws_heldEntryS (fun x => by kernel_rfl)
theorem fun_laws_heldCommitS : Try.prog.funcs[40]? = some Try.f40 := by kernel_rfl
theorem call_laws_heldCommitS : Fw.Callable Try.prog 40 := Fw.callable_of fun_laws_heldCommitS (by kernel_rfl) (by kernel_rfl)
theorem pf_laws_heldCommitS : Fw.PFn.of Try.f40 = some Sg.f_laws_heldCommitS := Fw.PFn.of_get (by kernel_rfl)
theorem l_laws_heldCommitS_0 (K : Nat) : Fw.LoopP (Sg.c_laws_heldCommitS K) Sg.i_laws_heldCommitS Sg.f_laws_heldCommitS (Sg.p_laws_heldCommitS_0 K) := ⟨fun _ => by kernel_rfl, fun n p => by kernel_rfl⟩
theorem ok_laws_heldCommitS (K : Nat) : Fw.Ok Try.prog 40 (Sg.s_laws_heldCommitS K) := Fw.funP_ok (c := Sg.c_laws_heldCommitS K) (pi := Sg.i_laws_heldCommitS) (depth := 6) (Fw.cfgP_ok (pi := Sg.i_laws_heldCommitS) Sg.tabOK Sg.eqsOK Sg.mixOK ⟨ok_laws_heldIntS K, ok_laws_heldEntryS K, trivial⟩ trivial trivial pf_laws_heldCommitS ⟨⟨_, rfl, l_laws_heldCommitS_0 K⟩, trivial⟩ rfl) trivial pf_laws_heldCommitS fun_laws_heldCommitS call_laws_heldCommitS (fun x => by kernel_rfl)
theorem fun_laws_FnExactAddCommit : Try.prog.funcs[6]? = some Try.f6 := by kernel_rfl
theorem call_laws_FnExactAddCommit : Fw.Callable Try.prog 6 := Fw.callable_of fun_laws_FnExactAddCommit (by kernel_rfl) (by kernel_rfl)
theorem pf_laws_FnExactAddCommit : Fw.PFn.of Try.f6 = some Sg.f_laws_FnExactAddCommit := Fw.PFn.of_get (by kernel_rfl)
theorem ok_laws_FnExactAddCommit (K : Nat) : Fw.Ok Try.prog 6 (Sg.s_laws_FnExactAddCommit K) := Fw.funP_ok (c := Sg.c_laws_FnExactAddCommit K) (pi := Sg.i_laws_FnExactAddCommit) (depth := 6) (Fw.cfgP_ok (pi := Sg.i_laws_FnExactAddCommit) Sg.tabOK Sg.eqsOK Sg.mixOK ⟨ok_laws_szCommit K, ok_laws_szCommitS K, ok_laws_toCommit K, ok_laws_toCommitS K, ok_spec_AddCommit K, ok_impl_AddCommit K, ok_laws_eqCommit K, ok_laws_eqCommitS K, ok_laws_markCommitS K, ok_laws_markCommit K, ok_laws_heldCommitS K, trivial⟩ trivial trivial pf_laws_FnExactAddCommit trivial rfl) trivial pf_laws_FnExactAddCommit fun_laws_FnExactAddCommit call_laws_FnExactAddCommit (fun x => by kernel_rfl)
end Go.Proofs
