/- The functions' contracts, printed by a program of the prover's own. -/
import Derived.Test.YtilfjfappnpfoaaGreatDoorAR
import Derived.Test.YtilfjfappnpfoaaGreatDoorProg
import Derived.Test.YtilfjfappnpfoaaGreatDoorShelf
set_option linter.all false
namespace Go.Proofs
open Go Fw
set_option maxRecDepth 100000
def Sg.eqs : List Nat := [72, 75, 98, 104, 124]
def Sg.tab : List (Nat × Fw.TyI) := [
(1, .one),
(2, .leaf (.int .i64)),
(3, .leaf (.int .i64)),
(4, .leaf .bool),
(5, .leaf (.int .u8)),
(6, .leaf (.int .u8)),
(7, .struct (.pair (.int .i64) (.pair (.int .i64) (.pair .bool (.int .u8)))) [(0, 2), (1, 3), (2, 4), (3, 6)]),
(8, .struct (.pair (.int .i64) (.pair (.int .i64) (.pair .bool (.int .u8)))) [(0, 2), (1, 3), (2, 4), (3, 6)]),
(9, .leaf .str),
(10, .leaf .str),
(11, .leaf .str),
(12, .leaf (.int .u64)),
(13, .struct (.pair .str (.int .u64)) [(0, 9), (1, 12)]),
(14, .struct (.pair .str (.int .u64)) [(0, 9), (1, 12)]),
(21, .leaf (.int .i32)),
(22, .slice 69 (.pair (.sl (.int .i64)) (.sl (.pair .str (.int .i64)))) 0),
(23, .slice 72 (.pair .str (.pair (.int .i64) (.pair (.int .i64) .bool))) 0),
(24, .struct (.pair (.sl (.pair (.sl (.int .i64)) (.sl (.pair .str (.int .i64))))) (.sl (.pair .str (.pair (.int .i64) (.pair (.int .i64) .bool))))) [(0, 22), (1, 23)]),
(25, .struct (.pair (.sl (.pair (.sl (.int .i64)) (.sl (.pair .str (.int .i64))))) (.sl (.pair .str (.pair (.int .i64) (.pair (.int .i64) .bool))))) [(0, 22), (1, 23)]),
(26, .one),
(27, .slice 9 .str 0),
(29, .one),
(30, .slice 78 (.pair (.sl (.int .i64)) (.sl (.pair .str (.int .i64)))) 0),
(31, .slice 75 (.pair .str (.pair (.int .i64) (.pair (.int .i64) .bool))) 0),
(32, .struct (.pair (.sl (.pair (.sl (.int .i64)) (.sl (.pair .str (.int .i64))))) (.sl (.pair .str (.pair (.int .i64) (.pair (.int .i64) .bool))))) [(0, 30), (1, 31)]),
(33, .struct (.pair (.sl (.pair (.sl (.int .i64)) (.sl (.pair .str (.int .i64))))) (.sl (.pair .str (.pair (.int .i64) (.pair (.int .i64) .bool))))) [(0, 30), (1, 31)]),
(34, .one),
(35, .one),
(36, .one),
(37, .one),
(38, .one),
(39, .one),
(40, .slice 98 (.pair .str (.pair (.int .i64) .bool)) 0),
(41, .struct (.pair (.int .i64) (.pair .str (.pair .str (.pair .str (.sl (.pair .str (.pair (.int .i64) .bool))))))) [(0, 3), (1, 9), (2, 9), (3, 9), (4, 40)]),
(42, .struct (.pair (.int .i64) (.pair .str (.pair .str (.pair .str (.sl (.pair .str (.pair (.int .i64) .bool))))))) [(0, 3), (1, 9), (2, 9), (3, 9), (4, 40)]),
(44, .one),
(45, .one),
(46, .one),
(47, .one),
(48, .one),
(49, .one),
(50, .one),
(51, .one),
(52, .one),
(53, .one),
(54, .one),
(55, .one),
(56, .one),
(57, .one),
(58, .one),
(59, .one),
(61, .one),
(62, .one),
(63, .one),
(64, .one),
(65, .one),
(66, .slice 3 (.int .i64) 0),
(67, .slice 124 (.pair .str (.int .i64)) 0),
(68, .struct (.pair (.sl (.int .i64)) (.sl (.pair .str (.int .i64)))) [(0, 66), (1, 67)]),
(69, .struct (.pair (.sl (.int .i64)) (.sl (.pair .str (.int .i64)))) [(0, 66), (1, 67)]),
(70, .one),
(71, .struct (.pair .str (.pair (.int .i64) (.pair (.int .i64) .bool))) [(0, 9), (1, 3), (2, 3), (3, 4)]),
(72, .struct (.pair .str (.pair (.int .i64) (.pair (.int .i64) .bool))) [(0, 9), (1, 3), (2, 3), (3, 4)]),
(73, .one),
(74, .one),
(75, .struct (.pair .str (.pair (.int .i64) (.pair (.int .i64) .bool))) [(0, 9), (1, 3), (2, 3), (3, 4)]),
(76, .slice 104 (.pair .str (.int .i64)) 0),
(77, .struct (.pair (.sl (.int .i64)) (.sl (.pair .str (.int .i64)))) [(0, 66), (1, 76)]),
(78, .struct (.pair (.sl (.int .i64)) (.sl (.pair .str (.int .i64)))) [(0, 66), (1, 76)]),
(79, .one),
(80, .one),
(81, .one),
(82, .one),
(83, .one),
(84, .one),
(85, .one),
(86, .one),
(87, .one),
(88, .one),
(89, .slice 5 (.int .u8) 0),
(91, .one),
(92, .one),
(93, .one),
(94, .one),
(95, .one),
(96, .one),
(97, .struct (.pair .str (.pair (.int .i64) .bool)) [(0, 9), (1, 3), (2, 4)]),
(98, .struct (.pair .str (.pair (.int .i64) .bool)) [(0, 9), (1, 3), (2, 4)]),
(99, .one),
(100, .one),
(101, .one),
(102, .one),
(103, .struct (.pair .str (.int .i64)) [(0, 9), (1, 3)]),
(104, .struct (.pair .str (.int .i64)) [(0, 9), (1, 3)]),
(105, .one),
(106, .one),
(107, .one),
(108, .one),
(109, .one),
(110, .one),
(112, .one),
(113, .one),
(115, .one),
(116, .one),
(117, .one),
(118, .struct (.pair (.int .i64) (.pair (.int .i64) (.pair .str (.pair .str (.sl (.pair .str (.pair (.int .i64) .bool))))))) [(0, 3), (1, 3), (2, 9), (3, 9), (4, 40)]),
(119, .struct (.pair (.int .i64) (.pair (.int .i64) (.pair .str (.pair .str (.sl (.pair .str (.pair (.int .i64) .bool))))))) [(0, 3), (1, 3), (2, 9), (3, 9), (4, 40)]),
(120, .one),
(121, .one),
(122, .one),
(123, .one),
(124, .struct (.pair .str (.int .i64)) [(0, 9), (1, 3)]),
(125, .one),
(126, .one),
(127, .one),
(128, .one),
(129, .one),
(130, .one),
(131, .one),
(133, .one),
(135, .one),
(136, .one),
(137, .one),
(138, .one),
(139, .one),
(140, .one),
(142, .leaf (.int .u64)),
(143, .one),
(144, .one),
(146, .one),
(150, .one),
(152, .leaf .err),
(154, .one),
(155, .one),
(156, .one),
(157, .one),
(158, .one),
(160, .one),
(161, .one),
(162, .one),
(163, .one),
(165, .leaf (.int .u32)),
(167, .leaf (.int .u64)),
(168, .one),
(170, .one),
(171, .one),
(172, .one),
(173, .one),
(175, .one),
(176, .one),
(177, .leaf (.int .i64)),
(179, .one),
(180, .one),
(181, .one),
(182, .one),
(184, .struct (.pair (.int .u8) (.int .u8)) [(0, 5), (1, 5)]),
(185, .struct (.pair (.int .u8) (.int .u8)) [(0, 5), (1, 5)]),
(188, .one),
(192, .one),
(193, .one),
(194, .struct (.pair .str (.pair .str .err)) [(0, 9), (1, 9), (2, 152)]),
(195, .struct (.pair .str (.pair .str .err)) [(0, 9), (1, 9), (2, 152)]),
(196, .one),
(197, .one),
(198, .one),
(199, .struct .str [(0, 9)]),
(200, .struct .str [(0, 9)]),
(206, .one),
(207, .leaf (.int .u8)),
(208, .leaf (.int .u8)),
(209, .one),
(210, .leaf (.int .i32)),
(211, .leaf (.int .i32)),
(214, .one)]
def Sg.ptrs : List (Nat × Fw.Ty) := [(180, (.pair .str (.pair .str .err))), (198, .str)]
theorem Sg.tabOK : Fw.chkAll Tryz.prog Sg.tab = true := by kernel_rfl
theorem Sg.eqsOK : Fw.eqFacts Tryz.prog Sg.tab Sg.eqs = true := by kernel_rfl
theorem Sg.mixOK : Tryz.prog.follows .mixedOrders = true := by kernel_rfl
instance Sg.glob : Fw.GInv := ⟨fun w => Lib.TabIs Tryz.prog w "internal/strconv.uint64pow10" .u64 Lib.pow10Tab, fun b => Tryz.prog.globalNamed "internal/strconv.uint64pow10" = some b, fun w w' h hw => by
  unfold Lib.TabIs World.var? at hw ⊢
  cases e : Tryz.prog.globalNamed "internal/strconv.uint64pow10" with
  | none => rw [e] at hw; cases hw
  | some b =>
    rw [e] at hw
    simp only [Option.bind_some, h b e] at hw ⊢
    exact hw⟩
noncomputable def Sg.f_laws_szIntS : Fw.PFn := Fw.PFn.get Tryz.f70
noncomputable def Sg.i_laws_szIntS : List (Nat × Fw.PFn) := []
noncomputable def Sg.s_laws_szIntS (K : Nat) : Fw.Sig := { ins := [.val false (.sl (.int .i64)), .val false (.int .i64)], outs := [⟨false, (.int .i64), false⟩], F := fun x => R.laws_szIntS K x.1 x.2.1 }
noncomputable def Sg.c_laws_szIntS (K : Nat) : Fw.Cfg := { tab := Sg.tab, eqs := Sg.eqs, sig := [], inl := [], lo := [], K := K, jo := [], opn := [11, 12, 17, 29, 30, 38, 57, 58] }
noncomputable def Sg.f_laws_szEntry : Fw.PFn := Fw.PFn.get Tryz.f101
noncomputable def Sg.i_laws_szEntry : List (Nat × Fw.PFn) := []
noncomputable def Sg.s_laws_szEntry (K : Nat) : Fw.Sig := { ins := [.val true (.pair .str (.int .i64)), .val false (.int .i64)], outs := [⟨false, (.int .i64), false⟩], F := fun x => R.laws_szEntry K x.1 x.2.1 }
noncomputable def Sg.c_laws_szEntry (K : Nat) : Fw.Cfg := { tab := Sg.tab, eqs := Sg.eqs, sig := [], inl := [], lo := [], K := K, jo := [], opn := [11, 12, 17, 29, 30, 38, 57, 58] }
def Sg.h_laws_szEntryS_0 : Fw.StSh := ⟨[(0, (.d (.sl (.pair .str (.int .i64))))), (1, (.d (.int .i64))), (4, (.d (.int .i64))), (5, (.d (.int .i64)))], [], 0, 27, ⟨0, []⟩⟩
def Sg.o_laws_szEntryS_0 : Fw.StSh := ⟨[(1, (.d (.int .i64))), (4, (.d (.int .i64)))], [], 0, 27, ⟨0, []⟩⟩
def Sg.r_laws_szEntryS_0 : Fw.StSh := ⟨[(4, (.d (.int .i64)))], [], 0, 27, ⟨0, []⟩⟩
noncomputable def Sg.p_laws_szEntryS_0 (K : Nat) : Fw.LSpec := { g := 71, b := 0, lv := 6, l0 := 0, li := 0, head := Sg.h_laws_szEntryS_0, post := Sg.o_laws_szEntryS_0, retn := Sg.r_laws_szEntryS_0, ex := 0, L := R.L_laws_szEntryS_0 K }
noncomputable def Sg.f_laws_szEntryS : Fw.PFn := Fw.PFn.get Tryz.f71
noncomputable def Sg.i_laws_szEntryS : List (Nat × Fw.PFn) := []
noncomputable def Sg.s_laws_szEntryS (K : Nat) : Fw.Sig := { ins := [.val false (.sl (.pair .str (.int .i64))), .val false (.int .i64)], outs := [⟨false, (.int .i64), false⟩], F := fun x => R.laws_szEntryS K x.1 x.2.1 }
noncomputable def Sg.c_laws_szEntryS (K : Nat) : Fw.Cfg := { tab := Sg.tab, eqs := Sg.eqs, sig := [(101, Sg.s_laws_szEntry K)], inl := [], lo := Sg.p_laws_szEntryS_0 K :: [], K := K, jo := [], opn := [11, 12, 17, 29, 30, 38, 57, 58] }
noncomputable def Sg.f_laws_szCommit : Fw.PFn := Fw.PFn.get Tryz.f40
noncomputable def Sg.i_laws_szCommit : List (Nat × Fw.PFn) := []
noncomputable def Sg.s_laws_szCommit (K : Nat) : Fw.Sig := { ins := [.val true (.pair (.sl (.int .i64)) (.sl (.pair .str (.int .i64)))), .val false (.int .i64)], outs := [⟨false, (.int .i64), false⟩], F := fun x => R.laws_szCommit K x.1 x.2.1 }
noncomputable def Sg.c_laws_szCommit (K : Nat) : Fw.Cfg := { tab := Sg.tab, eqs := Sg.eqs, sig := [(70, Sg.s_laws_szIntS K), (71, Sg.s_laws_szEntryS K)], inl := [], lo := [], K := K, jo := [], opn := [11, 12, 17, 29, 30, 38, 57, 58] }
def Sg.h_laws_szCommitS_0 : Fw.StSh := ⟨[(0, (.d (.sl (.pair (.sl (.int .i64)) (.sl (.pair .str (.int .i64))))))), (1, (.d (.int .i64))), (4, (.d (.int .i64))), (5, (.d (.int .i64)))], [], 0, 27, ⟨0, []⟩⟩
def Sg.o_laws_szCommitS_0 : Fw.StSh := ⟨[(1, (.d (.int .i64))), (4, (.d (.int .i64)))], [], 0, 27, ⟨0, []⟩⟩
def Sg.r_laws_szCommitS_0 : Fw.StSh := ⟨[(4, (.d (.int .i64)))], [], 0, 27, ⟨0, []⟩⟩
noncomputable def Sg.p_laws_szCommitS_0 (K : Nat) : Fw.LSpec := { g := 19, b := 0, lv := 6, l0 := 0, li := 0, head := Sg.h_laws_szCommitS_0, post := Sg.o_laws_szCommitS_0, retn := Sg.r_laws_szCommitS_0, ex := 0, L := R.L_laws_szCommitS_0 K }
noncomputable def Sg.f_laws_szCommitS : Fw.PFn := Fw.PFn.get Tryz.f19
noncomputable def Sg.i_laws_szCommitS : List (Nat × Fw.PFn) := []
noncomputable def Sg.s_laws_szCommitS (K : Nat) : Fw.Sig := { ins := [.val false (.sl (.pair (.sl (.int .i64)) (.sl (.pair .str (.int .i64))))), .val false (.int .i64)], outs := [⟨false, (.int .i64), false⟩], F := fun x => R.laws_szCommitS K x.1 x.2.1 }
noncomputable def Sg.c_laws_szCommitS (K : Nat) : Fw.Cfg := { tab := Sg.tab, eqs := Sg.eqs, sig := [(40, Sg.s_laws_szCommit K)], inl := [], lo := Sg.p_laws_szCommitS_0 K :: [], K := K, jo := [], opn := [11, 12, 17, 29, 30, 38, 57, 58] }
noncomputable def Sg.f_laws_szRef : Fw.PFn := Fw.PFn.get Tryz.f41
noncomputable def Sg.i_laws_szRef : List (Nat × Fw.PFn) := []
noncomputable def Sg.s_laws_szRef (K : Nat) : Fw.Sig := { ins := [.val true (.pair .str (.pair (.int .i64) (.pair (.int .i64) .bool))), .val false (.int .i64)], outs := [⟨false, (.int .i64), false⟩], F := fun x => R.laws_szRef K x.1 x.2.1 }
noncomputable def Sg.c_laws_szRef (K : Nat) : Fw.Cfg := { tab := Sg.tab, eqs := Sg.eqs, sig := [], inl := [], lo := [], K := K, jo := [], opn := [11, 12, 17, 29, 30, 38, 57, 58] }
def Sg.h_laws_szRefS_0 : Fw.StSh := ⟨[(0, (.d (.sl (.pair .str (.pair (.int .i64) (.pair (.int .i64) .bool)))))), (1, (.d (.int .i64))), (4, (.d (.int .i64))), (5, (.d (.int .i64)))], [], 0, 27, ⟨0, []⟩⟩
def Sg.o_laws_szRefS_0 : Fw.StSh := ⟨[(1, (.d (.int .i64))), (4, (.d (.int .i64)))], [], 0, 27, ⟨0, []⟩⟩
def Sg.r_laws_szRefS_0 : Fw.StSh := ⟨[(4, (.d (.int .i64)))], [], 0, 27, ⟨0, []⟩⟩
noncomputable def Sg.p_laws_szRefS_0 (K : Nat) : Fw.LSpec := { g := 20, b := 0, lv := 6, l0 := 0, li := 0, head := Sg.h_laws_szRefS_0, post := Sg.o_laws_szRefS_0, retn := Sg.r_laws_szRefS_0, ex := 0, L := R.L_laws_szRefS_0 K }
noncomputable def Sg.f_laws_szRefS : Fw.PFn := Fw.PFn.get Tryz.f20
noncomputable def Sg.i_laws_szRefS : List (Nat × Fw.PFn) := []
noncomputable def Sg.s_laws_szRefS (K : Nat) : Fw.Sig := { ins := [.val false (.sl (.pair .str (.pair (.int .i64) (.pair (.int .i64) .bool)))), .val false (.int .i64)], outs := [⟨false, (.int .i64), false⟩], F := fun x => R.laws_szRefS K x.1 x.2.1 }
noncomputable def Sg.c_laws_szRefS (K : Nat) : Fw.Cfg := { tab := Sg.tab, eqs := Sg.eqs, sig := [(41, Sg.s_laws_szRef K)], inl := [], lo := Sg.p_laws_szRefS_0 K :: [], K := K, jo := [], opn := [11, 12, 17, 29, 30, 38, 57, 58] }
noncomputable def Sg.f_laws_szBase : Fw.PFn := Fw.PFn.get Tryz.f5
noncomputable def Sg.i_laws_szBase : List (Nat × Fw.PFn) := []
noncomputable def Sg.s_laws_szBase (K : Nat) : Fw.Sig := { ins := [.val true (.pair (.sl (.pair (.sl (.int .i64)) (.sl (.pair .str (.int .i64))))) (.sl (.pair .str (.pair (.int .i64) (.pair (.int .i64) .bool))))), .val false (.int .i64)], outs := [⟨false, (.int .i64), false⟩], F := fun x => R.laws_szBase K x.1 x.2.1 }
noncomputable def Sg.c_laws_szBase (K : Nat) : Fw.Cfg := { tab := Sg.tab, eqs := Sg.eqs, sig := [(19, Sg.s_laws_szCommitS K), (20, Sg.s_laws_szRefS K)], inl := [], lo := [], K := K, jo := [], opn := [11, 12, 17, 29, 30, 38, 57, 58] }
def Sg.h_laws_toIntS_0 : Fw.StSh := ⟨[(0, (.d (.sl (.int .i64)))), (2, (.row 0)), (3, (.row 1)), (4, (.d (.int .i64)))], [(0, (.row (.int .i64) true)), (1, (.row (.int .i64) true))], 2, 22, ⟨0, []⟩⟩
def Sg.o_laws_toIntS_0 : Fw.StSh := ⟨[(2, (.row 0)), (3, (.row 1))], [(0, (.row (.int .i64) true)), (1, (.row (.int .i64) true))], 2, 22, ⟨0, []⟩⟩
def Sg.r_laws_toIntS_0 : Fw.StSh := ⟨[], [], 2, 22, ⟨0, []⟩⟩
noncomputable def Sg.p_laws_toIntS_0 (K : Nat) : Fw.LSpec := { g := 76, b := 0, lv := 6, l0 := 0, li := 0, head := Sg.h_laws_toIntS_0, post := Sg.o_laws_toIntS_0, retn := Sg.r_laws_toIntS_0, ex := 0, L := R.L_laws_toIntS_0 K }
noncomputable def Sg.f_laws_toIntS : Fw.PFn := Fw.PFn.get Tryz.f76
noncomputable def Sg.i_laws_toIntS : List (Nat × Fw.PFn) := []
noncomputable def Sg.s_laws_toIntS (K : Nat) : Fw.Sig := { ins := [.val false (.sl (.int .i64))], outs := [⟨false, (.sl (.int .i64)), true⟩], F := fun x => R.laws_toIntS K x.1 }
noncomputable def Sg.c_laws_toIntS (K : Nat) : Fw.Cfg := { tab := Sg.tab, eqs := Sg.eqs, sig := [], inl := [], lo := Sg.p_laws_toIntS_0 K :: [], K := K, jo := [], opn := [11, 12, 17, 29, 30, 38, 57, 58] }
noncomputable def Sg.f_laws_toEntry : Fw.PFn := Fw.PFn.get Tryz.f105
noncomputable def Sg.i_laws_toEntry : List (Nat × Fw.PFn) := []
noncomputable def Sg.s_laws_toEntry (K : Nat) : Fw.Sig := { ins := [.val true (.pair .str (.int .i64))], outs := [⟨true, (.pair .str (.int .i64)), false⟩], F := fun x => R.laws_toEntry K x.1 }
noncomputable def Sg.c_laws_toEntry (K : Nat) : Fw.Cfg := { tab := Sg.tab, eqs := Sg.eqs, sig := [], inl := [], lo := [], K := K, jo := [], opn := [11, 12, 17, 29, 30, 38, 57, 58] }
def Sg.h_laws_toEntryS_0 : Fw.StSh := ⟨[(0, (.d (.sl (.pair .str (.int .i64))))), (2, (.row 0)), (3, (.row 1)), (4, (.d (.int .i64)))], [(0, (.row (.pair .str (.int .i64)) true)), (1, (.row (.pair .str (.int .i64)) true))], 2, 23, ⟨0, []⟩⟩
def Sg.o_laws_toEntryS_0 : Fw.StSh := ⟨[(2, (.row 0)), (3, (.row 1))], [(0, (.row (.pair .str (.int .i64)) true)), (1, (.row (.pair .str (.int .i64)) true))], 2, 23, ⟨0, []⟩⟩
def Sg.r_laws_toEntryS_0 : Fw.StSh := ⟨[], [], 2, 23, ⟨0, []⟩⟩
noncomputable def Sg.p_laws_toEntryS_0 (K : Nat) : Fw.LSpec := { g := 77, b := 0, lv := 6, l0 := 0, li := 0, head := Sg.h_laws_toEntryS_0, post := Sg.o_laws_toEntryS_0, retn := Sg.r_laws_toEntryS_0, ex := 0, L := R.L_laws_toEntryS_0 K }
noncomputable def Sg.f_laws_toEntryS : Fw.PFn := Fw.PFn.get Tryz.f77
noncomputable def Sg.i_laws_toEntryS : List (Nat × Fw.PFn) := []
noncomputable def Sg.s_laws_toEntryS (K : Nat) : Fw.Sig := { ins := [.val false (.sl (.pair .str (.int .i64)))], outs := [⟨false, (.sl (.pair .str (.int .i64))), true⟩], F := fun x => R.laws_toEntryS K x.1 }
noncomputable def Sg.c_laws_toEntryS (K : Nat) : Fw.Cfg := { tab := Sg.tab, eqs := Sg.eqs, sig := [(105, Sg.s_laws_toEntry K)], inl := [], lo := Sg.p_laws_toEntryS_0 K :: [], K := K, jo := [], opn := [11, 12, 17, 29, 30, 38, 57, 58] }
noncomputable def Sg.f_laws_toCommit : Fw.PFn := Fw.PFn.get Tryz.f46
noncomputable def Sg.i_laws_toCommit : List (Nat × Fw.PFn) := []
noncomputable def Sg.s_laws_toCommit (K : Nat) : Fw.Sig := { ins := [.val true (.pair (.sl (.int .i64)) (.sl (.pair .str (.int .i64))))], outs := [⟨true, (.pair (.sl (.int .i64)) (.sl (.pair .str (.int .i64)))), true⟩], F := fun x => R.laws_toCommit K x.1 }
noncomputable def Sg.c_laws_toCommit (K : Nat) : Fw.Cfg := { tab := Sg.tab, eqs := Sg.eqs, sig := [(76, Sg.s_laws_toIntS K), (77, Sg.s_laws_toEntryS K)], inl := [], lo := [], K := K, jo := [], opn := [11, 12, 17, 29, 30, 38, 57, 58] }
def Sg.h_laws_toCommitS_0 : Fw.StSh := ⟨[(0, (.d (.sl (.pair (.sl (.int .i64)) (.sl (.pair .str (.int .i64))))))), (2, (.row 0)), (3, (.row 1)), (4, (.d (.int .i64)))], [(0, (.row (.pair (.sl (.int .i64)) (.sl (.pair .str (.int .i64)))) true)), (1, (.row (.pair (.sl (.int .i64)) (.sl (.pair .str (.int .i64)))) true))], 2, 23, ⟨0, []⟩⟩
def Sg.o_laws_toCommitS_0 : Fw.StSh := ⟨[(2, (.row 0)), (3, (.row 1))], [(0, (.row (.pair (.sl (.int .i64)) (.sl (.pair .str (.int .i64)))) true)), (1, (.row (.pair (.sl (.int .i64)) (.sl (.pair .str (.int .i64)))) true))], 2, 23, ⟨0, []⟩⟩
def Sg.r_laws_toCommitS_0 : Fw.StSh := ⟨[], [], 2, 23, ⟨0, []⟩⟩
noncomputable def Sg.p_laws_toCommitS_0 (K : Nat) : Fw.LSpec := { g := 23, b := 0, lv := 6, l0 := 0, li := 0, head := Sg.h_laws_toCommitS_0, post := Sg.o_laws_toCommitS_0, retn := Sg.r_laws_toCommitS_0, ex := 0, L := R.L_laws_toCommitS_0 K }
noncomputable def Sg.f_laws_toCommitS : Fw.PFn := Fw.PFn.get Tryz.f23
noncomputable def Sg.i_laws_toCommitS : List (Nat × Fw.PFn) := []
noncomputable def Sg.s_laws_toCommitS (K : Nat) : Fw.Sig := { ins := [.val false (.sl (.pair (.sl (.int .i64)) (.sl (.pair .str (.int .i64)))))], outs := [⟨false, (.sl (.pair (.sl (.int .i64)) (.sl (.pair .str (.int .i64))))), true⟩], F := fun x => R.laws_toCommitS K x.1 }
noncomputable def Sg.c_laws_toCommitS (K : Nat) : Fw.Cfg := { tab := Sg.tab, eqs := Sg.eqs, sig := [(46, Sg.s_laws_toCommit K)], inl := [], lo := Sg.p_laws_toCommitS_0 K :: [], K := K, jo := [], opn := [11, 12, 17, 29, 30, 38, 57, 58] }
noncomputable def Sg.f_laws_toRef : Fw.PFn := Fw.PFn.get Tryz.f47
noncomputable def Sg.i_laws_toRef : List (Nat × Fw.PFn) := []
noncomputable def Sg.s_laws_toRef (K : Nat) : Fw.Sig := { ins := [.val true (.pair .str (.pair (.int .i64) (.pair (.int .i64) .bool)))], outs := [⟨true, (.pair .str (.pair (.int .i64) (.pair (.int .i64) .bool))), false⟩], F := fun x => R.laws_toRef K x.1 }
noncomputable def Sg.c_laws_toRef (K : Nat) : Fw.Cfg := { tab := Sg.tab, eqs := Sg.eqs, sig := [], inl := [], lo := [], K := K, jo := [], opn := [11, 12, 17, 29, 30, 38, 57, 58] }
def Sg.h_laws_toRefS_0 : Fw.StSh := ⟨[(0, (.d (.sl (.pair .str (.pair (.int .i64) (.pair (.int .i64) .bool)))))), (2, (.row 0)), (3, (.row 1)), (4, (.d (.int .i64)))], [(0, (.row (.pair .str (.pair (.int .i64) (.pair (.int .i64) .bool))) true)), (1, (.row (.pair .str (.pair (.int .i64) (.pair (.int .i64) .bool))) true))], 2, 23, ⟨0, []⟩⟩
def Sg.o_laws_toRefS_0 : Fw.StSh := ⟨[(2, (.row 0)), (3, (.row 1))], [(0, (.row (.pair .str (.pair (.int .i64) (.pair (.int .i64) .bool))) true)), (1, (.row (.pair .str (.pair (.int .i64) (.pair (.int .i64) .bool))) true))], 2, 23, ⟨0, []⟩⟩
def Sg.r_laws_toRefS_0 : Fw.StSh := ⟨[], [], 2, 23, ⟨0, []⟩⟩
noncomputable def Sg.p_laws_toRefS_0 (K : Nat) : Fw.LSpec := { g := 24, b := 0, lv := 6, l0 := 0, li := 0, head := Sg.h_laws_toRefS_0, post := Sg.o_laws_toRefS_0, retn := Sg.r_laws_toRefS_0, ex := 0, L := R.L_laws_toRefS_0 K }
noncomputable def Sg.f_laws_toRefS : Fw.PFn := Fw.PFn.get Tryz.f24
noncomputable def Sg.i_laws_toRefS : List (Nat × Fw.PFn) := []
noncomputable def Sg.s_laws_toRefS (K : Nat) : Fw.Sig := { ins := [.val false (.sl (.pair .str (.pair (.int .i64) (.pair (.int .i64) .bool))))], outs := [⟨false, (.sl (.pair .str (.pair (.int .i64) (.pair (.int .i64) .bool)))), true⟩], F := fun x => R.laws_toRefS K x.1 }
noncomputable def Sg.c_laws_toRefS (K : Nat) : Fw.Cfg := { tab := Sg.tab, eqs := Sg.eqs, sig := [(47, Sg.s_laws_toRef K)], inl := [], lo := Sg.p_laws_toRefS_0 K :: [], K := K, jo := [], opn := [11, 12, 17, 29, 30, 38, 57, 58] }
noncomputable def Sg.f_laws_toBase : Fw.PFn := Fw.PFn.get Tryz.f7
noncomputable def Sg.i_laws_toBase : List (Nat × Fw.PFn) := []
noncomputable def Sg.s_laws_toBase (K : Nat) : Fw.Sig := { ins := [.val true (.pair (.sl (.pair (.sl (.int .i64)) (.sl (.pair .str (.int .i64))))) (.sl (.pair .str (.pair (.int .i64) (.pair (.int .i64) .bool)))))], outs := [⟨true, (.pair (.sl (.pair (.sl (.int .i64)) (.sl (.pair .str (.int .i64))))) (.sl (.pair .str (.pair (.int .i64) (.pair (.int .i64) .bool))))), true⟩], F := fun x => R.laws_toBase K x.1 }
noncomputable def Sg.c_laws_toBase (K : Nat) : Fw.Cfg := { tab := Sg.tab, eqs := Sg.eqs, sig := [(23, Sg.s_laws_toCommitS K), (24, Sg.s_laws_toRefS K)], inl := [], lo := [], K := K, jo := [], opn := [11, 12, 17, 29, 30, 38, 57, 58] }
noncomputable def Sg.f_spec_l01In : Fw.PFn := Fw.PFn.get Tryz.f72
noncomputable def Sg.i_spec_l01In : List (Nat × Fw.PFn) := []
noncomputable def Sg.s_spec_l01In (K : Nat) : Fw.Sig := { ins := [.val false (.int .i64), .val false (.int .i64), .val false (.int .i64)], outs := [⟨false, .bool, false⟩], F := fun x => R.spec_l01In K x.1 x.2.1 x.2.2.1 }
noncomputable def Sg.c_spec_l01In (K : Nat) : Fw.Cfg := { tab := Sg.tab, eqs := Sg.eqs, sig := [], inl := [], lo := [], K := K, jo := [], opn := [11, 12, 17, 29, 30, 38, 57, 58] }
noncomputable def Sg.f_spec_l00Letter : Fw.PFn := Fw.PFn.get Tryz.f103
noncomputable def Sg.i_spec_l00Letter : List (Nat × Fw.PFn) := []
noncomputable def Sg.s_spec_l00Letter (K : Nat) : Fw.Sig := { ins := [.val false (.int .u8)], outs := [⟨false, .bool, false⟩], F := fun x => R.spec_l00Letter K x.1 }
noncomputable def Sg.c_spec_l00Letter (K : Nat) : Fw.Cfg := { tab := Sg.tab, eqs := Sg.eqs, sig := [], inl := [], lo := [], K := K, jo := [], opn := [11, 12, 17, 29, 30, 38, 57, 58] }
noncomputable def Sg.f_spec_l00Digit : Fw.PFn := Fw.PFn.get Tryz.f104
noncomputable def Sg.i_spec_l00Digit : List (Nat × Fw.PFn) := []
noncomputable def Sg.s_spec_l00Digit (K : Nat) : Fw.Sig := { ins := [.val false (.int .u8)], outs := [⟨false, .bool, false⟩], F := fun x => R.spec_l00Digit K x.1 }
noncomputable def Sg.c_spec_l00Digit (K : Nat) : Fw.Cfg := { tab := Sg.tab, eqs := Sg.eqs, sig := [], inl := [], lo := [], K := K, jo := [], opn := [11, 12, 17, 29, 30, 38, 57, 58] }
def Sg.h_spec_l00Word_0 : Fw.StSh := ⟨[(0, (.d .str)), (2, (.d .bool)), (3, (.d (.int .i64)))], [], 0, 36, ⟨0, []⟩⟩
def Sg.o_spec_l00Word_0 : Fw.StSh := ⟨[(2, (.d .bool))], [], 0, 36, ⟨0, []⟩⟩
def Sg.r_spec_l00Word_0 : Fw.StSh := ⟨[(2, (.d .bool))], [], 0, 36, ⟨0, []⟩⟩
noncomputable def Sg.p_spec_l00Word_0 (K : Nat) : Fw.LSpec := { g := 74, b := 0, lv := 6, l0 := 0, li := 0, head := Sg.h_spec_l00Word_0, post := Sg.o_spec_l00Word_0, retn := Sg.r_spec_l00Word_0, ex := 0, L := R.L_spec_l00Word_0 K }
noncomputable def Sg.f_spec_l00Word : Fw.PFn := Fw.PFn.get Tryz.f74
noncomputable def Sg.i_spec_l00Word : List (Nat × Fw.PFn) := []
noncomputable def Sg.s_spec_l00Word (K : Nat) : Fw.Sig := { ins := [.val false .str], outs := [⟨false, .bool, false⟩], F := fun x => R.spec_l00Word K x.1 }
noncomputable def Sg.c_spec_l00Word (K : Nat) : Fw.Cfg := { tab := Sg.tab, eqs := Sg.eqs, sig := [(103, Sg.s_spec_l00Letter K), (104, Sg.s_spec_l00Digit K)], inl := [], lo := Sg.p_spec_l00Word_0 K :: [], K := K, jo := [], opn := [11, 12, 17, 29, 30, 38, 57, 58] }
def Sg.h_spec_l01OK_0 : Fw.StSh := ⟨[(0, (.d (.sl (.pair .str (.int .i64))))), (2, (.d .bool)), (3, (.d (.int .i64)))], [], 0, 47, ⟨0, []⟩⟩
def Sg.o_spec_l01OK_0 : Fw.StSh := ⟨[(2, (.d .bool))], [], 0, 47, ⟨0, []⟩⟩
def Sg.r_spec_l01OK_0 : Fw.StSh := ⟨[(2, (.d .bool))], [], 0, 47, ⟨0, []⟩⟩
noncomputable def Sg.p_spec_l01OK_0 (K : Nat) : Fw.LSpec := { g := 102, b := 0, lv := 6, l0 := 0, li := 0, head := Sg.h_spec_l01OK_0, post := Sg.o_spec_l01OK_0, retn := Sg.r_spec_l01OK_0, ex := 0, L := R.L_spec_l01OK_0 K }
noncomputable def Sg.f_spec_l01OK : Fw.PFn := Fw.PFn.get Tryz.f102
noncomputable def Sg.i_spec_l01OK : List (Nat × Fw.PFn) := []
noncomputable def Sg.s_spec_l01OK (K : Nat) : Fw.Sig := { ins := [.val false (.sl (.pair .str (.int .i64)))], outs := [⟨false, .bool, false⟩], F := fun x => R.spec_l01OK K x.1 }
noncomputable def Sg.c_spec_l01OK (K : Nat) : Fw.Cfg := { tab := Sg.tab, eqs := Sg.eqs, sig := [(72, Sg.s_spec_l01In K), (74, Sg.s_spec_l00Word K)], inl := [], lo := Sg.p_spec_l01OK_0 K :: [], K := K, jo := ⟨102, 0, 6, 0, 6, none⟩ :: [], opn := [11, 12, 17, 29, 30, 38, 57, 58] }
def Sg.h_spec_l03Commit_0 : Fw.StSh := ⟨[(0, (.d (.sl (.pair (.sl (.int .i64)) (.sl (.pair .str (.int .i64))))))), (3, (.ref 0 0)), (4, (.d .bool)), (5, (.d (.int .i64))), (6, (.d (.int .i64)))], [(0, (.box [(.d (.sl (.int .i64))), (.d (.sl (.pair .str (.int .i64))))]))], 1, 56, ⟨0, []⟩⟩
def Sg.o_spec_l03Commit_0 : Fw.StSh := ⟨[(4, (.d .bool))], [], 1, 56, ⟨0, []⟩⟩
def Sg.r_spec_l03Commit_0 : Fw.StSh := ⟨[(4, (.d .bool))], [], 1, 56, ⟨0, []⟩⟩
noncomputable def Sg.p_spec_l03Commit_0 (K : Nat) : Fw.LSpec := { g := 73, b := 0, lv := 6, l0 := 0, li := 0, head := Sg.h_spec_l03Commit_0, post := Sg.o_spec_l03Commit_0, retn := Sg.r_spec_l03Commit_0, ex := 0, L := R.L_spec_l03Commit_0 K }
noncomputable def Sg.f_spec_l03Commit : Fw.PFn := Fw.PFn.get Tryz.f73
noncomputable def Sg.i_spec_l03Commit : List (Nat × Fw.PFn) := []
noncomputable def Sg.s_spec_l03Commit (K : Nat) : Fw.Sig := { ins := [.val false (.sl (.pair (.sl (.int .i64)) (.sl (.pair .str (.int .i64))))), .val true (.pair (.sl (.int .i64)) (.sl (.pair .str (.int .i64))))], outs := [⟨false, .bool, false⟩], F := fun x => R.spec_l03Commit K x.1 x.2.1 }
noncomputable def Sg.c_spec_l03Commit (K : Nat) : Fw.Cfg := { tab := Sg.tab, eqs := Sg.eqs, sig := [(72, Sg.s_spec_l01In K), (102, Sg.s_spec_l01OK K)], inl := [], lo := Sg.p_spec_l03Commit_0 K :: [], K := K, jo := ⟨73, 0, 6, 0, 7, none⟩ :: [], opn := [11, 12, 17, 29, 30, 38, 57, 58] }
def Sg.h_spec_l03OK_0 : Fw.StSh := ⟨[(0, (.d (.sl (.pair (.sl (.int .i64)) (.sl (.pair .str (.int .i64))))))), (2, (.d .bool)), (3, (.d (.int .i64)))], [], 0, 23, ⟨0, []⟩⟩
def Sg.o_spec_l03OK_0 : Fw.StSh := ⟨[(2, (.d .bool))], [], 0, 23, ⟨0, []⟩⟩
def Sg.r_spec_l03OK_0 : Fw.StSh := ⟨[(2, (.d .bool))], [], 0, 23, ⟨0, []⟩⟩
noncomputable def Sg.p_spec_l03OK_0 (K : Nat) : Fw.LSpec := { g := 42, b := 0, lv := 6, l0 := 0, li := 0, head := Sg.h_spec_l03OK_0, post := Sg.o_spec_l03OK_0, retn := Sg.r_spec_l03OK_0, ex := 0, L := R.L_spec_l03OK_0 K }
noncomputable def Sg.f_spec_l03OK : Fw.PFn := Fw.PFn.get Tryz.f42
noncomputable def Sg.i_spec_l03OK : List (Nat × Fw.PFn) := []
noncomputable def Sg.s_spec_l03OK (K : Nat) : Fw.Sig := { ins := [.val false (.sl (.pair (.sl (.int .i64)) (.sl (.pair .str (.int .i64)))))], outs := [⟨false, .bool, false⟩], F := fun x => R.spec_l03OK K x.1 }
noncomputable def Sg.c_spec_l03OK (K : Nat) : Fw.Cfg := { tab := Sg.tab, eqs := Sg.eqs, sig := [(72, Sg.s_spec_l01In K), (73, Sg.s_spec_l03Commit K)], inl := [], lo := Sg.p_spec_l03OK_0 K :: [], K := K, jo := ⟨42, 0, 6, 0, 6, none⟩ :: [], opn := [11, 12, 17, 29, 30, 38, 57, 58] }
def Sg.h_spec_l04At_0 : Fw.StSh := ⟨[(0, (.d (.sl (.pair .str (.pair (.int .i64) (.pair (.int .i64) .bool)))))), (1, (.d .str)), (4, (.d (.int .i64))), (5, (.d (.int .i64)))], [], 0, 20, ⟨0, []⟩⟩
def Sg.o_spec_l04At_0 : Fw.StSh := ⟨[(4, (.d (.int .i64)))], [], 0, 20, ⟨0, []⟩⟩
def Sg.r_spec_l04At_0 : Fw.StSh := ⟨[(4, (.d (.int .i64)))], [], 0, 20, ⟨0, []⟩⟩
noncomputable def Sg.p_spec_l04At_0 (K : Nat) : Fw.LSpec := { g := 75, b := 0, lv := 6, l0 := 0, li := 0, head := Sg.h_spec_l04At_0, post := Sg.o_spec_l04At_0, retn := Sg.r_spec_l04At_0, ex := 0, L := R.L_spec_l04At_0 K }
noncomputable def Sg.f_spec_l04At : Fw.PFn := Fw.PFn.get Tryz.f75
noncomputable def Sg.i_spec_l04At : List (Nat × Fw.PFn) := []
noncomputable def Sg.s_spec_l04At (K : Nat) : Fw.Sig := { ins := [.val false (.sl (.pair .str (.pair (.int .i64) (.pair (.int .i64) .bool)))), .val false .str], outs := [⟨false, (.int .i64), false⟩], F := fun x => R.spec_l04At K x.1 x.2.1 }
noncomputable def Sg.c_spec_l04At (K : Nat) : Fw.Cfg := { tab := Sg.tab, eqs := Sg.eqs, sig := [], inl := [], lo := Sg.p_spec_l04At_0 K :: [], K := K, jo := [], opn := [11, 12, 17, 29, 30, 38, 57, 58] }
def Sg.h_spec_l04OK_0 : Fw.StSh := ⟨[(0, (.d (.sl (.pair .str (.pair (.int .i64) (.pair (.int .i64) .bool)))))), (2, (.d .bool)), (3, (.d (.int .i64)))], [], 0, 56, ⟨0, []⟩⟩
def Sg.o_spec_l04OK_0 : Fw.StSh := ⟨[(2, (.d .bool))], [], 0, 56, ⟨0, []⟩⟩
def Sg.r_spec_l04OK_0 : Fw.StSh := ⟨[(2, (.d .bool))], [], 1, 56, ⟨0, []⟩⟩
noncomputable def Sg.p_spec_l04OK_0 (K : Nat) : Fw.LSpec := { g := 43, b := 0, lv := 6, l0 := 0, li := 0, head := Sg.h_spec_l04OK_0, post := Sg.o_spec_l04OK_0, retn := Sg.r_spec_l04OK_0, ex := 0, L := R.L_spec_l04OK_0 K }
noncomputable def Sg.f_spec_l04OK : Fw.PFn := Fw.PFn.get Tryz.f43
noncomputable def Sg.i_spec_l04OK : List (Nat × Fw.PFn) := []
noncomputable def Sg.s_spec_l04OK (K : Nat) : Fw.Sig := { ins := [.val false (.sl (.pair .str (.pair (.int .i64) (.pair (.int .i64) .bool))))], outs := [⟨false, .bool, false⟩], F := fun x => R.spec_l04OK K x.1 }
noncomputable def Sg.c_spec_l04OK (K : Nat) : Fw.Cfg := { tab := Sg.tab, eqs := Sg.eqs, sig := [(72, Sg.s_spec_l01In K), (74, Sg.s_spec_l00Word K), (75, Sg.s_spec_l04At K)], inl := [], lo := Sg.p_spec_l04OK_0 K :: [], K := K, jo := [], opn := [11, 12, 17, 29, 30, 38, 57, 58] }
def Sg.h_spec_l05OK_0 : Fw.StSh := ⟨[(1, (.ref 0 0)), (2, (.d .bool)), (3, (.d (.int .i64)))], [(0, (.box [(.d (.sl (.pair (.sl (.int .i64)) (.sl (.pair .str (.int .i64)))))), (.d (.sl (.pair .str (.pair (.int .i64) (.pair (.int .i64) .bool)))))]))], 1, 31, ⟨0, []⟩⟩
def Sg.o_spec_l05OK_0 : Fw.StSh := ⟨[(2, (.d .bool))], [], 1, 31, ⟨0, []⟩⟩
def Sg.r_spec_l05OK_0 : Fw.StSh := ⟨[(2, (.d .bool))], [], 1, 31, ⟨0, []⟩⟩
noncomputable def Sg.p_spec_l05OK_0 (K : Nat) : Fw.LSpec := { g := 21, b := 0, lv := 6, l0 := 0, li := 0, head := Sg.h_spec_l05OK_0, post := Sg.o_spec_l05OK_0, retn := Sg.r_spec_l05OK_0, ex := 0, L := R.L_spec_l05OK_0 K }
noncomputable def Sg.f_spec_l05OK : Fw.PFn := Fw.PFn.get Tryz.f21
noncomputable def Sg.i_spec_l05OK : List (Nat × Fw.PFn) := []
noncomputable def Sg.s_spec_l05OK (K : Nat) : Fw.Sig := { ins := [.val true (.pair (.sl (.pair (.sl (.int .i64)) (.sl (.pair .str (.int .i64))))) (.sl (.pair .str (.pair (.int .i64) (.pair (.int .i64) .bool)))))], outs := [⟨false, .bool, false⟩], F := fun x => R.spec_l05OK K x.1 }
noncomputable def Sg.c_spec_l05OK (K : Nat) : Fw.Cfg := { tab := Sg.tab, eqs := Sg.eqs, sig := [(42, Sg.s_spec_l03OK K), (43, Sg.s_spec_l04OK K)], inl := [], lo := Sg.p_spec_l05OK_0 K :: [], K := K, jo := ⟨21, 0, 6, 0, 6, none⟩ :: [], opn := [11, 12, 17, 29, 30, 38, 57, 58] }
def Sg.j_spec_l00Digits_0 : Fw.StSh := ⟨[(2, (.d .str))], [], 1, 28, ⟨0, []⟩⟩
noncomputable def Sg.f_spec_l00Digits : Fw.PFn := Fw.PFn.get Tryz.f44
noncomputable def Sg.i_spec_l00Digits : List (Nat × Fw.PFn) := []
noncomputable def Sg.s_spec_l00Digits (K n : Nat) : Fw.Sig := { ins := [.val false (.int .i64)], outs := [⟨false, .str, false⟩], F := fun x => R.spec_l00Digits K n x.1 }
noncomputable def Sg.c_spec_l00Digits (K : Nat) (rec : (Int) → Option (((List UInt8) × Unit) × Unit)) : Fw.Cfg := { tab := Sg.tab, eqs := Sg.eqs, sig := [(44, { ins := [.val false (.int .i64)], outs := [⟨false, .str, false⟩], F := fun x => rec x.1 })], inl := [], lo := [], K := K, jo := ⟨44, 0, 6, 0, 7, some Sg.j_spec_l00Digits_0⟩ :: [], opn := [11, 12, 17, 29, 30, 38, 57, 58] }
def Sg.h_spec_l13Map_0 : Fw.StSh := ⟨[(0, (.d (.sl (.pair .str (.int .i64))))), (2, (.d .str)), (3, (.d .str)), (4, (.d (.int .i64)))], [], 0, 34, ⟨0, []⟩⟩
def Sg.o_spec_l13Map_0 : Fw.StSh := ⟨[(2, (.d .str)), (3, (.d .str))], [], 0, 34, ⟨0, []⟩⟩
def Sg.r_spec_l13Map_0 : Fw.StSh := ⟨[], [], 0, 34, ⟨0, []⟩⟩
noncomputable def Sg.p_spec_l13Map_0 (K : Nat) : Fw.LSpec := { g := 45, b := 0, lv := 6, l0 := 0, li := 0, head := Sg.h_spec_l13Map_0, post := Sg.o_spec_l13Map_0, retn := Sg.r_spec_l13Map_0, ex := 0, L := R.L_spec_l13Map_0 K }
noncomputable def Sg.f_spec_l13Map : Fw.PFn := Fw.PFn.get Tryz.f45
noncomputable def Sg.i_spec_l13Map : List (Nat × Fw.PFn) := []
noncomputable def Sg.s_spec_l13Map (K : Nat) : Fw.Sig := { ins := [.val false (.sl (.pair .str (.int .i64)))], outs := [⟨false, .str, false⟩], F := fun x => R.spec_l13Map K x.1 }
noncomputable def Sg.c_spec_l13Map (K : Nat) : Fw.Cfg := { tab := Sg.tab, eqs := Sg.eqs, sig := [(44, Sg.s_spec_l00Digits K K)], inl := [], lo := Sg.p_spec_l13Map_0 K :: [], K := K, jo := ⟨45, 0, 6, 0, 9, none⟩ :: [], opn := [11, 12, 17, 29, 30, 38, 57, 58] }
def Sg.h_spec_l13Base_1 : Fw.StSh := ⟨[(1, (.ref 0 0)), (2, (.row 1)), (3, (.row 2)), (4, (.d (.int .i64))), (5, (.d .str)), (6, (.d (.int .i64))), (11, (.d (.int .i64))), (12, (.ref 0 0)), (13, (.d (.sl (.pair (.sl (.int .i64)) (.sl (.pair .str (.int .i64))))))), (14, (.d (.int .i64))), (15, (.d .bool)), (18, (.d (.int .i64))), (19, (.d (.int .i64))), (20, (.d .str)), (21, (.d .str))], [(0, (.box [(.d (.sl (.pair (.sl (.int .i64)) (.sl (.pair .str (.int .i64)))))), (.d (.sl (.pair .str (.pair (.int .i64) (.pair (.int .i64) .bool)))))])), (1, (.row .str true)), (2, (.row .str true))], 3, 94, ⟨0, []⟩⟩
def Sg.o_spec_l13Base_1 : Fw.StSh := ⟨[(1, (.ref 0 0)), (2, (.row 1)), (3, (.row 2)), (4, (.d (.int .i64))), (5, (.d .str)), (6, (.d (.int .i64))), (11, (.d (.int .i64))), (12, (.ref 0 0)), (13, (.d (.sl (.pair (.sl (.int .i64)) (.sl (.pair .str (.int .i64))))))), (14, (.d (.int .i64))), (15, (.d .bool)), (18, (.d (.int .i64))), (19, (.d (.int .i64))), (20, (.d .str)), (21, (.d .str)), (22, (.d (.int .i64))), (23, (.ref 0 0)), (24, (.d (.sl (.pair (.sl (.int .i64)) (.sl (.pair .str (.int .i64))))))), (25, (.d (.int .i64))), (26, (.dref (.pair (.sl (.int .i64)) (.sl (.pair .str (.int .i64)))) 0)), (27, (.dref (.pair (.sl (.int .i64)) (.sl (.pair .str (.int .i64)))) 0)), (28, (.d (.sl (.int .i64)))), (29, (.d (.int .i64))), (30, (.d .bool))], [(0, (.box [(.d (.sl (.pair (.sl (.int .i64)) (.sl (.pair .str (.int .i64)))))), (.d (.sl (.pair .str (.pair (.int .i64) (.pair (.int .i64) .bool)))))])), (1, (.row .str true)), (2, (.row .str true))], 3, 94, ⟨0, []⟩⟩
def Sg.r_spec_l13Base_1 : Fw.StSh := ⟨[], [], 3, 94, ⟨0, []⟩⟩
noncomputable def Sg.p_spec_l13Base_1 (K : Nat) : Fw.LSpec := { g := 22, b := 0, lv := 6, l0 := 0, li := 1, head := Sg.h_spec_l13Base_1, post := Sg.o_spec_l13Base_1, retn := Sg.r_spec_l13Base_1, ex := 2, L := R.L_spec_l13Base_1 K }
def Sg.h_spec_l13Base_0 : Fw.StSh := ⟨[(1, (.ref 0 0)), (2, (.row 1)), (3, (.row 2)), (4, (.d (.int .i64)))], [(0, (.box [(.d (.sl (.pair (.sl (.int .i64)) (.sl (.pair .str (.int .i64)))))), (.d (.sl (.pair .str (.pair (.int .i64) (.pair (.int .i64) .bool)))))])), (1, (.row .str true)), (2, (.row .str true))], 3, 94, ⟨0, []⟩⟩
def Sg.o_spec_l13Base_0 : Fw.StSh := ⟨[(1, (.ref 0 0)), (2, (.row 1)), (3, (.row 2))], [(0, (.box [(.d (.sl (.pair (.sl (.int .i64)) (.sl (.pair .str (.int .i64)))))), (.d (.sl (.pair .str (.pair (.int .i64) (.pair (.int .i64) .bool)))))])), (1, (.row .str true)), (2, (.row .str true))], 3, 94, ⟨0, []⟩⟩
def Sg.r_spec_l13Base_0 : Fw.StSh := ⟨[], [], 3, 94, ⟨0, []⟩⟩
noncomputable def Sg.p_spec_l13Base_0 (K : Nat) : Fw.LSpec := { g := 22, b := 0, lv := 6, l0 := 0, li := 0, head := Sg.h_spec_l13Base_0, post := Sg.o_spec_l13Base_0, retn := Sg.r_spec_l13Base_0, ex := 0, L := R.L_spec_l13Base_0 K }
def Sg.h_spec_l13Base_2 : Fw.StSh := ⟨[(1, (.ref 0 0)), (2, (.row 1)), (3, (.row 2)), (7, (.d (.int .i64)))], [(0, (.box [(.d (.sl (.pair (.sl (.int .i64)) (.sl (.pair .str (.int .i64)))))), (.d (.sl (.pair .str (.pair (.int .i64) (.pair (.int .i64) .bool)))))])), (1, (.row .str true)), (2, (.row .str true))], 3, 94, ⟨0, []⟩⟩
def Sg.o_spec_l13Base_2 : Fw.StSh := ⟨[(2, (.row 1)), (3, (.row 2))], [(1, (.row .str true)), (2, (.row .str true))], 3, 94, ⟨0, []⟩⟩
def Sg.r_spec_l13Base_2 : Fw.StSh := ⟨[], [], 3, 94, ⟨0, []⟩⟩
noncomputable def Sg.p_spec_l13Base_2 (K : Nat) : Fw.LSpec := { g := 22, b := 0, lv := 6, l0 := 0, li := 2, head := Sg.h_spec_l13Base_2, post := Sg.o_spec_l13Base_2, retn := Sg.r_spec_l13Base_2, ex := 4, L := R.L_spec_l13Base_2 K }
noncomputable def Sg.f_spec_l13Base : Fw.PFn := Fw.PFn.get Tryz.f22
noncomputable def Sg.i_spec_l13Base : List (Nat × Fw.PFn) := []
noncomputable def Sg.s_spec_l13Base (K : Nat) : Fw.Sig := { ins := [.val true (.pair (.sl (.pair (.sl (.int .i64)) (.sl (.pair .str (.int .i64))))) (.sl (.pair .str (.pair (.int .i64) (.pair (.int .i64) .bool)))))], outs := [⟨false, (.sl .str), true⟩], F := fun x => R.spec_l13Base K x.1 }
noncomputable def Sg.c_spec_l13Base (K : Nat) : Fw.Cfg := { tab := Sg.tab, eqs := Sg.eqs, sig := [(44, Sg.s_spec_l00Digits K K), (45, Sg.s_spec_l13Map K)], inl := [], lo := Sg.p_spec_l13Base_1 K :: Sg.p_spec_l13Base_0 K :: Sg.p_spec_l13Base_2 K :: [], K := K, jo := ⟨22, 0, 6, 0, 15, none⟩ :: [], opn := [11, 12, 17, 29, 30, 38, 57, 58] }
noncomputable def Sg.f_spec_BaseLines : Fw.PFn := Fw.PFn.get Tryz.f6
noncomputable def Sg.i_spec_BaseLines : List (Nat × Fw.PFn) := []
noncomputable def Sg.s_spec_BaseLines (K : Nat) : Fw.Sig := { ins := [.val true (.pair (.sl (.pair (.sl (.int .i64)) (.sl (.pair .str (.int .i64))))) (.sl (.pair .str (.pair (.int .i64) (.pair (.int .i64) .bool)))))], outs := [⟨false, (.sl .str), true⟩, ⟨false, (.int .i64), false⟩], F := fun x => R.spec_BaseLines K x.1 }
noncomputable def Sg.c_spec_BaseLines (K : Nat) : Fw.Cfg := { tab := Sg.tab, eqs := Sg.eqs, sig := [(21, Sg.s_spec_l05OK K), (22, Sg.s_spec_l13Base K)], inl := [], lo := [], K := K, jo := [], opn := [11, 12, 17, 29, 30, 38, 57, 58] }
noncomputable def Sg.f_impl_isList_impl_Commit : Fw.PFn := Fw.PFn.get Tryz.f78
noncomputable def Sg.i_impl_isList_impl_Commit : List (Nat × Fw.PFn) := []
noncomputable def Sg.s_impl_isList_impl_Commit (K : Nat) : Fw.Sig := { ins := [.val false (.sl (.pair (.sl (.int .i64)) (.sl (.pair .str (.int .i64)))))], outs := [⟨false, .bool, false⟩], F := fun x => R.impl_isList_impl_Commit K x.1 }
noncomputable def Sg.c_impl_isList_impl_Commit (K : Nat) : Fw.Cfg := { tab := Sg.tab, eqs := Sg.eqs, sig := [], inl := [], lo := [], K := K, jo := [], opn := [11, 12, 17, 29, 30, 38, 57, 58] }
noncomputable def Sg.f_impl_within : Fw.PFn := Fw.PFn.get Tryz.f107
noncomputable def Sg.i_impl_within : List (Nat × Fw.PFn) := []
noncomputable def Sg.s_impl_within (K : Nat) : Fw.Sig := { ins := [.val false (.int .i64), .val false (.int .i64), .val false (.int .i64)], outs := [⟨false, .bool, false⟩], F := fun x => R.impl_within K x.1 x.2.1 x.2.2.1 }
noncomputable def Sg.c_impl_within (K : Nat) : Fw.Cfg := { tab := Sg.tab, eqs := Sg.eqs, sig := [], inl := [], lo := [], K := K, jo := [], opn := [11, 12, 17, 29, 30, 38, 57, 58] }
noncomputable def Sg.f_impl_isLetter : Fw.PFn := Fw.PFn.get Tryz.f120
noncomputable def Sg.i_impl_isLetter : List (Nat × Fw.PFn) := []
noncomputable def Sg.s_impl_isLetter (K : Nat) : Fw.Sig := { ins := [.val false (.int .u8)], outs := [⟨false, .bool, false⟩], F := fun x => R.impl_isLetter K x.1 }
noncomputable def Sg.c_impl_isLetter (K : Nat) : Fw.Cfg := { tab := Sg.tab, eqs := Sg.eqs, sig := [], inl := [], lo := [], K := K, jo := [], opn := [11, 12, 17, 29, 30, 38, 57, 58] }
noncomputable def Sg.f_impl_areAll_byte_1 : Fw.PFn := Fw.PFn.get Tryz.f142
noncomputable def Sg.f_slices_IndexFunc_byte : Fw.PFn := Fw.PFn.get Tryz.f159
noncomputable def Sg.f_slices_ContainsFunc_byte : Fw.PFn := Fw.PFn.get Tryz.f141
noncomputable def Sg.f_impl_areAll_byte : Fw.PFn := Fw.PFn.get Tryz.f121
noncomputable def Sg.f_impl_isDigit : Fw.PFn := Fw.PFn.get Tryz.f123
noncomputable def Sg.i_impl_isDigit : List (Nat × Fw.PFn) := []
noncomputable def Sg.s_impl_isDigit (K : Nat) : Fw.Sig := { ins := [.val false (.int .u8)], outs := [⟨false, .bool, false⟩], F := fun x => R.impl_isDigit K x.1 }
noncomputable def Sg.c_impl_isDigit (K : Nat) : Fw.Cfg := { tab := Sg.tab, eqs := Sg.eqs, sig := [], inl := [], lo := [], K := K, jo := [], opn := [11, 12, 17, 29, 30, 38, 57, 58] }
noncomputable def Sg.f_impl_NameOK_1 : Fw.PFn := Fw.PFn.get Tryz.f122
noncomputable def Sg.i_impl_NameOK_1 : List (Nat × Fw.PFn) := []
noncomputable def Sg.s_impl_NameOK_1 (K : Nat) : Fw.Sig := { ins := [.val false (.int .u8)], outs := [⟨false, .bool, false⟩], F := fun x => R.impl_NameOK_1 K x.1 }
noncomputable def Sg.c_impl_NameOK_1 (K : Nat) : Fw.Cfg := { tab := Sg.tab, eqs := Sg.eqs, sig := [(120, Sg.s_impl_isLetter K), (123, Sg.s_impl_isDigit K)], inl := [], lo := [], K := K, jo := [], opn := [11, 12, 17, 29, 30, 38, 57, 58] }
def Sg.h_impl_areAll_byte__impl_NameOK_1_0 : Fw.StSh := ⟨[(0, (.d (.sl (.int .u8)))), (1, (.fn 122 [])), (3, (.ref 0 0)), (4, (.d .bool)), (5, (.d (.sl (.int .u8)))), (6, (.fn 142 [(.ref 0 0)])), (9, (.d (.sl (.int .u8)))), (10, (.fn 142 [(.ref 0 0)])), (13, (.d .bool)), (14, (.d (.sl (.int .u8)))), (15, (.fn 142 [(.ref 0 0)])), (18, (.d (.sl (.int .u8)))), (19, (.fn 142 [(.ref 0 0)])), (22, (.d (.int .i64))), (25, (.d (.int .i64))), (26, (.d (.int .i64)))], [(0, (.box [(.fn 122 [])]))], 1, 37, ⟨0, []⟩⟩
def Sg.o_impl_areAll_byte__impl_NameOK_1_0 : Fw.StSh := ⟨[(0, (.d (.sl (.int .u8)))), (1, (.fn 122 [])), (3, (.ref 0 0)), (4, (.d .bool)), (5, (.d (.sl (.int .u8)))), (6, (.fn 142 [(.ref 0 0)])), (9, (.d (.sl (.int .u8)))), (10, (.fn 142 [(.ref 0 0)])), (13, (.d .bool)), (14, (.d (.sl (.int .u8)))), (15, (.fn 142 [(.ref 0 0)])), (22, (.d (.int .i64)))], [(0, (.box [(.fn 122 [])]))], 1, 37, ⟨0, []⟩⟩
def Sg.r_impl_areAll_byte__impl_NameOK_1_0 : Fw.StSh := ⟨[(0, (.d (.sl (.int .u8)))), (1, (.fn 122 [])), (3, (.ref 0 0)), (4, (.d .bool)), (5, (.d (.sl (.int .u8)))), (6, (.fn 142 [(.ref 0 0)])), (9, (.d (.sl (.int .u8)))), (10, (.fn 142 [(.ref 0 0)])), (13, (.d .bool)), (14, (.d (.sl (.int .u8)))), (15, (.fn 142 [(.ref 0 0)])), (22, (.d (.int .i64)))], [(0, (.box [(.fn 122 [])]))], 1, 45, ⟨0, []⟩⟩
noncomputable def Sg.p_impl_areAll_byte__impl_NameOK_1_0 (K : Nat) : Fw.LSpec := { g := 159, b := 18, lv := 4, l0 := 1, li := 0, head := Sg.h_impl_areAll_byte__impl_NameOK_1_0, post := Sg.o_impl_areAll_byte__impl_NameOK_1_0, retn := Sg.r_impl_areAll_byte__impl_NameOK_1_0, ex := 0, L := R.L_impl_areAll_byte__impl_NameOK_1_0 K }
noncomputable def Sg.i_impl_areAll_byte__impl_NameOK_1 : List (Nat × Fw.PFn) := [(142, Sg.f_impl_areAll_byte_1), (159, Sg.f_slices_IndexFunc_byte), (141, Sg.f_slices_ContainsFunc_byte)]
noncomputable def Sg.s_impl_areAll_byte__impl_NameOK_1 (K : Nat) : Fw.Sig := { ins := [.val false (.sl (.int .u8)), .fn 122 []], outs := [⟨false, .bool, false⟩], F := fun x => R.impl_areAll_byte__impl_NameOK_1 K x.1 }
noncomputable def Sg.c_impl_areAll_byte__impl_NameOK_1 (K : Nat) : Fw.Cfg := { tab := Sg.tab, eqs := Sg.eqs, sig := [(122, Sg.s_impl_NameOK_1 K)], inl := [(142, Tryz.f142), (159, Tryz.f159), (141, Tryz.f141)], lo := Sg.p_impl_areAll_byte__impl_NameOK_1_0 K :: [], K := K, jo := [], opn := [11, 12, 17, 29, 30, 38, 57, 58] }
noncomputable def Sg.f_impl_NameOK : Fw.PFn := Fw.PFn.get Tryz.f98
noncomputable def Sg.i_impl_NameOK : List (Nat × Fw.PFn) := [(142, Sg.f_impl_areAll_byte_1), (159, Sg.f_slices_IndexFunc_byte), (141, Sg.f_slices_ContainsFunc_byte), (121, Sg.f_impl_areAll_byte)]
noncomputable def Sg.s_impl_NameOK (K : Nat) : Fw.Sig := { ins := [.val false .str], outs := [⟨false, .bool, false⟩], F := fun x => R.impl_NameOK K x.1 }
noncomputable def Sg.c_impl_NameOK (K : Nat) : Fw.Cfg := { tab := Sg.tab, eqs := Sg.eqs, sig := [(107, Sg.s_impl_within K), (120, Sg.s_impl_isLetter K), (122, Sg.s_impl_NameOK_1 K), (121, Sg.s_impl_areAll_byte__impl_NameOK_1 K)], inl := [(142, Tryz.f142), (159, Tryz.f159), (141, Tryz.f141), (121, Tryz.f121)], lo := [], K := K, jo := [], opn := [11, 12, 17, 29, 30, 38, 57, 58] }
noncomputable def Sg.f_impl_isValue : Fw.PFn := Fw.PFn.get Tryz.f118
noncomputable def Sg.i_impl_isValue : List (Nat × Fw.PFn) := []
noncomputable def Sg.s_impl_isValue (K : Nat) : Fw.Sig := { ins := [.val false (.int .i64)], outs := [⟨false, .bool, false⟩], F := fun x => R.impl_isValue K x.1 }
noncomputable def Sg.c_impl_isValue (K : Nat) : Fw.Cfg := { tab := Sg.tab, eqs := Sg.eqs, sig := [(107, Sg.s_impl_within K)], inl := [], lo := [], K := K, jo := [], opn := [11, 12, 17, 29, 30, 38, 57, 58] }
def Sg.h_impl_MapOK_0 : Fw.StSh := ⟨[(0, (.d (.sl (.pair .str (.int .i64))))), (2, (.d .bool)), (5, (.d (.sl (.pair .str (.int .i64))))), (6, (.d (.int .i64))), (7, (.d (.int .i64)))], [], 0, 41, ⟨0, []⟩⟩
def Sg.o_impl_MapOK_0 : Fw.StSh := ⟨[(0, (.d (.sl (.pair .str (.int .i64))))), (2, (.d .bool))], [], 0, 41, ⟨0, []⟩⟩
def Sg.r_impl_MapOK_0 : Fw.StSh := ⟨[(2, (.d .bool))], [], 1, 41, ⟨0, []⟩⟩
noncomputable def Sg.p_impl_MapOK_0 (K : Nat) : Fw.LSpec := { g := 127, b := 0, lv := 6, l0 := 0, li := 0, head := Sg.h_impl_MapOK_0, post := Sg.o_impl_MapOK_0, retn := Sg.r_impl_MapOK_0, ex := 0, L := R.L_impl_MapOK_0 K }
noncomputable def Sg.f_impl_MapOK : Fw.PFn := Fw.PFn.get Tryz.f127
noncomputable def Sg.i_impl_MapOK : List (Nat × Fw.PFn) := []
noncomputable def Sg.s_impl_MapOK (K : Nat) : Fw.Sig := { ins := [.val false (.sl (.pair .str (.int .i64)))], outs := [⟨false, .bool, false⟩], F := fun x => R.impl_MapOK K x.1 }
noncomputable def Sg.c_impl_MapOK (K : Nat) : Fw.Cfg := { tab := Sg.tab, eqs := Sg.eqs, sig := [(98, Sg.s_impl_NameOK K), (118, Sg.s_impl_isValue K)], inl := [], lo := Sg.p_impl_MapOK_0 K :: [], K := K, jo := ⟨127, 0, 6, 0, 4, none⟩ :: [], opn := [11, 12, 17, 29, 30, 38, 57, 58] }
noncomputable def Sg.f_impl_Commit_isAt_1 : Fw.PFn := Fw.PFn.get Tryz.f129
noncomputable def Sg.f_impl_areAll_int_1 : Fw.PFn := Fw.PFn.get Tryz.f148
noncomputable def Sg.f_slices_IndexFunc_int : Fw.PFn := Fw.PFn.get Tryz.f165
noncomputable def Sg.f_slices_ContainsFunc_int : Fw.PFn := Fw.PFn.get Tryz.f147
noncomputable def Sg.f_impl_areAll_int : Fw.PFn := Fw.PFn.get Tryz.f128
def Sg.h_impl_areAll_int__impl_Commit_isAt_1_0 : Fw.StSh := ⟨[(0, (.d (.sl (.int .i64)))), (1, (.fn 129 [(.dref (.int .i64) 0)])), (3, (.ref 0 0)), (4, (.d .bool)), (5, (.d (.sl (.int .i64)))), (6, (.fn 148 [(.ref 0 0)])), (9, (.d (.sl (.int .i64)))), (10, (.fn 148 [(.ref 0 0)])), (13, (.d .bool)), (14, (.d (.sl (.int .i64)))), (15, (.fn 148 [(.ref 0 0)])), (18, (.d (.sl (.int .i64)))), (19, (.fn 148 [(.ref 0 0)])), (22, (.d (.int .i64))), (25, (.d (.int .i64))), (26, (.d (.int .i64)))], [(0, (.box [(.fn 129 [(.dref (.int .i64) 0)])]))], 1, 37, ⟨0, []⟩⟩
def Sg.o_impl_areAll_int__impl_Commit_isAt_1_0 : Fw.StSh := ⟨[(0, (.d (.sl (.int .i64)))), (1, (.fn 129 [(.dref (.int .i64) 0)])), (3, (.ref 0 0)), (4, (.d .bool)), (5, (.d (.sl (.int .i64)))), (6, (.fn 148 [(.ref 0 0)])), (9, (.d (.sl (.int .i64)))), (10, (.fn 148 [(.ref 0 0)])), (13, (.d .bool)), (14, (.d (.sl (.int .i64)))), (15, (.fn 148 [(.ref 0 0)])), (22, (.d (.int .i64)))], [(0, (.box [(.fn 129 [(.dref (.int .i64) 0)])]))], 1, 37, ⟨0, []⟩⟩
def Sg.r_impl_areAll_int__impl_Commit_isAt_1_0 : Fw.StSh := ⟨[(0, (.d (.sl (.int .i64)))), (1, (.fn 129 [(.dref (.int .i64) 0)])), (3, (.ref 0 0)), (4, (.d .bool)), (5, (.d (.sl (.int .i64)))), (6, (.fn 148 [(.ref 0 0)])), (9, (.d (.sl (.int .i64)))), (10, (.fn 148 [(.ref 0 0)])), (13, (.d .bool)), (14, (.d (.sl (.int .i64)))), (15, (.fn 148 [(.ref 0 0)])), (22, (.d (.int .i64)))], [(0, (.box [(.fn 129 [(.dref (.int .i64) 0)])]))], 1, 53, ⟨0, []⟩⟩
noncomputable def Sg.p_impl_areAll_int__impl_Commit_isAt_1_0 (K : Nat) : Fw.LSpec := { g := 165, b := 18, lv := 4, l0 := 1, li := 0, head := Sg.h_impl_areAll_int__impl_Commit_isAt_1_0, post := Sg.o_impl_areAll_int__impl_Commit_isAt_1_0, retn := Sg.r_impl_areAll_int__impl_Commit_isAt_1_0, ex := 0, L := R.L_impl_areAll_int__impl_Commit_isAt_1_0 K }
noncomputable def Sg.i_impl_areAll_int__impl_Commit_isAt_1 : List (Nat × Fw.PFn) := [(129, Sg.f_impl_Commit_isAt_1), (148, Sg.f_impl_areAll_int_1), (165, Sg.f_slices_IndexFunc_int), (147, Sg.f_slices_ContainsFunc_int)]
noncomputable def Sg.s_impl_areAll_int__impl_Commit_isAt_1 (K : Nat) : Fw.Sig := { ins := [.val false (.sl (.int .i64)), .fn 129 [(.int .i64)]], outs := [⟨false, .bool, false⟩], F := fun x => R.impl_areAll_int__impl_Commit_isAt_1 K x.1 x.2.1.1 }
noncomputable def Sg.c_impl_areAll_int__impl_Commit_isAt_1 (K : Nat) : Fw.Cfg := { tab := Sg.tab, eqs := Sg.eqs, sig := [(107, Sg.s_impl_within K)], inl := [(129, Tryz.f129), (148, Tryz.f148), (165, Tryz.f165), (147, Tryz.f147)], lo := Sg.p_impl_areAll_int__impl_Commit_isAt_1_0 K :: [], K := K, jo := [], opn := [11, 12, 17, 29, 30, 38, 57, 58] }
noncomputable def Sg.f_impl_Commit_isAt : Fw.PFn := Fw.PFn.get Tryz.f106
noncomputable def Sg.i_impl_Commit_isAt : List (Nat × Fw.PFn) := [(129, Sg.f_impl_Commit_isAt_1), (148, Sg.f_impl_areAll_int_1), (165, Sg.f_slices_IndexFunc_int), (147, Sg.f_slices_ContainsFunc_int), (128, Sg.f_impl_areAll_int)]
noncomputable def Sg.s_impl_Commit_isAt (K : Nat) : Fw.Sig := { ins := [.val true (.pair (.sl (.int .i64)) (.sl (.pair .str (.int .i64)))), .val false (.int .i64)], outs := [⟨false, .bool, false⟩], F := fun x => R.impl_Commit_isAt K x.1 x.2.1 }
noncomputable def Sg.c_impl_Commit_isAt (K : Nat) : Fw.Cfg := { tab := Sg.tab, eqs := Sg.eqs, sig := [(107, Sg.s_impl_within K), (127, Sg.s_impl_MapOK K), (128, Sg.s_impl_areAll_int__impl_Commit_isAt_1 K)], inl := [(129, Tryz.f129), (148, Tryz.f148), (165, Tryz.f165), (147, Tryz.f147), (128, Tryz.f128)], lo := [], K := K, jo := ⟨106, 0, 6, 0, 2, none⟩ :: [], opn := [11, 12, 17, 29, 30, 38, 57, 58] }
def Sg.h_impl_areCommits_0 : Fw.StSh := ⟨[(0, (.d (.sl (.pair (.sl (.int .i64)) (.sl (.pair .str (.int .i64))))))), (2, (.d .bool)), (5, (.d (.sl (.pair (.sl (.int .i64)) (.sl (.pair .str (.int .i64))))))), (6, (.d (.int .i64))), (7, (.d (.int .i64)))], [], 0, 21, ⟨0, []⟩⟩
def Sg.o_impl_areCommits_0 : Fw.StSh := ⟨[(0, (.d (.sl (.pair (.sl (.int .i64)) (.sl (.pair .str (.int .i64))))))), (2, (.d .bool))], [], 0, 21, ⟨0, []⟩⟩
def Sg.r_impl_areCommits_0 : Fw.StSh := ⟨[(2, (.d .bool))], [], 3, 21, ⟨0, []⟩⟩
noncomputable def Sg.p_impl_areCommits_0 (K : Nat) : Fw.LSpec := { g := 79, b := 0, lv := 6, l0 := 0, li := 0, head := Sg.h_impl_areCommits_0, post := Sg.o_impl_areCommits_0, retn := Sg.r_impl_areCommits_0, ex := 0, L := R.L_impl_areCommits_0 K }
noncomputable def Sg.f_impl_areCommits : Fw.PFn := Fw.PFn.get Tryz.f79
noncomputable def Sg.i_impl_areCommits : List (Nat × Fw.PFn) := []
noncomputable def Sg.s_impl_areCommits (K : Nat) : Fw.Sig := { ins := [.val false (.sl (.pair (.sl (.int .i64)) (.sl (.pair .str (.int .i64)))))], outs := [⟨false, .bool, false⟩], F := fun x => R.impl_areCommits K x.1 }
noncomputable def Sg.c_impl_areCommits (K : Nat) : Fw.Cfg := { tab := Sg.tab, eqs := Sg.eqs, sig := [(106, Sg.s_impl_Commit_isAt K)], inl := [], lo := Sg.p_impl_areCommits_0 K :: [], K := K, jo := [], opn := [11, 12, 17, 29, 30, 38, 57, 58] }
noncomputable def Sg.f_impl_StoreOK : Fw.PFn := Fw.PFn.get Tryz.f48
noncomputable def Sg.i_impl_StoreOK : List (Nat × Fw.PFn) := []
noncomputable def Sg.s_impl_StoreOK (K : Nat) : Fw.Sig := { ins := [.val false (.sl (.pair (.sl (.int .i64)) (.sl (.pair .str (.int .i64)))))], outs := [⟨false, .bool, false⟩], F := fun x => R.impl_StoreOK K x.1 }
noncomputable def Sg.c_impl_StoreOK (K : Nat) : Fw.Cfg := { tab := Sg.tab, eqs := Sg.eqs, sig := [(78, Sg.s_impl_isList_impl_Commit K), (79, Sg.s_impl_areCommits K)], inl := [], lo := [], K := K, jo := [], opn := [11, 12, 17, 29, 30, 38, 57, 58] }
noncomputable def Sg.f_impl_areAll_impl_Ref_1 : Fw.PFn := Fw.PFn.get Tryz.f83
noncomputable def Sg.f_slices_IndexFunc_impl_Ref : Fw.PFn := Fw.PFn.get Tryz.f109
noncomputable def Sg.f_slices_ContainsFunc_impl_Ref : Fw.PFn := Fw.PFn.get Tryz.f82
noncomputable def Sg.f_impl_areAll_impl_Ref : Fw.PFn := Fw.PFn.get Tryz.f50
noncomputable def Sg.f_impl_isHead : Fw.PFn := Fw.PFn.get Tryz.f108
noncomputable def Sg.i_impl_isHead : List (Nat × Fw.PFn) := []
noncomputable def Sg.s_impl_isHead (K : Nat) : Fw.Sig := { ins := [.val false (.int .i64)], outs := [⟨false, .bool, false⟩], F := fun x => R.impl_isHead K x.1 }
noncomputable def Sg.c_impl_isHead (K : Nat) : Fw.Cfg := { tab := Sg.tab, eqs := Sg.eqs, sig := [(107, Sg.s_impl_within K)], inl := [], lo := [], K := K, jo := [], opn := [11, 12, 17, 29, 30, 38, 57, 58] }
noncomputable def Sg.f_impl_isRef : Fw.PFn := Fw.PFn.get Tryz.f80
noncomputable def Sg.i_impl_isRef : List (Nat × Fw.PFn) := []
noncomputable def Sg.s_impl_isRef (K : Nat) : Fw.Sig := { ins := [.val true (.pair .str (.pair (.int .i64) (.pair (.int .i64) .bool)))], outs := [⟨false, .bool, false⟩], F := fun x => R.impl_isRef K x.1 }
noncomputable def Sg.c_impl_isRef (K : Nat) : Fw.Cfg := { tab := Sg.tab, eqs := Sg.eqs, sig := [(107, Sg.s_impl_within K), (98, Sg.s_impl_NameOK K), (108, Sg.s_impl_isHead K)], inl := [], lo := [], K := K, jo := [], opn := [11, 12, 17, 29, 30, 38, 57, 58] }
noncomputable def Sg.f_impl_place_1 : Fw.PFn := Fw.PFn.get Tryz.f110
def Sg.h_slices_IndexFunc_impl_Ref__impl_place_1_0 : Fw.StSh := ⟨[(0, (.d (.sl (.pair .str (.pair (.int .i64) (.pair (.int .i64) .bool)))))), (1, (.fn 110 [(.dref .str 0)])), (4, (.d (.int .i64))), (7, (.d (.int .i64))), (8, (.d (.int .i64)))], [], 0, 19, ⟨0, []⟩⟩
def Sg.o_slices_IndexFunc_impl_Ref__impl_place_1_0 : Fw.StSh := ⟨[(4, (.d (.int .i64)))], [], 0, 19, ⟨0, []⟩⟩
def Sg.r_slices_IndexFunc_impl_Ref__impl_place_1_0 : Fw.StSh := ⟨[(4, (.d (.int .i64)))], [], 1, 27, ⟨0, []⟩⟩
noncomputable def Sg.p_slices_IndexFunc_impl_Ref__impl_place_1_0 (K : Nat) : Fw.LSpec := { g := 109, b := 0, lv := 6, l0 := 0, li := 0, head := Sg.h_slices_IndexFunc_impl_Ref__impl_place_1_0, post := Sg.o_slices_IndexFunc_impl_Ref__impl_place_1_0, retn := Sg.r_slices_IndexFunc_impl_Ref__impl_place_1_0, ex := 0, L := R.L_slices_IndexFunc_impl_Ref__impl_place_1_0 K }
noncomputable def Sg.i_slices_IndexFunc_impl_Ref__impl_place_1 : List (Nat × Fw.PFn) := [(110, Sg.f_impl_place_1)]
noncomputable def Sg.s_slices_IndexFunc_impl_Ref__impl_place_1 (K : Nat) : Fw.Sig := { ins := [.val false (.sl (.pair .str (.pair (.int .i64) (.pair (.int .i64) .bool)))), .fn 110 [.str]], outs := [⟨false, (.int .i64), false⟩], F := fun x => R.slices_IndexFunc_impl_Ref__impl_place_1 K x.1 x.2.1.1 }
noncomputable def Sg.c_slices_IndexFunc_impl_Ref__impl_place_1 (K : Nat) : Fw.Cfg := { tab := Sg.tab, eqs := Sg.eqs, sig := [], inl := [(110, Tryz.f110)], lo := Sg.p_slices_IndexFunc_impl_Ref__impl_place_1_0 K :: [], K := K, jo := [], opn := [11, 12, 17, 29, 30, 38, 57, 58] }
noncomputable def Sg.f_impl_place : Fw.PFn := Fw.PFn.get Tryz.f81
noncomputable def Sg.i_impl_place : List (Nat × Fw.PFn) := [(109, Sg.f_slices_IndexFunc_impl_Ref), (110, Sg.f_impl_place_1)]
noncomputable def Sg.s_impl_place (K : Nat) : Fw.Sig := { ins := [.val false (.sl (.pair .str (.pair (.int .i64) (.pair (.int .i64) .bool)))), .val false .str], outs := [⟨false, (.int .i64), false⟩], F := fun x => R.impl_place K x.1 x.2.1 }
noncomputable def Sg.c_impl_place (K : Nat) : Fw.Cfg := { tab := Sg.tab, eqs := Sg.eqs, sig := [(109, Sg.s_slices_IndexFunc_impl_Ref__impl_place_1 K)], inl := [(109, Tryz.f109), (110, Tryz.f110)], lo := [], K := K, jo := [], opn := [11, 12, 17, 29, 30, 38, 57, 58] }
def Sg.h_impl_areAll_impl_Ref__impl_isRef_0 : Fw.StSh := ⟨[(0, (.d (.sl (.pair .str (.pair (.int .i64) (.pair (.int .i64) .bool)))))), (1, (.fn 80 [])), (3, (.ref 0 0)), (4, (.d .bool)), (5, (.d (.sl (.pair .str (.pair (.int .i64) (.pair (.int .i64) .bool)))))), (6, (.fn 83 [(.ref 0 0)])), (9, (.d (.sl (.pair .str (.pair (.int .i64) (.pair (.int .i64) .bool)))))), (10, (.fn 83 [(.ref 0 0)])), (13, (.d .bool)), (14, (.d (.sl (.pair .str (.pair (.int .i64) (.pair (.int .i64) .bool)))))), (15, (.fn 83 [(.ref 0 0)])), (18, (.d (.sl (.pair .str (.pair (.int .i64) (.pair (.int .i64) .bool)))))), (19, (.fn 83 [(.ref 0 0)])), (22, (.d (.int .i64))), (25, (.d (.int .i64))), (26, (.d (.int .i64)))], [(0, (.box [(.fn 80 [])]))], 1, 37, ⟨0, []⟩⟩
def Sg.o_impl_areAll_impl_Ref__impl_isRef_0 : Fw.StSh := ⟨[(0, (.d (.sl (.pair .str (.pair (.int .i64) (.pair (.int .i64) .bool)))))), (1, (.fn 80 [])), (3, (.ref 0 0)), (4, (.d .bool)), (5, (.d (.sl (.pair .str (.pair (.int .i64) (.pair (.int .i64) .bool)))))), (6, (.fn 83 [(.ref 0 0)])), (9, (.d (.sl (.pair .str (.pair (.int .i64) (.pair (.int .i64) .bool)))))), (10, (.fn 83 [(.ref 0 0)])), (13, (.d .bool)), (14, (.d (.sl (.pair .str (.pair (.int .i64) (.pair (.int .i64) .bool)))))), (15, (.fn 83 [(.ref 0 0)])), (22, (.d (.int .i64)))], [(0, (.box [(.fn 80 [])]))], 1, 37, ⟨0, []⟩⟩
def Sg.r_impl_areAll_impl_Ref__impl_isRef_0 : Fw.StSh := ⟨[(0, (.d (.sl (.pair .str (.pair (.int .i64) (.pair (.int .i64) .bool)))))), (1, (.fn 80 [])), (3, (.ref 0 0)), (4, (.d .bool)), (5, (.d (.sl (.pair .str (.pair (.int .i64) (.pair (.int .i64) .bool)))))), (6, (.fn 83 [(.ref 0 0)])), (9, (.d (.sl (.pair .str (.pair (.int .i64) (.pair (.int .i64) .bool)))))), (10, (.fn 83 [(.ref 0 0)])), (13, (.d .bool)), (14, (.d (.sl (.pair .str (.pair (.int .i64) (.pair (.int .i64) .bool)))))), (15, (.fn 83 [(.ref 0 0)])), (22, (.d (.int .i64)))], [(0, (.box [(.fn 80 [])]))], 2, 45, ⟨0, []⟩⟩
noncomputable def Sg.p_impl_areAll_impl_Ref__impl_isRef_0 (K : Nat) : Fw.LSpec := { g := 109, b := 18, lv := 4, l0 := 1, li := 0, head := Sg.h_impl_areAll_impl_Ref__impl_isRef_0, post := Sg.o_impl_areAll_impl_Ref__impl_isRef_0, retn := Sg.r_impl_areAll_impl_Ref__impl_isRef_0, ex := 0, L := R.L_impl_areAll_impl_Ref__impl_isRef_0 K }
noncomputable def Sg.i_impl_areAll_impl_Ref__impl_isRef : List (Nat × Fw.PFn) := [(83, Sg.f_impl_areAll_impl_Ref_1), (109, Sg.f_slices_IndexFunc_impl_Ref), (82, Sg.f_slices_ContainsFunc_impl_Ref)]
noncomputable def Sg.s_impl_areAll_impl_Ref__impl_isRef (K : Nat) : Fw.Sig := { ins := [.val false (.sl (.pair .str (.pair (.int .i64) (.pair (.int .i64) .bool)))), .fn 80 []], outs := [⟨false, .bool, false⟩], F := fun x => R.impl_areAll_impl_Ref__impl_isRef K x.1 }
noncomputable def Sg.c_impl_areAll_impl_Ref__impl_isRef (K : Nat) : Fw.Cfg := { tab := Sg.tab, eqs := Sg.eqs, sig := [(80, Sg.s_impl_isRef K)], inl := [(83, Tryz.f83), (109, Tryz.f109), (82, Tryz.f82)], lo := Sg.p_impl_areAll_impl_Ref__impl_isRef_0 K :: [], K := K, jo := [], opn := [11, 12, 17, 29, 30, 38, 57, 58] }
def Sg.h_impl_RefsOK_0 : Fw.StSh := ⟨[(0, (.d (.sl (.pair .str (.pair (.int .i64) (.pair (.int .i64) .bool)))))), (2, (.d .bool)), (13, (.d (.sl (.pair .str (.pair (.int .i64) (.pair (.int .i64) .bool)))))), (14, (.d (.int .i64))), (15, (.d (.int .i64)))], [], 0, 28, ⟨0, []⟩⟩
def Sg.o_impl_RefsOK_0 : Fw.StSh := ⟨[(2, (.d .bool))], [], 0, 28, ⟨0, []⟩⟩
def Sg.r_impl_RefsOK_0 : Fw.StSh := ⟨[(2, (.d .bool))], [], 1, 28, ⟨0, []⟩⟩
noncomputable def Sg.p_impl_RefsOK_0 (K : Nat) : Fw.LSpec := { g := 49, b := 0, lv := 6, l0 := 0, li := 0, head := Sg.h_impl_RefsOK_0, post := Sg.o_impl_RefsOK_0, retn := Sg.r_impl_RefsOK_0, ex := 0, L := R.L_impl_RefsOK_0 K }
noncomputable def Sg.f_impl_RefsOK : Fw.PFn := Fw.PFn.get Tryz.f49
noncomputable def Sg.i_impl_RefsOK : List (Nat × Fw.PFn) := [(83, Sg.f_impl_areAll_impl_Ref_1), (109, Sg.f_slices_IndexFunc_impl_Ref), (82, Sg.f_slices_ContainsFunc_impl_Ref), (50, Sg.f_impl_areAll_impl_Ref)]
noncomputable def Sg.s_impl_RefsOK (K : Nat) : Fw.Sig := { ins := [.val false (.sl (.pair .str (.pair (.int .i64) (.pair (.int .i64) .bool))))], outs := [⟨false, .bool, false⟩], F := fun x => R.impl_RefsOK K x.1 }
noncomputable def Sg.c_impl_RefsOK (K : Nat) : Fw.Cfg := { tab := Sg.tab, eqs := Sg.eqs, sig := [(80, Sg.s_impl_isRef K), (81, Sg.s_impl_place K), (50, Sg.s_impl_areAll_impl_Ref__impl_isRef K)], inl := [(83, Tryz.f83), (109, Tryz.f109), (82, Tryz.f82), (50, Tryz.f50)], lo := Sg.p_impl_RefsOK_0 K :: [], K := K, jo := ⟨49, 0, 6, 0, 6, none⟩ :: [], opn := [11, 12, 17, 29, 30, 38, 57, 58] }
noncomputable def Sg.f_impl_BaseOK_1 : Fw.PFn := Fw.PFn.get Tryz.f51
def Sg.h_impl_areAll_impl_Ref__impl_BaseOK_1_0 : Fw.StSh := ⟨[(0, (.d (.sl (.pair .str (.pair (.int .i64) (.pair (.int .i64) .bool)))))), (1, (.fn 51 [(.dref (.pair (.sl (.pair (.sl (.int .i64)) (.sl (.pair .str (.int .i64))))) (.sl (.pair .str (.pair (.int .i64) (.pair (.int .i64) .bool))))) 0)])), (3, (.ref 0 0)), (4, (.d .bool)), (5, (.d (.sl (.pair .str (.pair (.int .i64) (.pair (.int .i64) .bool)))))), (6, (.fn 83 [(.ref 0 0)])), (9, (.d (.sl (.pair .str (.pair (.int .i64) (.pair (.int .i64) .bool)))))), (10, (.fn 83 [(.ref 0 0)])), (13, (.d .bool)), (14, (.d (.sl (.pair .str (.pair (.int .i64) (.pair (.int .i64) .bool)))))), (15, (.fn 83 [(.ref 0 0)])), (18, (.d (.sl (.pair .str (.pair (.int .i64) (.pair (.int .i64) .bool)))))), (19, (.fn 83 [(.ref 0 0)])), (22, (.d (.int .i64))), (25, (.d (.int .i64))), (26, (.d (.int .i64)))], [(0, (.box [(.fn 51 [(.dref (.pair (.sl (.pair (.sl (.int .i64)) (.sl (.pair .str (.int .i64))))) (.sl (.pair .str (.pair (.int .i64) (.pair (.int .i64) .bool))))) 0)])]))], 1, 37, ⟨0, []⟩⟩
def Sg.o_impl_areAll_impl_Ref__impl_BaseOK_1_0 : Fw.StSh := ⟨[(0, (.d (.sl (.pair .str (.pair (.int .i64) (.pair (.int .i64) .bool)))))), (1, (.fn 51 [(.dref (.pair (.sl (.pair (.sl (.int .i64)) (.sl (.pair .str (.int .i64))))) (.sl (.pair .str (.pair (.int .i64) (.pair (.int .i64) .bool))))) 0)])), (3, (.ref 0 0)), (4, (.d .bool)), (5, (.d (.sl (.pair .str (.pair (.int .i64) (.pair (.int .i64) .bool)))))), (6, (.fn 83 [(.ref 0 0)])), (9, (.d (.sl (.pair .str (.pair (.int .i64) (.pair (.int .i64) .bool)))))), (10, (.fn 83 [(.ref 0 0)])), (13, (.d .bool)), (14, (.d (.sl (.pair .str (.pair (.int .i64) (.pair (.int .i64) .bool)))))), (15, (.fn 83 [(.ref 0 0)])), (22, (.d (.int .i64)))], [(0, (.box [(.fn 51 [(.dref (.pair (.sl (.pair (.sl (.int .i64)) (.sl (.pair .str (.int .i64))))) (.sl (.pair .str (.pair (.int .i64) (.pair (.int .i64) .bool))))) 0)])]))], 1, 37, ⟨0, []⟩⟩
def Sg.r_impl_areAll_impl_Ref__impl_BaseOK_1_0 : Fw.StSh := ⟨[(0, (.d (.sl (.pair .str (.pair (.int .i64) (.pair (.int .i64) .bool)))))), (1, (.fn 51 [(.dref (.pair (.sl (.pair (.sl (.int .i64)) (.sl (.pair .str (.int .i64))))) (.sl (.pair .str (.pair (.int .i64) (.pair (.int .i64) .bool))))) 0)])), (3, (.ref 0 0)), (4, (.d .bool)), (5, (.d (.sl (.pair .str (.pair (.int .i64) (.pair (.int .i64) .bool)))))), (6, (.fn 83 [(.ref 0 0)])), (9, (.d (.sl (.pair .str (.pair (.int .i64) (.pair (.int .i64) .bool)))))), (10, (.fn 83 [(.ref 0 0)])), (13, (.d .bool)), (14, (.d (.sl (.pair .str (.pair (.int .i64) (.pair (.int .i64) .bool)))))), (15, (.fn 83 [(.ref 0 0)])), (22, (.d (.int .i64)))], [(0, (.box [(.fn 51 [(.dref (.pair (.sl (.pair (.sl (.int .i64)) (.sl (.pair .str (.int .i64))))) (.sl (.pair .str (.pair (.int .i64) (.pair (.int .i64) .bool))))) 0)])]))], 3, 55, ⟨0, []⟩⟩
noncomputable def Sg.p_impl_areAll_impl_Ref__impl_BaseOK_1_0 (K : Nat) : Fw.LSpec := { g := 109, b := 18, lv := 4, l0 := 1, li := 0, head := Sg.h_impl_areAll_impl_Ref__impl_BaseOK_1_0, post := Sg.o_impl_areAll_impl_Ref__impl_BaseOK_1_0, retn := Sg.r_impl_areAll_impl_Ref__impl_BaseOK_1_0, ex := 0, L := R.L_impl_areAll_impl_Ref__impl_BaseOK_1_0 K }
noncomputable def Sg.i_impl_areAll_impl_Ref__impl_BaseOK_1 : List (Nat × Fw.PFn) := [(83, Sg.f_impl_areAll_impl_Ref_1), (109, Sg.f_slices_IndexFunc_impl_Ref), (82, Sg.f_slices_ContainsFunc_impl_Ref), (51, Sg.f_impl_BaseOK_1)]
noncomputable def Sg.s_impl_areAll_impl_Ref__impl_BaseOK_1 (K : Nat) : Fw.Sig := { ins := [.val false (.sl (.pair .str (.pair (.int .i64) (.pair (.int .i64) .bool)))), .fn 51 [(.pair (.sl (.pair (.sl (.int .i64)) (.sl (.pair .str (.int .i64))))) (.sl (.pair .str (.pair (.int .i64) (.pair (.int .i64) .bool)))))]], outs := [⟨false, .bool, false⟩], F := fun x => R.impl_areAll_impl_Ref__impl_BaseOK_1 K x.1 x.2.1.1 }
noncomputable def Sg.c_impl_areAll_impl_Ref__impl_BaseOK_1 (K : Nat) : Fw.Cfg := { tab := Sg.tab, eqs := Sg.eqs, sig := [], inl := [(83, Tryz.f83), (109, Tryz.f109), (82, Tryz.f82), (51, Tryz.f51)], lo := Sg.p_impl_areAll_impl_Ref__impl_BaseOK_1_0 K :: [], K := K, jo := [], opn := [11, 12, 17, 29, 30, 38, 57, 58] }
noncomputable def Sg.f_impl_BaseOK : Fw.PFn := Fw.PFn.get Tryz.f25
noncomputable def Sg.i_impl_BaseOK : List (Nat × Fw.PFn) := [(83, Sg.f_impl_areAll_impl_Ref_1), (109, Sg.f_slices_IndexFunc_impl_Ref), (82, Sg.f_slices_ContainsFunc_impl_Ref), (50, Sg.f_impl_areAll_impl_Ref), (51, Sg.f_impl_BaseOK_1)]
noncomputable def Sg.s_impl_BaseOK (K : Nat) : Fw.Sig := { ins := [.val true (.pair (.sl (.pair (.sl (.int .i64)) (.sl (.pair .str (.int .i64))))) (.sl (.pair .str (.pair (.int .i64) (.pair (.int .i64) .bool)))))], outs := [⟨false, .bool, false⟩], F := fun x => R.impl_BaseOK K x.1 }
noncomputable def Sg.c_impl_BaseOK (K : Nat) : Fw.Cfg := { tab := Sg.tab, eqs := Sg.eqs, sig := [(48, Sg.s_impl_StoreOK K), (49, Sg.s_impl_RefsOK K), (50, Sg.s_impl_areAll_impl_Ref__impl_BaseOK_1 K)], inl := [(83, Tryz.f83), (109, Tryz.f109), (82, Tryz.f82), (50, Tryz.f50), (51, Tryz.f51)], lo := [], K := K, jo := [], opn := [11, 12, 17, 29, 30, 38, 57, 58] }
noncomputable def Sg.s_strconv_Itoa (K : Nat) : Fw.Sig := { ins := [.val false (.int .i64)], outs := [⟨false, .str, false⟩], F := fun x => R.strconv_Itoa K x.1 }
noncomputable def Sg.s_strings_Join (K : Nat) : Fw.Sig := { ins := [.val false (.sl .str), .val false .str], outs := [⟨false, .str, false⟩], F := fun x => R.strings_Join K x.1 x.2.1 }
noncomputable def Sg.f_impl_listed : Fw.PFn := Fw.PFn.get Tryz.f85
noncomputable def Sg.i_impl_listed : List (Nat × Fw.PFn) := []
noncomputable def Sg.s_impl_listed (K : Nat) : Fw.Sig := { ins := [.val false (.sl .str)], outs := [⟨false, .str, false⟩], F := fun x => R.impl_listed K x.1 }
noncomputable def Sg.c_impl_listed (K : Nat) : Fw.Cfg := { tab := Sg.tab, eqs := Sg.eqs, sig := [(112, Sg.s_strings_Join K)], inl := [], lo := [], K := K, jo := [], opn := [11, 12, 17, 29, 30, 38, 57, 58] }
def Sg.h_impl_mapText_0 : Fw.StSh := ⟨[(2, (.d .str)), (3, (.row 0)), (6, (.d (.sl (.pair .str (.int .i64))))), (7, (.d (.int .i64))), (8, (.d (.int .i64)))], [(0, (.row .str true))], 1, 25, ⟨0, []⟩⟩
def Sg.o_impl_mapText_0 : Fw.StSh := ⟨[(2, (.d .str)), (3, (.row 0))], [(0, (.row .str true))], 1, 25, ⟨0, []⟩⟩
def Sg.r_impl_mapText_0 : Fw.StSh := ⟨[], [], 1, 25, ⟨0, []⟩⟩
noncomputable def Sg.p_impl_mapText_0 (K : Nat) : Fw.LSpec := { g := 53, b := 0, lv := 6, l0 := 0, li := 0, head := Sg.h_impl_mapText_0, post := Sg.o_impl_mapText_0, retn := Sg.r_impl_mapText_0, ex := 0, L := R.L_impl_mapText_0 K }
noncomputable def Sg.f_impl_mapText : Fw.PFn := Fw.PFn.get Tryz.f53
noncomputable def Sg.i_impl_mapText : List (Nat × Fw.PFn) := []
noncomputable def Sg.s_impl_mapText (K : Nat) : Fw.Sig := { ins := [.val false (.sl (.pair .str (.int .i64)))], outs := [⟨false, .str, false⟩], F := fun x => R.impl_mapText K x.1 }
noncomputable def Sg.c_impl_mapText (K : Nat) : Fw.Cfg := { tab := Sg.tab, eqs := Sg.eqs, sig := [(52, Sg.s_strconv_Itoa K), (85, Sg.s_impl_listed K)], inl := [], lo := Sg.p_impl_mapText_0 K :: [], K := K, jo := ⟨53, 0, 6, 0, 5, none⟩ :: [], opn := [11, 12, 17, 29, 30, 38, 57, 58] }
noncomputable def Sg.f_impl_numbered : Fw.PFn := Fw.PFn.get Tryz.f54
noncomputable def Sg.i_impl_numbered : List (Nat × Fw.PFn) := []
noncomputable def Sg.s_impl_numbered (K : Nat) : Fw.Sig := { ins := [.val false .str, .val false (.int .i64)], outs := [⟨false, .str, false⟩], F := fun x => R.impl_numbered K x.1 x.2.1 }
noncomputable def Sg.c_impl_numbered (K : Nat) : Fw.Cfg := { tab := Sg.tab, eqs := Sg.eqs, sig := [(52, Sg.s_strconv_Itoa K)], inl := [], lo := [], K := K, jo := [], opn := [11, 12, 17, 29, 30, 38, 57, 58] }
def Sg.h_impl_Base_lines_1 : Fw.StSh := ⟨[(1, (.ref 0 0)), (2, (.row 1)), (3, (.row 2)), (4, (.d (.int .i64))), (5, (.ref 5 0)), (6, (.d .str)), (13, (.d (.sl (.pair (.sl (.int .i64)) (.sl (.pair .str (.int .i64))))))), (14, (.d (.int .i64))), (15, (.d (.int .i64))), (16, (.d .bool)), (17, (.d (.int .i64))), (18, (.dref (.pair (.sl (.int .i64)) (.sl (.pair .str (.int .i64)))) 0)), (19, (.agg [(.d (.sl (.int .i64))), (.d (.sl (.pair .str (.int .i64))))])), (20, (.d (.int .i64))), (21, (.d (.int .i64))), (22, (.d .str)), (23, (.d .str)), (24, (.ref 5 0)), (25, (.d (.sl (.int .i64)))), (26, (.d (.int .i64))), (27, (.d (.int .i64)))], [(0, (.box [(.d (.sl (.pair (.sl (.int .i64)) (.sl (.pair .str (.int .i64)))))), (.d (.sl (.pair .str (.pair (.int .i64) (.pair (.int .i64) .bool)))))])), (1, (.row .str true)), (2, (.row .str true)), (5, (.box [(.d (.sl (.int .i64))), (.d (.sl (.pair .str (.int .i64))))]))], 6, 76, ⟨0, []⟩⟩
def Sg.o_impl_Base_lines_1 : Fw.StSh := ⟨[(1, (.ref 0 0)), (2, (.row 1)), (3, (.row 2)), (4, (.d (.int .i64))), (5, (.ref 5 0)), (6, (.d .str)), (13, (.d (.sl (.pair (.sl (.int .i64)) (.sl (.pair .str (.int .i64))))))), (14, (.d (.int .i64))), (15, (.d (.int .i64))), (16, (.d .bool)), (17, (.d (.int .i64))), (18, (.dref (.pair (.sl (.int .i64)) (.sl (.pair .str (.int .i64)))) 0)), (19, (.agg [(.d (.sl (.int .i64))), (.d (.sl (.pair .str (.int .i64))))])), (20, (.d (.int .i64))), (21, (.d (.int .i64))), (22, (.d .str)), (23, (.d .str)), (24, (.ref 5 0)), (25, (.d (.sl (.int .i64)))), (26, (.d (.int .i64))), (27, (.d (.int .i64))), (28, (.d .bool))], [(0, (.box [(.d (.sl (.pair (.sl (.int .i64)) (.sl (.pair .str (.int .i64)))))), (.d (.sl (.pair .str (.pair (.int .i64) (.pair (.int .i64) .bool)))))])), (1, (.row .str true)), (2, (.row .str true)), (5, (.box [(.d (.sl (.int .i64))), (.d (.sl (.pair .str (.int .i64))))]))], 6, 76, ⟨0, []⟩⟩
def Sg.r_impl_Base_lines_1 : Fw.StSh := ⟨[], [], 6, 76, ⟨0, []⟩⟩
noncomputable def Sg.p_impl_Base_lines_1 (K : Nat) : Fw.LSpec := { g := 26, b := 0, lv := 6, l0 := 0, li := 1, head := Sg.h_impl_Base_lines_1, post := Sg.o_impl_Base_lines_1, retn := Sg.r_impl_Base_lines_1, ex := 2, L := R.L_impl_Base_lines_1 K }
def Sg.h_impl_Base_lines_0 : Fw.StSh := ⟨[(1, (.ref 0 0)), (2, (.row 1)), (3, (.row 2)), (13, (.d (.sl (.pair (.sl (.int .i64)) (.sl (.pair .str (.int .i64))))))), (14, (.d (.int .i64))), (15, (.d (.int .i64)))], [(0, (.box [(.d (.sl (.pair (.sl (.int .i64)) (.sl (.pair .str (.int .i64)))))), (.d (.sl (.pair .str (.pair (.int .i64) (.pair (.int .i64) .bool)))))])), (1, (.row .str true)), (2, (.row .str true))], 3, 76, ⟨0, []⟩⟩
def Sg.o_impl_Base_lines_0 : Fw.StSh := ⟨[(1, (.ref 0 0)), (2, (.row 1)), (3, (.row 2))], [(0, (.box [(.d (.sl (.pair (.sl (.int .i64)) (.sl (.pair .str (.int .i64)))))), (.d (.sl (.pair .str (.pair (.int .i64) (.pair (.int .i64) .bool)))))])), (1, (.row .str true)), (2, (.row .str true))], 3, 76, ⟨0, []⟩⟩
def Sg.r_impl_Base_lines_0 : Fw.StSh := ⟨[], [], 6, 76, ⟨0, []⟩⟩
noncomputable def Sg.p_impl_Base_lines_0 (K : Nat) : Fw.LSpec := { g := 26, b := 0, lv := 6, l0 := 0, li := 0, head := Sg.h_impl_Base_lines_0, post := Sg.o_impl_Base_lines_0, retn := Sg.r_impl_Base_lines_0, ex := 0, L := R.L_impl_Base_lines_0 K }
def Sg.h_impl_Base_lines_2 : Fw.StSh := ⟨[(2, (.row 1)), (3, (.row 2)), (48, (.d (.sl (.pair .str (.pair (.int .i64) (.pair (.int .i64) .bool)))))), (49, (.d (.int .i64))), (50, (.d (.int .i64)))], [(1, (.row .str true)), (2, (.row .str true))], 3, 76, ⟨0, []⟩⟩
def Sg.o_impl_Base_lines_2 : Fw.StSh := ⟨[(2, (.row 1)), (3, (.row 2))], [(1, (.row .str true)), (2, (.row .str true))], 3, 76, ⟨0, []⟩⟩
def Sg.r_impl_Base_lines_2 : Fw.StSh := ⟨[], [], 3, 76, ⟨0, []⟩⟩
noncomputable def Sg.p_impl_Base_lines_2 (K : Nat) : Fw.LSpec := { g := 26, b := 0, lv := 6, l0 := 0, li := 2, head := Sg.h_impl_Base_lines_2, post := Sg.o_impl_Base_lines_2, retn := Sg.r_impl_Base_lines_2, ex := 4, L := R.L_impl_Base_lines_2 K }
noncomputable def Sg.f_impl_Base_lines : Fw.PFn := Fw.PFn.get Tryz.f26
noncomputable def Sg.i_impl_Base_lines : List (Nat × Fw.PFn) := []
noncomputable def Sg.s_impl_Base_lines (K : Nat) : Fw.Sig := { ins := [.val true (.pair (.sl (.pair (.sl (.int .i64)) (.sl (.pair .str (.int .i64))))) (.sl (.pair .str (.pair (.int .i64) (.pair (.int .i64) .bool)))))], outs := [⟨false, (.sl .str), true⟩], F := fun x => R.impl_Base_lines K x.1 }
noncomputable def Sg.c_impl_Base_lines (K : Nat) : Fw.Cfg := { tab := Sg.tab, eqs := Sg.eqs, sig := [(52, Sg.s_strconv_Itoa K), (53, Sg.s_impl_mapText K), (54, Sg.s_impl_numbered K)], inl := [], lo := Sg.p_impl_Base_lines_1 K :: Sg.p_impl_Base_lines_0 K :: Sg.p_impl_Base_lines_2 K :: [], K := K, jo := ⟨26, 0, 6, 0, 16, none⟩ :: [], opn := [11, 12, 17, 29, 30, 38, 57, 58] }
noncomputable def Sg.f_impl_BaseLines : Fw.PFn := Fw.PFn.get Tryz.f8
noncomputable def Sg.i_impl_BaseLines : List (Nat × Fw.PFn) := []
noncomputable def Sg.s_impl_BaseLines (K : Nat) : Fw.Sig := { ins := [.val true (.pair (.sl (.pair (.sl (.int .i64)) (.sl (.pair .str (.int .i64))))) (.sl (.pair .str (.pair (.int .i64) (.pair (.int .i64) .bool)))))], outs := [⟨false, (.sl .str), true⟩, ⟨false, (.int .i64), false⟩], F := fun x => R.impl_BaseLines K x.1 }
noncomputable def Sg.c_impl_BaseLines (K : Nat) : Fw.Cfg := { tab := Sg.tab, eqs := Sg.eqs, sig := [(25, Sg.s_impl_BaseOK K), (26, Sg.s_impl_Base_lines K)], inl := [], lo := [], K := K, jo := [], opn := [11, 12, 17, 29, 30, 38, 57, 58] }
def Sg.h_laws_eqStringS_0 : Fw.StSh := ⟨[(0, (.d (.sl .str))), (1, (.d (.sl .str))), (4, (.d .bool)), (5, (.d (.int .i64)))], [], 0, 26, ⟨0, []⟩⟩
def Sg.o_laws_eqStringS_0 : Fw.StSh := ⟨[(4, (.d .bool))], [], 0, 26, ⟨0, []⟩⟩
def Sg.r_laws_eqStringS_0 : Fw.StSh := ⟨[(4, (.d .bool))], [], 0, 26, ⟨0, []⟩⟩
noncomputable def Sg.p_laws_eqStringS_0 (K : Nat) : Fw.LSpec := { g := 9, b := 0, lv := 6, l0 := 0, li := 0, head := Sg.h_laws_eqStringS_0, post := Sg.o_laws_eqStringS_0, retn := Sg.r_laws_eqStringS_0, ex := 0, L := R.L_laws_eqStringS_0 K }
noncomputable def Sg.f_laws_eqStringS : Fw.PFn := Fw.PFn.get Tryz.f9
noncomputable def Sg.i_laws_eqStringS : List (Nat × Fw.PFn) := []
noncomputable def Sg.s_laws_eqStringS (K : Nat) : Fw.Sig := { ins := [.val false (.sl .str), .val false (.sl .str)], outs := [⟨false, .bool, false⟩], F := fun x => R.laws_eqStringS K x.1 x.2.1 }
noncomputable def Sg.c_laws_eqStringS (K : Nat) : Fw.Cfg := { tab := Sg.tab, eqs := Sg.eqs, sig := [], inl := [], lo := Sg.p_laws_eqStringS_0 K :: [], K := K, jo := ⟨9, 0, 6, 0, 6, none⟩ :: [], opn := [11, 12, 17, 29, 30, 38, 57, 58] }
def Sg.h_laws_eqIntS_0 : Fw.StSh := ⟨[(0, (.d (.sl (.int .i64)))), (1, (.d (.sl (.int .i64)))), (4, (.d .bool)), (5, (.d (.int .i64)))], [], 0, 26, ⟨0, []⟩⟩
def Sg.o_laws_eqIntS_0 : Fw.StSh := ⟨[(4, (.d .bool))], [], 0, 26, ⟨0, []⟩⟩
def Sg.r_laws_eqIntS_0 : Fw.StSh := ⟨[(4, (.d .bool))], [], 0, 26, ⟨0, []⟩⟩
noncomputable def Sg.p_laws_eqIntS_0 (K : Nat) : Fw.LSpec := { g := 86, b := 0, lv := 6, l0 := 0, li := 0, head := Sg.h_laws_eqIntS_0, post := Sg.o_laws_eqIntS_0, retn := Sg.r_laws_eqIntS_0, ex := 0, L := R.L_laws_eqIntS_0 K }
noncomputable def Sg.f_laws_eqIntS : Fw.PFn := Fw.PFn.get Tryz.f86
noncomputable def Sg.i_laws_eqIntS : List (Nat × Fw.PFn) := []
noncomputable def Sg.s_laws_eqIntS (K : Nat) : Fw.Sig := { ins := [.val false (.sl (.int .i64)), .val false (.sl (.int .i64))], outs := [⟨false, .bool, false⟩], F := fun x => R.laws_eqIntS K x.1 x.2.1 }
noncomputable def Sg.c_laws_eqIntS (K : Nat) : Fw.Cfg := { tab := Sg.tab, eqs := Sg.eqs, sig := [], inl := [], lo := Sg.p_laws_eqIntS_0 K :: [], K := K, jo := ⟨86, 0, 6, 0, 6, none⟩ :: [], opn := [11, 12, 17, 29, 30, 38, 57, 58] }
noncomputable def Sg.f_laws_eqEntry : Fw.PFn := Fw.PFn.get Tryz.f113
noncomputable def Sg.i_laws_eqEntry : List (Nat × Fw.PFn) := []
noncomputable def Sg.s_laws_eqEntry (K : Nat) : Fw.Sig := { ins := [.val true (.pair .str (.int .i64)), .val true (.pair .str (.int .i64))], outs := [⟨false, .bool, false⟩], F := fun x => R.laws_eqEntry K x.1 x.2.1 }
noncomputable def Sg.c_laws_eqEntry (K : Nat) : Fw.Cfg := { tab := Sg.tab, eqs := Sg.eqs, sig := [], inl := [], lo := [], K := K, jo := [], opn := [11, 12, 17, 29, 30, 38, 57, 58] }
def Sg.h_laws_eqEntryS_0 : Fw.StSh := ⟨[(0, (.d (.sl (.pair .str (.int .i64))))), (1, (.d (.sl (.pair .str (.int .i64))))), (4, (.d .bool)), (5, (.d (.int .i64)))], [], 0, 27, ⟨0, []⟩⟩
def Sg.o_laws_eqEntryS_0 : Fw.StSh := ⟨[(4, (.d .bool))], [], 0, 27, ⟨0, []⟩⟩
def Sg.r_laws_eqEntryS_0 : Fw.StSh := ⟨[(4, (.d .bool))], [], 0, 27, ⟨0, []⟩⟩
noncomputable def Sg.p_laws_eqEntryS_0 (K : Nat) : Fw.LSpec := { g := 87, b := 0, lv := 6, l0 := 0, li := 0, head := Sg.h_laws_eqEntryS_0, post := Sg.o_laws_eqEntryS_0, retn := Sg.r_laws_eqEntryS_0, ex := 0, L := R.L_laws_eqEntryS_0 K }
noncomputable def Sg.f_laws_eqEntryS : Fw.PFn := Fw.PFn.get Tryz.f87
noncomputable def Sg.i_laws_eqEntryS : List (Nat × Fw.PFn) := []
noncomputable def Sg.s_laws_eqEntryS (K : Nat) : Fw.Sig := { ins := [.val false (.sl (.pair .str (.int .i64))), .val false (.sl (.pair .str (.int .i64)))], outs := [⟨false, .bool, false⟩], F := fun x => R.laws_eqEntryS K x.1 x.2.1 }
noncomputable def Sg.c_laws_eqEntryS (K : Nat) : Fw.Cfg := { tab := Sg.tab, eqs := Sg.eqs, sig := [(113, Sg.s_laws_eqEntry K)], inl := [], lo := Sg.p_laws_eqEntryS_0 K :: [], K := K, jo := ⟨87, 0, 6, 0, 6, none⟩ :: [], opn := [11, 12, 17, 29, 30, 38, 57, 58] }
noncomputable def Sg.f_laws_eqCommit : Fw.PFn := Fw.PFn.get Tryz.f55
noncomputable def Sg.i_laws_eqCommit : List (Nat × Fw.PFn) := []
noncomputable def Sg.s_laws_eqCommit (K : Nat) : Fw.Sig := { ins := [.val true (.pair (.sl (.int .i64)) (.sl (.pair .str (.int .i64)))), .val true (.pair (.sl (.int .i64)) (.sl (.pair .str (.int .i64))))], outs := [⟨false, .bool, false⟩], F := fun x => R.laws_eqCommit K x.1 x.2.1 }
noncomputable def Sg.c_laws_eqCommit (K : Nat) : Fw.Cfg := { tab := Sg.tab, eqs := Sg.eqs, sig := [(86, Sg.s_laws_eqIntS K), (87, Sg.s_laws_eqEntryS K)], inl := [], lo := [], K := K, jo := [], opn := [11, 12, 17, 29, 30, 38, 57, 58] }
def Sg.h_laws_eqCommitS_0 : Fw.StSh := ⟨[(0, (.d (.sl (.pair (.sl (.int .i64)) (.sl (.pair .str (.int .i64))))))), (1, (.d (.sl (.pair (.sl (.int .i64)) (.sl (.pair .str (.int .i64))))))), (4, (.d .bool)), (5, (.d (.int .i64)))], [], 0, 27, ⟨0, []⟩⟩
def Sg.o_laws_eqCommitS_0 : Fw.StSh := ⟨[(4, (.d .bool))], [], 0, 27, ⟨0, []⟩⟩
def Sg.r_laws_eqCommitS_0 : Fw.StSh := ⟨[(4, (.d .bool))], [], 0, 27, ⟨0, []⟩⟩
noncomputable def Sg.p_laws_eqCommitS_0 (K : Nat) : Fw.LSpec := { g := 27, b := 0, lv := 6, l0 := 0, li := 0, head := Sg.h_laws_eqCommitS_0, post := Sg.o_laws_eqCommitS_0, retn := Sg.r_laws_eqCommitS_0, ex := 0, L := R.L_laws_eqCommitS_0 K }
noncomputable def Sg.f_laws_eqCommitS : Fw.PFn := Fw.PFn.get Tryz.f27
noncomputable def Sg.i_laws_eqCommitS : List (Nat × Fw.PFn) := []
noncomputable def Sg.s_laws_eqCommitS (K : Nat) : Fw.Sig := { ins := [.val false (.sl (.pair (.sl (.int .i64)) (.sl (.pair .str (.int .i64))))), .val false (.sl (.pair (.sl (.int .i64)) (.sl (.pair .str (.int .i64)))))], outs := [⟨false, .bool, false⟩], F := fun x => R.laws_eqCommitS K x.1 x.2.1 }
noncomputable def Sg.c_laws_eqCommitS (K : Nat) : Fw.Cfg := { tab := Sg.tab, eqs := Sg.eqs, sig := [(55, Sg.s_laws_eqCommit K)], inl := [], lo := Sg.p_laws_eqCommitS_0 K :: [], K := K, jo := ⟨27, 0, 6, 0, 6, none⟩ :: [], opn := [11, 12, 17, 29, 30, 38, 57, 58] }
noncomputable def Sg.f_laws_eqRef : Fw.PFn := Fw.PFn.get Tryz.f56
noncomputable def Sg.i_laws_eqRef : List (Nat × Fw.PFn) := []
noncomputable def Sg.s_laws_eqRef (K : Nat) : Fw.Sig := { ins := [.val true (.pair .str (.pair (.int .i64) (.pair (.int .i64) .bool))), .val true (.pair .str (.pair (.int .i64) (.pair (.int .i64) .bool)))], outs := [⟨false, .bool, false⟩], F := fun x => R.laws_eqRef K x.1 x.2.1 }
noncomputable def Sg.c_laws_eqRef (K : Nat) : Fw.Cfg := { tab := Sg.tab, eqs := Sg.eqs, sig := [], inl := [], lo := [], K := K, jo := [], opn := [11, 12, 17, 29, 30, 38, 57, 58] }
def Sg.h_laws_eqRefS_0 : Fw.StSh := ⟨[(0, (.d (.sl (.pair .str (.pair (.int .i64) (.pair (.int .i64) .bool)))))), (1, (.d (.sl (.pair .str (.pair (.int .i64) (.pair (.int .i64) .bool)))))), (4, (.d .bool)), (5, (.d (.int .i64)))], [], 0, 27, ⟨0, []⟩⟩
def Sg.o_laws_eqRefS_0 : Fw.StSh := ⟨[(4, (.d .bool))], [], 0, 27, ⟨0, []⟩⟩
def Sg.r_laws_eqRefS_0 : Fw.StSh := ⟨[(4, (.d .bool))], [], 0, 27, ⟨0, []⟩⟩
noncomputable def Sg.p_laws_eqRefS_0 (K : Nat) : Fw.LSpec := { g := 28, b := 0, lv := 6, l0 := 0, li := 0, head := Sg.h_laws_eqRefS_0, post := Sg.o_laws_eqRefS_0, retn := Sg.r_laws_eqRefS_0, ex := 0, L := R.L_laws_eqRefS_0 K }
noncomputable def Sg.f_laws_eqRefS : Fw.PFn := Fw.PFn.get Tryz.f28
noncomputable def Sg.i_laws_eqRefS : List (Nat × Fw.PFn) := []
noncomputable def Sg.s_laws_eqRefS (K : Nat) : Fw.Sig := { ins := [.val false (.sl (.pair .str (.pair (.int .i64) (.pair (.int .i64) .bool)))), .val false (.sl (.pair .str (.pair (.int .i64) (.pair (.int .i64) .bool))))], outs := [⟨false, .bool, false⟩], F := fun x => R.laws_eqRefS K x.1 x.2.1 }
noncomputable def Sg.c_laws_eqRefS (K : Nat) : Fw.Cfg := { tab := Sg.tab, eqs := Sg.eqs, sig := [(56, Sg.s_laws_eqRef K)], inl := [], lo := Sg.p_laws_eqRefS_0 K :: [], K := K, jo := ⟨28, 0, 6, 0, 6, none⟩ :: [], opn := [11, 12, 17, 29, 30, 38, 57, 58] }
noncomputable def Sg.f_laws_eqBase : Fw.PFn := Fw.PFn.get Tryz.f10
noncomputable def Sg.i_laws_eqBase : List (Nat × Fw.PFn) := []
noncomputable def Sg.s_laws_eqBase (K : Nat) : Fw.Sig := { ins := [.val true (.pair (.sl (.pair (.sl (.int .i64)) (.sl (.pair .str (.int .i64))))) (.sl (.pair .str (.pair (.int .i64) (.pair (.int .i64) .bool))))), .val true (.pair (.sl (.pair (.sl (.int .i64)) (.sl (.pair .str (.int .i64))))) (.sl (.pair .str (.pair (.int .i64) (.pair (.int .i64) .bool)))))], outs := [⟨false, .bool, false⟩], F := fun x => R.laws_eqBase K x.1 x.2.1 }
noncomputable def Sg.c_laws_eqBase (K : Nat) : Fw.Cfg := { tab := Sg.tab, eqs := Sg.eqs, sig := [(27, Sg.s_laws_eqCommitS K), (28, Sg.s_laws_eqRefS K)], inl := [], lo := [], K := K, jo := [], opn := [11, 12, 17, 29, 30, 38, 57, 58] }
def Sg.h_laws_markIntS_0 : Fw.StSh := ⟨[(0, (.row 0)), (1, (.row 0)), (2, (.d (.int .i64))), (5, (.d (.int .i64))), (6, (.d (.int .i64)))], [(0, (.row (.int .i64) true))], 1, 20, ⟨0, []⟩⟩
def Sg.o_laws_markIntS_0 : Fw.StSh := ⟨[(0, (.row 0)), (2, (.d (.int .i64))), (5, (.d (.int .i64)))], [(0, (.row (.int .i64) true))], 1, 20, ⟨0, []⟩⟩
def Sg.r_laws_markIntS_0 : Fw.StSh := ⟨[], [], 1, 20, ⟨0, []⟩⟩
noncomputable def Sg.p_laws_markIntS_0 (K : Nat) : Fw.LSpec := { g := 57, b := 1, lv := 6, l0 := 1, li := 0, head := Sg.h_laws_markIntS_0, post := Sg.o_laws_markIntS_0, retn := Sg.r_laws_markIntS_0, ex := 0, L := R.L_laws_markIntS_0 K }
noncomputable def Sg.f_laws_markIntS : Fw.PFn := Fw.PFn.get Tryz.f57
noncomputable def Sg.i_laws_markIntS : List (Nat × Fw.PFn) := []
noncomputable def Sg.s_laws_markIntS (K : Nat) : Fw.Sig := { ins := [.mut false (.sl (.int .i64)), .val false (.int .i64)], outs := [⟨false, (.int .i64), false⟩], F := fun x => R.laws_markIntS K x.1 x.2.1 }
noncomputable def Sg.c_laws_markIntS (K : Nat) : Fw.Cfg := { tab := Sg.tab, eqs := Sg.eqs, sig := [], inl := [], lo := Sg.p_laws_markIntS_0 K :: [], K := K, jo := [], opn := [11, 12, 17, 29, 30, 38, 57, 58] }
def Sg.h_laws_markText_0 : Fw.StSh := ⟨[(0, (.d (.int .i64))), (2, (.d .str)), (3, (.d .str))], [], 0, 20, ⟨0, []⟩⟩
def Sg.o_laws_markText_0 : Fw.StSh := ⟨[(2, (.d .str)), (3, (.d .str))], [], 0, 20, ⟨0, []⟩⟩
def Sg.r_laws_markText_0 : Fw.StSh := ⟨[], [], 0, 20, ⟨0, []⟩⟩
noncomputable def Sg.p_laws_markText_0 (K : Nat) : Fw.LSpec := { g := 31, b := 0, lv := 6, l0 := 0, li := 0, head := Sg.h_laws_markText_0, post := Sg.o_laws_markText_0, retn := Sg.r_laws_markText_0, ex := 0, L := R.L_laws_markText_0 K }
noncomputable def Sg.f_laws_markText : Fw.PFn := Fw.PFn.get Tryz.f31
noncomputable def Sg.i_laws_markText : List (Nat × Fw.PFn) := []
noncomputable def Sg.s_laws_markText (K : Nat) : Fw.Sig := { ins := [.val false (.int .i64)], outs := [⟨false, .str, false⟩], F := fun x => R.laws_markText K x.1 }
noncomputable def Sg.c_laws_markText (K : Nat) : Fw.Cfg := { tab := Sg.tab, eqs := Sg.eqs, sig := [], inl := [], lo := Sg.p_laws_markText_0 K :: [], K := K, jo := [], opn := [11, 12, 17, 29, 30, 38, 57, 58] }
def Sg.h_laws_markEntryS_0 : Fw.StSh := ⟨[(0, (.row 0)), (1, (.row 0)), (2, (.d (.int .i64))), (5, (.d (.int .i64))), (6, (.d (.int .i64)))], [(0, (.row (.pair .str (.int .i64)) true))], 1, 29, ⟨0, []⟩⟩
def Sg.o_laws_markEntryS_0 : Fw.StSh := ⟨[(0, (.row 0)), (2, (.d (.int .i64))), (5, (.d (.int .i64)))], [(0, (.row (.pair .str (.int .i64)) true))], 1, 29, ⟨0, []⟩⟩
def Sg.r_laws_markEntryS_0 : Fw.StSh := ⟨[], [], 1, 29, ⟨0, []⟩⟩
noncomputable def Sg.p_laws_markEntryS_0 (K : Nat) : Fw.LSpec := { g := 58, b := 1, lv := 6, l0 := 1, li := 0, head := Sg.h_laws_markEntryS_0, post := Sg.o_laws_markEntryS_0, retn := Sg.r_laws_markEntryS_0, ex := 0, L := R.L_laws_markEntryS_0 K }
noncomputable def Sg.f_laws_markEntryS : Fw.PFn := Fw.PFn.get Tryz.f58
noncomputable def Sg.i_laws_markEntryS : List (Nat × Fw.PFn) := []
noncomputable def Sg.s_laws_markEntryS (K : Nat) : Fw.Sig := { ins := [.mut false (.sl (.pair .str (.int .i64))), .val false (.int .i64)], outs := [⟨false, (.int .i64), false⟩], F := fun x => R.laws_markEntryS K x.1 x.2.1 }
noncomputable def Sg.c_laws_markEntryS (K : Nat) : Fw.Cfg := { tab := Sg.tab, eqs := Sg.eqs, sig := [(31, Sg.s_laws_markText K)], inl := [], lo := Sg.p_laws_markEntryS_0 K :: [], K := K, jo := [], opn := [11, 12, 17, 29, 30, 38, 57, 58] }
def Sg.h_laws_markCommitS_0 : Fw.StSh := ⟨[(0, (.row 0)), (1, (.row 0)), (2, (.d (.int .i64))), (5, (.d (.int .i64))), (6, (.d (.int .i64)))], [(0, (.row (.pair (.sl (.int .i64)) (.sl (.pair .str (.int .i64)))) true))], 1, 28, ⟨0, []⟩⟩
def Sg.o_laws_markCommitS_0 : Fw.StSh := ⟨[(0, (.row 0)), (2, (.d (.int .i64))), (5, (.d (.int .i64)))], [(0, (.row (.pair (.sl (.int .i64)) (.sl (.pair .str (.int .i64)))) true))], 1, 28, ⟨0, []⟩⟩
def Sg.r_laws_markCommitS_0 : Fw.StSh := ⟨[], [], 1, 28, ⟨0, []⟩⟩
noncomputable def Sg.p_laws_markCommitS_0 (K : Nat) : Fw.LSpec := { g := 29, b := 1, lv := 6, l0 := 1, li := 0, head := Sg.h_laws_markCommitS_0, post := Sg.o_laws_markCommitS_0, retn := Sg.r_laws_markCommitS_0, ex := 0, L := R.L_laws_markCommitS_0 K }
noncomputable def Sg.f_laws_markCommitS : Fw.PFn := Fw.PFn.get Tryz.f29
noncomputable def Sg.i_laws_markCommitS : List (Nat × Fw.PFn) := []
noncomputable def Sg.s_laws_markCommitS (K : Nat) : Fw.Sig := { ins := [.mut false (.sl (.pair (.sl (.int .i64)) (.sl (.pair .str (.int .i64))))), .val false (.int .i64)], outs := [⟨false, (.int .i64), false⟩], F := fun x => R.laws_markCommitS K x.1 x.2.1 }
noncomputable def Sg.c_laws_markCommitS (K : Nat) : Fw.Cfg := { tab := Sg.tab, eqs := Sg.eqs, sig := [(57, Sg.s_laws_markIntS K), (58, Sg.s_laws_markEntryS K)], inl := [], lo := Sg.p_laws_markCommitS_0 K :: [], K := K, jo := [], opn := [11, 12, 17, 29, 30, 38, 57, 58] }
def Sg.h_laws_markRefS_0 : Fw.StSh := ⟨[(0, (.row 0)), (1, (.row 0)), (2, (.d (.int .i64))), (5, (.d (.int .i64))), (6, (.d (.int .i64)))], [(0, (.row (.pair .str (.pair (.int .i64) (.pair (.int .i64) .bool))) true))], 1, 45, ⟨0, []⟩⟩
def Sg.o_laws_markRefS_0 : Fw.StSh := ⟨[(0, (.row 0)), (2, (.d (.int .i64))), (5, (.d (.int .i64)))], [(0, (.row (.pair .str (.pair (.int .i64) (.pair (.int .i64) .bool))) true))], 1, 45, ⟨0, []⟩⟩
def Sg.r_laws_markRefS_0 : Fw.StSh := ⟨[], [], 1, 45, ⟨0, []⟩⟩
noncomputable def Sg.p_laws_markRefS_0 (K : Nat) : Fw.LSpec := { g := 30, b := 1, lv := 6, l0 := 1, li := 0, head := Sg.h_laws_markRefS_0, post := Sg.o_laws_markRefS_0, retn := Sg.r_laws_markRefS_0, ex := 0, L := R.L_laws_markRefS_0 K }
noncomputable def Sg.f_laws_markRefS : Fw.PFn := Fw.PFn.get Tryz.f30
noncomputable def Sg.i_laws_markRefS : List (Nat × Fw.PFn) := []
noncomputable def Sg.s_laws_markRefS (K : Nat) : Fw.Sig := { ins := [.mut false (.sl (.pair .str (.pair (.int .i64) (.pair (.int .i64) .bool)))), .val false (.int .i64)], outs := [⟨false, (.int .i64), false⟩], F := fun x => R.laws_markRefS K x.1 x.2.1 }
noncomputable def Sg.c_laws_markRefS (K : Nat) : Fw.Cfg := { tab := Sg.tab, eqs := Sg.eqs, sig := [(31, Sg.s_laws_markText K)], inl := [], lo := Sg.p_laws_markRefS_0 K :: [], K := K, jo := [], opn := [11, 12, 17, 29, 30, 38, 57, 58] }
noncomputable def Sg.f_laws_markBase : Fw.PFn := Fw.PFn.get Tryz.f11
noncomputable def Sg.i_laws_markBase : List (Nat × Fw.PFn) := []
noncomputable def Sg.s_laws_markBase (K : Nat) : Fw.Sig := { ins := [.mut true (.pair (.sl (.pair (.sl (.int .i64)) (.sl (.pair .str (.int .i64))))) (.sl (.pair .str (.pair (.int .i64) (.pair (.int .i64) .bool))))), .val false (.int .i64)], outs := [⟨false, (.int .i64), false⟩], F := fun x => R.laws_markBase K x.1 x.2.1 }
noncomputable def Sg.c_laws_markBase (K : Nat) : Fw.Cfg := { tab := Sg.tab, eqs := Sg.eqs, sig := [(29, Sg.s_laws_markCommitS K), (30, Sg.s_laws_markRefS K)], inl := [], lo := [], K := K, jo := [], opn := [11, 12, 17, 29, 30, 38, 57, 58] }
def Sg.h_laws_markStringS_0 : Fw.StSh := ⟨[(0, (.row 0)), (1, (.row 0)), (2, (.d (.int .i64))), (5, (.d (.int .i64))), (6, (.d (.int .i64)))], [(0, (.row .str true))], 1, 21, ⟨0, []⟩⟩
def Sg.o_laws_markStringS_0 : Fw.StSh := ⟨[(0, (.row 0)), (2, (.d (.int .i64))), (5, (.d (.int .i64)))], [(0, (.row .str true))], 1, 21, ⟨0, []⟩⟩
def Sg.r_laws_markStringS_0 : Fw.StSh := ⟨[], [], 1, 21, ⟨0, []⟩⟩
noncomputable def Sg.p_laws_markStringS_0 (K : Nat) : Fw.LSpec := { g := 12, b := 1, lv := 6, l0 := 1, li := 0, head := Sg.h_laws_markStringS_0, post := Sg.o_laws_markStringS_0, retn := Sg.r_laws_markStringS_0, ex := 0, L := R.L_laws_markStringS_0 K }
noncomputable def Sg.f_laws_markStringS : Fw.PFn := Fw.PFn.get Tryz.f12
noncomputable def Sg.i_laws_markStringS : List (Nat × Fw.PFn) := []
noncomputable def Sg.s_laws_markStringS (K : Nat) : Fw.Sig := { ins := [.mut false (.sl .str), .val false (.int .i64)], outs := [⟨false, (.int .i64), false⟩], F := fun x => R.laws_markStringS K x.1 x.2.1 }
noncomputable def Sg.c_laws_markStringS (K : Nat) : Fw.Cfg := { tab := Sg.tab, eqs := Sg.eqs, sig := [(31, Sg.s_laws_markText K)], inl := [], lo := Sg.p_laws_markStringS_0 K :: [], K := K, jo := [], opn := [11, 12, 17, 29, 30, 38, 57, 58] }
def Sg.h_laws_heldStringS_0 : Fw.StSh := ⟨[(0, (.d (.sl .str))), (1, (.d (.int .i64))), (4, (.d (.int .i64))), (5, (.d (.int .i64)))], [], 0, 22, ⟨0, []⟩⟩
def Sg.o_laws_heldStringS_0 : Fw.StSh := ⟨[(1, (.d (.int .i64))), (4, (.d (.int .i64)))], [], 0, 22, ⟨0, []⟩⟩
def Sg.r_laws_heldStringS_0 : Fw.StSh := ⟨[(4, (.d (.int .i64)))], [], 0, 22, ⟨0, []⟩⟩
noncomputable def Sg.p_laws_heldStringS_0 (K : Nat) : Fw.LSpec := { g := 13, b := 0, lv := 6, l0 := 0, li := 0, head := Sg.h_laws_heldStringS_0, post := Sg.o_laws_heldStringS_0, retn := Sg.r_laws_heldStringS_0, ex := 0, L := R.L_laws_heldStringS_0 K }
noncomputable def Sg.f_laws_heldStringS : Fw.PFn := Fw.PFn.get Tryz.f13
noncomputable def Sg.i_laws_heldStringS : List (Nat × Fw.PFn) := []
noncomputable def Sg.s_laws_heldStringS (K : Nat) : Fw.Sig := { ins := [.val false (.sl .str), .val false (.int .i64)], outs := [⟨false, (.int .i64), false⟩], F := fun x => R.laws_heldStringS K x.1 x.2.1 }
noncomputable def Sg.c_laws_heldStringS (K : Nat) : Fw.Cfg := { tab := Sg.tab, eqs := Sg.eqs, sig := [(31, Sg.s_laws_markText K)], inl := [], lo := Sg.p_laws_heldStringS_0 K :: [], K := K, jo := ⟨13, 0, 6, 0, 4, none⟩ :: [], opn := [11, 12, 17, 29, 30, 38, 57, 58] }
noncomputable def Sg.f_laws_FnExactBaseLines : Fw.PFn := Fw.PFn.get Tryz.f3
noncomputable def Sg.i_laws_FnExactBaseLines : List (Nat × Fw.PFn) := []
noncomputable def Sg.s_laws_FnExactBaseLines (K : Nat) : Fw.Sig := { ins := [.val true (.pair (.sl (.pair (.sl (.int .i64)) (.sl (.pair .str (.int .i64))))) (.sl (.pair .str (.pair (.int .i64) (.pair (.int .i64) .bool)))))], outs := [⟨false, .bool, false⟩], F := fun x => R.laws_FnExactBaseLines K x.1 }
noncomputable def Sg.c_laws_FnExactBaseLines (K : Nat) : Fw.Cfg := { tab := Sg.tab, eqs := Sg.eqs, sig := [(5, Sg.s_laws_szBase K), (7, Sg.s_laws_toBase K), (6, Sg.s_spec_BaseLines K), (8, Sg.s_impl_BaseLines K), (9, Sg.s_laws_eqStringS K), (10, Sg.s_laws_eqBase K), (11, Sg.s_laws_markBase K), (12, Sg.s_laws_markStringS K), (13, Sg.s_laws_heldStringS K)], inl := [], lo := [], K := K, jo := ⟨3, 0, 6, 0, 10, none⟩ :: [], opn := [11, 12, 17, 29, 30, 38, 57, 58] }
theorem fun_laws_szIntS : Tryz.prog.funcs[70]? = some Tryz.f70 := by kernel_rfl
theorem call_laws_szIntS : Fw.Callable Tryz.prog 70 := Fw.callable_of fun_laws_szIntS (by kernel_rfl) (by kernel_rfl)
theorem pf_laws_szIntS : Fw.PFn.of Tryz.f70 = some Sg.f_laws_szIntS := Fw.PFn.of_get (by kernel_rfl)
theorem ok_laws_szIntS (K : Nat) : Fw.Ok Tryz.prog 70 (Sg.s_laws_szIntS K) := Fw.funP_ok (c := Sg.c_laws_szIntS K) (pi := Sg.i_laws_szIntS) (depth := 6) (Fw.cfgP_ok (pi := Sg.i_laws_szIntS) Sg.tabOK Sg.eqsOK Sg.mixOK trivial trivial trivial pf_laws_szIntS trivial rfl) trivial pf_laws_szIntS fun_laws_szIntS call_laws_szIntS (fun x => by kernel_rfl)
theorem fun_laws_szEntry : Tryz.prog.funcs[101]? = some Tryz.f101 := by kernel_rfl
theorem call_laws_szEntry : Fw.Callable Tryz.prog 101 := Fw.callable_of fun_laws_szEntry (by kernel_rfl) (by kernel_rfl)
theorem pf_laws_szEntry : Fw.PFn.of Tryz.f101 = some Sg.f_laws_szEntry := Fw.PFn.of_get (by kernel_rfl)
theorem ok_laws_szEntry (K : Nat) : Fw.Ok Tryz.prog 101 (Sg.s_laws_szEntry K) := Fw.funP_ok (c := Sg.c_laws_szEntry K) (pi := Sg.i_laws_szEntry) (depth := 6) (Fw.cfgP_ok (pi := Sg.i_laws_szEntry) Sg.tabOK Sg.eqsOK Sg.mixOK trivial trivial trivial pf_laws_szEntry trivial rfl) trivial pf_laws_szEntry fun_laws_szEntry call_laws_szEntry (fun x => by kernel_rfl)
theorem fun_laws_szEntryS : Tryz.prog.funcs[71]? = some Tryz.f71 := by kernel_rfl
theorem call_laws_szEntryS : Fw.Callable Tryz.prog 71 := Fw.callable_of fun_laws_szEntryS (by kernel_rfl) (by kernel_rfl)
theorem pf_laws_szEntryS : Fw.PFn.of Tryz.f71 = some Sg.f_laws_szEntryS := Fw.PFn.of_get (by kernel_rfl)
theorem l_laws_szEntryS_0 (K : Nat) : Fw.LoopP (Sg.c_laws_szEntryS K) Sg.i_laws_szEntryS Sg.f_laws_szEntryS (Sg.p_laws_szEntryS_0 K) := ⟨fun _ => by kernel_rfl, fun n p => by kernel_rfl⟩
theorem ok_laws_szEntryS (K : Nat) : Fw.Ok Tryz.prog 71 (Sg.s_laws_szEntryS K) := Fw.funP_ok (c := Sg.c_laws_szEntryS K) (pi := Sg.i_laws_szEntryS) (depth := 6) (Fw.cfgP_ok (pi := Sg.i_laws_szEntryS) Sg.tabOK Sg.eqsOK Sg.mixOK ⟨ok_laws_szEntry K, trivial⟩ trivial trivial pf_laws_szEntryS ⟨⟨_, rfl, l_laws_szEntryS_0 K⟩, trivial⟩ rfl) trivial pf_laws_szEntryS fun_laws_szEntryS call_laws_szEntryS (fun x => by kernel_rfl)
theorem fun_laws_szCommit : Tryz.prog.funcs[40]? = some Tryz.f40 := by kernel_rfl
theorem call_laws_szCommit : Fw.Callable Tryz.prog 40 := Fw.callable_of fun_laws_szCommit (by kernel_rfl) (by kernel_rfl)
theorem pf_laws_szCommit : Fw.PFn.of Tryz.f40 = some Sg.f_laws_szCommit := Fw.PFn.of_get (by kernel_rfl)
theorem ok_laws_szCommit (K : Nat) : Fw.Ok Tryz.prog 40 (Sg.s_laws_szCommit K) := Fw.funP_ok (c := Sg.c_laws_szCommit K) (pi := Sg.i_laws_szCommit) (depth := 6) (Fw.cfgP_ok (pi := Sg.i_laws_szCommit) Sg.tabOK Sg.eqsOK Sg.mixOK ⟨ok_laws_szIntS K, ok_laws_szEntryS K, trivial⟩ trivial trivial pf_laws_szCommit trivial rfl) trivial pf_laws_szCommit fun_laws_szCommit call_laws_szCommit (fun x => by kernel_rfl)
theorem fun_laws_szCommitS : Tryz.prog.funcs[19]? = some Tryz.f19 := by kernel_rfl
theorem call_laws_szCommitS : Fw.Callable Tryz.prog 19 := Fw.callable_of fun_laws_szCommitS (by kernel_rfl) (by kernel_rfl)
theorem pf_laws_szCommitS : Fw.PFn.of Tryz.f19 = some Sg.f_laws_szCommitS := Fw.PFn.of_get (by kernel_rfl)
theorem l_laws_szCommitS_0 (K : Nat) : Fw.LoopP (Sg.c_laws_szCommitS K) Sg.i_laws_szCommitS Sg.f_laws_szCommitS (Sg.p_laws_szCommitS_0 K) := ⟨fun _ => by kernel_rfl, fun n p => by kernel_rfl⟩
theorem ok_laws_szCommitS (K : Nat) : Fw.Ok Tryz.prog 19 (Sg.s_laws_szCommitS K) := Fw.funP_ok (c := Sg.c_laws_szCommitS K) (pi := Sg.i_laws_szCommitS) (depth := 6) (Fw.cfgP_ok (pi := Sg.i_laws_szCommitS) Sg.tabOK Sg.eqsOK Sg.mixOK ⟨ok_laws_szCommit K, trivial⟩ trivial trivial pf_laws_szCommitS ⟨⟨_, rfl, l_laws_szCommitS_0 K⟩, trivial⟩ rfl) trivial pf_laws_szCommitS fun_laws_szCommitS call_laws_szCommitS (fun x => by kernel_rfl)
theorem fun_laws_szRef : Tryz.prog.funcs[41]? = some Tryz.f41 := by kernel_rfl
theorem call_laws_szRef : Fw.Callable Tryz.prog 41 := Fw.callable_of fun_laws_szRef (by kernel_rfl) (by kernel_rfl)
theorem pf_laws_szRef : Fw.PFn.of Tryz.f41 = some Sg.f_laws_szRef := Fw.PFn.of_get (by kernel_rfl)
theorem ok_laws_szRef (K : Nat) : Fw.Ok Tryz.prog 41 (Sg.s_laws_szRef K) := Fw.funP_ok (c := Sg.c_laws_szRef K) (pi := Sg.i_laws_szRef) (depth := 6) (Fw.cfgP_ok (pi := Sg.i_laws_szRef) Sg.tabOK Sg.eqsOK Sg.mixOK trivial trivial trivial pf_laws_szRef trivial rfl) trivial pf_laws_szRef fun_laws_szRef call_laws_szRef (fun x => by kernel_rfl)
theorem fun_laws_szRefS : Tryz.prog.funcs[20]? = some Tryz.f20 := by kernel_rfl
theorem call_laws_szRefS : Fw.Callable Tryz.prog 20 := Fw.callable_of fun_laws_szRefS (by kernel_rfl) (by kernel_rfl)
theorem pf_laws_szRefS : Fw.PFn.of Tryz.f20 = some Sg.f_laws_szRefS := Fw.PFn.of_get (by kernel_rfl)
theorem l_laws_szRefS_0 (K : Nat) : Fw.LoopP (Sg.c_laws_szRefS K) Sg.i_laws_szRefS Sg.f_laws_szRefS (Sg.p_laws_szRefS_0 K) := ⟨fun _ => by kernel_rfl, fun n p => by kernel_rfl⟩
theorem ok_laws_szRefS (K : Nat) : Fw.Ok Tryz.prog 20 (Sg.s_laws_szRefS K) := Fw.funP_ok (c := Sg.c_laws_szRefS K) (pi := Sg.i_laws_szRefS) (depth := 6) (Fw.cfgP_ok (pi := Sg.i_laws_szRefS) Sg.tabOK Sg.eqsOK Sg.mixOK ⟨ok_laws_szRef K, trivial⟩ trivial trivial pf_laws_szRefS ⟨⟨_, rfl, l_laws_szRefS_0 K⟩, trivial⟩ rfl) trivial pf_laws_szRefS fun_laws_szRefS call_laws_szRefS (fun x => by kernel_rfl)
theorem fun_laws_szBase : Tryz.prog.funcs[5]? = some Tryz.f5 := by kernel_rfl
theorem call_laws_szBase : Fw.Callable Tryz.prog 5 := Fw.callable_of fun_laws_szBase (by kernel_rfl) (by kernel_rfl)
theorem pf_laws_szBase : Fw.PFn.of Tryz.f5 = some Sg.f_laws_szBase := Fw.PFn.of_get (by kernel_rfl)
theorem ok_laws_szBase (K : Nat) : Fw.Ok Tryz.prog 5 (Sg.s_laws_szBase K) := Fw.funP_ok (c := Sg.c_laws_szBase K) (pi := Sg.i_laws_szBase) (depth := 6) (Fw.cfgP_ok (pi := Sg.i_laws_szBase) Sg.tabOK Sg.eqsOK Sg.mixOK ⟨ok_laws_szCommitS K, ok_laws_szRefS K, trivial⟩ trivial trivial pf_laws_szBase trivial rfl) trivial pf_laws_szBase fun_laws_szBase call_laws_szBase (fun x => by kernel_rfl)
theorem fun_laws_toIntS : Tryz.prog.funcs[76]? = some Tryz.f76 := by kernel_rfl
theorem call_laws_toIntS : Fw.Callable Tryz.prog 76 := Fw.callable_of fun_laws_toIntS (by kernel_rfl) (by kernel_rfl)
theorem pf_laws_toIntS : Fw.PFn.of Tryz.f76 = some Sg.f_laws_toIntS := Fw.PFn.of_get (by kernel_rfl)
theorem l_laws_toIntS_0 (K : Nat) : Fw.LoopP (Sg.c_laws_toIntS K) Sg.i_laws_toIntS Sg.f_laws_toIntS (Sg.p_laws_toIntS_0 K) := ⟨fun _ => by kernel_rfl, fun n p => by kernel_rfl⟩
theorem ok_laws_toIntS (K : Nat) : Fw.Ok Tryz.prog 76 (Sg.s_laws_toIntS K) := Fw.funP_ok (c := Sg.c_laws_toIntS K) (pi := Sg.i_laws_toIntS) (depth := 6) (Fw.cfgP_ok (pi := Sg.i_laws_toIntS) Sg.tabOK Sg.eqsOK Sg.mixOK trivial trivial trivial pf_laws_toIntS ⟨⟨_, rfl, l_laws_toIntS_0 K⟩, trivial⟩ rfl) trivial pf_laws_toIntS fun_laws_toIntS call_laws_toIntS (fun x => by kernel_rfl)
theorem fun_laws_toEntry : Tryz.prog.funcs[105]? = some Tryz.f105 := by kernel_rfl
theorem call_laws_toEntry : Fw.Callable Tryz.prog 105 := Fw.callable_of fun_laws_toEntry (by kernel_rfl) (by kernel_rfl)
theorem pf_laws_toEntry : Fw.PFn.of Tryz.f105 = some Sg.f_laws_toEntry := Fw.PFn.of_get (by kernel_rfl)
theorem ok_laws_toEntry (K : Nat) : Fw.Ok Tryz.prog 105 (Sg.s_laws_toEntry K) := Fw.funP_ok (c := Sg.c_laws_toEntry K) (pi := Sg.i_laws_toEntry) (depth := 6) (Fw.cfgP_ok (pi := Sg.i_laws_toEntry) Sg.tabOK Sg.eqsOK Sg.mixOK trivial trivial trivial pf_laws_toEntry trivial rfl) trivial pf_laws_toEntry fun_laws_toEntry call_laws_toEntry (fun x => by kernel_rfl)
theorem fun_laws_toEntryS : Tryz.prog.funcs[77]? = some Tryz.f77 := by kernel_rfl
theorem call_laws_toEntryS : Fw.Callable Tryz.prog 77 := Fw.callable_of fun_laws_toEntryS (by kernel_rfl) (by kernel_rfl)
theorem pf_laws_toEntryS : Fw.PFn.of Tryz.f77 = some Sg.f_laws_toEntryS := Fw.PFn.of_get (by kernel_rfl)
theorem l_laws_toEntryS_0 (K : Nat) : Fw.LoopP (Sg.c_laws_toEntryS K) Sg.i_laws_toEntryS Sg.f_laws_toEntryS (Sg.p_laws_toEntryS_0 K) := ⟨fun _ => by kernel_rfl, fun n p => by kernel_rfl⟩
theorem ok_laws_toEntryS (K : Nat) : Fw.Ok Tryz.prog 77 (Sg.s_laws_toEntryS K) := Fw.funP_ok (c := Sg.c_laws_toEntryS K) (pi := Sg.i_laws_toEntryS) (depth := 6) (Fw.cfgP_ok (pi := Sg.i_laws_toEntryS) Sg.tabOK Sg.eqsOK Sg.mixOK ⟨ok_laws_toEntry K, trivial⟩ trivial trivial pf_laws_toEntryS ⟨⟨_, rfl, l_laws_toEntryS_0 K⟩, trivial⟩ rfl) trivial pf_laws_toEntryS fun_laws_toEntryS call_laws_toEntryS (fun x => by kernel_rfl)
theorem fun_laws_toCommit : Tryz.prog.funcs[46]? = some Tryz.f46 := by kernel_rfl
theorem call_laws_toCommit : Fw.Callable Tryz.prog 46 := Fw.callable_of fun_laws_toCommit (by kernel_rfl) (by kernel_rfl)
theorem pf_laws_toCommit : Fw.PFn.of Tryz.f46 = some Sg.f_laws_toCommit := Fw.PFn.of_get (by kernel_rfl)
theorem ok_laws_toCommit (K : Nat) : Fw.Ok Tryz.prog 46 (Sg.s_laws_toCommit K) := Fw.funP_ok (c := Sg.c_laws_toCommit K) (pi := Sg.i_laws_toCommit) (depth := 6) (Fw.cfgP_ok (pi := Sg.i_laws_toCommit) Sg.tabOK Sg.eqsOK Sg.mixOK ⟨ok_laws_toIntS K, ok_laws_toEntryS K, trivial⟩ trivial trivial pf_laws_toCommit trivial rfl) trivial pf_laws_toCommit fun_laws_toCommit call_laws_toCommit (fun x => by kernel_rfl)
theorem fun_laws_toCommitS : Tryz.prog.funcs[23]? = some Tryz.f23 := by kernel_rfl
theorem call_laws_toCommitS : Fw.Callable Tryz.prog 23 := Fw.callable_of fun_laws_toCommitS (by kernel_rfl) (by kernel_rfl)
theorem pf_laws_toCommitS : Fw.PFn.of Tryz.f23 = some Sg.f_laws_toCommitS := Fw.PFn.of_get (by kernel_rfl)
theorem l_laws_toCommitS_0 (K : Nat) : Fw.LoopP (Sg.c_laws_toCommitS K) Sg.i_laws_toCommitS Sg.f_laws_toCommitS (Sg.p_laws_toCommitS_0 K) := ⟨fun _ => by kernel_rfl, fun n p => by kernel_rfl⟩
theorem ok_laws_toCommitS (K : Nat) : Fw.Ok Tryz.prog 23 (Sg.s_laws_toCommitS K) := Fw.funP_ok (c := Sg.c_laws_toCommitS K) (pi := Sg.i_laws_toCommitS) (depth := 6) (Fw.cfgP_ok (pi := Sg.i_laws_toCommitS) Sg.tabOK Sg.eqsOK Sg.mixOK ⟨ok_laws_toCommit K, trivial⟩ trivial trivial pf_laws_toCommitS ⟨⟨_, rfl, l_laws_toCommitS_0 K⟩, trivial⟩ rfl) trivial pf_laws_toCommitS fun_laws_toCommitS call_laws_toCommitS (fun x => by kernel_rfl)
theorem fun_laws_toRef : Tryz.prog.funcs[47]? = some Tryz.f47 := by kernel_rfl
theorem call_laws_toRef : Fw.Callable Tryz.prog 47 := Fw.callable_of fun_laws_toRef (by kernel_rfl) (by kernel_rfl)
theorem pf_laws_toRef : Fw.PFn.of Tryz.f47 = some Sg.f_laws_toRef := Fw.PFn.of_get (by kernel_rfl)
theorem ok_laws_toRef (K : Nat) : Fw.Ok Tryz.prog 47 (Sg.s_laws_toRef K) := Fw.funP_ok (c := Sg.c_laws_toRef K) (pi := Sg.i_laws_toRef) (depth := 6) (Fw.cfgP_ok (pi := Sg.i_laws_toRef) Sg.tabOK Sg.eqsOK Sg.mixOK trivial trivial trivial pf_laws_toRef trivial rfl) trivial pf_laws_toRef fun_laws_toRef call_laws_toRef (fun x => by kernel_rfl)
theorem fun_laws_toRefS : Tryz.prog.funcs[24]? = some Tryz.f24 := by kernel_rfl
theorem call_laws_toRefS : Fw.Callable Tryz.prog 24 := Fw.callable_of fun_laws_toRefS (by kernel_rfl) (by kernel_rfl)
theorem pf_laws_toRefS : Fw.PFn.of Tryz.f24 = some Sg.f_laws_toRefS := Fw.PFn.of_get (by kernel_rfl)
theorem l_laws_toRefS_0 (K : Nat) : Fw.LoopP (Sg.c_laws_toRefS K) Sg.i_laws_toRefS Sg.f_laws_toRefS (Sg.p_laws_toRefS_0 K) := ⟨fun _ => by kernel_rfl, fun n p => by kernel_rfl⟩
theorem ok_laws_toRefS (K : Nat) : Fw.Ok Tryz.prog 24 (Sg.s_laws_toRefS K) := Fw.funP_ok (c := Sg.c_laws_toRefS K) (pi := Sg.i_laws_toRefS) (depth := 6) (Fw.cfgP_ok (pi := Sg.i_laws_toRefS) Sg.tabOK Sg.eqsOK Sg.mixOK ⟨ok_laws_toRef K, trivial⟩ trivial trivial pf_laws_toRefS ⟨⟨_, rfl, l_laws_toRefS_0 K⟩, trivial⟩ rfl) trivial pf_laws_toRefS fun_laws_toRefS call_laws_toRefS (fun x => by kernel_rfl)
theorem fun_laws_toBase : Tryz.prog.funcs[7]? = some Tryz.f7 := by kernel_rfl
theorem call_laws_toBase : Fw.Callable Tryz.prog 7 := Fw.callable_of fun_laws_toBase (by kernel_rfl) (by kernel_rfl)
theorem pf_laws_toBase : Fw.PFn.of Tryz.f7 = some Sg.f_laws_toBase := Fw.PFn.of_get (by kernel_rfl)
theorem ok_laws_toBase (K : Nat) : Fw.Ok Tryz.prog 7 (Sg.s_laws_toBase K) := Fw.funP_ok (c := Sg.c_laws_toBase K) (pi := Sg.i_laws_toBase) (depth := 6) (Fw.cfgP_ok (pi := Sg.i_laws_toBase) Sg.tabOK Sg.eqsOK Sg.mixOK ⟨ok_laws_toCommitS K, ok_laws_toRefS K, trivial⟩ trivial trivial pf_laws_toBase trivial rfl) trivial pf_laws_toBase fun_laws_toBase call_laws_toBase (fun x => by kernel_rfl)
theorem fun_spec_l01In : Tryz.prog.funcs[72]? = some Tryz.f72 := by kernel_rfl
theorem call_spec_l01In : Fw.Callable Tryz.prog 72 := Fw.callable_of fun_spec_l01In (by kernel_rfl) (by kernel_rfl)
theorem pf_spec_l01In : Fw.PFn.of Tryz.f72 = some Sg.f_spec_l01In := Fw.PFn.of_get (by kernel_rfl)
theorem ok_spec_l01In (K : Nat) : Fw.Ok Tryz.prog 72 (Sg.s_spec_l01In K) := Fw.funP_ok (c := Sg.c_spec_l01In K) (pi := Sg.i_spec_l01In) (depth := 6) (Fw.cfgP_ok (pi := Sg.i_spec_l01In) Sg.tabOK Sg.eqsOK Sg.mixOK trivial trivial trivial pf_spec_l01In trivial rfl) trivial pf_spec_l01In fun_spec_l01In call_spec_l01In (fun x => by kernel_rfl)
theorem fun_spec_l00Letter : Tryz.prog.funcs[103]? = some Tryz.f103 := by kernel_rfl
theorem call_spec_l00Letter : Fw.Callable Tryz.prog 103 := Fw.callable_of fun_spec_l00Letter (by kernel_rfl) (by kernel_rfl)
theorem pf_spec_l00Letter : Fw.PFn.of Tryz.f103 = some Sg.f_spec_l00Letter := Fw.PFn.of_get (by kernel_rfl)
theorem ok_spec_l00Letter (K : Nat) : Fw.Ok Tryz.prog 103 (Sg.s_spec_l00Letter K) := Fw.funP_ok (c := Sg.c_spec_l00Letter K) (pi := Sg.i_spec_l00Letter) (depth := 6) (Fw.cfgP_ok (pi := Sg.i_spec_l00Letter) Sg.tabOK Sg.eqsOK Sg.mixOK trivial trivial trivial pf_spec_l00Letter trivial rfl) trivial pf_spec_l00Letter fun_spec_l00Letter call_spec_l00Letter (fun x => by kernel_rfl)
theorem fun_spec_l00Digit : Tryz.prog.funcs[104]? = some Tryz.f104 := by kernel_rfl
theorem call_spec_l00Digit : Fw.Callable Tryz.prog 104 := Fw.callable_of fun_spec_l00Digit (by kernel_rfl) (by kernel_rfl)
theorem pf_spec_l00Digit : Fw.PFn.of Tryz.f104 = some Sg.f_spec_l00Digit := Fw.PFn.of_get (by kernel_rfl)
theorem ok_spec_l00Digit (K : Nat) : Fw.Ok Tryz.prog 104 (Sg.s_spec_l00Digit K) := Fw.funP_ok (c := Sg.c_spec_l00Digit K) (pi := Sg.i_spec_l00Digit) (depth := 6) (Fw.cfgP_ok (pi := Sg.i_spec_l00Digit) Sg.tabOK Sg.eqsOK Sg.mixOK trivial trivial trivial pf_spec_l00Digit trivial rfl) trivial pf_spec_l00Digit fun_spec_l00Digit call_spec_l00Digit (fun x => by kernel_rfl)
theorem fun_spec_l00Word : Tryz.prog.funcs[74]? = some Tryz.f74 := by kernel_rfl
theorem call_spec_l00Word : Fw.Callable Tryz.prog 74 := Fw.callable_of fun_spec_l00Word (by kernel_rfl) (by kernel_rfl)
theorem pf_spec_l00Word : Fw.PFn.of Tryz.f74 = some Sg.f_spec_l00Word := Fw.PFn.of_get (by kernel_rfl)
theorem l_spec_l00Word_0 (K : Nat) : Fw.LoopP (Sg.c_spec_l00Word K) Sg.i_spec_l00Word Sg.f_spec_l00Word (Sg.p_spec_l00Word_0 K) := ⟨fun _ => by kernel_rfl, fun n p => by kernel_rfl⟩
theorem ok_spec_l00Word (K : Nat) : Fw.Ok Tryz.prog 74 (Sg.s_spec_l00Word K) := Fw.funP_ok (c := Sg.c_spec_l00Word K) (pi := Sg.i_spec_l00Word) (depth := 6) (Fw.cfgP_ok (pi := Sg.i_spec_l00Word) Sg.tabOK Sg.eqsOK Sg.mixOK ⟨ok_spec_l00Letter K, ok_spec_l00Digit K, trivial⟩ trivial trivial pf_spec_l00Word ⟨⟨_, rfl, l_spec_l00Word_0 K⟩, trivial⟩ rfl) trivial pf_spec_l00Word fun_spec_l00Word call_spec_l00Word (fun x => by kernel_rfl)
theorem fun_spec_l01OK : Tryz.prog.funcs[102]? = some Tryz.f102 := by kernel_rfl
theorem call_spec_l01OK : Fw.Callable Tryz.prog 102 := Fw.callable_of fun_spec_l01OK (by kernel_rfl) (by kernel_rfl)
theorem pf_spec_l01OK : Fw.PFn.of Tryz.f102 = some Sg.f_spec_l01OK := Fw.PFn.of_get (by kernel_rfl)
theorem l_spec_l01OK_0 (K : Nat) : Fw.LoopP (Sg.c_spec_l01OK K) Sg.i_spec_l01OK Sg.f_spec_l01OK (Sg.p_spec_l01OK_0 K) := ⟨fun _ => by kernel_rfl, fun n p => by kernel_rfl⟩
theorem ok_spec_l01OK (K : Nat) : Fw.Ok Tryz.prog 102 (Sg.s_spec_l01OK K) := Fw.funP_ok (c := Sg.c_spec_l01OK K) (pi := Sg.i_spec_l01OK) (depth := 6) (Fw.cfgP_ok (pi := Sg.i_spec_l01OK) Sg.tabOK Sg.eqsOK Sg.mixOK ⟨ok_spec_l01In K, ok_spec_l00Word K, trivial⟩ trivial trivial pf_spec_l01OK ⟨⟨_, rfl, l_spec_l01OK_0 K⟩, trivial⟩ rfl) trivial pf_spec_l01OK fun_spec_l01OK call_spec_l01OK (fun x => by kernel_rfl)
theorem fun_spec_l03Commit : Tryz.prog.funcs[73]? = some Tryz.f73 := by kernel_rfl
theorem call_spec_l03Commit : Fw.Callable Tryz.prog 73 := Fw.callable_of fun_spec_l03Commit (by kernel_rfl) (by kernel_rfl)
theorem pf_spec_l03Commit : Fw.PFn.of Tryz.f73 = some Sg.f_spec_l03Commit := Fw.PFn.of_get (by kernel_rfl)
theorem l_spec_l03Commit_0 (K : Nat) : Fw.LoopP (Sg.c_spec_l03Commit K) Sg.i_spec_l03Commit Sg.f_spec_l03Commit (Sg.p_spec_l03Commit_0 K) := ⟨fun _ => by kernel_rfl, fun n p => by kernel_rfl⟩
theorem ok_spec_l03Commit (K : Nat) : Fw.Ok Tryz.prog 73 (Sg.s_spec_l03Commit K) := Fw.funP_ok (c := Sg.c_spec_l03Commit K) (pi := Sg.i_spec_l03Commit) (depth := 6) (Fw.cfgP_ok (pi := Sg.i_spec_l03Commit) Sg.tabOK Sg.eqsOK Sg.mixOK ⟨ok_spec_l01In K, ok_spec_l01OK K, trivial⟩ trivial trivial pf_spec_l03Commit ⟨⟨_, rfl, l_spec_l03Commit_0 K⟩, trivial⟩ rfl) trivial pf_spec_l03Commit fun_spec_l03Commit call_spec_l03Commit (fun x => by kernel_rfl)
theorem fun_spec_l03OK : Tryz.prog.funcs[42]? = some Tryz.f42 := by kernel_rfl
theorem call_spec_l03OK : Fw.Callable Tryz.prog 42 := Fw.callable_of fun_spec_l03OK (by kernel_rfl) (by kernel_rfl)
theorem pf_spec_l03OK : Fw.PFn.of Tryz.f42 = some Sg.f_spec_l03OK := Fw.PFn.of_get (by kernel_rfl)
theorem l_spec_l03OK_0 (K : Nat) : Fw.LoopP (Sg.c_spec_l03OK K) Sg.i_spec_l03OK Sg.f_spec_l03OK (Sg.p_spec_l03OK_0 K) := ⟨fun _ => by kernel_rfl, fun n p => by kernel_rfl⟩
theorem ok_spec_l03OK (K : Nat) : Fw.Ok Tryz.prog 42 (Sg.s_spec_l03OK K) := Fw.funP_ok (c := Sg.c_spec_l03OK K) (pi := Sg.i_spec_l03OK) (depth := 6) (Fw.cfgP_ok (pi := Sg.i_spec_l03OK) Sg.tabOK Sg.eqsOK Sg.mixOK ⟨ok_spec_l01In K, ok_spec_l03Commit K, trivial⟩ trivial trivial pf_spec_l03OK ⟨⟨_, rfl, l_spec_l03OK_0 K⟩, trivial⟩ rfl) trivial pf_spec_l03OK fun_spec_l03OK call_spec_l03OK (fun x => by kernel_rfl)
theorem fun_spec_l04At : Tryz.prog.funcs[75]? = some Tryz.f75 := by kernel_rfl
theorem call_spec_l04At : Fw.Callable Tryz.prog 75 := Fw.callable_of fun_spec_l04At (by kernel_rfl) (by kernel_rfl)
theorem pf_spec_l04At : Fw.PFn.of Tryz.f75 = some Sg.f_spec_l04At := Fw.PFn.of_get (by kernel_rfl)
theorem l_spec_l04At_0 (K : Nat) : Fw.LoopP (Sg.c_spec_l04At K) Sg.i_spec_l04At Sg.f_spec_l04At (Sg.p_spec_l04At_0 K) := ⟨fun _ => by kernel_rfl, fun n p => by kernel_rfl⟩
theorem ok_spec_l04At (K : Nat) : Fw.Ok Tryz.prog 75 (Sg.s_spec_l04At K) := Fw.funP_ok (c := Sg.c_spec_l04At K) (pi := Sg.i_spec_l04At) (depth := 6) (Fw.cfgP_ok (pi := Sg.i_spec_l04At) Sg.tabOK Sg.eqsOK Sg.mixOK trivial trivial trivial pf_spec_l04At ⟨⟨_, rfl, l_spec_l04At_0 K⟩, trivial⟩ rfl) trivial pf_spec_l04At fun_spec_l04At call_spec_l04At (fun x => by kernel_rfl)
theorem fun_spec_l04OK : Tryz.prog.funcs[43]? = some Tryz.f43 := by kernel_rfl
theorem call_spec_l04OK : Fw.Callable Tryz.prog 43 := Fw.callable_of fun_spec_l04OK (by kernel_rfl) (by kernel_rfl)
theorem pf_spec_l04OK : Fw.PFn.of Tryz.f43 = some Sg.f_spec_l04OK := Fw.PFn.of_get (by kernel_rfl)
theorem l_spec_l04OK_0 (K : Nat) : Fw.LoopP (Sg.c_spec_l04OK K) Sg.i_spec_l04OK Sg.f_spec_l04OK (Sg.p_spec_l04OK_0 K) := ⟨fun _ => by kernel_rfl, fun n p => by kernel_rfl⟩
theorem ok_spec_l04OK (K : Nat) : Fw.Ok Tryz.prog 43 (Sg.s_spec_l04OK K) := Fw.funP_ok (c := Sg.c_spec_l04OK K) (pi := Sg.i_spec_l04OK) (depth := 6) (Fw.cfgP_ok (pi := Sg.i_spec_l04OK) Sg.tabOK Sg.eqsOK Sg.mixOK ⟨ok_spec_l01In K, ok_spec_l00Word K, ok_spec_l04At K, trivial⟩ trivial trivial pf_spec_l04OK ⟨⟨_, rfl, l_spec_l04OK_0 K⟩, trivial⟩ rfl) trivial pf_spec_l04OK fun_spec_l04OK call_spec_l04OK (fun x => by kernel_rfl)
theorem fun_spec_l05OK : Tryz.prog.funcs[21]? = some Tryz.f21 := by kernel_rfl
theorem call_spec_l05OK : Fw.Callable Tryz.prog 21 := Fw.callable_of fun_spec_l05OK (by kernel_rfl) (by kernel_rfl)
theorem pf_spec_l05OK : Fw.PFn.of Tryz.f21 = some Sg.f_spec_l05OK := Fw.PFn.of_get (by kernel_rfl)
theorem l_spec_l05OK_0 (K : Nat) : Fw.LoopP (Sg.c_spec_l05OK K) Sg.i_spec_l05OK Sg.f_spec_l05OK (Sg.p_spec_l05OK_0 K) := ⟨fun _ => by kernel_rfl, fun n p => by kernel_rfl⟩
theorem ok_spec_l05OK (K : Nat) : Fw.Ok Tryz.prog 21 (Sg.s_spec_l05OK K) := Fw.funP_ok (c := Sg.c_spec_l05OK K) (pi := Sg.i_spec_l05OK) (depth := 6) (Fw.cfgP_ok (pi := Sg.i_spec_l05OK) Sg.tabOK Sg.eqsOK Sg.mixOK ⟨ok_spec_l03OK K, ok_spec_l04OK K, trivial⟩ trivial trivial pf_spec_l05OK ⟨⟨_, rfl, l_spec_l05OK_0 K⟩, trivial⟩ rfl) trivial pf_spec_l05OK fun_spec_l05OK call_spec_l05OK (fun x => by kernel_rfl)
theorem fun_spec_l00Digits : Tryz.prog.funcs[44]? = some Tryz.f44 := by kernel_rfl
theorem call_spec_l00Digits : Fw.Callable Tryz.prog 44 := Fw.callable_of fun_spec_l00Digits (by kernel_rfl) (by kernel_rfl)
theorem pf_spec_l00Digits : Fw.PFn.of Tryz.f44 = some Sg.f_spec_l00Digits := Fw.PFn.of_get (by kernel_rfl)
theorem okn_spec_l00Digits (K : Nat) : ∀ n : Nat, Fw.Ok Tryz.prog 44 (Sg.s_spec_l00Digits K n)
  | 0 => ⟨call_spec_l00Digits, fun _ _ _ _ _ _ _ _ _ _ _ _ h => by cases h⟩
  | n + 1 => Fw.funP_ok (c := Sg.c_spec_l00Digits K (fun p0 => R.spec_l00Digits K n p0)) (pi := Sg.i_spec_l00Digits) (depth := 6) (Fw.cfgP_ok (pi := Sg.i_spec_l00Digits) Sg.tabOK Sg.eqsOK Sg.mixOK ⟨okn_spec_l00Digits K n, trivial⟩ trivial trivial pf_spec_l00Digits trivial rfl) trivial pf_spec_l00Digits fun_spec_l00Digits call_spec_l00Digits (fun x => by kernel_rfl)
theorem ok_spec_l00Digits (K : Nat) : Fw.Ok Tryz.prog 44 (Sg.s_spec_l00Digits K K) := okn_spec_l00Digits K K
theorem fun_spec_l13Map : Tryz.prog.funcs[45]? = some Tryz.f45 := by kernel_rfl
theorem call_spec_l13Map : Fw.Callable Tryz.prog 45 := Fw.callable_of fun_spec_l13Map (by kernel_rfl) (by kernel_rfl)
theorem pf_spec_l13Map : Fw.PFn.of Tryz.f45 = some Sg.f_spec_l13Map := Fw.PFn.of_get (by kernel_rfl)
theorem l_spec_l13Map_0 (K : Nat) : Fw.LoopP (Sg.c_spec_l13Map K) Sg.i_spec_l13Map Sg.f_spec_l13Map (Sg.p_spec_l13Map_0 K) := ⟨fun _ => by kernel_rfl, fun n p => by kernel_rfl⟩
theorem ok_spec_l13Map (K : Nat) : Fw.Ok Tryz.prog 45 (Sg.s_spec_l13Map K) := Fw.funP_ok (c := Sg.c_spec_l13Map K) (pi := Sg.i_spec_l13Map) (depth := 6) (Fw.cfgP_ok (pi := Sg.i_spec_l13Map) Sg.tabOK Sg.eqsOK Sg.mixOK ⟨ok_spec_l00Digits K, trivial⟩ trivial trivial pf_spec_l13Map ⟨⟨_, rfl, l_spec_l13Map_0 K⟩, trivial⟩ rfl) trivial pf_spec_l13Map fun_spec_l13Map call_spec_l13Map (fun x => by kernel_rfl)
theorem fun_spec_l13Base : Tryz.prog.funcs[22]? = some Tryz.f22 := by kernel_rfl
theorem call_spec_l13Base : Fw.Callable Tryz.prog 22 := Fw.callable_of fun_spec_l13Base (by kernel_rfl) (by kernel_rfl)
theorem pf_spec_l13Base : Fw.PFn.of Tryz.f22 = some Sg.f_spec_l13Base := Fw.PFn.of_get (by kernel_rfl)
theorem l_spec_l13Base_1 (K : Nat) : Fw.LoopP (Sg.c_spec_l13Base K) Sg.i_spec_l13Base Sg.f_spec_l13Base (Sg.p_spec_l13Base_1 K) := ⟨fun _ => by kernel_rfl, fun n p => by kernel_rfl⟩
theorem l_spec_l13Base_0 (K : Nat) : Fw.LoopP (Sg.c_spec_l13Base K) Sg.i_spec_l13Base Sg.f_spec_l13Base (Sg.p_spec_l13Base_0 K) := ⟨fun _ => by kernel_rfl, fun n p => by kernel_rfl⟩
theorem l_spec_l13Base_2 (K : Nat) : Fw.LoopP (Sg.c_spec_l13Base K) Sg.i_spec_l13Base Sg.f_spec_l13Base (Sg.p_spec_l13Base_2 K) := ⟨fun _ => by kernel_rfl, fun n p => by kernel_rfl⟩
theorem ok_spec_l13Base (K : Nat) : Fw.Ok Tryz.prog 22 (Sg.s_spec_l13Base K) := Fw.funP_ok (c := Sg.c_spec_l13Base K) (pi := Sg.i_spec_l13Base) (depth := 6) (Fw.cfgP_ok (pi := Sg.i_spec_l13Base) Sg.tabOK Sg.eqsOK Sg.mixOK ⟨ok_spec_l00Digits K, ok_spec_l13Map K, trivial⟩ trivial trivial pf_spec_l13Base ⟨⟨_, rfl, l_spec_l13Base_1 K⟩, ⟨_, rfl, l_spec_l13Base_0 K⟩, ⟨_, rfl, l_spec_l13Base_2 K⟩, trivial⟩ rfl) trivial pf_spec_l13Base fun_spec_l13Base call_spec_l13Base (fun x => by kernel_rfl)
theorem fun_spec_BaseLines : Tryz.prog.funcs[6]? = some Tryz.f6 := by kernel_rfl
theorem call_spec_BaseLines : Fw.Callable Tryz.prog 6 := Fw.callable_of fun_spec_BaseLines (by kernel_rfl) (by kernel_rfl)
theorem pf_spec_BaseLines : Fw.PFn.of Tryz.f6 = some Sg.f_spec_BaseLines := Fw.PFn.of_get (by kernel_rfl)
theorem ok_spec_BaseLines (K : Nat) : Fw.Ok Tryz.prog 6 (Sg.s_spec_BaseLines K) := Fw.funP_ok (c := Sg.c_spec_BaseLines K) (pi := Sg.i_spec_BaseLines) (depth := 6) (Fw.cfgP_ok (pi := Sg.i_spec_BaseLines) Sg.tabOK Sg.eqsOK Sg.mixOK ⟨ok_spec_l05OK K, ok_spec_l13Base K, trivial⟩ trivial trivial pf_spec_BaseLines trivial rfl) trivial pf_spec_BaseLines fun_spec_BaseLines call_spec_BaseLines (fun x => by kernel_rfl)
theorem fun_impl_isList_impl_Commit : Tryz.prog.funcs[78]? = some Tryz.f78 := by kernel_rfl
theorem call_impl_isList_impl_Commit : Fw.Callable Tryz.prog 78 := Fw.callable_of fun_impl_isList_impl_Commit (by kernel_rfl) (by kernel_rfl)
theorem pf_impl_isList_impl_Commit : Fw.PFn.of Tryz.f78 = some Sg.f_impl_isList_impl_Commit := Fw.PFn.of_get (by kernel_rfl)
theorem ok_impl_isList_impl_Commit (K : Nat) : Fw.Ok Tryz.prog 78 (Sg.s_impl_isList_impl_Commit K) := Fw.funP_ok (c := Sg.c_impl_isList_impl_Commit K) (pi := Sg.i_impl_isList_impl_Commit) (depth := 6) (Fw.cfgP_ok (pi := Sg.i_impl_isList_impl_Commit) Sg.tabOK Sg.eqsOK Sg.mixOK trivial trivial trivial pf_impl_isList_impl_Commit trivial rfl) trivial pf_impl_isList_impl_Commit fun_impl_isList_impl_Commit call_impl_isList_impl_Commit (fun x => by kernel_rfl)
theorem fun_impl_within : Tryz.prog.funcs[107]? = some Tryz.f107 := by kernel_rfl
theorem call_impl_within : Fw.Callable Tryz.prog 107 := Fw.callable_of fun_impl_within (by kernel_rfl) (by kernel_rfl)
theorem pf_impl_within : Fw.PFn.of Tryz.f107 = some Sg.f_impl_within := Fw.PFn.of_get (by kernel_rfl)
theorem ok_impl_within (K : Nat) : Fw.Ok Tryz.prog 107 (Sg.s_impl_within K) := Fw.funP_ok (c := Sg.c_impl_within K) (pi := Sg.i_impl_within) (depth := 6) (Fw.cfgP_ok (pi := Sg.i_impl_within) Sg.tabOK Sg.eqsOK Sg.mixOK trivial trivial trivial pf_impl_within trivial rfl) trivial pf_impl_within fun_impl_within call_impl_within (fun x => by kernel_rfl)
theorem fun_impl_isLetter : Tryz.prog.funcs[120]? = some Tryz.f120 := by kernel_rfl
theorem call_impl_isLetter : Fw.Callable Tryz.prog 120 := Fw.callable_of fun_impl_isLetter (by kernel_rfl) (by kernel_rfl)
theorem pf_impl_isLetter : Fw.PFn.of Tryz.f120 = some Sg.f_impl_isLetter := Fw.PFn.of_get (by kernel_rfl)
theorem ok_impl_isLetter (K : Nat) : Fw.Ok Tryz.prog 120 (Sg.s_impl_isLetter K) := Fw.funP_ok (c := Sg.c_impl_isLetter K) (pi := Sg.i_impl_isLetter) (depth := 6) (Fw.cfgP_ok (pi := Sg.i_impl_isLetter) Sg.tabOK Sg.eqsOK Sg.mixOK trivial trivial trivial pf_impl_isLetter trivial rfl) trivial pf_impl_isLetter fun_impl_isLetter call_impl_isLetter (fun x => by kernel_rfl)
theorem fun_impl_areAll_byte_1 : Tryz.prog.funcs[142]? = some Tryz.f142 := by kernel_rfl
theorem call_impl_areAll_byte_1 : Fw.Callable Tryz.prog 142 := Fw.callable_of fun_impl_areAll_byte_1 (by kernel_rfl) (by kernel_rfl)
theorem pf_impl_areAll_byte_1 : Fw.PFn.of Tryz.f142 = some Sg.f_impl_areAll_byte_1 := Fw.PFn.of_get (by kernel_rfl)
theorem fun_slices_IndexFunc_byte : Tryz.prog.funcs[159]? = some Tryz.f159 := by kernel_rfl
theorem call_slices_IndexFunc_byte : Fw.Callable Tryz.prog 159 := Fw.callable_of fun_slices_IndexFunc_byte (by kernel_rfl) (by kernel_rfl)
theorem pf_slices_IndexFunc_byte : Fw.PFn.of Tryz.f159 = some Sg.f_slices_IndexFunc_byte := Fw.PFn.of_get (by kernel_rfl)
theorem fun_slices_ContainsFunc_byte : Tryz.prog.funcs[141]? = some Tryz.f141 := by kernel_rfl
theorem call_slices_ContainsFunc_byte : Fw.Callable Tryz.prog 141 := Fw.callable_of fun_slices_ContainsFunc_byte (by kernel_rfl) (by kernel_rfl)
theorem pf_slices_ContainsFunc_byte : Fw.PFn.of Tryz.f141 = some Sg.f_slices_ContainsFunc_byte := Fw.PFn.of_get (by kernel_rfl)
theorem fun_impl_areAll_byte : Tryz.prog.funcs[121]? = some Tryz.f121 := by kernel_rfl
theorem call_impl_areAll_byte : Fw.Callable Tryz.prog 121 := Fw.callable_of fun_impl_areAll_byte (by kernel_rfl) (by kernel_rfl)
theorem pf_impl_areAll_byte : Fw.PFn.of Tryz.f121 = some Sg.f_impl_areAll_byte := Fw.PFn.of_get (by kernel_rfl)
theorem fun_impl_isDigit : Tryz.prog.funcs[123]? = some Tryz.f123 := by kernel_rfl
theorem call_impl_isDigit : Fw.Callable Tryz.prog 123 := Fw.callable_of fun_impl_isDigit (by kernel_rfl) (by kernel_rfl)
theorem pf_impl_isDigit : Fw.PFn.of Tryz.f123 = some Sg.f_impl_isDigit := Fw.PFn.of_get (by kernel_rfl)
theorem ok_impl_isDigit (K : Nat) : Fw.Ok Tryz.prog 123 (Sg.s_impl_isDigit K) := Fw.funP_ok (c := Sg.c_impl_isDigit K) (pi := Sg.i_impl_isDigit) (depth := 6) (Fw.cfgP_ok (pi := Sg.i_impl_isDigit) Sg.tabOK Sg.eqsOK Sg.mixOK trivial trivial trivial pf_impl_isDigit trivial rfl) trivial pf_impl_isDigit fun_impl_isDigit call_impl_isDigit (fun x => by kernel_rfl)
theorem fun_impl_NameOK_1 : Tryz.prog.funcs[122]? = some Tryz.f122 := by kernel_rfl
theorem call_impl_NameOK_1 : Fw.Callable Tryz.prog 122 := Fw.callable_of fun_impl_NameOK_1 (by kernel_rfl) (by kernel_rfl)
theorem pf_impl_NameOK_1 : Fw.PFn.of Tryz.f122 = some Sg.f_impl_NameOK_1 := Fw.PFn.of_get (by kernel_rfl)
theorem ok_impl_NameOK_1 (K : Nat) : Fw.Ok Tryz.prog 122 (Sg.s_impl_NameOK_1 K) := Fw.funP_ok (c := Sg.c_impl_NameOK_1 K) (pi := Sg.i_impl_NameOK_1) (depth := 6) (Fw.cfgP_ok (pi := Sg.i_impl_NameOK_1) Sg.tabOK Sg.eqsOK Sg.mixOK ⟨ok_impl_isLetter K, ok_impl_isDigit K, trivial⟩ trivial trivial pf_impl_NameOK_1 trivial rfl) trivial pf_impl_NameOK_1 fun_impl_NameOK_1 call_impl_NameOK_1 (fun x => by kernel_rfl)
theorem l_impl_areAll_byte__impl_NameOK_1_0 (K : Nat) : Fw.LoopP (Sg.c_impl_areAll_byte__impl_NameOK_1 K) Sg.i_impl_areAll_byte__impl_NameOK_1 Sg.f_slices_IndexFunc_byte (Sg.p_impl_areAll_byte__impl_NameOK_1_0 K) := ⟨fun _ => by kernel_rfl, fun n p => by kernel_rfl⟩
theorem ok_impl_areAll_byte__impl_NameOK_1 (K : Nat) : Fw.Ok Tryz.prog 121 (Sg.s_impl_areAll_byte__impl_NameOK_1 K) := Fw.funP_ok (c := Sg.c_impl_areAll_byte__impl_NameOK_1 K) (pi := Sg.i_impl_areAll_byte__impl_NameOK_1) (depth := 6) (Fw.cfgP_ok (pi := Sg.i_impl_areAll_byte__impl_NameOK_1) Sg.tabOK Sg.eqsOK Sg.mixOK ⟨ok_impl_NameOK_1 K, trivial⟩ ⟨⟨fun_impl_areAll_byte_1, call_impl_areAll_byte_1⟩, ⟨fun_slices_IndexFunc_byte, call_slices_IndexFunc_byte⟩, ⟨fun_slices_ContainsFunc_byte, call_slices_ContainsFunc_byte⟩, trivial⟩ ⟨⟨rfl, pf_impl_areAll_byte_1⟩, ⟨rfl, pf_slices_IndexFunc_byte⟩, ⟨rfl, pf_slices_ContainsFunc_byte⟩, trivial⟩ pf_impl_areAll_byte ⟨⟨_, rfl, l_impl_areAll_byte__impl_NameOK_1_0 K⟩, trivial⟩ rfl) ⟨⟨rfl, pf_impl_areAll_byte_1⟩, ⟨rfl, pf_slices_IndexFunc_byte⟩, ⟨rfl, pf_slices_ContainsFunc_byte⟩, trivial⟩ pf_impl_areAll_byte fun_impl_areAll_byte call_impl_areAll_byte (fun x => by kernel_rfl)
theorem fun_impl_NameOK : Tryz.prog.funcs[98]? = some Tryz.f98 := by kernel_rfl
theorem call_impl_NameOK : Fw.Callable Tryz.prog 98 := Fw.callable_of fun_impl_NameOK (by kernel_rfl) (by kernel_rfl)
theorem pf_impl_NameOK : Fw.PFn.of Tryz.f98 = some Sg.f_impl_NameOK := Fw.PFn.of_get (by kernel_rfl)
theorem ok_impl_NameOK (K : Nat) : Fw.Ok Tryz.prog 98 (Sg.s_impl_NameOK K) := Fw.funP_ok (c := Sg.c_impl_NameOK K) (pi := Sg.i_impl_NameOK) (depth := 6) (Fw.cfgP_ok (pi := Sg.i_impl_NameOK) Sg.tabOK Sg.eqsOK Sg.mixOK ⟨ok_impl_within K, ok_impl_isLetter K, ok_impl_NameOK_1 K, ok_impl_areAll_byte__impl_NameOK_1 K, trivial⟩ ⟨⟨fun_impl_areAll_byte_1, call_impl_areAll_byte_1⟩, ⟨fun_slices_IndexFunc_byte, call_slices_IndexFunc_byte⟩, ⟨fun_slices_ContainsFunc_byte, call_slices_ContainsFunc_byte⟩, ⟨fun_impl_areAll_byte, call_impl_areAll_byte⟩, trivial⟩ ⟨⟨rfl, pf_impl_areAll_byte_1⟩, ⟨rfl, pf_slices_IndexFunc_byte⟩, ⟨rfl, pf_slices_ContainsFunc_byte⟩, ⟨rfl, pf_impl_areAll_byte⟩, trivial⟩ pf_impl_NameOK trivial rfl) ⟨⟨rfl, pf_impl_areAll_byte_1⟩, ⟨rfl, pf_slices_IndexFunc_byte⟩, ⟨rfl, pf_slices_ContainsFunc_byte⟩, ⟨rfl, pf_impl_areAll_byte⟩, trivial⟩ pf_impl_NameOK fun_impl_NameOK call_impl_NameOK (fun x => by kernel_rfl)
theorem fun_impl_isValue : Tryz.prog.funcs[118]? = some Tryz.f118 := by kernel_rfl
theorem call_impl_isValue : Fw.Callable Tryz.prog 118 := Fw.callable_of fun_impl_isValue (by kernel_rfl) (by kernel_rfl)
theorem pf_impl_isValue : Fw.PFn.of Tryz.f118 = some Sg.f_impl_isValue := Fw.PFn.of_get (by kernel_rfl)
theorem ok_impl_isValue (K : Nat) : Fw.Ok Tryz.prog 118 (Sg.s_impl_isValue K) := Fw.funP_ok (c := Sg.c_impl_isValue K) (pi := Sg.i_impl_isValue) (depth := 6) (Fw.cfgP_ok (pi := Sg.i_impl_isValue) Sg.tabOK Sg.eqsOK Sg.mixOK ⟨ok_impl_within K, trivial⟩ trivial trivial pf_impl_isValue trivial rfl) trivial pf_impl_isValue fun_impl_isValue call_impl_isValue (fun x => by kernel_rfl)
theorem fun_impl_MapOK : Tryz.prog.funcs[127]? = some Tryz.f127 := by kernel_rfl
theorem call_impl_MapOK : Fw.Callable Tryz.prog 127 := Fw.callable_of fun_impl_MapOK (by kernel_rfl) (by kernel_rfl)
theorem pf_impl_MapOK : Fw.PFn.of Tryz.f127 = some Sg.f_impl_MapOK := Fw.PFn.of_get (by kernel_rfl)
theorem l_impl_MapOK_0 (K : Nat) : Fw.LoopP (Sg.c_impl_MapOK K) Sg.i_impl_MapOK Sg.f_impl_MapOK (Sg.p_impl_MapOK_0 K) := ⟨fun _ => by kernel_rfl, fun n p => by kernel_rfl⟩
theorem ok_impl_MapOK (K : Nat) : Fw.Ok Tryz.prog 127 (Sg.s_impl_MapOK K) := Fw.funP_ok (c := Sg.c_impl_MapOK K) (pi := Sg.i_impl_MapOK) (depth := 6) (Fw.cfgP_ok (pi := Sg.i_impl_MapOK) Sg.tabOK Sg.eqsOK Sg.mixOK ⟨ok_impl_NameOK K, ok_impl_isValue K, trivial⟩ trivial trivial pf_impl_MapOK ⟨⟨_, rfl, l_impl_MapOK_0 K⟩, trivial⟩ rfl) trivial pf_impl_MapOK fun_impl_MapOK call_impl_MapOK (fun x => by kernel_rfl)
theorem fun_impl_Commit_isAt_1 : Tryz.prog.funcs[129]? = some Tryz.f129 := by kernel_rfl
theorem call_impl_Commit_isAt_1 : Fw.Callable Tryz.prog 129 := Fw.callable_of fun_impl_Commit_isAt_1 (by kernel_rfl) (by kernel_rfl)
theorem pf_impl_Commit_isAt_1 : Fw.PFn.of Tryz.f129 = some Sg.f_impl_Commit_isAt_1 := Fw.PFn.of_get (by kernel_rfl)
theorem fun_impl_areAll_int_1 : Tryz.prog.funcs[148]? = some Tryz.f148 := by kernel_rfl
theorem call_impl_areAll_int_1 : Fw.Callable Tryz.prog 148 := Fw.callable_of fun_impl_areAll_int_1 (by kernel_rfl) (by kernel_rfl)
theorem pf_impl_areAll_int_1 : Fw.PFn.of Tryz.f148 = some Sg.f_impl_areAll_int_1 := Fw.PFn.of_get (by kernel_rfl)
theorem fun_slices_IndexFunc_int : Tryz.prog.funcs[165]? = some Tryz.f165 := by kernel_rfl
theorem call_slices_IndexFunc_int : Fw.Callable Tryz.prog 165 := Fw.callable_of fun_slices_IndexFunc_int (by kernel_rfl) (by kernel_rfl)
theorem pf_slices_IndexFunc_int : Fw.PFn.of Tryz.f165 = some Sg.f_slices_IndexFunc_int := Fw.PFn.of_get (by kernel_rfl)
theorem fun_slices_ContainsFunc_int : Tryz.prog.funcs[147]? = some Tryz.f147 := by kernel_rfl
theorem call_slices_ContainsFunc_int : Fw.Callable Tryz.prog 147 := Fw.callable_of fun_slices_ContainsFunc_int (by kernel_rfl) (by kernel_rfl)
theorem pf_slices_ContainsFunc_int : Fw.PFn.of Tryz.f147 = some Sg.f_slices_ContainsFunc_int := Fw.PFn.of_get (by kernel_rfl)
theorem fun_impl_areAll_int : Tryz.prog.funcs[128]? = some Tryz.f128 := by kernel_rfl
theorem call_impl_areAll_int : Fw.Callable Tryz.prog 128 := Fw.callable_of fun_impl_areAll_int (by kernel_rfl) (by kernel_rfl)
theorem pf_impl_areAll_int : Fw.PFn.of Tryz.f128 = some Sg.f_impl_areAll_int := Fw.PFn.of_get (by kernel_rfl)
theorem l_impl_areAll_int__impl_Commit_isAt_1_0 (K : Nat) : Fw.LoopP (Sg.c_impl_areAll_int__impl_Commit_isAt_1 K) Sg.i_impl_areAll_int__impl_Commit_isAt_1 Sg.f_slices_IndexFunc_int (Sg.p_impl_areAll_int__impl_Commit_isAt_1_0 K) := ⟨fun _ => by kernel_rfl, fun n p => by kernel_rfl⟩
theorem ok_impl_areAll_int__impl_Commit_isAt_1 (K : Nat) : Fw.Ok Tryz.prog 128 (Sg.s_impl_areAll_int__impl_Commit_isAt_1 K) := Fw.funP_ok (c := Sg.c_impl_areAll_int__impl_Commit_isAt_1 K) (pi := Sg.i_impl_areAll_int__impl_Commit_isAt_1) (depth := 6) (Fw.cfgP_ok (pi := Sg.i_impl_areAll_int__impl_Commit_isAt_1) Sg.tabOK Sg.eqsOK Sg.mixOK ⟨ok_impl_within K, trivial⟩ ⟨⟨fun_impl_Commit_isAt_1, call_impl_Commit_isAt_1⟩, ⟨fun_impl_areAll_int_1, call_impl_areAll_int_1⟩, ⟨fun_slices_IndexFunc_int, call_slices_IndexFunc_int⟩, ⟨fun_slices_ContainsFunc_int, call_slices_ContainsFunc_int⟩, trivial⟩ ⟨⟨rfl, pf_impl_Commit_isAt_1⟩, ⟨rfl, pf_impl_areAll_int_1⟩, ⟨rfl, pf_slices_IndexFunc_int⟩, ⟨rfl, pf_slices_ContainsFunc_int⟩, trivial⟩ pf_impl_areAll_int ⟨⟨_, rfl, l_impl_areAll_int__impl_Commit_isAt_1_0 K⟩, trivial⟩ rfl) ⟨⟨rfl, pf_impl_Commit_isAt_1⟩, ⟨rfl, pf_impl_areAll_int_1⟩, ⟨rfl, pf_slices_IndexFunc_int⟩, ⟨rfl, pf_slices_ContainsFunc_int⟩, trivial⟩ pf_impl_areAll_int fun_impl_areAll_int call_impl_areAll_int (fun x => by kernel_rfl)
theorem fun_impl_Commit_isAt : Tryz.prog.funcs[106]? = some Tryz.f106 := by kernel_rfl
theorem call_impl_Commit_isAt : Fw.Callable Tryz.prog 106 := Fw.callable_of fun_impl_Commit_isAt (by kernel_rfl) (by kernel_rfl)
theorem pf_impl_Commit_isAt : Fw.PFn.of Tryz.f106 = some Sg.f_impl_Commit_isAt := Fw.PFn.of_get (by kernel_rfl)
theorem ok_impl_Commit_isAt (K : Nat) : Fw.Ok Tryz.prog 106 (Sg.s_impl_Commit_isAt K) := Fw.funP_ok (c := Sg.c_impl_Commit_isAt K) (pi := Sg.i_impl_Commit_isAt) (depth := 6) (Fw.cfgP_ok (pi := Sg.i_impl_Commit_isAt) Sg.tabOK Sg.eqsOK Sg.mixOK ⟨ok_impl_within K, ok_impl_MapOK K, ok_impl_areAll_int__impl_Commit_isAt_1 K, trivial⟩ ⟨⟨fun_impl_Commit_isAt_1, call_impl_Commit_isAt_1⟩, ⟨fun_impl_areAll_int_1, call_impl_areAll_int_1⟩, ⟨fun_slices_IndexFunc_int, call_slices_IndexFunc_int⟩, ⟨fun_slices_ContainsFunc_int, call_slices_ContainsFunc_int⟩, ⟨fun_impl_areAll_int, call_impl_areAll_int⟩, trivial⟩ ⟨⟨rfl, pf_impl_Commit_isAt_1⟩, ⟨rfl, pf_impl_areAll_int_1⟩, ⟨rfl, pf_slices_IndexFunc_int⟩, ⟨rfl, pf_slices_ContainsFunc_int⟩, ⟨rfl, pf_impl_areAll_int⟩, trivial⟩ pf_impl_Commit_isAt trivial rfl) ⟨⟨rfl, pf_impl_Commit_isAt_1⟩, ⟨rfl, pf_impl_areAll_int_1⟩, ⟨rfl, pf_slices_IndexFunc_int⟩, ⟨rfl, pf_slices_ContainsFunc_int⟩, ⟨rfl, pf_impl_areAll_int⟩, trivial⟩ pf_impl_Commit_isAt fun_impl_Commit_isAt call_impl_Commit_isAt (fun x => by kernel_rfl)
theorem fun_impl_areCommits : Tryz.prog.funcs[79]? = some Tryz.f79 := by kernel_rfl
theorem call_impl_areCommits : Fw.Callable Tryz.prog 79 := Fw.callable_of fun_impl_areCommits (by kernel_rfl) (by kernel_rfl)
theorem pf_impl_areCommits : Fw.PFn.of Tryz.f79 = some Sg.f_impl_areCommits := Fw.PFn.of_get (by kernel_rfl)
theorem l_impl_areCommits_0 (K : Nat) : Fw.LoopP (Sg.c_impl_areCommits K) Sg.i_impl_areCommits Sg.f_impl_areCommits (Sg.p_impl_areCommits_0 K) := ⟨fun _ => by kernel_rfl, fun n p => by kernel_rfl⟩
theorem ok_impl_areCommits (K : Nat) : Fw.Ok Tryz.prog 79 (Sg.s_impl_areCommits K) := Fw.funP_ok (c := Sg.c_impl_areCommits K) (pi := Sg.i_impl_areCommits) (depth := 6) (Fw.cfgP_ok (pi := Sg.i_impl_areCommits) Sg.tabOK Sg.eqsOK Sg.mixOK ⟨ok_impl_Commit_isAt K, trivial⟩ trivial trivial pf_impl_areCommits ⟨⟨_, rfl, l_impl_areCommits_0 K⟩, trivial⟩ rfl) trivial pf_impl_areCommits fun_impl_areCommits call_impl_areCommits (fun x => by kernel_rfl)
theorem fun_impl_StoreOK : Tryz.prog.funcs[48]? = some Tryz.f48 := by kernel_rfl
theorem call_impl_StoreOK : Fw.Callable Tryz.prog 48 := Fw.callable_of fun_impl_StoreOK (by kernel_rfl) (by kernel_rfl)
theorem pf_impl_StoreOK : Fw.PFn.of Tryz.f48 = some Sg.f_impl_StoreOK := Fw.PFn.of_get (by kernel_rfl)
theorem ok_impl_StoreOK (K : Nat) : Fw.Ok Tryz.prog 48 (Sg.s_impl_StoreOK K) := Fw.funP_ok (c := Sg.c_impl_StoreOK K) (pi := Sg.i_impl_StoreOK) (depth := 6) (Fw.cfgP_ok (pi := Sg.i_impl_StoreOK) Sg.tabOK Sg.eqsOK Sg.mixOK ⟨ok_impl_isList_impl_Commit K, ok_impl_areCommits K, trivial⟩ trivial trivial pf_impl_StoreOK trivial rfl) trivial pf_impl_StoreOK fun_impl_StoreOK call_impl_StoreOK (fun x => by kernel_rfl)
theorem fun_impl_areAll_impl_Ref_1 : Tryz.prog.funcs[83]? = some Tryz.f83 := by kernel_rfl
theorem call_impl_areAll_impl_Ref_1 : Fw.Callable Tryz.prog 83 := Fw.callable_of fun_impl_areAll_impl_Ref_1 (by kernel_rfl) (by kernel_rfl)
theorem pf_impl_areAll_impl_Ref_1 : Fw.PFn.of Tryz.f83 = some Sg.f_impl_areAll_impl_Ref_1 := Fw.PFn.of_get (by kernel_rfl)
theorem fun_slices_IndexFunc_impl_Ref : Tryz.prog.funcs[109]? = some Tryz.f109 := by kernel_rfl
theorem call_slices_IndexFunc_impl_Ref : Fw.Callable Tryz.prog 109 := Fw.callable_of fun_slices_IndexFunc_impl_Ref (by kernel_rfl) (by kernel_rfl)
theorem pf_slices_IndexFunc_impl_Ref : Fw.PFn.of Tryz.f109 = some Sg.f_slices_IndexFunc_impl_Ref := Fw.PFn.of_get (by kernel_rfl)
theorem fun_slices_ContainsFunc_impl_Ref : Tryz.prog.funcs[82]? = some Tryz.f82 := by kernel_rfl
theorem call_slices_ContainsFunc_impl_Ref : Fw.Callable Tryz.prog 82 := Fw.callable_of fun_slices_ContainsFunc_impl_Ref (by kernel_rfl) (by kernel_rfl)
theorem pf_slices_ContainsFunc_impl_Ref : Fw.PFn.of Tryz.f82 = some Sg.f_slices_ContainsFunc_impl_Ref := Fw.PFn.of_get (by kernel_rfl)
theorem fun_impl_areAll_impl_Ref : Tryz.prog.funcs[50]? = some Tryz.f50 := by kernel_rfl
theorem call_impl_areAll_impl_Ref : Fw.Callable Tryz.prog 50 := Fw.callable_of fun_impl_areAll_impl_Ref (by kernel_rfl) (by kernel_rfl)
theorem pf_impl_areAll_impl_Ref : Fw.PFn.of Tryz.f50 = some Sg.f_impl_areAll_impl_Ref := Fw.PFn.of_get (by kernel_rfl)
theorem fun_impl_isHead : Tryz.prog.funcs[108]? = some Tryz.f108 := by kernel_rfl
theorem call_impl_isHead : Fw.Callable Tryz.prog 108 := Fw.callable_of fun_impl_isHead (by kernel_rfl) (by kernel_rfl)
theorem pf_impl_isHead : Fw.PFn.of Tryz.f108 = some Sg.f_impl_isHead := Fw.PFn.of_get (by kernel_rfl)
theorem ok_impl_isHead (K : Nat) : Fw.Ok Tryz.prog 108 (Sg.s_impl_isHead K) := Fw.funP_ok (c := Sg.c_impl_isHead K) (pi := Sg.i_impl_isHead) (depth := 6) (Fw.cfgP_ok (pi := Sg.i_impl_isHead) Sg.tabOK Sg.eqsOK Sg.mixOK ⟨ok_impl_within K, trivial⟩ trivial trivial pf_impl_isHead trivial rfl) trivial pf_impl_isHead fun_impl_isHead call_impl_isHead (fun x => by kernel_rfl)
theorem fun_impl_isRef : Tryz.prog.funcs[80]? = some Tryz.f80 := by kernel_rfl
theorem call_impl_isRef : Fw.Callable Tryz.prog 80 := Fw.callable_of fun_impl_isRef (by kernel_rfl) (by kernel_rfl)
theorem pf_impl_isRef : Fw.PFn.of Tryz.f80 = some Sg.f_impl_isRef := Fw.PFn.of_get (by kernel_rfl)
theorem ok_impl_isRef (K : Nat) : Fw.Ok Tryz.prog 80 (Sg.s_impl_isRef K) := Fw.funP_ok (c := Sg.c_impl_isRef K) (pi := Sg.i_impl_isRef) (depth := 6) (Fw.cfgP_ok (pi := Sg.i_impl_isRef) Sg.tabOK Sg.eqsOK Sg.mixOK ⟨ok_impl_within K, ok_impl_NameOK K, ok_impl_isHead K, trivial⟩ trivial trivial pf_impl_isRef trivial rfl) trivial pf_impl_isRef fun_impl_isRef call_impl_isRef (fun x => by kernel_rfl)
theorem fun_impl_place_1 : Tryz.prog.funcs[110]? = some Tryz.f110 := by kernel_rfl
theorem call_impl_place_1 : Fw.Callable Tryz.prog 110 := Fw.callable_of fun_impl_place_1 (by kernel_rfl) (by kernel_rfl)
theorem pf_impl_place_1 : Fw.PFn.of Tryz.f110 = some Sg.f_impl_place_1 := Fw.PFn.of_get (by kernel_rfl)
theorem l_slices_IndexFunc_impl_Ref__impl_place_1_0 (K : Nat) : Fw.LoopP (Sg.c_slices_IndexFunc_impl_Ref__impl_place_1 K) Sg.i_slices_IndexFunc_impl_Ref__impl_place_1 Sg.f_slices_IndexFunc_impl_Ref (Sg.p_slices_IndexFunc_impl_Ref__impl_place_1_0 K) := ⟨fun _ => by kernel_rfl, fun n p => by kernel_rfl⟩
theorem ok_slices_IndexFunc_impl_Ref__impl_place_1 (K : Nat) : Fw.Ok Tryz.prog 109 (Sg.s_slices_IndexFunc_impl_Ref__impl_place_1 K) := Fw.funP_ok (c := Sg.c_slices_IndexFunc_impl_Ref__impl_place_1 K) (pi := Sg.i_slices_IndexFunc_impl_Ref__impl_place_1) (depth := 6) (Fw.cfgP_ok (pi := Sg.i_slices_IndexFunc_impl_Ref__impl_place_1) Sg.tabOK Sg.eqsOK Sg.mixOK trivial ⟨⟨fun_impl_place_1, call_impl_place_1⟩, trivial⟩ ⟨⟨rfl, pf_impl_place_1⟩, trivial⟩ pf_slices_IndexFunc_impl_Ref ⟨⟨_, rfl, l_slices_IndexFunc_impl_Ref__impl_place_1_0 K⟩, trivial⟩ rfl) ⟨⟨rfl, pf_impl_place_1⟩, trivial⟩ pf_slices_IndexFunc_impl_Ref fun_slices_IndexFunc_impl_Ref call_slices_IndexFunc_impl_Ref (fun x => by kernel_rfl)
theorem fun_impl_place : Tryz.prog.funcs[81]? = some Tryz.f81 := by kernel_rfl
theorem call_impl_place : Fw.Callable Tryz.prog 81 := Fw.callable_of fun_impl_place (by kernel_rfl) (by kernel_rfl)
theorem pf_impl_place : Fw.PFn.of Tryz.f81 = some Sg.f_impl_place := Fw.PFn.of_get (by kernel_rfl)
theorem ok_impl_place (K : Nat) : Fw.Ok Tryz.prog 81 (Sg.s_impl_place K) := Fw.funP_ok (c := Sg.c_impl_place K) (pi := Sg.i_impl_place) (depth := 6) (Fw.cfgP_ok (pi := Sg.i_impl_place) Sg.tabOK Sg.eqsOK Sg.mixOK ⟨ok_slices_IndexFunc_impl_Ref__impl_place_1 K, trivial⟩ ⟨⟨fun_slices_IndexFunc_impl_Ref, call_slices_IndexFunc_impl_Ref⟩, ⟨fun_impl_place_1, call_impl_place_1⟩, trivial⟩ ⟨⟨rfl, pf_slices_IndexFunc_impl_Ref⟩, ⟨rfl, pf_impl_place_1⟩, trivial⟩ pf_impl_place trivial rfl) ⟨⟨rfl, pf_slices_IndexFunc_impl_Ref⟩, ⟨rfl, pf_impl_place_1⟩, trivial⟩ pf_impl_place fun_impl_place call_impl_place (fun x => by kernel_rfl)
theorem l_impl_areAll_impl_Ref__impl_isRef_0 (K : Nat) : Fw.LoopP (Sg.c_impl_areAll_impl_Ref__impl_isRef K) Sg.i_impl_areAll_impl_Ref__impl_isRef Sg.f_slices_IndexFunc_impl_Ref (Sg.p_impl_areAll_impl_Ref__impl_isRef_0 K) := ⟨fun _ => by kernel_rfl, fun n p => by kernel_rfl⟩
theorem ok_impl_areAll_impl_Ref__impl_isRef (K : Nat) : Fw.Ok Tryz.prog 50 (Sg.s_impl_areAll_impl_Ref__impl_isRef K) := Fw.funP_ok (c := Sg.c_impl_areAll_impl_Ref__impl_isRef K) (pi := Sg.i_impl_areAll_impl_Ref__impl_isRef) (depth := 6) (Fw.cfgP_ok (pi := Sg.i_impl_areAll_impl_Ref__impl_isRef) Sg.tabOK Sg.eqsOK Sg.mixOK ⟨ok_impl_isRef K, trivial⟩ ⟨⟨fun_impl_areAll_impl_Ref_1, call_impl_areAll_impl_Ref_1⟩, ⟨fun_slices_IndexFunc_impl_Ref, call_slices_IndexFunc_impl_Ref⟩, ⟨fun_slices_ContainsFunc_impl_Ref, call_slices_ContainsFunc_impl_Ref⟩, trivial⟩ ⟨⟨rfl, pf_impl_areAll_impl_Ref_1⟩, ⟨rfl, pf_slices_IndexFunc_impl_Ref⟩, ⟨rfl, pf_slices_ContainsFunc_impl_Ref⟩, trivial⟩ pf_impl_areAll_impl_Ref ⟨⟨_, rfl, l_impl_areAll_impl_Ref__impl_isRef_0 K⟩, trivial⟩ rfl) ⟨⟨rfl, pf_impl_areAll_impl_Ref_1⟩, ⟨rfl, pf_slices_IndexFunc_impl_Ref⟩, ⟨rfl, pf_slices_ContainsFunc_impl_Ref⟩, trivial⟩ pf_impl_areAll_impl_Ref fun_impl_areAll_impl_Ref call_impl_areAll_impl_Ref (fun x => by kernel_rfl)
theorem fun_impl_RefsOK : Tryz.prog.funcs[49]? = some Tryz.f49 := by kernel_rfl
theorem call_impl_RefsOK : Fw.Callable Tryz.prog 49 := Fw.callable_of fun_impl_RefsOK (by kernel_rfl) (by kernel_rfl)
theorem pf_impl_RefsOK : Fw.PFn.of Tryz.f49 = some Sg.f_impl_RefsOK := Fw.PFn.of_get (by kernel_rfl)
theorem l_impl_RefsOK_0 (K : Nat) : Fw.LoopP (Sg.c_impl_RefsOK K) Sg.i_impl_RefsOK Sg.f_impl_RefsOK (Sg.p_impl_RefsOK_0 K) := ⟨fun _ => by kernel_rfl, fun n p => by kernel_rfl⟩
theorem ok_impl_RefsOK (K : Nat) : Fw.Ok Tryz.prog 49 (Sg.s_impl_RefsOK K) := Fw.funP_ok (c := Sg.c_impl_RefsOK K) (pi := Sg.i_impl_RefsOK) (depth := 6) (Fw.cfgP_ok (pi := Sg.i_impl_RefsOK) Sg.tabOK Sg.eqsOK Sg.mixOK ⟨ok_impl_isRef K, ok_impl_place K, ok_impl_areAll_impl_Ref__impl_isRef K, trivial⟩ ⟨⟨fun_impl_areAll_impl_Ref_1, call_impl_areAll_impl_Ref_1⟩, ⟨fun_slices_IndexFunc_impl_Ref, call_slices_IndexFunc_impl_Ref⟩, ⟨fun_slices_ContainsFunc_impl_Ref, call_slices_ContainsFunc_impl_Ref⟩, ⟨fun_impl_areAll_impl_Ref, call_impl_areAll_impl_Ref⟩, trivial⟩ ⟨⟨rfl, pf_impl_areAll_impl_Ref_1⟩, ⟨rfl, pf_slices_IndexFunc_impl_Ref⟩, ⟨rfl, pf_slices_ContainsFunc_impl_Ref⟩, ⟨rfl, pf_impl_areAll_impl_Ref⟩, trivial⟩ pf_impl_RefsOK ⟨⟨_, rfl, l_impl_RefsOK_0 K⟩, trivial⟩ rfl) ⟨⟨rfl, pf_impl_areAll_impl_Ref_1⟩, ⟨rfl, pf_slices_IndexFunc_impl_Ref⟩, ⟨rfl, pf_slices_ContainsFunc_impl_Ref⟩, ⟨rfl, pf_impl_areAll_impl_Ref⟩, trivial⟩ pf_impl_RefsOK fun_impl_RefsOK call_impl_RefsOK (fun x => by kernel_rfl)
theorem fun_impl_BaseOK_1 : Tryz.prog.funcs[51]? = some Tryz.f51 := by kernel_rfl
theorem call_impl_BaseOK_1 : Fw.Callable Tryz.prog 51 := Fw.callable_of fun_impl_BaseOK_1 (by kernel_rfl) (by kernel_rfl)
theorem pf_impl_BaseOK_1 : Fw.PFn.of Tryz.f51 = some Sg.f_impl_BaseOK_1 := Fw.PFn.of_get (by kernel_rfl)
theorem l_impl_areAll_impl_Ref__impl_BaseOK_1_0 (K : Nat) : Fw.LoopP (Sg.c_impl_areAll_impl_Ref__impl_BaseOK_1 K) Sg.i_impl_areAll_impl_Ref__impl_BaseOK_1 Sg.f_slices_IndexFunc_impl_Ref (Sg.p_impl_areAll_impl_Ref__impl_BaseOK_1_0 K) := ⟨fun _ => by kernel_rfl, fun n p => by kernel_rfl⟩
theorem ok_impl_areAll_impl_Ref__impl_BaseOK_1 (K : Nat) : Fw.Ok Tryz.prog 50 (Sg.s_impl_areAll_impl_Ref__impl_BaseOK_1 K) := Fw.funP_ok (c := Sg.c_impl_areAll_impl_Ref__impl_BaseOK_1 K) (pi := Sg.i_impl_areAll_impl_Ref__impl_BaseOK_1) (depth := 6) (Fw.cfgP_ok (pi := Sg.i_impl_areAll_impl_Ref__impl_BaseOK_1) Sg.tabOK Sg.eqsOK Sg.mixOK trivial ⟨⟨fun_impl_areAll_impl_Ref_1, call_impl_areAll_impl_Ref_1⟩, ⟨fun_slices_IndexFunc_impl_Ref, call_slices_IndexFunc_impl_Ref⟩, ⟨fun_slices_ContainsFunc_impl_Ref, call_slices_ContainsFunc_impl_Ref⟩, ⟨fun_impl_BaseOK_1, call_impl_BaseOK_1⟩, trivial⟩ ⟨⟨rfl, pf_impl_areAll_impl_Ref_1⟩, ⟨rfl, pf_slices_IndexFunc_impl_Ref⟩, ⟨rfl, pf_slices_ContainsFunc_impl_Ref⟩, ⟨rfl, pf_impl_BaseOK_1⟩, trivial⟩ pf_impl_areAll_impl_Ref ⟨⟨_, rfl, l_impl_areAll_impl_Ref__impl_BaseOK_1_0 K⟩, trivial⟩ rfl) ⟨⟨rfl, pf_impl_areAll_impl_Ref_1⟩, ⟨rfl, pf_slices_IndexFunc_impl_Ref⟩, ⟨rfl, pf_slices_ContainsFunc_impl_Ref⟩, ⟨rfl, pf_impl_BaseOK_1⟩, trivial⟩ pf_impl_areAll_impl_Ref fun_impl_areAll_impl_Ref call_impl_areAll_impl_Ref (fun x => by kernel_rfl)
theorem fun_impl_BaseOK : Tryz.prog.funcs[25]? = some Tryz.f25 := by kernel_rfl
theorem call_impl_BaseOK : Fw.Callable Tryz.prog 25 := Fw.callable_of fun_impl_BaseOK (by kernel_rfl) (by kernel_rfl)
theorem pf_impl_BaseOK : Fw.PFn.of Tryz.f25 = some Sg.f_impl_BaseOK := Fw.PFn.of_get (by kernel_rfl)
theorem ok_impl_BaseOK (K : Nat) : Fw.Ok Tryz.prog 25 (Sg.s_impl_BaseOK K) := Fw.funP_ok (c := Sg.c_impl_BaseOK K) (pi := Sg.i_impl_BaseOK) (depth := 6) (Fw.cfgP_ok (pi := Sg.i_impl_BaseOK) Sg.tabOK Sg.eqsOK Sg.mixOK ⟨ok_impl_StoreOK K, ok_impl_RefsOK K, ok_impl_areAll_impl_Ref__impl_BaseOK_1 K, trivial⟩ ⟨⟨fun_impl_areAll_impl_Ref_1, call_impl_areAll_impl_Ref_1⟩, ⟨fun_slices_IndexFunc_impl_Ref, call_slices_IndexFunc_impl_Ref⟩, ⟨fun_slices_ContainsFunc_impl_Ref, call_slices_ContainsFunc_impl_Ref⟩, ⟨fun_impl_areAll_impl_Ref, call_impl_areAll_impl_Ref⟩, ⟨fun_impl_BaseOK_1, call_impl_BaseOK_1⟩, trivial⟩ ⟨⟨rfl, pf_impl_areAll_impl_Ref_1⟩, ⟨rfl, pf_slices_IndexFunc_impl_Ref⟩, ⟨rfl, pf_slices_ContainsFunc_impl_Ref⟩, ⟨rfl, pf_impl_areAll_impl_Ref⟩, ⟨rfl, pf_impl_BaseOK_1⟩, trivial⟩ pf_impl_BaseOK trivial rfl) ⟨⟨rfl, pf_impl_areAll_impl_Ref_1⟩, ⟨rfl, pf_slices_IndexFunc_impl_Ref⟩, ⟨rfl, pf_slices_ContainsFunc_impl_Ref⟩, ⟨rfl, pf_impl_areAll_impl_Ref⟩, ⟨rfl, pf_impl_BaseOK_1⟩, trivial⟩ pf_impl_BaseOK fun_impl_BaseOK call_impl_BaseOK (fun x => by kernel_rfl)
theorem fun_strconv_Itoa : Tryz.prog.funcs[52]? = some Tryz.f52 := by kernel_rfl
theorem call_strconv_Itoa : Fw.Callable Tryz.prog 52 := Fw.callable_of fun_strconv_Itoa (by kernel_rfl) (by kernel_rfl)
theorem ok_strconv_Itoa (K : Nat) : Fw.Ok Tryz.prog 52 (Sg.s_strconv_Itoa K) := Fw.ok_itoa call_strconv_Itoa (fun _ h => h) (fun n h0 h1 w ht => Tryz.strconv_Itoa n h0 h1 w ht)
theorem fun_strings_Join : Tryz.prog.funcs[112]? = some Tryz.f112 := by kernel_rfl
theorem call_strings_Join : Fw.Callable Tryz.prog 112 := Fw.callable_of fun_strings_Join (by kernel_rfl) (by kernel_rfl)
theorem ok_strings_Join (K : Nat) : Fw.Ok Tryz.prog 112 (Sg.s_strings_Join K) := Fw.ok_join call_strings_Join (fun a c sep w => Tryz.strings_Join_none a c sep w) (fun bk o c xs sep w h1 h2 h3 h4 h5 => Tryz.strings_Join bk o c xs sep w h1 h2 h3 h4 h5)
theorem fun_impl_listed : Tryz.prog.funcs[85]? = some Tryz.f85 := by kernel_rfl
theorem call_impl_listed : Fw.Callable Tryz.prog 85 := Fw.callable_of fun_impl_listed (by kernel_rfl) (by kernel_rfl)
theorem pf_impl_listed : Fw.PFn.of Tryz.f85 = some Sg.f_impl_listed := Fw.PFn.of_get (by kernel_rfl)
theorem ok_impl_listed (K : Nat) : Fw.Ok Tryz.prog 85 (Sg.s_impl_listed K) := Fw.funP_ok (c := Sg.c_impl_listed K) (pi := Sg.i_impl_listed) (depth := 6) (Fw.cfgP_ok (pi := Sg.i_impl_listed) Sg.tabOK Sg.eqsOK Sg.mixOK ⟨ok_strings_Join K, trivial⟩ trivial trivial pf_impl_listed trivial rfl) trivial pf_impl_listed fun_impl_listed call_impl_listed (fun x => by kernel_rfl)
theorem fun_impl_mapText : Tryz.prog.funcs[53]? = some Tryz.f53 := by kernel_rfl
theorem call_impl_mapText : Fw.Callable Tryz.prog 53 := Fw.callable_of fun_impl_mapText (by kernel_rfl) (by kernel_rfl)
theorem pf_impl_mapText : Fw.PFn.of Tryz.f53 = some Sg.f_impl_mapText := Fw.PFn.of_get (by kernel_rfl)
theorem l_impl_mapText_0 (K : Nat) : Fw.LoopP (Sg.c_impl_mapText K) Sg.i_impl_mapText Sg.f_impl_mapText (Sg.p_impl_mapText_0 K) := ⟨fun _ => by kernel_rfl, fun n p => by kernel_rfl⟩
theorem ok_impl_mapText (K : Nat) : Fw.Ok Tryz.prog 53 (Sg.s_impl_mapText K) := Fw.funP_ok (c := Sg.c_impl_mapText K) (pi := Sg.i_impl_mapText) (depth := 6) (Fw.cfgP_ok (pi := Sg.i_impl_mapText) Sg.tabOK Sg.eqsOK Sg.mixOK ⟨ok_strconv_Itoa K, ok_impl_listed K, trivial⟩ trivial trivial pf_impl_mapText ⟨⟨_, rfl, l_impl_mapText_0 K⟩, trivial⟩ rfl) trivial pf_impl_mapText fun_impl_mapText call_impl_mapText (fun x => by kernel_rfl)
theorem fun_impl_numbered : Tryz.prog.funcs[54]? = some Tryz.f54 := by kernel_rfl
theorem call_impl_numbered : Fw.Callable Tryz.prog 54 := Fw.callable_of fun_impl_numbered (by kernel_rfl) (by kernel_rfl)
theorem pf_impl_numbered : Fw.PFn.of Tryz.f54 = some Sg.f_impl_numbered := Fw.PFn.of_get (by kernel_rfl)
theorem ok_impl_numbered (K : Nat) : Fw.Ok Tryz.prog 54 (Sg.s_impl_numbered K) := Fw.funP_ok (c := Sg.c_impl_numbered K) (pi := Sg.i_impl_numbered) (depth := 6) (Fw.cfgP_ok (pi := Sg.i_impl_numbered) Sg.tabOK Sg.eqsOK Sg.mixOK ⟨ok_strconv_Itoa K, trivial⟩ trivial trivial pf_impl_numbered trivial rfl) trivial pf_impl_numbered fun_impl_numbered call_impl_numbered (fun x => by kernel_rfl)
theorem fun_impl_Base_lines : Tryz.prog.funcs[26]? = some Tryz.f26 := by kernel_rfl
theorem call_impl_Base_lines : Fw.Callable Tryz.prog 26 := Fw.callable_of fun_impl_Base_lines (by kernel_rfl) (by kernel_rfl)
theorem pf_impl_Base_lines : Fw.PFn.of Tryz.f26 = some Sg.f_impl_Base_lines := Fw.PFn.of_get (by kernel_rfl)
theorem l_impl_Base_lines_1 (K : Nat) : Fw.LoopP (Sg.c_impl_Base_lines K) Sg.i_impl_Base_lines Sg.f_impl_Base_lines (Sg.p_impl_Base_lines_1 K) := ⟨fun _ => by kernel_rfl, fun n p => by kernel_rfl⟩
theorem l_impl_Base_lines_0 (K : Nat) : Fw.LoopP (Sg.c_impl_Base_lines K) Sg.i_impl_Base_lines Sg.f_impl_Base_lines (Sg.p_impl_Base_lines_0 K) := ⟨fun _ => by kernel_rfl, fun n p => by kernel_rfl⟩
theorem l_impl_Base_lines_2 (K : Nat) : Fw.LoopP (Sg.c_impl_Base_lines K) Sg.i_impl_Base_lines Sg.f_impl_Base_lines (Sg.p_impl_Base_lines_2 K) := ⟨fun _ => by kernel_rfl, fun n p => by kernel_rfl⟩
theorem ok_impl_Base_lines (K : Nat) : Fw.Ok Tryz.prog 26 (Sg.s_impl_Base_lines K) := Fw.funP_ok (c := Sg.c_impl_Base_lines K) (pi := Sg.i_impl_Base_lines) (depth := 6) (Fw.cfgP_ok (pi := Sg.i_impl_Base_lines) Sg.tabOK Sg.eqsOK Sg.mixOK ⟨ok_strconv_Itoa K, ok_impl_mapText K, ok_impl_numbered K, trivial⟩ trivial trivial pf_impl_Base_lines ⟨⟨_, rfl, l_impl_Base_lines_1 K⟩, ⟨_, rfl, l_impl_Base_lines_0 K⟩, ⟨_, rfl, l_impl_Base_lines_2 K⟩, trivial⟩ rfl) trivial pf_impl_Base_lines fun_impl_Base_lines call_impl_Base_lines (fun x => by kernel_rfl)
theorem fun_impl_BaseLines : Tryz.prog.funcs[8]? = some Tryz.f8 := by kernel_rfl
theorem call_impl_BaseLines : Fw.Callable Tryz.prog 8 := Fw.callable_of fun_impl_BaseLines (by kernel_rfl) (by kernel_rfl)
theorem pf_impl_BaseLines : Fw.PFn.of Tryz.f8 = some Sg.f_impl_BaseLines := Fw.PFn.of_get (by kernel_rfl)
theorem ok_impl_BaseLines (K : Nat) : Fw.Ok Tryz.prog 8 (Sg.s_impl_BaseLines K) := Fw.funP_ok (c := Sg.c_impl_BaseLines K) (pi := Sg.i_impl_BaseLines) (depth := 6) (Fw.cfgP_ok (pi := Sg.i_impl_BaseLines) Sg.tabOK Sg.eqsOK Sg.mixOK ⟨ok_impl_BaseOK K, ok_impl_Base_lines K, trivial⟩ trivial trivial pf_impl_BaseLines trivial rfl) trivial pf_impl_BaseLines fun_impl_BaseLines call_impl_BaseLines (fun x => by kernel_rfl)
theorem fun_laws_eqStringS : Tryz.prog.funcs[9]? = some Tryz.f9 := by kernel_rfl
theorem call_laws_eqStringS : Fw.Callable Tryz.prog 9 := Fw.callable_of fun_laws_eqStringS (by kernel_rfl) (by kernel_rfl)
theorem pf_laws_eqStringS : Fw.PFn.of Tryz.f9 = some Sg.f_laws_eqStringS := Fw.PFn.of_get (by kernel_rfl)
theorem l_laws_eqStringS_0 (K : Nat) : Fw.LoopP (Sg.c_laws_eqStringS K) Sg.i_laws_eqStringS Sg.f_laws_eqStringS (Sg.p_laws_eqStringS_0 K) := ⟨fun _ => by kernel_rfl, fun n p => by kernel_rfl⟩
theorem ok_laws_eqStringS (K : Nat) : Fw.Ok Tryz.prog 9 (Sg.s_laws_eqStringS K) := Fw.funP_ok (c := Sg.c_laws_eqStringS K) (pi := Sg.i_laws_eqStringS) (depth := 6) (Fw.cfgP_ok (pi := Sg.i_laws_eqStringS) Sg.tabOK Sg.eqsOK Sg.mixOK trivial trivial trivial pf_laws_eqStringS ⟨⟨_, rfl, l_laws_eqStringS_0 K⟩, trivial⟩ rfl) trivial pf_laws_eqStringS fun_laws_eqStringS call_laws_eqStringS (fun x => by kernel_rfl)
theorem fun_laws_eqIntS : Tryz.prog.funcs[86]? = some Tryz.f86 := by kernel_rfl
theorem call_laws_eqIntS : Fw.Callable Tryz.prog 86 := Fw.callable_of fun_laws_eqIntS (by kernel_rfl) (by kernel_rfl)
theorem pf_laws_eqIntS : Fw.PFn.of Tryz.f86 = some Sg.f_laws_eqIntS := Fw.PFn.of_get (by kernel_rfl)
theorem l_laws_eqIntS_0 (K : Nat) : Fw.LoopP (Sg.c_laws_eqIntS K) Sg.i_laws_eqIntS Sg.f_laws_eqIntS (Sg.p_laws_eqIntS_0 K) := ⟨fun _ => by kernel_rfl, fun n p => by kernel_rfl⟩
theorem ok_laws_eqIntS (K : Nat) : Fw.Ok Tryz.prog 86 (Sg.s_laws_eqIntS K) := Fw.funP_ok (c := Sg.c_laws_eqIntS K) (pi := Sg.i_laws_eqIntS) (depth := 6) (Fw.cfgP_ok (pi := Sg.i_laws_eqIntS) Sg.tabOK Sg.eqsOK Sg.mixOK trivial trivial trivial pf_laws_eqIntS ⟨⟨_, rfl, l_laws_eqIntS_0 K⟩, trivial⟩ rfl) trivial pf_laws_eqIntS fun_laws_eqIntS call_laws_eqIntS (fun x => by kernel_rfl)
theorem fun_laws_eqEntry : Tryz.prog.funcs[113]? = some Tryz.f113 := by kernel_rfl
theorem call_laws_eqEntry : Fw.Callable Tryz.prog 113 := Fw.callable_of fun_laws_eqEntry (by kernel_rfl) (by kernel_rfl)
theorem pf_laws_eqEntry : Fw.PFn.of Tryz.f113 = some Sg.f_laws_eqEntry := Fw.PFn.of_get (by kernel_rfl)
theorem ok_laws_eqEntry (K : Nat) : Fw.Ok Tryz.prog 113 (Sg.s_laws_eqEntry K) := Fw.funP_ok (c := Sg.c_laws_eqEntry K) (pi := Sg.i_laws_eqEntry) (depth := 6) (Fw.cfgP_ok (pi := Sg.i_laws_eqEntry) Sg.tabOK Sg.eqsOK Sg.mixOK trivial trivial trivial pf_laws_eqEntry trivial rfl) trivial pf_laws_eqEntry fun_laws_eqEntry call_laws_eqEntry (fun x => by kernel_rfl)
theorem fun_laws_eqEntryS : Tryz.prog.funcs[87]? = some Tryz.f87 := by kernel_rfl
theorem call_laws_eqEntryS : Fw.Callable Tryz.prog 87 := Fw.callable_of fun_laws_eqEntryS (by kernel_rfl) (by kernel_rfl)
theorem pf_laws_eqEntryS : Fw.PFn.of Tryz.f87 = some Sg.f_laws_eqEntryS := Fw.PFn.of_get (by kernel_rfl)
theorem l_laws_eqEntryS_0 (K : Nat) : Fw.LoopP (Sg.c_laws_eqEntryS K) Sg.i_laws_eqEntryS Sg.f_laws_eqEntryS (Sg.p_laws_eqEntryS_0 K) := ⟨fun _ => by kernel_rfl, fun n p => by kernel_rfl⟩
theorem ok_laws_eqEntryS (K : Nat) : Fw.Ok Tryz.prog 87 (Sg.s_laws_eqEntryS K) := Fw.funP_ok (c := Sg.c_laws_eqEntryS K) (pi := Sg.i_laws_eqEntryS) (depth := 6) (Fw.cfgP_ok (pi := Sg.i_laws_eqEntryS) Sg.tabOK Sg.eqsOK Sg.mixOK ⟨ok_laws_eqEntry K, trivial⟩ trivial trivial pf_laws_eqEntryS ⟨⟨_, rfl, l_laws_eqEntryS_0 K⟩, trivial⟩ rfl) trivial pf_laws_eqEntryS fun_laws_eqEntryS call_laws_eqEntryS (fun x => by kernel_rfl)
theorem fun_laws_eqCommit : Tryz.prog.funcs[55]? = some Tryz.f55 := by kernel_rfl
theorem call_laws_eqCommit : Fw.Callable Tryz.prog 55 := Fw.callable_of fun_laws_eqCommit (by kernel_rfl) (by kernel_rfl)
theorem pf_laws_eqCommit : Fw.PFn.of Tryz.f55 = some Sg.f_laws_eqCommit := Fw.PFn.of_get (by kernel_rfl)
theorem ok_laws_eqCommit (K : Nat) : Fw.Ok Tryz.prog 55 (Sg.s_laws_eqCommit K) := Fw.funP_ok (c := Sg.c_laws_eqCommit K) (pi := Sg.i_laws_eqCommit) (depth := 6) (Fw.cfgP_ok (pi := Sg.i_laws_eqCommit) Sg.tabOK Sg.eqsOK Sg.mixOK ⟨ok_laws_eqIntS K, ok_laws_eqEntryS K, trivial⟩ trivial trivial pf_laws_eqCommit trivial rfl) trivial pf_laws_eqCommit fun_laws_eqCommit call_laws_eqCommit (fun x => by kernel_rfl)
theorem fun_laws_eqCommitS : Tryz.prog.funcs[27]? = some Tryz.f27 := by kernel_rfl
theorem call_laws_eqCommitS : Fw.Callable Tryz.prog 27 := Fw.callable_of fun_laws_eqCommitS (by kernel_rfl) (by kernel_rfl)
theorem pf_laws_eqCommitS : Fw.PFn.of Tryz.f27 = some Sg.f_laws_eqCommitS := Fw.PFn.of_get (by kernel_rfl)
theorem l_laws_eqCommitS_0 (K : Nat) : Fw.LoopP (Sg.c_laws_eqCommitS K) Sg.i_laws_eqCommitS Sg.f_laws_eqCommitS (Sg.p_laws_eqCommitS_0 K) := ⟨fun _ => by kernel_rfl, fun n p => by kernel_rfl⟩
theorem ok_laws_eqCommitS (K : Nat) : Fw.Ok Tryz.prog 27 (Sg.s_laws_eqCommitS K) := Fw.funP_ok (c := Sg.c_laws_eqCommitS K) (pi := Sg.i_laws_eqCommitS) (depth := 6) (Fw.cfgP_ok (pi := Sg.i_laws_eqCommitS) Sg.tabOK Sg.eqsOK Sg.mixOK ⟨ok_laws_eqCommit K, trivial⟩ trivial trivial pf_laws_eqCommitS ⟨⟨_, rfl, l_laws_eqCommitS_0 K⟩, trivial⟩ rfl) trivial pf_laws_eqCommitS fun_laws_eqCommitS call_laws_eqCommitS (fun x => by kernel_rfl)
theorem fun_laws_eqRef : Tryz.prog.funcs[56]? = some Tryz.f56 := by kernel_rfl
theorem call_laws_eqRef : Fw.Callable Tryz.prog 56 := Fw.callable_of fun_laws_eqRef (by kernel_rfl) (by kernel_rfl)
theorem pf_laws_eqRef : Fw.PFn.of Tryz.f56 = some Sg.f_laws_eqRef := Fw.PFn.of_get (by kernel_rfl)
theorem ok_laws_eqRef (K : Nat) : Fw.Ok Tryz.prog 56 (Sg.s_laws_eqRef K) := Fw.funP_ok (c := Sg.c_laws_eqRef K) (pi := Sg.i_laws_eqRef) (depth := 6) (Fw.cfgP_ok (pi := Sg.i_laws_eqRef) Sg.tabOK Sg.eqsOK Sg.mixOK trivial trivial trivial pf_laws_eqRef trivial rfl) trivial pf_laws_eqRef fun_laws_eqRef call_laws_eqRef (fun x => by kernel_rfl)
theorem fun_laws_eqRefS : Tryz.prog.funcs[28]? = some Tryz.f28 := by kernel_rfl
theorem call_laws_eqRefS : Fw.Callable Tryz.prog 28 := Fw.callable_of fun_laws_eqRefS (by kernel_rfl) (by kernel_rfl)
theorem pf_laws_eqRefS : Fw.PFn.of Tryz.f28 = some Sg.f_laws_eqRefS := Fw.PFn.of_get (by kernel_rfl)
theorem l_laws_eqRefS_0 (K : Nat) : Fw.LoopP (Sg.c_laws_eqRefS K) Sg.i_laws_eqRefS Sg.f_laws_eqRefS (Sg.p_laws_eqRefS_0 K) := ⟨fun _ => by kernel_rfl, fun n p => by kernel_rfl⟩
theorem ok_laws_eqRefS (K : Nat) : Fw.Ok Tryz.prog 28 (Sg.s_laws_eqRefS K) := Fw.funP_ok (c := Sg.c_laws_eqRefS K) (pi := Sg.i_laws_eqRefS) (depth := 6) (Fw.cfgP_ok (pi := Sg.i_laws_eqRefS) Sg.tabOK Sg.eqsOK Sg.mixOK ⟨ok_laws_eqRef K, trivial⟩ trivial trivial pf_laws_eqRefS ⟨⟨_, rfl, l_laws_eqRefS_0 K⟩, trivial⟩ rfl) trivial pf_laws_eqRefS fun_laws_eqRefS call_laws_eqRefS (fun x => by kernel_rfl)
theorem fun_laws_eqBase : Tryz.prog.funcs[10]? = some Tryz.f10 := by kernel_rfl
theorem call_laws_eqBase : Fw.Callable Tryz.prog 10 := Fw.callable_of fun_laws_eqBase (by kernel_rfl) (by kernel_rfl)
theorem pf_laws_eqBase : Fw.PFn.of Tryz.f10 = some Sg.f_laws_eqBase := Fw.PFn.of_get (by kernel_rfl)
theorem ok_laws_eqBase (K : Nat) : Fw.Ok Tryz.prog 10 (Sg.s_laws_eqBase K) := Fw.funP_ok (c := Sg.c_laws_eqBase K) (pi := Sg.i_laws_eqBase) (depth := 6) (Fw.cfgP_ok (pi := Sg.i_laws_eqBase) Sg.tabOK Sg.eqsOK Sg.mixOK ⟨ok_laws_eqCommitS K, ok_laws_eqRefS K, trivial⟩ trivial trivial pf_laws_eqBase trivial rfl) trivial pf_laws_eqBase fun_laws_eqBase call_laws_eqBase (fun x => by kernel_rfl)
theorem fun_laws_markIntS : Tryz.prog.funcs[57]? = some Tryz.f57 := by kernel_rfl
theorem call_laws_markIntS : Fw.Callable Tryz.prog 57 := Fw.callable_of fun_laws_markIntS (by kernel_rfl) (by kernel_rfl)
theorem pf_laws_markIntS : Fw.PFn.of Tryz.f57 = some Sg.f_laws_markIntS := Fw.PFn.of_get (by kernel_rfl)
theorem l_laws_markIntS_0 (K : Nat) : Fw.LoopP (Sg.c_laws_markIntS K) Sg.i_laws_markIntS Sg.f_laws_markIntS (Sg.p_laws_markIntS_0 K) := ⟨fun _ => by kernel_rfl, fun n p => by kernel_rfl⟩
theorem ok_laws_markIntS (K : Nat) : Fw.Ok Tryz.prog 57 (Sg.s_laws_markIntS K) := Fw.funP_ok (c := Sg.c_laws_markIntS K) (pi := Sg.i_laws_markIntS) (depth := 6) (Fw.cfgP_ok (pi := Sg.i_laws_markIntS) Sg.tabOK Sg.eqsOK Sg.mixOK trivial trivial trivial pf_laws_markIntS ⟨⟨_, rfl, l_laws_markIntS_0 K⟩, trivial⟩ rfl) trivial pf_laws_markIntS fun_laws_markIntS call_laws_markIntS (fun x => by kernel_rfl)
theorem fun_laws_markText : Tryz.prog.funcs[31]? = some Tryz.f31 := by kernel_rfl
theorem call_laws_markText : Fw.Callable Tryz.prog 31 := Fw.callable_of fun_laws_markText (by kernel_rfl) (by kernel_rfl)
theorem pf_laws_markText : Fw.PFn.of Tryz.f31 = some Sg.f_laws_markText := Fw.PFn.of_get (by kernel_rfl)
theorem l_laws_markText_0 (K : Nat) : Fw.LoopP (Sg.c_laws_markText K) Sg.i_laws_markText Sg.f_laws_markText (Sg.p_laws_markText_0 K) := ⟨fun _ => by kernel_rfl, fun n p => by kernel_rfl⟩
theorem ok_laws_markText (K : Nat) : Fw.Ok Tryz.prog 31 (Sg.s_laws_markText K) := Fw.funP_ok (c := Sg.c_laws_markText K) (pi := Sg.i_laws_markText) (depth := 6) (Fw.cfgP_ok (pi := Sg.i_laws_markText) Sg.tabOK Sg.eqsOK Sg.mixOK trivial trivial trivial pf_laws_markText ⟨⟨_, rfl, l_laws_markText_0 K⟩, trivial⟩ rfl) trivial pf_laws_markText fun_laws_markText call_laws_markText (fun x => by kernel_rfl)
theorem fun_laws_markEntryS : Tryz.prog.funcs[58]? = some Tryz.f58 := by kernel_rfl
theorem call_laws_markEntryS : Fw.Callable Tryz.prog 58 := Fw.callable_of fun_laws_markEntryS (by kernel_rfl) (by kernel_rfl)
theorem pf_laws_markEntryS : Fw.PFn.of Tryz.f58 = some Sg.f_laws_markEntryS := Fw.PFn.of_get (by kernel_rfl)
theorem l_laws_markEntryS_0 (K : Nat) : Fw.LoopP (Sg.c_laws_markEntryS K) Sg.i_laws_markEntryS Sg.f_laws_markEntryS (Sg.p_laws_markEntryS_0 K) := ⟨fun _ => by kernel_rfl, fun n p => by kernel_rfl⟩
theorem ok_laws_markEntryS (K : Nat) : Fw.Ok Tryz.prog 58 (Sg.s_laws_markEntryS K) := Fw.funP_ok (c := Sg.c_laws_markEntryS K) (pi := Sg.i_laws_markEntryS) (depth := 6) (Fw.cfgP_ok (pi := Sg.i_laws_markEntryS) Sg.tabOK Sg.eqsOK Sg.mixOK ⟨ok_laws_markText K, trivial⟩ trivial trivial pf_laws_markEntryS ⟨⟨_, rfl, l_laws_markEntryS_0 K⟩, trivial⟩ rfl) trivial pf_laws_markEntryS fun_laws_markEntryS call_laws_markEntryS (fun x => by kernel_rfl)
theorem fun_laws_markCommitS : Tryz.prog.funcs[29]? = some Tryz.f29 := by kernel_rfl
theorem call_laws_markCommitS : Fw.Callable Tryz.prog 29 := Fw.callable_of fun_laws_markCommitS (by kernel_rfl) (by kernel_rfl)
theorem pf_laws_markCommitS : Fw.PFn.of Tryz.f29 = some Sg.f_laws_markCommitS := Fw.PFn.of_get (by kernel_rfl)
theorem l_laws_markCommitS_0 (K : Nat) : Fw.LoopP (Sg.c_laws_markCommitS K) Sg.i_laws_markCommitS Sg.f_laws_markCommitS (Sg.p_laws_markCommitS_0 K) := ⟨fun _ => by kernel_rfl, fun n p => by kernel_rfl⟩
theorem ok_laws_markCommitS (K : Nat) : Fw.Ok Tryz.prog 29 (Sg.s_laws_markCommitS K) := Fw.funP_ok (c := Sg.c_laws_markCommitS K) (pi := Sg.i_laws_markCommitS) (depth := 6) (Fw.cfgP_ok (pi := Sg.i_laws_markCommitS) Sg.tabOK Sg.eqsOK Sg.mixOK ⟨ok_laws_markIntS K, ok_laws_markEntryS K, trivial⟩ trivial trivial pf_laws_markCommitS ⟨⟨_, rfl, l_laws_markCommitS_0 K⟩, trivial⟩ rfl) trivial pf_laws_markCommitS fun_laws_markCommitS call_laws_markCommitS (fun x => by kernel_rfl)
theorem fun_laws_markRefS : Tryz.prog.funcs[30]? = some Tryz.f30 := by kernel_rfl
theorem call_laws_markRefS : Fw.Callable Tryz.prog 30 := Fw.callable_of fun_laws_markRefS (by kernel_rfl) (by kernel_rfl)
theorem pf_laws_markRefS : Fw.PFn.of Tryz.f30 = some Sg.f_laws_markRefS := Fw.PFn.of_get (by kernel_rfl)
theorem l_laws_markRefS_0 (K : Nat) : Fw.LoopP (Sg.c_laws_markRefS K) Sg.i_laws_markRefS Sg.f_laws_markRefS (Sg.p_laws_markRefS_0 K) := ⟨fun _ => by kernel_rfl, fun n p => by kernel_rfl⟩
theorem ok_laws_markRefS (K : Nat) : Fw.Ok Tryz.prog 30 (Sg.s_laws_markRefS K) := Fw.funP_ok (c := Sg.c_laws_markRefS K) (pi := Sg.i_laws_markRefS) (depth := 6) (Fw.cfgP_ok (pi := Sg.i_laws_markRefS) Sg.tabOK Sg.eqsOK Sg.mixOK ⟨ok_laws_markText K, trivial⟩ trivial trivial pf_laws_markRefS ⟨⟨_, rfl, l_laws_markRefS_0 K⟩, trivial⟩ rfl) trivial pf_laws_markRefS fun_laws_markRefS call_laws_markRefS (fun x => by kernel_rfl)
theorem fun_laws_markBase : Tryz.prog.funcs[11]? = some Tryz.f11 := by kernel_rfl
theorem call_laws_markBase : Fw.Callable Tryz.prog 11 := Fw.callable_of fun_laws_markBase (by kernel_rfl) (by kernel_rfl)
theorem pf_laws_markBase : Fw.PFn.of Tryz.f11 = some Sg.f_laws_markBase := Fw.PFn.of_get (by kernel_rfl)
theorem ok_laws_markBase (K : Nat) : Fw.Ok Tryz.prog 11 (Sg.s_laws_markBase K) := Fw.funP_ok (c := Sg.c_laws_markBase K) (pi := Sg.i_laws_markBase) (depth := 6) (Fw.cfgP_ok (pi := Sg.i_laws_markBase) Sg.tabOK Sg.eqsOK Sg.mixOK ⟨ok_laws_markCommitS K, ok_laws_markRefS K, trivial⟩ trivial trivial pf_laws_markBase trivial rfl) trivial pf_laws_markBase fun_laws_markBase call_laws_markBase (fun x => by kernel_rfl)
theorem fun_laws_markStringS : Tryz.prog.funcs[12]? = some Tryz.f12 := by kernel_rfl
theorem call_laws_markStringS : Fw.Callable Tryz.prog 12 := Fw.callable_of fun_laws_markStringS (by kernel_rfl) (by kernel_rfl)
theorem pf_laws_markStringS : Fw.PFn.of Tryz.f12 = some Sg.f_laws_markStringS := Fw.PFn.of_get (by kernel_rfl)
theorem l_laws_markStringS_0 (K : Nat) : Fw.LoopP (Sg.c_laws_markStringS K) Sg.i_laws_markStringS Sg.f_laws_markStringS (Sg.p_laws_markStringS_0 K) := ⟨fun _ => by kernel_rfl, fun n p => by kernel_rfl⟩
theorem ok_laws_markStringS (K : Nat) : Fw.Ok Tryz.prog 12 (Sg.s_laws_markStringS K) := Fw.funP_ok (c := Sg.c_laws_markStringS K) (pi := Sg.i_laws_markStringS) (depth := 6) (Fw.cfgP_ok (pi := Sg.i_laws_markStringS) Sg.tabOK Sg.eqsOK Sg.mixOK ⟨ok_laws_markText K, trivial⟩ trivial trivial pf_laws_markStringS ⟨⟨_, rfl, l_laws_markStringS_0 K⟩, trivial⟩ rfl) trivial pf_laws_markStringS fun_laws_markStringS call_laws_markStringS (fun x => by kernel_rfl)
theorem fun_laws_heldStringS : Tryz.prog.funcs[13]? = some Tryz.f13 := by kernel_rfl
theorem call_laws_heldStringS : Fw.Callable Tryz.prog 13 := Fw.callable_of fun_laws_heldStringS (by kernel_rfl) (by kernel_rfl)
theorem pf_laws_heldStringS : Fw.PFn.of Tryz.f13 = some Sg.f_laws_heldStringS := Fw.PFn.of_get (by kernel_rfl)
theorem l_laws_heldStringS_0 (K : Nat) : Fw.LoopP (Sg.c_laws_heldStringS K) Sg.i_laws_heldStringS Sg.f_laws_heldStringS (Sg.p_laws_heldStringS_0 K) := ⟨fun _ => by kernel_rfl, fun n p => by kernel_rfl⟩
theorem ok_laws_heldStringS (K : Nat) : Fw.Ok Tryz.prog 13 (Sg.s_laws_heldStringS K) := Fw.funP_ok (c := Sg.c_laws_heldStringS K) (pi := Sg.i_laws_heldStringS) (depth := 6) (Fw.cfgP_ok (pi := Sg.i_laws_heldStringS) Sg.tabOK Sg.eqsOK Sg.mixOK ⟨ok_laws_markText K, trivial⟩ trivial trivial pf_laws_heldStringS ⟨⟨_, rfl, l_laws_heldStringS_0 K⟩, trivial⟩ rfl) trivial pf_laws_heldStringS fun_laws_heldStringS call_laws_heldStringS (fun x => by kernel_rfl)
theorem fun_laws_FnExactBaseLines : Tryz.prog.funcs[3]? = some Tryz.f3 := by kernel_rfl
theorem call_laws_FnExactBaseLines : Fw.Callable Tryz.prog 3 := Fw.callable_of fun_laws_FnExactBaseLines (by kernel_rfl) (by kernel_rfl)
theorem pf_laws_FnExactBaseLines : Fw.PFn.of Tryz.f3 = some Sg.f_laws_FnExactBaseLines := Fw.PFn.of_get (by kernel_rfl)
theorem ok_laws_FnExactBaseLines (K : Nat) : Fw.Ok Tryz.prog 3 (Sg.s_laws_FnExactBaseLines K) := Fw.funP_ok (c := Sg.c_laws_FnExactBaseLines K) (pi := Sg.i_laws_FnExactBaseLines) (depth := 6) (Fw.cfgP_ok (pi := Sg.i_laws_FnExactBaseLines) Sg.tabOK Sg.eqsOK Sg.mixOK ⟨ok_laws_szBase K, ok_laws_toBase K, ok_spec_BaseLines K, ok_impl_BaseLines K, ok_laws_eqStringS K, ok_laws_eqBase K, ok_laws_markBase K, ok_laws_markStringS K, ok_laws_heldStringS K, trivial⟩ trivial trivial pf_laws_FnExactBaseLines trivial rfl) trivial pf_laws_FnExactBaseLines fun_laws_FnExactBaseLines call_laws_FnExactBaseLines (fun x => by kernel_rfl)
end Go.Proofs
