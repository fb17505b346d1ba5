/- The functions' contracts, printed by a program of the prover's own. -/
import Derived.Test.YtilfjfappnpfoaaDoorAR
import Derived.Test.YtilfjfappnpfoaaDoorProg
import Derived.Test.YtilfjfappnpfoaaDoorShelf
set_option linter.all false
namespace Go.Proofs
open Go Fw
set_option maxRecDepth 100000
def Sg.eqs : List Nat := [92, 100, 102, 110]
def Sg.tab : List (Nat × Fw.TyI) := [
(1, .one),
(2, .leaf (.int .i64)),
(3, .leaf (.int .i64)),
(4, .leaf .bool),
(5, .leaf (.int .u8)),
(6, .leaf (.int .u8)),
(7, .struct (.pair (.int .i64) (.pair (.int .i64) (.pair .bool (.int .u8)))) [(0, 2), (1, 3), (2, 4), (3, 6)]),
(8, .struct (.pair (.int .i64) (.pair (.int .i64) (.pair .bool (.int .u8)))) [(0, 2), (1, 3), (2, 4), (3, 6)]),
(9, .leaf .str),
(10, .leaf .str),
(11, .leaf .str),
(12, .leaf (.int .u64)),
(13, .struct (.pair .str (.int .u64)) [(0, 9), (1, 12)]),
(14, .struct (.pair .str (.int .u64)) [(0, 9), (1, 12)]),
(21, .leaf (.int .i32)),
(22, .slice 102 (.pair .str (.pair (.int .i64) .bool)) 0),
(23, .struct (.pair (.int .i64) (.pair .str (.pair .str (.pair .str (.sl (.pair .str (.pair (.int .i64) .bool))))))) [(0, 3), (1, 9), (2, 9), (3, 9), (4, 22)]),
(24, .struct (.pair (.int .i64) (.pair .str (.pair .str (.pair .str (.sl (.pair .str (.pair (.int .i64) .bool))))))) [(0, 3), (1, 9), (2, 9), (3, 9), (4, 22)]),
(25, .one),
(27, .one),
(28, .slice 100 (.pair .str (.pair (.int .i64) .bool)) 0),
(29, .struct (.pair (.int .i64) (.pair .str (.pair .str (.pair .str (.sl (.pair .str (.pair (.int .i64) .bool))))))) [(0, 3), (1, 9), (2, 9), (3, 9), (4, 28)]),
(30, .struct (.pair (.int .i64) (.pair .str (.pair .str (.pair .str (.sl (.pair .str (.pair (.int .i64) .bool))))))) [(0, 3), (1, 9), (2, 9), (3, 9), (4, 28)]),
(31, .one),
(32, .one),
(33, .one),
(34, .slice 9 .str 0),
(35, .slice 110 (.pair .str (.int .i64)) 0),
(36, .struct (.pair (.int .i64) (.pair (.int .i64) (.pair (.int .i64) (.pair (.sl .str) (.sl (.pair .str (.int .i64))))))) [(0, 3), (1, 3), (2, 3), (3, 34), (4, 35)]),
(37, .struct (.pair (.int .i64) (.pair (.int .i64) (.pair (.int .i64) (.pair (.sl .str) (.sl (.pair .str (.int .i64))))))) [(0, 3), (1, 3), (2, 3), (3, 34), (4, 35)]),
(38, .one),
(39, .one),
(40, .slice 92 (.pair .str (.int .i64)) 0),
(41, .struct (.pair (.int .i64) (.pair (.int .i64) (.pair (.int .i64) (.pair (.sl .str) (.sl (.pair .str (.int .i64))))))) [(0, 3), (1, 3), (2, 3), (3, 34), (4, 40)]),
(42, .struct (.pair (.int .i64) (.pair (.int .i64) (.pair (.int .i64) (.pair (.sl .str) (.sl (.pair .str (.int .i64))))))) [(0, 3), (1, 3), (2, 3), (3, 34), (4, 40)]),
(43, .one),
(44, .one),
(45, .one),
(46, .struct (.pair (.int .i64) (.pair (.int .i64) (.pair .str (.pair .str (.sl (.pair .str (.pair (.int .i64) .bool))))))) [(0, 3), (1, 3), (2, 9), (3, 9), (4, 22)]),
(47, .struct (.pair (.int .i64) (.pair (.int .i64) (.pair .str (.pair .str (.sl (.pair .str (.pair (.int .i64) .bool))))))) [(0, 3), (1, 3), (2, 9), (3, 9), (4, 22)]),
(48, .struct (.pair (.int .i64) (.pair (.int .i64) (.pair (.int .i64) (.pair (.pair (.int .i64) (.pair (.int .i64) (.pair .str (.pair .str (.sl (.pair .str (.pair (.int .i64) .bool))))))) (.pair (.int .i64) (.pair (.int .i64) (.pair (.int .i64) (.pair (.sl .str) (.sl (.pair .str (.int .i64))))))))))) [(0, 3), (1, 3), (2, 3), (3, 47), (8, 37)]),
(49, .struct (.pair (.int .i64) (.pair (.int .i64) (.pair (.int .i64) (.pair (.pair (.int .i64) (.pair (.int .i64) (.pair .str (.pair .str (.sl (.pair .str (.pair (.int .i64) .bool))))))) (.pair (.int .i64) (.pair (.int .i64) (.pair (.int .i64) (.pair (.sl .str) (.sl (.pair .str (.int .i64))))))))))) [(0, 3), (1, 3), (2, 3), (3, 47), (8, 37)]),
(50, .one),
(51, .one),
(52, .struct (.pair (.int .i64) (.pair (.int .i64) (.pair .str (.pair .str (.sl (.pair .str (.pair (.int .i64) .bool))))))) [(0, 3), (1, 3), (2, 9), (3, 9), (4, 28)]),
(53, .struct (.pair (.int .i64) (.pair (.int .i64) (.pair .str (.pair .str (.sl (.pair .str (.pair (.int .i64) .bool))))))) [(0, 3), (1, 3), (2, 9), (3, 9), (4, 28)]),
(54, .struct (.pair (.int .i64) (.pair (.int .i64) (.pair (.int .i64) (.pair (.pair (.int .i64) (.pair (.int .i64) (.pair .str (.pair .str (.sl (.pair .str (.pair (.int .i64) .bool))))))) (.pair (.int .i64) (.pair (.int .i64) (.pair (.int .i64) (.pair (.sl .str) (.sl (.pair .str (.int .i64))))))))))) [(0, 3), (1, 3), (2, 3), (3, 53), (8, 42)]),
(55, .struct (.pair (.int .i64) (.pair (.int .i64) (.pair (.int .i64) (.pair (.pair (.int .i64) (.pair (.int .i64) (.pair .str (.pair .str (.sl (.pair .str (.pair (.int .i64) .bool))))))) (.pair (.int .i64) (.pair (.int .i64) (.pair (.int .i64) (.pair (.sl .str) (.sl (.pair .str (.int .i64))))))))))) [(0, 3), (1, 3), (2, 3), (3, 53), (8, 42)]),
(56, .one),
(57, .one),
(58, .one),
(60, .one),
(61, .one),
(62, .one),
(63, .one),
(65, .one),
(66, .one),
(67, .one),
(68, .one),
(69, .one),
(70, .one),
(71, .one),
(72, .one),
(73, .one),
(74, .one),
(75, .one),
(76, .one),
(77, .one),
(78, .one),
(79, .one),
(80, .one),
(81, .one),
(82, .one),
(83, .one),
(84, .one),
(85, .one),
(87, .one),
(88, .one),
(90, .one),
(91, .struct (.pair .str (.int .i64)) [(0, 9), (1, 3)]),
(92, .struct (.pair .str (.int .i64)) [(0, 9), (1, 3)]),
(93, .one),
(94, .one),
(95, .one),
(97, .one),
(98, .one),
(99, .struct (.pair .str (.pair (.int .i64) .bool)) [(0, 9), (1, 3), (2, 4)]),
(100, .struct (.pair .str (.pair (.int .i64) .bool)) [(0, 9), (1, 3), (2, 4)]),
(101, .one),
(102, .struct (.pair .str (.pair (.int .i64) .bool)) [(0, 9), (1, 3), (2, 4)]),
(103, .one),
(104, .one),
(105, .one),
(106, .one),
(107, .one),
(108, .one),
(109, .one),
(110, .struct (.pair .str (.int .i64)) [(0, 9), (1, 3)]),
(111, .one),
(112, .one),
(113, .one),
(114, .one),
(115, .one),
(116, .one),
(117, .one),
(118, .one),
(119, .one),
(121, .one),
(123, .one),
(124, .slice 5 (.int .u8) 0),
(126, .one),
(127, .one),
(128, .one),
(129, .one),
(130, .one),
(132, .leaf .err),
(134, .one),
(135, .one),
(136, .one),
(140, .one),
(141, .one),
(142, .one),
(143, .one),
(144, .one),
(145, .one),
(146, .one),
(147, .one),
(150, .leaf (.int .u64)),
(151, .one),
(152, .one),
(154, .one),
(155, .one),
(157, .one),
(158, .one),
(159, .one),
(160, .leaf (.int .u64)),
(161, .leaf (.int .i64)),
(163, .one),
(164, .one),
(165, .one),
(166, .one),
(168, .one),
(169, .one),
(170, .one),
(172, .leaf (.int .u32)),
(174, .one),
(176, .one),
(178, .one),
(179, .one),
(180, .struct (.pair .str (.pair .str .err)) [(0, 9), (1, 9), (2, 132)]),
(181, .struct (.pair .str (.pair .str .err)) [(0, 9), (1, 9), (2, 132)]),
(182, .one),
(183, .one),
(185, .struct (.pair (.int .u8) (.int .u8)) [(0, 5), (1, 5)]),
(186, .struct (.pair (.int .u8) (.int .u8)) [(0, 5), (1, 5)]),
(188, .one),
(189, .one),
(190, .struct .str [(0, 9)]),
(191, .struct .str [(0, 9)]),
(199, .one),
(200, .leaf (.int .u8)),
(201, .leaf (.int .u8)),
(202, .one),
(203, .leaf (.int .i32)),
(204, .leaf (.int .i32)),
(207, .one),
(208, .one)]
def Sg.ptrs : List (Nat × Fw.Ty) := [(164, (.pair .str (.pair .str .err))), (189, .str)]
theorem Sg.tabOK : Fw.chkAll Tryd.prog Sg.tab = true := by kernel_rfl
theorem Sg.eqsOK : Fw.eqFacts Tryd.prog Sg.tab Sg.eqs = true := by kernel_rfl
theorem Sg.mixOK : Tryd.prog.follows .mixedOrders = true := by kernel_rfl
instance Sg.glob : Fw.GInv := ⟨fun w => Lib.TabIs Tryd.prog w "internal/strconv.uint64pow10" .u64 Lib.pow10Tab, fun b => Tryd.prog.globalNamed "internal/strconv.uint64pow10" = some b, fun w w' h hw => by
  unfold Lib.TabIs World.var? at hw ⊢
  cases e : Tryd.prog.globalNamed "internal/strconv.uint64pow10" with
  | none => rw [e] at hw; cases hw
  | some b =>
    rw [e] at hw
    simp only [Option.bind_some, h b e] at hw ⊢
    exact hw⟩
noncomputable def Sg.f_laws_szEdit : Fw.PFn := Fw.PFn.get Tryd.f68
noncomputable def Sg.i_laws_szEdit : List (Nat × Fw.PFn) := []
noncomputable def Sg.s_laws_szEdit (K : Nat) : Fw.Sig := { ins := [.val true (.pair .str (.pair (.int .i64) .bool)), .val false (.int .i64)], outs := [⟨false, (.int .i64), false⟩], F := fun x => R.laws_szEdit K x.1 x.2.1 }
noncomputable def Sg.c_laws_szEdit (K : Nat) : Fw.Cfg := { tab := Sg.tab, eqs := Sg.eqs, sig := [], inl := [], lo := [], K := K, jo := [] }
def Sg.h_laws_szEditS_0 : Fw.StSh := ⟨[(0, (.d (.sl (.pair .str (.pair (.int .i64) .bool))))), (1, (.d (.int .i64))), (4, (.d (.int .i64))), (5, (.d (.int .i64)))], [], 0, 27, ⟨0, []⟩⟩
def Sg.o_laws_szEditS_0 : Fw.StSh := ⟨[(1, (.d (.int .i64))), (4, (.d (.int .i64)))], [], 0, 27, ⟨0, []⟩⟩
def Sg.r_laws_szEditS_0 : Fw.StSh := ⟨[(4, (.d (.int .i64)))], [], 0, 27, ⟨0, []⟩⟩
noncomputable def Sg.p_laws_szEditS_0 (K : Nat) : Fw.LSpec := { g := 33, b := 0, lv := 6, l0 := 0, li := 0, head := Sg.h_laws_szEditS_0, post := Sg.o_laws_szEditS_0, retn := Sg.r_laws_szEditS_0, ex := 0, L := R.L_laws_szEditS_0 K }
noncomputable def Sg.f_laws_szEditS : Fw.PFn := Fw.PFn.get Tryd.f33
noncomputable def Sg.i_laws_szEditS : List (Nat × Fw.PFn) := []
noncomputable def Sg.s_laws_szEditS (K : Nat) : Fw.Sig := { ins := [.val false (.sl (.pair .str (.pair (.int .i64) .bool))), .val false (.int .i64)], outs := [⟨false, (.int .i64), false⟩], F := fun x => R.laws_szEditS K x.1 x.2.1 }
noncomputable def Sg.c_laws_szEditS (K : Nat) : Fw.Cfg := { tab := Sg.tab, eqs := Sg.eqs, sig := [(68, Sg.s_laws_szEdit K)], inl := [], lo := Sg.p_laws_szEditS_0 K :: [], K := K, jo := [] }
noncomputable def Sg.f_laws_szWish : Fw.PFn := Fw.PFn.get Tryd.f8
noncomputable def Sg.i_laws_szWish : List (Nat × Fw.PFn) := []
noncomputable def Sg.s_laws_szWish (K : Nat) : Fw.Sig := { ins := [.val true (.pair (.int .i64) (.pair .str (.pair .str (.pair .str (.sl (.pair .str (.pair (.int .i64) .bool))))))), .val false (.int .i64)], outs := [⟨false, (.int .i64), false⟩], F := fun x => R.laws_szWish K x.1 x.2.1 }
noncomputable def Sg.c_laws_szWish (K : Nat) : Fw.Cfg := { tab := Sg.tab, eqs := Sg.eqs, sig := [(33, Sg.s_laws_szEditS K)], inl := [], lo := [], K := K, jo := [] }
noncomputable def Sg.f_laws_toEdit : Fw.PFn := Fw.PFn.get Tryd.f73
noncomputable def Sg.i_laws_toEdit : List (Nat × Fw.PFn) := []
noncomputable def Sg.s_laws_toEdit (K : Nat) : Fw.Sig := { ins := [.val true (.pair .str (.pair (.int .i64) .bool))], outs := [⟨true, (.pair .str (.pair (.int .i64) .bool)), false⟩], F := fun x => R.laws_toEdit K x.1 }
noncomputable def Sg.c_laws_toEdit (K : Nat) : Fw.Cfg := { tab := Sg.tab, eqs := Sg.eqs, sig := [], inl := [], lo := [], K := K, jo := [] }
def Sg.h_laws_toEditS_0 : Fw.StSh := ⟨[(0, (.d (.sl (.pair .str (.pair (.int .i64) .bool))))), (2, (.row 0)), (3, (.row 1)), (4, (.d (.int .i64)))], [(0, (.row (.pair .str (.pair (.int .i64) .bool)) true)), (1, (.row (.pair .str (.pair (.int .i64) .bool)) true))], 2, 23, ⟨0, []⟩⟩
def Sg.o_laws_toEditS_0 : Fw.StSh := ⟨[(2, (.row 0)), (3, (.row 1))], [(0, (.row (.pair .str (.pair (.int .i64) .bool)) true)), (1, (.row (.pair .str (.pair (.int .i64) .bool)) true))], 2, 23, ⟨0, []⟩⟩
def Sg.r_laws_toEditS_0 : Fw.StSh := ⟨[], [], 2, 23, ⟨0, []⟩⟩
noncomputable def Sg.p_laws_toEditS_0 (K : Nat) : Fw.LSpec := { g := 36, b := 0, lv := 6, l0 := 0, li := 0, head := Sg.h_laws_toEditS_0, post := Sg.o_laws_toEditS_0, retn := Sg.r_laws_toEditS_0, ex := 0, L := R.L_laws_toEditS_0 K }
noncomputable def Sg.f_laws_toEditS : Fw.PFn := Fw.PFn.get Tryd.f36
noncomputable def Sg.i_laws_toEditS : List (Nat × Fw.PFn) := []
noncomputable def Sg.s_laws_toEditS (K : Nat) : Fw.Sig := { ins := [.val false (.sl (.pair .str (.pair (.int .i64) .bool)))], outs := [⟨false, (.sl (.pair .str (.pair (.int .i64) .bool))), true⟩], F := fun x => R.laws_toEditS K x.1 }
noncomputable def Sg.c_laws_toEditS (K : Nat) : Fw.Cfg := { tab := Sg.tab, eqs := Sg.eqs, sig := [(73, Sg.s_laws_toEdit K)], inl := [], lo := Sg.p_laws_toEditS_0 K :: [], K := K, jo := [] }
noncomputable def Sg.f_laws_toWish : Fw.PFn := Fw.PFn.get Tryd.f10
noncomputable def Sg.i_laws_toWish : List (Nat × Fw.PFn) := []
noncomputable def Sg.s_laws_toWish (K : Nat) : Fw.Sig := { ins := [.val true (.pair (.int .i64) (.pair .str (.pair .str (.pair .str (.sl (.pair .str (.pair (.int .i64) .bool)))))))], outs := [⟨true, (.pair (.int .i64) (.pair .str (.pair .str (.pair .str (.sl (.pair .str (.pair (.int .i64) .bool))))))), true⟩], F := fun x => R.laws_toWish K x.1 }
noncomputable def Sg.c_laws_toWish (K : Nat) : Fw.Cfg := { tab := Sg.tab, eqs := Sg.eqs, sig := [(36, Sg.s_laws_toEditS K)], inl := [], lo := [], K := K, jo := [] }
noncomputable def Sg.f_spec_l00Letter : Fw.PFn := Fw.PFn.get Tryd.f102
noncomputable def Sg.i_spec_l00Letter : List (Nat × Fw.PFn) := []
noncomputable def Sg.s_spec_l00Letter (K : Nat) : Fw.Sig := { ins := [.val false (.int .u8)], outs := [⟨false, .bool, false⟩], F := fun x => R.spec_l00Letter K x.1 }
noncomputable def Sg.c_spec_l00Letter (K : Nat) : Fw.Cfg := { tab := Sg.tab, eqs := Sg.eqs, sig := [], inl := [], lo := [], K := K, jo := [] }
noncomputable def Sg.f_spec_l00Digit : Fw.PFn := Fw.PFn.get Tryd.f103
noncomputable def Sg.i_spec_l00Digit : List (Nat × Fw.PFn) := []
noncomputable def Sg.s_spec_l00Digit (K : Nat) : Fw.Sig := { ins := [.val false (.int .u8)], outs := [⟨false, .bool, false⟩], F := fun x => R.spec_l00Digit K x.1 }
noncomputable def Sg.c_spec_l00Digit (K : Nat) : Fw.Cfg := { tab := Sg.tab, eqs := Sg.eqs, sig := [], inl := [], lo := [], K := K, jo := [] }
def Sg.h_spec_l00Word_0 : Fw.StSh := ⟨[(0, (.d .str)), (2, (.d .bool)), (3, (.d (.int .i64)))], [], 0, 36, ⟨0, []⟩⟩
def Sg.o_spec_l00Word_0 : Fw.StSh := ⟨[(2, (.d .bool))], [], 0, 36, ⟨0, []⟩⟩
def Sg.r_spec_l00Word_0 : Fw.StSh := ⟨[(2, (.d .bool))], [], 0, 36, ⟨0, []⟩⟩
noncomputable def Sg.p_spec_l00Word_0 (K : Nat) : Fw.LSpec := { g := 69, b := 0, lv := 6, l0 := 0, li := 0, head := Sg.h_spec_l00Word_0, post := Sg.o_spec_l00Word_0, retn := Sg.r_spec_l00Word_0, ex := 0, L := R.L_spec_l00Word_0 K }
noncomputable def Sg.f_spec_l00Word : Fw.PFn := Fw.PFn.get Tryd.f69
noncomputable def Sg.i_spec_l00Word : List (Nat × Fw.PFn) := []
noncomputable def Sg.s_spec_l00Word (K : Nat) : Fw.Sig := { ins := [.val false .str], outs := [⟨false, .bool, false⟩], F := fun x => R.spec_l00Word K x.1 }
noncomputable def Sg.c_spec_l00Word (K : Nat) : Fw.Cfg := { tab := Sg.tab, eqs := Sg.eqs, sig := [(102, Sg.s_spec_l00Letter K), (103, Sg.s_spec_l00Digit K)], inl := [], lo := Sg.p_spec_l00Word_0 K :: [], K := K, jo := [] }
noncomputable def Sg.f_spec_l01In : Fw.PFn := Fw.PFn.get Tryd.f49
noncomputable def Sg.i_spec_l01In : List (Nat × Fw.PFn) := []
noncomputable def Sg.s_spec_l01In (K : Nat) : Fw.Sig := { ins := [.val false (.int .i64), .val false (.int .i64), .val false (.int .i64)], outs := [⟨false, .bool, false⟩], F := fun x => R.spec_l01In K x.1 x.2.1 x.2.2.1 }
noncomputable def Sg.c_spec_l01In (K : Nat) : Fw.Cfg := { tab := Sg.tab, eqs := Sg.eqs, sig := [], inl := [], lo := [], K := K, jo := [] }
def Sg.h_spec_l01Edits_0 : Fw.StSh := ⟨[(0, (.d (.sl (.pair .str (.pair (.int .i64) .bool))))), (2, (.d .bool)), (3, (.d (.int .i64)))], [], 0, 52, ⟨0, []⟩⟩
def Sg.o_spec_l01Edits_0 : Fw.StSh := ⟨[(2, (.d .bool))], [], 0, 52, ⟨0, []⟩⟩
def Sg.r_spec_l01Edits_0 : Fw.StSh := ⟨[(2, (.d .bool))], [], 1, 52, ⟨0, []⟩⟩
noncomputable def Sg.p_spec_l01Edits_0 (K : Nat) : Fw.LSpec := { g := 70, b := 0, lv := 6, l0 := 0, li := 0, head := Sg.h_spec_l01Edits_0, post := Sg.o_spec_l01Edits_0, retn := Sg.r_spec_l01Edits_0, ex := 0, L := R.L_spec_l01Edits_0 K }
noncomputable def Sg.f_spec_l01Edits : Fw.PFn := Fw.PFn.get Tryd.f70
noncomputable def Sg.i_spec_l01Edits : List (Nat × Fw.PFn) := []
noncomputable def Sg.s_spec_l01Edits (K : Nat) : Fw.Sig := { ins := [.val false (.sl (.pair .str (.pair (.int .i64) .bool)))], outs := [⟨false, .bool, false⟩], F := fun x => R.spec_l01Edits K x.1 }
noncomputable def Sg.c_spec_l01Edits (K : Nat) : Fw.Cfg := { tab := Sg.tab, eqs := Sg.eqs, sig := [(69, Sg.s_spec_l00Word K), (49, Sg.s_spec_l01In K)], inl := [], lo := Sg.p_spec_l01Edits_0 K :: [], K := K, jo := ⟨70, 0, 6, 0, 7, none⟩ :: [] }
noncomputable def Sg.f_spec_l07Wish : Fw.PFn := Fw.PFn.get Tryd.f34
noncomputable def Sg.i_spec_l07Wish : List (Nat × Fw.PFn) := []
noncomputable def Sg.s_spec_l07Wish (K : Nat) : Fw.Sig := { ins := [.val true (.pair (.int .i64) (.pair .str (.pair .str (.pair .str (.sl (.pair .str (.pair (.int .i64) .bool)))))))], outs := [⟨false, .bool, false⟩], F := fun x => R.spec_l07Wish K x.1 }
noncomputable def Sg.c_spec_l07Wish (K : Nat) : Fw.Cfg := { tab := Sg.tab, eqs := Sg.eqs, sig := [(69, Sg.s_spec_l00Word K), (49, Sg.s_spec_l01In K), (70, Sg.s_spec_l01Edits K)], inl := [], lo := [], K := K, jo := [] }
noncomputable def Sg.f_spec_l13Kinds : Fw.PFn := Fw.PFn.get Tryd.f71
noncomputable def Sg.i_spec_l13Kinds : List (Nat × Fw.PFn) := []
noncomputable def Sg.s_spec_l13Kinds (K : Nat) : Fw.Sig := { ins := [], outs := [⟨false, (.sl .str), false⟩], F := fun x => R.spec_l13Kinds K  }
noncomputable def Sg.c_spec_l13Kinds (K : Nat) : Fw.Cfg := { tab := Sg.tab, eqs := Sg.eqs, sig := [], inl := [], lo := [], K := K, jo := [] }
def Sg.j_spec_l00Digits_0 : Fw.StSh := ⟨[(2, (.d .str))], [], 1, 28, ⟨0, []⟩⟩
noncomputable def Sg.f_spec_l00Digits : Fw.PFn := Fw.PFn.get Tryd.f82
noncomputable def Sg.i_spec_l00Digits : List (Nat × Fw.PFn) := []
noncomputable def Sg.s_spec_l00Digits (K n : Nat) : Fw.Sig := { ins := [.val false (.int .i64)], outs := [⟨false, .str, false⟩], F := fun x => R.spec_l00Digits K n x.1 }
noncomputable def Sg.c_spec_l00Digits (K : Nat) (rec : (Int) → Option (((List UInt8) × Unit) × Unit)) : Fw.Cfg := { tab := Sg.tab, eqs := Sg.eqs, sig := [(82, { ins := [.val false (.int .i64)], outs := [⟨false, .str, false⟩], F := fun x => rec x.1 })], inl := [], lo := [], K := K, jo := ⟨82, 0, 6, 0, 7, some Sg.j_spec_l00Digits_0⟩ :: [] }
def Sg.h_spec_l13Edits_0 : Fw.StSh := ⟨[(0, (.d (.sl (.pair .str (.pair (.int .i64) .bool))))), (2, (.d .str)), (3, (.d .str)), (4, (.d (.int .i64)))], [], 0, 47, ⟨0, []⟩⟩
def Sg.o_spec_l13Edits_0 : Fw.StSh := ⟨[(2, (.d .str)), (3, (.d .str))], [], 0, 47, ⟨0, []⟩⟩
def Sg.r_spec_l13Edits_0 : Fw.StSh := ⟨[], [], 0, 47, ⟨0, []⟩⟩
noncomputable def Sg.p_spec_l13Edits_0 (K : Nat) : Fw.LSpec := { g := 72, b := 0, lv := 6, l0 := 0, li := 0, head := Sg.h_spec_l13Edits_0, post := Sg.o_spec_l13Edits_0, retn := Sg.r_spec_l13Edits_0, ex := 0, L := R.L_spec_l13Edits_0 K }
noncomputable def Sg.f_spec_l13Edits : Fw.PFn := Fw.PFn.get Tryd.f72
noncomputable def Sg.i_spec_l13Edits : List (Nat × Fw.PFn) := []
noncomputable def Sg.s_spec_l13Edits (K : Nat) : Fw.Sig := { ins := [.val false (.sl (.pair .str (.pair (.int .i64) .bool)))], outs := [⟨false, .str, false⟩], F := fun x => R.spec_l13Edits K x.1 }
noncomputable def Sg.c_spec_l13Edits (K : Nat) : Fw.Cfg := { tab := Sg.tab, eqs := Sg.eqs, sig := [(82, Sg.s_spec_l00Digits K K)], inl := [], lo := Sg.p_spec_l13Edits_0 K :: [], K := K, jo := ⟨72, 0, 6, 0, 11, none⟩ :: [] }
noncomputable def Sg.f_spec_l13Wish : Fw.PFn := Fw.PFn.get Tryd.f35
noncomputable def Sg.i_spec_l13Wish : List (Nat × Fw.PFn) := []
noncomputable def Sg.s_spec_l13Wish (K : Nat) : Fw.Sig := { ins := [.val true (.pair (.int .i64) (.pair .str (.pair .str (.pair .str (.sl (.pair .str (.pair (.int .i64) .bool)))))))], outs := [⟨false, .str, false⟩], F := fun x => R.spec_l13Wish K x.1 }
noncomputable def Sg.c_spec_l13Wish (K : Nat) : Fw.Cfg := { tab := Sg.tab, eqs := Sg.eqs, sig := [(71, Sg.s_spec_l13Kinds K), (72, Sg.s_spec_l13Edits K)], inl := [], lo := [], K := K, jo := ⟨35, 0, 6, 0, 1, none⟩ :: [] }
noncomputable def Sg.f_spec_WishText : Fw.PFn := Fw.PFn.get Tryd.f9
noncomputable def Sg.i_spec_WishText : List (Nat × Fw.PFn) := []
noncomputable def Sg.s_spec_WishText (K : Nat) : Fw.Sig := { ins := [.val true (.pair (.int .i64) (.pair .str (.pair .str (.pair .str (.sl (.pair .str (.pair (.int .i64) .bool)))))))], outs := [⟨false, .str, false⟩, ⟨false, (.int .i64), false⟩], F := fun x => R.spec_WishText K x.1 }
noncomputable def Sg.c_spec_WishText (K : Nat) : Fw.Cfg := { tab := Sg.tab, eqs := Sg.eqs, sig := [(34, Sg.s_spec_l07Wish K), (35, Sg.s_spec_l13Wish K)], inl := [], lo := [], K := K, jo := [] }
noncomputable def Sg.f_impl_hasSource : Fw.PFn := Fw.PFn.get Tryd.f74
noncomputable def Sg.i_impl_hasSource : List (Nat × Fw.PFn) := []
noncomputable def Sg.s_impl_hasSource (K : Nat) : Fw.Sig := { ins := [.val false (.int .i64)], outs := [⟨false, .bool, false⟩], F := fun x => R.impl_hasSource K x.1 }
noncomputable def Sg.c_impl_hasSource (K : Nat) : Fw.Cfg := { tab := Sg.tab, eqs := Sg.eqs, sig := [], inl := [], lo := [], K := K, jo := [] }
noncomputable def Sg.f_slices_Clone_impl_Edit : Fw.PFn := Fw.PFn.get Tryd.f104
noncomputable def Sg.i_slices_Clone_impl_Edit : List (Nat × Fw.PFn) := []
noncomputable def Sg.s_slices_Clone_impl_Edit (K : Nat) : Fw.Sig := { ins := [.val false (.sl (.pair .str (.pair (.int .i64) .bool)))], outs := [⟨false, (.sl (.pair .str (.pair (.int .i64) .bool))), true⟩], F := fun x => R.slices_Clone_impl_Edit K x.1 }
noncomputable def Sg.c_slices_Clone_impl_Edit (K : Nat) : Fw.Cfg := { tab := Sg.tab, eqs := Sg.eqs, sig := [], inl := [], lo := [], K := K, jo := [] }
noncomputable def Sg.f_impl_Wish_op : Fw.PFn := Fw.PFn.get Tryd.f75
noncomputable def Sg.i_impl_Wish_op : List (Nat × Fw.PFn) := []
noncomputable def Sg.s_impl_Wish_op (K : Nat) : Fw.Sig := { ins := [.val true (.pair (.int .i64) (.pair .str (.pair .str (.pair .str (.sl (.pair .str (.pair (.int .i64) .bool))))))), .val false (.int .i64)], outs := [⟨true, (.pair (.int .i64) (.pair (.int .i64) (.pair .str (.pair .str (.sl (.pair .str (.pair (.int .i64) .bool))))))), true⟩], F := fun x => R.impl_Wish_op K x.1 x.2.1 }
noncomputable def Sg.c_impl_Wish_op (K : Nat) : Fw.Cfg := { tab := Sg.tab, eqs := Sg.eqs, sig := [(104, Sg.s_slices_Clone_impl_Edit K)], inl := [], lo := [], K := K, jo := ⟨75, 0, 6, 0, 1, none⟩ :: [] }
noncomputable def Sg.f_impl_within : Fw.PFn := Fw.PFn.get Tryd.f53
noncomputable def Sg.i_impl_within : List (Nat × Fw.PFn) := []
noncomputable def Sg.s_impl_within (K : Nat) : Fw.Sig := { ins := [.val false (.int .i64), .val false (.int .i64), .val false (.int .i64)], outs := [⟨false, .bool, false⟩], F := fun x => R.impl_within K x.1 x.2.1 x.2.2.1 }
noncomputable def Sg.c_impl_within (K : Nat) : Fw.Cfg := { tab := Sg.tab, eqs := Sg.eqs, sig := [], inl := [], lo := [], K := K, jo := [] }
noncomputable def Sg.f_impl_isLetter : Fw.PFn := Fw.PFn.get Tryd.f105
noncomputable def Sg.i_impl_isLetter : List (Nat × Fw.PFn) := []
noncomputable def Sg.s_impl_isLetter (K : Nat) : Fw.Sig := { ins := [.val false (.int .u8)], outs := [⟨false, .bool, false⟩], F := fun x => R.impl_isLetter K x.1 }
noncomputable def Sg.c_impl_isLetter (K : Nat) : Fw.Cfg := { tab := Sg.tab, eqs := Sg.eqs, sig := [], inl := [], lo := [], K := K, jo := [] }
noncomputable def Sg.f_impl_areAll_byte_1 : Fw.PFn := Fw.PFn.get Tryd.f122
noncomputable def Sg.f_slices_IndexFunc_byte : Fw.PFn := Fw.PFn.get Tryd.f136
noncomputable def Sg.f_slices_ContainsFunc_byte : Fw.PFn := Fw.PFn.get Tryd.f121
noncomputable def Sg.f_impl_areAll_byte : Fw.PFn := Fw.PFn.get Tryd.f106
noncomputable def Sg.f_impl_isDigit : Fw.PFn := Fw.PFn.get Tryd.f108
noncomputable def Sg.i_impl_isDigit : List (Nat × Fw.PFn) := []
noncomputable def Sg.s_impl_isDigit (K : Nat) : Fw.Sig := { ins := [.val false (.int .u8)], outs := [⟨false, .bool, false⟩], F := fun x => R.impl_isDigit K x.1 }
noncomputable def Sg.c_impl_isDigit (K : Nat) : Fw.Cfg := { tab := Sg.tab, eqs := Sg.eqs, sig := [], inl := [], lo := [], K := K, jo := [] }
noncomputable def Sg.f_impl_NameOK_1 : Fw.PFn := Fw.PFn.get Tryd.f107
noncomputable def Sg.i_impl_NameOK_1 : List (Nat × Fw.PFn) := []
noncomputable def Sg.s_impl_NameOK_1 (K : Nat) : Fw.Sig := { ins := [.val false (.int .u8)], outs := [⟨false, .bool, false⟩], F := fun x => R.impl_NameOK_1 K x.1 }
noncomputable def Sg.c_impl_NameOK_1 (K : Nat) : Fw.Cfg := { tab := Sg.tab, eqs := Sg.eqs, sig := [(105, Sg.s_impl_isLetter K), (108, Sg.s_impl_isDigit K)], inl := [], lo := [], K := K, jo := [] }
def Sg.h_impl_areAll_byte__impl_NameOK_1_0 : Fw.StSh := ⟨[(0, (.d (.sl (.int .u8)))), (1, (.fn 107 [])), (3, (.ref 0 0)), (4, (.d .bool)), (5, (.d (.sl (.int .u8)))), (6, (.fn 122 [(.ref 0 0)])), (9, (.d (.sl (.int .u8)))), (10, (.fn 122 [(.ref 0 0)])), (13, (.d .bool)), (14, (.d (.sl (.int .u8)))), (15, (.fn 122 [(.ref 0 0)])), (18, (.d (.sl (.int .u8)))), (19, (.fn 122 [(.ref 0 0)])), (22, (.d (.int .i64))), (25, (.d (.int .i64))), (26, (.d (.int .i64)))], [(0, (.box [(.fn 107 [])]))], 1, 37, ⟨0, []⟩⟩
def Sg.o_impl_areAll_byte__impl_NameOK_1_0 : Fw.StSh := ⟨[(0, (.d (.sl (.int .u8)))), (1, (.fn 107 [])), (3, (.ref 0 0)), (4, (.d .bool)), (5, (.d (.sl (.int .u8)))), (6, (.fn 122 [(.ref 0 0)])), (9, (.d (.sl (.int .u8)))), (10, (.fn 122 [(.ref 0 0)])), (13, (.d .bool)), (14, (.d (.sl (.int .u8)))), (15, (.fn 122 [(.ref 0 0)])), (22, (.d (.int .i64)))], [(0, (.box [(.fn 107 [])]))], 1, 37, ⟨0, []⟩⟩
def Sg.r_impl_areAll_byte__impl_NameOK_1_0 : Fw.StSh := ⟨[(0, (.d (.sl (.int .u8)))), (1, (.fn 107 [])), (3, (.ref 0 0)), (4, (.d .bool)), (5, (.d (.sl (.int .u8)))), (6, (.fn 122 [(.ref 0 0)])), (9, (.d (.sl (.int .u8)))), (10, (.fn 122 [(.ref 0 0)])), (13, (.d .bool)), (14, (.d (.sl (.int .u8)))), (15, (.fn 122 [(.ref 0 0)])), (22, (.d (.int .i64)))], [(0, (.box [(.fn 107 [])]))], 1, 45, ⟨0, []⟩⟩
noncomputable def Sg.p_impl_areAll_byte__impl_NameOK_1_0 (K : Nat) : Fw.LSpec := { g := 136, b := 18, lv := 4, l0 := 1, li := 0, head := Sg.h_impl_areAll_byte__impl_NameOK_1_0, post := Sg.o_impl_areAll_byte__impl_NameOK_1_0, retn := Sg.r_impl_areAll_byte__impl_NameOK_1_0, ex := 0, L := R.L_impl_areAll_byte__impl_NameOK_1_0 K }
noncomputable def Sg.i_impl_areAll_byte__impl_NameOK_1 : List (Nat × Fw.PFn) := [(122, Sg.f_impl_areAll_byte_1), (136, Sg.f_slices_IndexFunc_byte), (121, Sg.f_slices_ContainsFunc_byte)]
noncomputable def Sg.s_impl_areAll_byte__impl_NameOK_1 (K : Nat) : Fw.Sig := { ins := [.val false (.sl (.int .u8)), .fn 107 []], outs := [⟨false, .bool, false⟩], F := fun x => R.impl_areAll_byte__impl_NameOK_1 K x.1 }
noncomputable def Sg.c_impl_areAll_byte__impl_NameOK_1 (K : Nat) : Fw.Cfg := { tab := Sg.tab, eqs := Sg.eqs, sig := [(107, Sg.s_impl_NameOK_1 K)], inl := [(122, Tryd.f122), (136, Tryd.f136), (121, Tryd.f121)], lo := Sg.p_impl_areAll_byte__impl_NameOK_1_0 K :: [], K := K, jo := [] }
noncomputable def Sg.f_impl_NameOK : Fw.PFn := Fw.PFn.get Tryd.f76
noncomputable def Sg.i_impl_NameOK : List (Nat × Fw.PFn) := [(122, Sg.f_impl_areAll_byte_1), (136, Sg.f_slices_IndexFunc_byte), (121, Sg.f_slices_ContainsFunc_byte), (106, Sg.f_impl_areAll_byte)]
noncomputable def Sg.s_impl_NameOK (K : Nat) : Fw.Sig := { ins := [.val false .str], outs := [⟨false, .bool, false⟩], F := fun x => R.impl_NameOK K x.1 }
noncomputable def Sg.c_impl_NameOK (K : Nat) : Fw.Cfg := { tab := Sg.tab, eqs := Sg.eqs, sig := [(53, Sg.s_impl_within K), (105, Sg.s_impl_isLetter K), (107, Sg.s_impl_NameOK_1 K), (106, Sg.s_impl_areAll_byte__impl_NameOK_1 K)], inl := [(122, Tryd.f122), (136, Tryd.f136), (121, Tryd.f121), (106, Tryd.f106)], lo := [], K := K, jo := [] }
noncomputable def Sg.f_impl_isHead : Fw.PFn := Fw.PFn.get Tryd.f92
noncomputable def Sg.i_impl_isHead : List (Nat × Fw.PFn) := []
noncomputable def Sg.s_impl_isHead (K : Nat) : Fw.Sig := { ins := [.val false (.int .i64)], outs := [⟨false, .bool, false⟩], F := fun x => R.impl_isHead K x.1 }
noncomputable def Sg.c_impl_isHead (K : Nat) : Fw.Cfg := { tab := Sg.tab, eqs := Sg.eqs, sig := [(53, Sg.s_impl_within K)], inl := [], lo := [], K := K, jo := [] }
noncomputable def Sg.f_impl_isValue : Fw.PFn := Fw.PFn.get Tryd.f100
noncomputable def Sg.i_impl_isValue : List (Nat × Fw.PFn) := []
noncomputable def Sg.s_impl_isValue (K : Nat) : Fw.Sig := { ins := [.val false (.int .i64)], outs := [⟨false, .bool, false⟩], F := fun x => R.impl_isValue K x.1 }
noncomputable def Sg.c_impl_isValue (K : Nat) : Fw.Cfg := { tab := Sg.tab, eqs := Sg.eqs, sig := [(53, Sg.s_impl_within K)], inl := [], lo := [], K := K, jo := [] }
def Sg.h_impl_EditsOK_0 : Fw.StSh := ⟨[(0, (.d (.sl (.pair .str (.pair (.int .i64) .bool))))), (2, (.d .bool)), (5, (.d (.sl (.pair .str (.pair (.int .i64) .bool))))), (6, (.d (.int .i64))), (7, (.d (.int .i64)))], [], 0, 50, ⟨0, []⟩⟩
def Sg.o_impl_EditsOK_0 : Fw.StSh := ⟨[(0, (.d (.sl (.pair .str (.pair (.int .i64) .bool))))), (2, (.d .bool))], [], 0, 50, ⟨0, []⟩⟩
def Sg.r_impl_EditsOK_0 : Fw.StSh := ⟨[(2, (.d .bool))], [], 1, 50, ⟨0, []⟩⟩
noncomputable def Sg.p_impl_EditsOK_0 (K : Nat) : Fw.LSpec := { g := 93, b := 0, lv := 6, l0 := 0, li := 0, head := Sg.h_impl_EditsOK_0, post := Sg.o_impl_EditsOK_0, retn := Sg.r_impl_EditsOK_0, ex := 0, L := R.L_impl_EditsOK_0 K }
noncomputable def Sg.f_impl_EditsOK : Fw.PFn := Fw.PFn.get Tryd.f93
noncomputable def Sg.i_impl_EditsOK : List (Nat × Fw.PFn) := []
noncomputable def Sg.s_impl_EditsOK (K : Nat) : Fw.Sig := { ins := [.val false (.sl (.pair .str (.pair (.int .i64) .bool)))], outs := [⟨false, .bool, false⟩], F := fun x => R.impl_EditsOK K x.1 }
noncomputable def Sg.c_impl_EditsOK (K : Nat) : Fw.Cfg := { tab := Sg.tab, eqs := Sg.eqs, sig := [(76, Sg.s_impl_NameOK K), (100, Sg.s_impl_isValue K)], inl := [], lo := Sg.p_impl_EditsOK_0 K :: [], K := K, jo := ⟨93, 0, 6, 0, 4, none⟩ :: [] }
noncomputable def Sg.f_impl_OpOK : Fw.PFn := Fw.PFn.get Tryd.f55
noncomputable def Sg.i_impl_OpOK : List (Nat × Fw.PFn) := []
noncomputable def Sg.s_impl_OpOK (K : Nat) : Fw.Sig := { ins := [.val true (.pair (.int .i64) (.pair (.int .i64) (.pair .str (.pair .str (.sl (.pair .str (.pair (.int .i64) .bool)))))))], outs := [⟨false, .bool, false⟩], F := fun x => R.impl_OpOK K x.1 }
noncomputable def Sg.c_impl_OpOK (K : Nat) : Fw.Cfg := { tab := Sg.tab, eqs := Sg.eqs, sig := [(53, Sg.s_impl_within K), (76, Sg.s_impl_NameOK K), (92, Sg.s_impl_isHead K), (93, Sg.s_impl_EditsOK K)], inl := [], lo := [], K := K, jo := [] }
noncomputable def Sg.f_impl_WishOK : Fw.PFn := Fw.PFn.get Tryd.f37
noncomputable def Sg.i_impl_WishOK : List (Nat × Fw.PFn) := []
noncomputable def Sg.s_impl_WishOK (K : Nat) : Fw.Sig := { ins := [.val true (.pair (.int .i64) (.pair .str (.pair .str (.pair .str (.sl (.pair .str (.pair (.int .i64) .bool)))))))], outs := [⟨false, .bool, false⟩], F := fun x => R.impl_WishOK K x.1 }
noncomputable def Sg.c_impl_WishOK (K : Nat) : Fw.Cfg := { tab := Sg.tab, eqs := Sg.eqs, sig := [(74, Sg.s_impl_hasSource K), (75, Sg.s_impl_Wish_op K), (76, Sg.s_impl_NameOK K), (55, Sg.s_impl_OpOK K)], inl := [], lo := [], K := K, jo := [] }
noncomputable def Sg.f_impl_kindWords : Fw.PFn := Fw.PFn.get Tryd.f77
noncomputable def Sg.i_impl_kindWords : List (Nat × Fw.PFn) := []
noncomputable def Sg.s_impl_kindWords (K : Nat) : Fw.Sig := { ins := [], outs := [⟨false, (.sl .str), false⟩], F := fun x => R.impl_kindWords K  }
noncomputable def Sg.c_impl_kindWords (K : Nat) : Fw.Cfg := { tab := Sg.tab, eqs := Sg.eqs, sig := [], inl := [], lo := [], K := K, jo := [] }
noncomputable def Sg.s_strconv_Itoa (K : Nat) : Fw.Sig := { ins := [.val false (.int .i64)], outs := [⟨false, .str, false⟩], F := fun x => R.strconv_Itoa K x.1 }
noncomputable def Sg.s_strings_Join (K : Nat) : Fw.Sig := { ins := [.val false (.sl .str), .val false .str], outs := [⟨false, .str, false⟩], F := fun x => R.strings_Join K x.1 x.2.1 }
noncomputable def Sg.f_impl_listed : Fw.PFn := Fw.PFn.get Tryd.f90
noncomputable def Sg.i_impl_listed : List (Nat × Fw.PFn) := []
noncomputable def Sg.s_impl_listed (K : Nat) : Fw.Sig := { ins := [.val false (.sl .str)], outs := [⟨false, .str, false⟩], F := fun x => R.impl_listed K x.1 }
noncomputable def Sg.c_impl_listed (K : Nat) : Fw.Cfg := { tab := Sg.tab, eqs := Sg.eqs, sig := [(113, Sg.s_strings_Join K)], inl := [], lo := [], K := K, jo := [] }
def Sg.h_impl_editsText_0 : Fw.StSh := ⟨[(2, (.d .str)), (3, (.row 0)), (6, (.d (.sl (.pair .str (.pair (.int .i64) .bool))))), (7, (.d (.int .i64))), (8, (.d (.int .i64)))], [(0, (.row .str true))], 1, 33, ⟨0, []⟩⟩
def Sg.o_impl_editsText_0 : Fw.StSh := ⟨[(2, (.d .str)), (3, (.row 0))], [(0, (.row .str true))], 1, 33, ⟨0, []⟩⟩
def Sg.r_impl_editsText_0 : Fw.StSh := ⟨[], [], 1, 33, ⟨0, []⟩⟩
noncomputable def Sg.p_impl_editsText_0 (K : Nat) : Fw.LSpec := { g := 78, b := 0, lv := 6, l0 := 0, li := 0, head := Sg.h_impl_editsText_0, post := Sg.o_impl_editsText_0, retn := Sg.r_impl_editsText_0, ex := 0, L := R.L_impl_editsText_0 K }
noncomputable def Sg.f_impl_editsText : Fw.PFn := Fw.PFn.get Tryd.f78
noncomputable def Sg.i_impl_editsText : List (Nat × Fw.PFn) := []
noncomputable def Sg.s_impl_editsText (K : Nat) : Fw.Sig := { ins := [.val false (.sl (.pair .str (.pair (.int .i64) .bool)))], outs := [⟨false, .str, false⟩], F := fun x => R.impl_editsText K x.1 }
noncomputable def Sg.c_impl_editsText (K : Nat) : Fw.Cfg := { tab := Sg.tab, eqs := Sg.eqs, sig := [(94, Sg.s_strconv_Itoa K), (90, Sg.s_impl_listed K)], inl := [], lo := Sg.p_impl_editsText_0 K :: [], K := K, jo := ⟨78, 0, 6, 0, 7, none⟩ :: [] }
noncomputable def Sg.f_impl_wishText : Fw.PFn := Fw.PFn.get Tryd.f38
noncomputable def Sg.i_impl_wishText : List (Nat × Fw.PFn) := []
noncomputable def Sg.s_impl_wishText (K : Nat) : Fw.Sig := { ins := [.val true (.pair (.int .i64) (.pair .str (.pair .str (.pair .str (.sl (.pair .str (.pair (.int .i64) .bool)))))))], outs := [⟨false, .str, false⟩], F := fun x => R.impl_wishText K x.1 }
noncomputable def Sg.c_impl_wishText (K : Nat) : Fw.Cfg := { tab := Sg.tab, eqs := Sg.eqs, sig := [(77, Sg.s_impl_kindWords K), (78, Sg.s_impl_editsText K)], inl := [], lo := [], K := K, jo := ⟨38, 0, 6, 0, 1, none⟩ :: [] }
noncomputable def Sg.f_impl_WishText : Fw.PFn := Fw.PFn.get Tryd.f11
noncomputable def Sg.i_impl_WishText : List (Nat × Fw.PFn) := []
noncomputable def Sg.s_impl_WishText (K : Nat) : Fw.Sig := { ins := [.val true (.pair (.int .i64) (.pair .str (.pair .str (.pair .str (.sl (.pair .str (.pair (.int .i64) .bool)))))))], outs := [⟨false, .str, false⟩, ⟨false, (.int .i64), false⟩], F := fun x => R.impl_WishText K x.1 }
noncomputable def Sg.c_impl_WishText (K : Nat) : Fw.Cfg := { tab := Sg.tab, eqs := Sg.eqs, sig := [(37, Sg.s_impl_WishOK K), (38, Sg.s_impl_wishText K)], inl := [], lo := [], K := K, jo := [] }
noncomputable def Sg.f_laws_eqEdit : Fw.PFn := Fw.PFn.get Tryd.f67
noncomputable def Sg.i_laws_eqEdit : List (Nat × Fw.PFn) := []
noncomputable def Sg.s_laws_eqEdit (K : Nat) : Fw.Sig := { ins := [.val true (.pair .str (.pair (.int .i64) .bool)), .val true (.pair .str (.pair (.int .i64) .bool))], outs := [⟨false, .bool, false⟩], F := fun x => R.laws_eqEdit K x.1 x.2.1 }
noncomputable def Sg.c_laws_eqEdit (K : Nat) : Fw.Cfg := { tab := Sg.tab, eqs := Sg.eqs, sig := [], inl := [], lo := [], K := K, jo := [] }
def Sg.h_laws_eqEditS_0 : Fw.StSh := ⟨[(0, (.d (.sl (.pair .str (.pair (.int .i64) .bool))))), (1, (.d (.sl (.pair .str (.pair (.int .i64) .bool))))), (4, (.d .bool)), (5, (.d (.int .i64)))], [], 0, 27, ⟨0, []⟩⟩
def Sg.o_laws_eqEditS_0 : Fw.StSh := ⟨[(4, (.d .bool))], [], 0, 27, ⟨0, []⟩⟩
def Sg.r_laws_eqEditS_0 : Fw.StSh := ⟨[(4, (.d .bool))], [], 0, 27, ⟨0, []⟩⟩
noncomputable def Sg.p_laws_eqEditS_0 (K : Nat) : Fw.LSpec := { g := 30, b := 0, lv := 6, l0 := 0, li := 0, head := Sg.h_laws_eqEditS_0, post := Sg.o_laws_eqEditS_0, retn := Sg.r_laws_eqEditS_0, ex := 0, L := R.L_laws_eqEditS_0 K }
noncomputable def Sg.f_laws_eqEditS : Fw.PFn := Fw.PFn.get Tryd.f30
noncomputable def Sg.i_laws_eqEditS : List (Nat × Fw.PFn) := []
noncomputable def Sg.s_laws_eqEditS (K : Nat) : Fw.Sig := { ins := [.val false (.sl (.pair .str (.pair (.int .i64) .bool))), .val false (.sl (.pair .str (.pair (.int .i64) .bool)))], outs := [⟨false, .bool, false⟩], F := fun x => R.laws_eqEditS K x.1 x.2.1 }
noncomputable def Sg.c_laws_eqEditS (K : Nat) : Fw.Cfg := { tab := Sg.tab, eqs := Sg.eqs, sig := [(67, Sg.s_laws_eqEdit K)], inl := [], lo := Sg.p_laws_eqEditS_0 K :: [], K := K, jo := ⟨30, 0, 6, 0, 6, none⟩ :: [] }
noncomputable def Sg.f_laws_eqWish : Fw.PFn := Fw.PFn.get Tryd.f12
noncomputable def Sg.i_laws_eqWish : List (Nat × Fw.PFn) := []
noncomputable def Sg.s_laws_eqWish (K : Nat) : Fw.Sig := { ins := [.val true (.pair (.int .i64) (.pair .str (.pair .str (.pair .str (.sl (.pair .str (.pair (.int .i64) .bool))))))), .val true (.pair (.int .i64) (.pair .str (.pair .str (.pair .str (.sl (.pair .str (.pair (.int .i64) .bool)))))))], outs := [⟨false, .bool, false⟩], F := fun x => R.laws_eqWish K x.1 x.2.1 }
noncomputable def Sg.c_laws_eqWish (K : Nat) : Fw.Cfg := { tab := Sg.tab, eqs := Sg.eqs, sig := [(30, Sg.s_laws_eqEditS K)], inl := [], lo := [], K := K, jo := [] }
noncomputable def Sg.f_laws_FnExactWishText : Fw.PFn := Fw.PFn.get Tryd.f3
noncomputable def Sg.i_laws_FnExactWishText : List (Nat × Fw.PFn) := []
noncomputable def Sg.s_laws_FnExactWishText (K : Nat) : Fw.Sig := { ins := [.val true (.pair (.int .i64) (.pair .str (.pair .str (.pair .str (.sl (.pair .str (.pair (.int .i64) .bool)))))))], outs := [⟨false, .bool, false⟩], F := fun x => R.laws_FnExactWishText K x.1 }
noncomputable def Sg.c_laws_FnExactWishText (K : Nat) : Fw.Cfg := { tab := Sg.tab, eqs := Sg.eqs, sig := [(8, Sg.s_laws_szWish K), (10, Sg.s_laws_toWish K), (9, Sg.s_spec_WishText K), (11, Sg.s_impl_WishText K), (12, Sg.s_laws_eqWish K)], inl := [], lo := [], K := K, jo := ⟨3, 0, 6, 0, 10, none⟩ :: [] }
def Sg.h_laws_szStringS_0 : Fw.StSh := ⟨[(0, (.d (.sl .str))), (1, (.d (.int .i64))), (4, (.d (.int .i64))), (5, (.d (.int .i64)))], [], 0, 28, ⟨0, []⟩⟩
def Sg.o_laws_szStringS_0 : Fw.StSh := ⟨[(1, (.d (.int .i64))), (4, (.d (.int .i64)))], [], 0, 28, ⟨0, []⟩⟩
def Sg.r_laws_szStringS_0 : Fw.StSh := ⟨[(4, (.d (.int .i64)))], [], 0, 28, ⟨0, []⟩⟩
noncomputable def Sg.p_laws_szStringS_0 (K : Nat) : Fw.LSpec := { g := 39, b := 0, lv := 6, l0 := 0, li := 0, head := Sg.h_laws_szStringS_0, post := Sg.o_laws_szStringS_0, retn := Sg.r_laws_szStringS_0, ex := 0, L := R.L_laws_szStringS_0 K }
noncomputable def Sg.f_laws_szStringS : Fw.PFn := Fw.PFn.get Tryd.f39
noncomputable def Sg.i_laws_szStringS : List (Nat × Fw.PFn) := []
noncomputable def Sg.s_laws_szStringS (K : Nat) : Fw.Sig := { ins := [.val false (.sl .str), .val false (.int .i64)], outs := [⟨false, (.int .i64), false⟩], F := fun x => R.laws_szStringS K x.1 x.2.1 }
noncomputable def Sg.c_laws_szStringS (K : Nat) : Fw.Cfg := { tab := Sg.tab, eqs := Sg.eqs, sig := [], inl := [], lo := Sg.p_laws_szStringS_0 K :: [], K := K, jo := [] }
noncomputable def Sg.f_laws_szEntry : Fw.PFn := Fw.PFn.get Tryd.f79
noncomputable def Sg.i_laws_szEntry : List (Nat × Fw.PFn) := []
noncomputable def Sg.s_laws_szEntry (K : Nat) : Fw.Sig := { ins := [.val true (.pair .str (.int .i64)), .val false (.int .i64)], outs := [⟨false, (.int .i64), false⟩], F := fun x => R.laws_szEntry K x.1 x.2.1 }
noncomputable def Sg.c_laws_szEntry (K : Nat) : Fw.Cfg := { tab := Sg.tab, eqs := Sg.eqs, sig := [], inl := [], lo := [], K := K, jo := [] }
def Sg.h_laws_szEntryS_0 : Fw.StSh := ⟨[(0, (.d (.sl (.pair .str (.int .i64))))), (1, (.d (.int .i64))), (4, (.d (.int .i64))), (5, (.d (.int .i64)))], [], 0, 27, ⟨0, []⟩⟩
def Sg.o_laws_szEntryS_0 : Fw.StSh := ⟨[(1, (.d (.int .i64))), (4, (.d (.int .i64)))], [], 0, 27, ⟨0, []⟩⟩
def Sg.r_laws_szEntryS_0 : Fw.StSh := ⟨[(4, (.d (.int .i64)))], [], 0, 27, ⟨0, []⟩⟩
noncomputable def Sg.p_laws_szEntryS_0 (K : Nat) : Fw.LSpec := { g := 40, b := 0, lv := 6, l0 := 0, li := 0, head := Sg.h_laws_szEntryS_0, post := Sg.o_laws_szEntryS_0, retn := Sg.r_laws_szEntryS_0, ex := 0, L := R.L_laws_szEntryS_0 K }
noncomputable def Sg.f_laws_szEntryS : Fw.PFn := Fw.PFn.get Tryd.f40
noncomputable def Sg.i_laws_szEntryS : List (Nat × Fw.PFn) := []
noncomputable def Sg.s_laws_szEntryS (K : Nat) : Fw.Sig := { ins := [.val false (.sl (.pair .str (.int .i64))), .val false (.int .i64)], outs := [⟨false, (.int .i64), false⟩], F := fun x => R.laws_szEntryS K x.1 x.2.1 }
noncomputable def Sg.c_laws_szEntryS (K : Nat) : Fw.Cfg := { tab := Sg.tab, eqs := Sg.eqs, sig := [(79, Sg.s_laws_szEntry K)], inl := [], lo := Sg.p_laws_szEntryS_0 K :: [], K := K, jo := [] }
noncomputable def Sg.f_laws_szResult : Fw.PFn := Fw.PFn.get Tryd.f13
noncomputable def Sg.i_laws_szResult : List (Nat × Fw.PFn) := []
noncomputable def Sg.s_laws_szResult (K : Nat) : Fw.Sig := { ins := [.val true (.pair (.int .i64) (.pair (.int .i64) (.pair (.int .i64) (.pair (.sl .str) (.sl (.pair .str (.int .i64))))))), .val false (.int .i64)], outs := [⟨false, (.int .i64), false⟩], F := fun x => R.laws_szResult K x.1 x.2.1 }
noncomputable def Sg.c_laws_szResult (K : Nat) : Fw.Cfg := { tab := Sg.tab, eqs := Sg.eqs, sig := [(39, Sg.s_laws_szStringS K), (40, Sg.s_laws_szEntryS K)], inl := [], lo := [], K := K, jo := [] }
def Sg.h_laws_toStringS_0 : Fw.StSh := ⟨[(0, (.d (.sl .str))), (2, (.row 0)), (3, (.row 1)), (4, (.d (.int .i64)))], [(0, (.row .str true)), (1, (.row .str true))], 2, 22, ⟨0, []⟩⟩
def Sg.o_laws_toStringS_0 : Fw.StSh := ⟨[(2, (.row 0)), (3, (.row 1))], [(0, (.row .str true)), (1, (.row .str true))], 2, 22, ⟨0, []⟩⟩
def Sg.r_laws_toStringS_0 : Fw.StSh := ⟨[], [], 2, 22, ⟨0, []⟩⟩
noncomputable def Sg.p_laws_toStringS_0 (K : Nat) : Fw.LSpec := { g := 43, b := 0, lv := 6, l0 := 0, li := 0, head := Sg.h_laws_toStringS_0, post := Sg.o_laws_toStringS_0, retn := Sg.r_laws_toStringS_0, ex := 0, L := R.L_laws_toStringS_0 K }
noncomputable def Sg.f_laws_toStringS : Fw.PFn := Fw.PFn.get Tryd.f43
noncomputable def Sg.i_laws_toStringS : List (Nat × Fw.PFn) := []
noncomputable def Sg.s_laws_toStringS (K : Nat) : Fw.Sig := { ins := [.val false (.sl .str)], outs := [⟨false, (.sl .str), true⟩], F := fun x => R.laws_toStringS K x.1 }
noncomputable def Sg.c_laws_toStringS (K : Nat) : Fw.Cfg := { tab := Sg.tab, eqs := Sg.eqs, sig := [], inl := [], lo := Sg.p_laws_toStringS_0 K :: [], K := K, jo := [] }
noncomputable def Sg.f_laws_toEntry : Fw.PFn := Fw.PFn.get Tryd.f85
noncomputable def Sg.i_laws_toEntry : List (Nat × Fw.PFn) := []
noncomputable def Sg.s_laws_toEntry (K : Nat) : Fw.Sig := { ins := [.val true (.pair .str (.int .i64))], outs := [⟨true, (.pair .str (.int .i64)), false⟩], F := fun x => R.laws_toEntry K x.1 }
noncomputable def Sg.c_laws_toEntry (K : Nat) : Fw.Cfg := { tab := Sg.tab, eqs := Sg.eqs, sig := [], inl := [], lo := [], K := K, jo := [] }
def Sg.h_laws_toEntryS_0 : Fw.StSh := ⟨[(0, (.d (.sl (.pair .str (.int .i64))))), (2, (.row 0)), (3, (.row 1)), (4, (.d (.int .i64)))], [(0, (.row (.pair .str (.int .i64)) true)), (1, (.row (.pair .str (.int .i64)) true))], 2, 23, ⟨0, []⟩⟩
def Sg.o_laws_toEntryS_0 : Fw.StSh := ⟨[(2, (.row 0)), (3, (.row 1))], [(0, (.row (.pair .str (.int .i64)) true)), (1, (.row (.pair .str (.int .i64)) true))], 2, 23, ⟨0, []⟩⟩
def Sg.r_laws_toEntryS_0 : Fw.StSh := ⟨[], [], 2, 23, ⟨0, []⟩⟩
noncomputable def Sg.p_laws_toEntryS_0 (K : Nat) : Fw.LSpec := { g := 44, b := 0, lv := 6, l0 := 0, li := 0, head := Sg.h_laws_toEntryS_0, post := Sg.o_laws_toEntryS_0, retn := Sg.r_laws_toEntryS_0, ex := 0, L := R.L_laws_toEntryS_0 K }
noncomputable def Sg.f_laws_toEntryS : Fw.PFn := Fw.PFn.get Tryd.f44
noncomputable def Sg.i_laws_toEntryS : List (Nat × Fw.PFn) := []
noncomputable def Sg.s_laws_toEntryS (K : Nat) : Fw.Sig := { ins := [.val false (.sl (.pair .str (.int .i64)))], outs := [⟨false, (.sl (.pair .str (.int .i64))), true⟩], F := fun x => R.laws_toEntryS K x.1 }
noncomputable def Sg.c_laws_toEntryS (K : Nat) : Fw.Cfg := { tab := Sg.tab, eqs := Sg.eqs, sig := [(85, Sg.s_laws_toEntry K)], inl := [], lo := Sg.p_laws_toEntryS_0 K :: [], K := K, jo := [] }
noncomputable def Sg.f_laws_toResult : Fw.PFn := Fw.PFn.get Tryd.f15
noncomputable def Sg.i_laws_toResult : List (Nat × Fw.PFn) := []
noncomputable def Sg.s_laws_toResult (K : Nat) : Fw.Sig := { ins := [.val true (.pair (.int .i64) (.pair (.int .i64) (.pair (.int .i64) (.pair (.sl .str) (.sl (.pair .str (.int .i64)))))))], outs := [⟨true, (.pair (.int .i64) (.pair (.int .i64) (.pair (.int .i64) (.pair (.sl .str) (.sl (.pair .str (.int .i64))))))), true⟩], F := fun x => R.laws_toResult K x.1 }
noncomputable def Sg.c_laws_toResult (K : Nat) : Fw.Cfg := { tab := Sg.tab, eqs := Sg.eqs, sig := [(43, Sg.s_laws_toStringS K), (44, Sg.s_laws_toEntryS K)], inl := [], lo := [], K := K, jo := [] }
def Sg.h_spec_l01OK_0 : Fw.StSh := ⟨[(0, (.d (.sl (.pair .str (.int .i64))))), (2, (.d .bool)), (3, (.d (.int .i64)))], [], 0, 47, ⟨0, []⟩⟩
def Sg.o_spec_l01OK_0 : Fw.StSh := ⟨[(2, (.d .bool))], [], 0, 47, ⟨0, []⟩⟩
def Sg.r_spec_l01OK_0 : Fw.StSh := ⟨[(2, (.d .bool))], [], 0, 47, ⟨0, []⟩⟩
noncomputable def Sg.p_spec_l01OK_0 (K : Nat) : Fw.LSpec := { g := 80, b := 0, lv := 6, l0 := 0, li := 0, head := Sg.h_spec_l01OK_0, post := Sg.o_spec_l01OK_0, retn := Sg.r_spec_l01OK_0, ex := 0, L := R.L_spec_l01OK_0 K }
noncomputable def Sg.f_spec_l01OK : Fw.PFn := Fw.PFn.get Tryd.f80
noncomputable def Sg.i_spec_l01OK : List (Nat × Fw.PFn) := []
noncomputable def Sg.s_spec_l01OK (K : Nat) : Fw.Sig := { ins := [.val false (.sl (.pair .str (.int .i64)))], outs := [⟨false, .bool, false⟩], F := fun x => R.spec_l01OK K x.1 }
noncomputable def Sg.c_spec_l01OK (K : Nat) : Fw.Cfg := { tab := Sg.tab, eqs := Sg.eqs, sig := [(69, Sg.s_spec_l00Word K), (49, Sg.s_spec_l01In K)], inl := [], lo := Sg.p_spec_l01OK_0 K :: [], K := K, jo := ⟨80, 0, 6, 0, 6, none⟩ :: [] }
def Sg.h_spec_l13OK_0 : Fw.StSh := ⟨[(1, (.ref 0 0)), (2, (.d .bool)), (3, (.d (.int .i64)))], [(0, (.box [(.d (.int .i64)), (.d (.int .i64)), (.d (.int .i64)), (.d (.sl .str)), (.d (.sl (.pair .str (.int .i64))))]))], 1, 46, ⟨0, []⟩⟩
def Sg.o_spec_l13OK_0 : Fw.StSh := ⟨[(2, (.d .bool))], [], 1, 46, ⟨0, []⟩⟩
def Sg.r_spec_l13OK_0 : Fw.StSh := ⟨[(2, (.d .bool))], [], 1, 46, ⟨0, []⟩⟩
noncomputable def Sg.p_spec_l13OK_0 (K : Nat) : Fw.LSpec := { g := 41, b := 0, lv := 6, l0 := 0, li := 0, head := Sg.h_spec_l13OK_0, post := Sg.o_spec_l13OK_0, retn := Sg.r_spec_l13OK_0, ex := 0, L := R.L_spec_l13OK_0 K }
noncomputable def Sg.f_spec_l13OK : Fw.PFn := Fw.PFn.get Tryd.f41
noncomputable def Sg.i_spec_l13OK : List (Nat × Fw.PFn) := []
noncomputable def Sg.s_spec_l13OK (K : Nat) : Fw.Sig := { ins := [.val true (.pair (.int .i64) (.pair (.int .i64) (.pair (.int .i64) (.pair (.sl .str) (.sl (.pair .str (.int .i64)))))))], outs := [⟨false, .bool, false⟩], F := fun x => R.spec_l13OK K x.1 }
noncomputable def Sg.c_spec_l13OK (K : Nat) : Fw.Cfg := { tab := Sg.tab, eqs := Sg.eqs, sig := [(69, Sg.s_spec_l00Word K), (49, Sg.s_spec_l01In K), (80, Sg.s_spec_l01OK K)], inl := [], lo := Sg.p_spec_l13OK_0 K :: [], K := K, jo := [] }
noncomputable def Sg.f_spec_CodeWord : Fw.PFn := Fw.PFn.get Tryd.f81
noncomputable def Sg.i_spec_CodeWord : List (Nat × Fw.PFn) := []
noncomputable def Sg.s_spec_CodeWord (K : Nat) : Fw.Sig := { ins := [.val false (.int .i64)], outs := [⟨false, .str, false⟩], F := fun x => R.spec_CodeWord K x.1 }
noncomputable def Sg.c_spec_CodeWord (K : Nat) : Fw.Cfg := { tab := Sg.tab, eqs := Sg.eqs, sig := [], inl := [], lo := [], K := K, jo := [] }
def Sg.h_spec_l00Join_0 : Fw.StSh := ⟨[(0, (.d (.sl .str))), (1, (.d .str)), (4, (.d .str)), (5, (.d .str)), (6, (.d (.int .i64)))], [], 0, 25, ⟨0, []⟩⟩
def Sg.o_spec_l00Join_0 : Fw.StSh := ⟨[(4, (.d .str)), (5, (.d .str))], [], 0, 25, ⟨0, []⟩⟩
def Sg.r_spec_l00Join_0 : Fw.StSh := ⟨[], [], 0, 25, ⟨0, []⟩⟩
noncomputable def Sg.p_spec_l00Join_0 (K : Nat) : Fw.LSpec := { g := 83, b := 0, lv := 6, l0 := 0, li := 0, head := Sg.h_spec_l00Join_0, post := Sg.o_spec_l00Join_0, retn := Sg.r_spec_l00Join_0, ex := 0, L := R.L_spec_l00Join_0 K }
noncomputable def Sg.f_spec_l00Join : Fw.PFn := Fw.PFn.get Tryd.f83
noncomputable def Sg.i_spec_l00Join : List (Nat × Fw.PFn) := []
noncomputable def Sg.s_spec_l00Join (K : Nat) : Fw.Sig := { ins := [.val false (.sl .str), .val false .str], outs := [⟨false, .str, false⟩], F := fun x => R.spec_l00Join K x.1 x.2.1 }
noncomputable def Sg.c_spec_l00Join (K : Nat) : Fw.Cfg := { tab := Sg.tab, eqs := Sg.eqs, sig := [], inl := [], lo := Sg.p_spec_l00Join_0 K :: [], K := K, jo := [] }
def Sg.h_spec_l13Map_0 : Fw.StSh := ⟨[(0, (.d (.sl (.pair .str (.int .i64))))), (2, (.d .str)), (3, (.d .str)), (4, (.d (.int .i64)))], [], 0, 34, ⟨0, []⟩⟩
def Sg.o_spec_l13Map_0 : Fw.StSh := ⟨[(2, (.d .str)), (3, (.d .str))], [], 0, 34, ⟨0, []⟩⟩
def Sg.r_spec_l13Map_0 : Fw.StSh := ⟨[], [], 0, 34, ⟨0, []⟩⟩
noncomputable def Sg.p_spec_l13Map_0 (K : Nat) : Fw.LSpec := { g := 84, b := 0, lv := 6, l0 := 0, li := 0, head := Sg.h_spec_l13Map_0, post := Sg.o_spec_l13Map_0, retn := Sg.r_spec_l13Map_0, ex := 0, L := R.L_spec_l13Map_0 K }
noncomputable def Sg.f_spec_l13Map : Fw.PFn := Fw.PFn.get Tryd.f84
noncomputable def Sg.i_spec_l13Map : List (Nat × Fw.PFn) := []
noncomputable def Sg.s_spec_l13Map (K : Nat) : Fw.Sig := { ins := [.val false (.sl (.pair .str (.int .i64)))], outs := [⟨false, .str, false⟩], F := fun x => R.spec_l13Map K x.1 }
noncomputable def Sg.c_spec_l13Map (K : Nat) : Fw.Cfg := { tab := Sg.tab, eqs := Sg.eqs, sig := [(82, Sg.s_spec_l00Digits K K)], inl := [], lo := Sg.p_spec_l13Map_0 K :: [], K := K, jo := ⟨84, 0, 6, 0, 9, none⟩ :: [] }
noncomputable def Sg.f_spec_l13Result : Fw.PFn := Fw.PFn.get Tryd.f42
noncomputable def Sg.i_spec_l13Result : List (Nat × Fw.PFn) := []
noncomputable def Sg.s_spec_l13Result (K : Nat) : Fw.Sig := { ins := [.val true (.pair (.int .i64) (.pair (.int .i64) (.pair (.int .i64) (.pair (.sl .str) (.sl (.pair .str (.int .i64)))))))], outs := [⟨false, .str, false⟩], F := fun x => R.spec_l13Result K x.1 }
noncomputable def Sg.c_spec_l13Result (K : Nat) : Fw.Cfg := { tab := Sg.tab, eqs := Sg.eqs, sig := [(82, Sg.s_spec_l00Digits K K), (81, Sg.s_spec_CodeWord K), (83, Sg.s_spec_l00Join K), (84, Sg.s_spec_l13Map K)], inl := [], lo := [], K := K, jo := [] }
noncomputable def Sg.f_spec_ResultText : Fw.PFn := Fw.PFn.get Tryd.f14
noncomputable def Sg.i_spec_ResultText : List (Nat × Fw.PFn) := []
noncomputable def Sg.s_spec_ResultText (K : Nat) : Fw.Sig := { ins := [.val true (.pair (.int .i64) (.pair (.int .i64) (.pair (.int .i64) (.pair (.sl .str) (.sl (.pair .str (.int .i64)))))))], outs := [⟨false, .str, false⟩, ⟨false, (.int .i64), false⟩], F := fun x => R.spec_ResultText K x.1 }
noncomputable def Sg.c_spec_ResultText (K : Nat) : Fw.Cfg := { tab := Sg.tab, eqs := Sg.eqs, sig := [(41, Sg.s_spec_l13OK K), (42, Sg.s_spec_l13Result K)], inl := [], lo := [], K := K, jo := [] }
noncomputable def Sg.f_impl_isCode : Fw.PFn := Fw.PFn.get Tryd.f109
noncomputable def Sg.i_impl_isCode : List (Nat × Fw.PFn) := []
noncomputable def Sg.s_impl_isCode (K : Nat) : Fw.Sig := { ins := [.val false (.int .i64)], outs := [⟨false, .bool, false⟩], F := fun x => R.impl_isCode K x.1 }
noncomputable def Sg.c_impl_isCode (K : Nat) : Fw.Cfg := { tab := Sg.tab, eqs := Sg.eqs, sig := [(53, Sg.s_impl_within K)], inl := [], lo := [], K := K, jo := [] }
def Sg.h_impl_MapOK_0 : Fw.StSh := ⟨[(0, (.d (.sl (.pair .str (.int .i64))))), (2, (.d .bool)), (5, (.d (.sl (.pair .str (.int .i64))))), (6, (.d (.int .i64))), (7, (.d (.int .i64)))], [], 0, 41, ⟨0, []⟩⟩
def Sg.o_impl_MapOK_0 : Fw.StSh := ⟨[(0, (.d (.sl (.pair .str (.int .i64))))), (2, (.d .bool))], [], 0, 41, ⟨0, []⟩⟩
def Sg.r_impl_MapOK_0 : Fw.StSh := ⟨[(2, (.d .bool))], [], 1, 41, ⟨0, []⟩⟩
noncomputable def Sg.p_impl_MapOK_0 (K : Nat) : Fw.LSpec := { g := 62, b := 0, lv := 6, l0 := 0, li := 0, head := Sg.h_impl_MapOK_0, post := Sg.o_impl_MapOK_0, retn := Sg.r_impl_MapOK_0, ex := 0, L := R.L_impl_MapOK_0 K }
noncomputable def Sg.f_impl_MapOK : Fw.PFn := Fw.PFn.get Tryd.f62
noncomputable def Sg.i_impl_MapOK : List (Nat × Fw.PFn) := []
noncomputable def Sg.s_impl_MapOK (K : Nat) : Fw.Sig := { ins := [.val false (.sl (.pair .str (.int .i64)))], outs := [⟨false, .bool, false⟩], F := fun x => R.impl_MapOK K x.1 }
noncomputable def Sg.c_impl_MapOK (K : Nat) : Fw.Cfg := { tab := Sg.tab, eqs := Sg.eqs, sig := [(76, Sg.s_impl_NameOK K), (100, Sg.s_impl_isValue K)], inl := [], lo := Sg.p_impl_MapOK_0 K :: [], K := K, jo := ⟨62, 0, 6, 0, 4, none⟩ :: [] }
noncomputable def Sg.f_impl_isResult : Fw.PFn := Fw.PFn.get Tryd.f86
noncomputable def Sg.i_impl_isResult : List (Nat × Fw.PFn) := []
noncomputable def Sg.s_impl_isResult (K : Nat) : Fw.Sig := { ins := [.val true (.pair (.int .i64) (.pair (.int .i64) (.pair (.int .i64) (.pair (.sl .str) (.sl (.pair .str (.int .i64))))))), .val false (.int .i64)], outs := [⟨false, .bool, false⟩], F := fun x => R.impl_isResult K x.1 x.2.1 }
noncomputable def Sg.c_impl_isResult (K : Nat) : Fw.Cfg := { tab := Sg.tab, eqs := Sg.eqs, sig := [(53, Sg.s_impl_within K), (100, Sg.s_impl_isValue K), (109, Sg.s_impl_isCode K), (62, Sg.s_impl_MapOK K)], inl := [], lo := [], K := K, jo := [] }
noncomputable def Sg.f_impl_areAll_string_1 : Fw.PFn := Fw.PFn.get Tryd.f111
noncomputable def Sg.f_slices_IndexFunc_string : Fw.PFn := Fw.PFn.get Tryd.f123
noncomputable def Sg.f_slices_ContainsFunc_string : Fw.PFn := Fw.PFn.get Tryd.f110
noncomputable def Sg.f_impl_areAll_string : Fw.PFn := Fw.PFn.get Tryd.f87
def Sg.h_impl_areAll_string__impl_NameOK_0 : Fw.StSh := ⟨[(0, (.d (.sl .str))), (1, (.fn 76 [])), (3, (.ref 0 0)), (4, (.d .bool)), (5, (.d (.sl .str))), (6, (.fn 111 [(.ref 0 0)])), (9, (.d (.sl .str))), (10, (.fn 111 [(.ref 0 0)])), (13, (.d .bool)), (14, (.d (.sl .str))), (15, (.fn 111 [(.ref 0 0)])), (18, (.d (.sl .str))), (19, (.fn 111 [(.ref 0 0)])), (22, (.d (.int .i64))), (25, (.d (.int .i64))), (26, (.d (.int .i64)))], [(0, (.box [(.fn 76 [])]))], 1, 37, ⟨0, []⟩⟩
def Sg.o_impl_areAll_string__impl_NameOK_0 : Fw.StSh := ⟨[(0, (.d (.sl .str))), (1, (.fn 76 [])), (3, (.ref 0 0)), (4, (.d .bool)), (5, (.d (.sl .str))), (6, (.fn 111 [(.ref 0 0)])), (9, (.d (.sl .str))), (10, (.fn 111 [(.ref 0 0)])), (13, (.d .bool)), (14, (.d (.sl .str))), (15, (.fn 111 [(.ref 0 0)])), (22, (.d (.int .i64)))], [(0, (.box [(.fn 76 [])]))], 1, 37, ⟨0, []⟩⟩
def Sg.r_impl_areAll_string__impl_NameOK_0 : Fw.StSh := ⟨[(0, (.d (.sl .str))), (1, (.fn 76 [])), (3, (.ref 0 0)), (4, (.d .bool)), (5, (.d (.sl .str))), (6, (.fn 111 [(.ref 0 0)])), (9, (.d (.sl .str))), (10, (.fn 111 [(.ref 0 0)])), (13, (.d .bool)), (14, (.d (.sl .str))), (15, (.fn 111 [(.ref 0 0)])), (22, (.d (.int .i64)))], [(0, (.box [(.fn 76 [])]))], 1, 45, ⟨0, []⟩⟩
noncomputable def Sg.p_impl_areAll_string__impl_NameOK_0 (K : Nat) : Fw.LSpec := { g := 123, b := 18, lv := 4, l0 := 1, li := 0, head := Sg.h_impl_areAll_string__impl_NameOK_0, post := Sg.o_impl_areAll_string__impl_NameOK_0, retn := Sg.r_impl_areAll_string__impl_NameOK_0, ex := 0, L := R.L_impl_areAll_string__impl_NameOK_0 K }
noncomputable def Sg.i_impl_areAll_string__impl_NameOK : List (Nat × Fw.PFn) := [(111, Sg.f_impl_areAll_string_1), (123, Sg.f_slices_IndexFunc_string), (110, Sg.f_slices_ContainsFunc_string)]
noncomputable def Sg.s_impl_areAll_string__impl_NameOK (K : Nat) : Fw.Sig := { ins := [.val false (.sl .str), .fn 76 []], outs := [⟨false, .bool, false⟩], F := fun x => R.impl_areAll_string__impl_NameOK K x.1 }
noncomputable def Sg.c_impl_areAll_string__impl_NameOK (K : Nat) : Fw.Cfg := { tab := Sg.tab, eqs := Sg.eqs, sig := [(76, Sg.s_impl_NameOK K)], inl := [(111, Tryd.f111), (123, Tryd.f123), (110, Tryd.f110)], lo := Sg.p_impl_areAll_string__impl_NameOK_0 K :: [], K := K, jo := [] }
noncomputable def Sg.f_impl_hasText : Fw.PFn := Fw.PFn.get Tryd.f45
noncomputable def Sg.i_impl_hasText : List (Nat × Fw.PFn) := [(111, Sg.f_impl_areAll_string_1), (123, Sg.f_slices_IndexFunc_string), (110, Sg.f_slices_ContainsFunc_string), (87, Sg.f_impl_areAll_string)]
noncomputable def Sg.s_impl_hasText (K : Nat) : Fw.Sig := { ins := [.val true (.pair (.int .i64) (.pair (.int .i64) (.pair (.int .i64) (.pair (.sl .str) (.sl (.pair .str (.int .i64)))))))], outs := [⟨false, .bool, false⟩], F := fun x => R.impl_hasText K x.1 }
noncomputable def Sg.c_impl_hasText (K : Nat) : Fw.Cfg := { tab := Sg.tab, eqs := Sg.eqs, sig := [(76, Sg.s_impl_NameOK K), (86, Sg.s_impl_isResult K), (87, Sg.s_impl_areAll_string__impl_NameOK K)], inl := [(111, Tryd.f111), (123, Tryd.f123), (110, Tryd.f110), (87, Tryd.f87)], lo := [], K := K, jo := [] }
noncomputable def Sg.f_impl_codeWords : Fw.PFn := Fw.PFn.get Tryd.f112
noncomputable def Sg.i_impl_codeWords : List (Nat × Fw.PFn) := []
noncomputable def Sg.s_impl_codeWords (K : Nat) : Fw.Sig := { ins := [], outs := [⟨false, (.sl .str), false⟩], F := fun x => R.impl_codeWords K  }
noncomputable def Sg.c_impl_codeWords (K : Nat) : Fw.Cfg := { tab := Sg.tab, eqs := Sg.eqs, sig := [], inl := [], lo := [], K := K, jo := [] }
noncomputable def Sg.f_impl_CodeWord : Fw.PFn := Fw.PFn.get Tryd.f88
noncomputable def Sg.i_impl_CodeWord : List (Nat × Fw.PFn) := []
noncomputable def Sg.s_impl_CodeWord (K : Nat) : Fw.Sig := { ins := [.val false (.int .i64)], outs := [⟨false, .str, false⟩], F := fun x => R.impl_CodeWord K x.1 }
noncomputable def Sg.c_impl_CodeWord (K : Nat) : Fw.Cfg := { tab := Sg.tab, eqs := Sg.eqs, sig := [(109, Sg.s_impl_isCode K), (112, Sg.s_impl_codeWords K)], inl := [], lo := [], K := K, jo := [] }
noncomputable def Sg.f_impl_numbered : Fw.PFn := Fw.PFn.get Tryd.f89
noncomputable def Sg.i_impl_numbered : List (Nat × Fw.PFn) := []
noncomputable def Sg.s_impl_numbered (K : Nat) : Fw.Sig := { ins := [.val false .str, .val false (.int .i64)], outs := [⟨false, .str, false⟩], F := fun x => R.impl_numbered K x.1 x.2.1 }
noncomputable def Sg.c_impl_numbered (K : Nat) : Fw.Cfg := { tab := Sg.tab, eqs := Sg.eqs, sig := [(94, Sg.s_strconv_Itoa K)], inl := [], lo := [], K := K, jo := [] }
def Sg.h_impl_mapText_0 : Fw.StSh := ⟨[(2, (.d .str)), (3, (.row 0)), (6, (.d (.sl (.pair .str (.int .i64))))), (7, (.d (.int .i64))), (8, (.d (.int .i64)))], [(0, (.row .str true))], 1, 25, ⟨0, []⟩⟩
def Sg.o_impl_mapText_0 : Fw.StSh := ⟨[(2, (.d .str)), (3, (.row 0))], [(0, (.row .str true))], 1, 25, ⟨0, []⟩⟩
def Sg.r_impl_mapText_0 : Fw.StSh := ⟨[], [], 1, 25, ⟨0, []⟩⟩
noncomputable def Sg.p_impl_mapText_0 (K : Nat) : Fw.LSpec := { g := 91, b := 0, lv := 6, l0 := 0, li := 0, head := Sg.h_impl_mapText_0, post := Sg.o_impl_mapText_0, retn := Sg.r_impl_mapText_0, ex := 0, L := R.L_impl_mapText_0 K }
noncomputable def Sg.f_impl_mapText : Fw.PFn := Fw.PFn.get Tryd.f91
noncomputable def Sg.i_impl_mapText : List (Nat × Fw.PFn) := []
noncomputable def Sg.s_impl_mapText (K : Nat) : Fw.Sig := { ins := [.val false (.sl (.pair .str (.int .i64)))], outs := [⟨false, .str, false⟩], F := fun x => R.impl_mapText K x.1 }
noncomputable def Sg.c_impl_mapText (K : Nat) : Fw.Cfg := { tab := Sg.tab, eqs := Sg.eqs, sig := [(94, Sg.s_strconv_Itoa K), (90, Sg.s_impl_listed K)], inl := [], lo := Sg.p_impl_mapText_0 K :: [], K := K, jo := ⟨91, 0, 6, 0, 5, none⟩ :: [] }
noncomputable def Sg.f_impl_resultText : Fw.PFn := Fw.PFn.get Tryd.f46
noncomputable def Sg.i_impl_resultText : List (Nat × Fw.PFn) := []
noncomputable def Sg.s_impl_resultText (K : Nat) : Fw.Sig := { ins := [.val true (.pair (.int .i64) (.pair (.int .i64) (.pair (.int .i64) (.pair (.sl .str) (.sl (.pair .str (.int .i64)))))))], outs := [⟨false, .str, false⟩], F := fun x => R.impl_resultText K x.1 }
noncomputable def Sg.c_impl_resultText (K : Nat) : Fw.Cfg := { tab := Sg.tab, eqs := Sg.eqs, sig := [(90, Sg.s_impl_listed K), (88, Sg.s_impl_CodeWord K), (89, Sg.s_impl_numbered K), (91, Sg.s_impl_mapText K)], inl := [], lo := [], K := K, jo := ⟨46, 0, 6, 0, 1, none⟩ :: [] }
noncomputable def Sg.f_impl_ResultText : Fw.PFn := Fw.PFn.get Tryd.f16
noncomputable def Sg.i_impl_ResultText : List (Nat × Fw.PFn) := []
noncomputable def Sg.s_impl_ResultText (K : Nat) : Fw.Sig := { ins := [.val true (.pair (.int .i64) (.pair (.int .i64) (.pair (.int .i64) (.pair (.sl .str) (.sl (.pair .str (.int .i64)))))))], outs := [⟨false, .str, false⟩, ⟨false, (.int .i64), false⟩], F := fun x => R.impl_ResultText K x.1 }
noncomputable def Sg.c_impl_ResultText (K : Nat) : Fw.Cfg := { tab := Sg.tab, eqs := Sg.eqs, sig := [(45, Sg.s_impl_hasText K), (46, Sg.s_impl_resultText K)], inl := [], lo := [], K := K, jo := [] }
def Sg.h_laws_eqStringS_0 : Fw.StSh := ⟨[(0, (.d (.sl .str))), (1, (.d (.sl .str))), (4, (.d .bool)), (5, (.d (.int .i64)))], [], 0, 26, ⟨0, []⟩⟩
def Sg.o_laws_eqStringS_0 : Fw.StSh := ⟨[(4, (.d .bool))], [], 0, 26, ⟨0, []⟩⟩
def Sg.r_laws_eqStringS_0 : Fw.StSh := ⟨[(4, (.d .bool))], [], 0, 26, ⟨0, []⟩⟩
noncomputable def Sg.p_laws_eqStringS_0 (K : Nat) : Fw.LSpec := { g := 47, b := 0, lv := 6, l0 := 0, li := 0, head := Sg.h_laws_eqStringS_0, post := Sg.o_laws_eqStringS_0, retn := Sg.r_laws_eqStringS_0, ex := 0, L := R.L_laws_eqStringS_0 K }
noncomputable def Sg.f_laws_eqStringS : Fw.PFn := Fw.PFn.get Tryd.f47
noncomputable def Sg.i_laws_eqStringS : List (Nat × Fw.PFn) := []
noncomputable def Sg.s_laws_eqStringS (K : Nat) : Fw.Sig := { ins := [.val false (.sl .str), .val false (.sl .str)], outs := [⟨false, .bool, false⟩], F := fun x => R.laws_eqStringS K x.1 x.2.1 }
noncomputable def Sg.c_laws_eqStringS (K : Nat) : Fw.Cfg := { tab := Sg.tab, eqs := Sg.eqs, sig := [], inl := [], lo := Sg.p_laws_eqStringS_0 K :: [], K := K, jo := ⟨47, 0, 6, 0, 6, none⟩ :: [] }
noncomputable def Sg.f_laws_eqEntry : Fw.PFn := Fw.PFn.get Tryd.f63
noncomputable def Sg.i_laws_eqEntry : List (Nat × Fw.PFn) := []
noncomputable def Sg.s_laws_eqEntry (K : Nat) : Fw.Sig := { ins := [.val true (.pair .str (.int .i64)), .val true (.pair .str (.int .i64))], outs := [⟨false, .bool, false⟩], F := fun x => R.laws_eqEntry K x.1 x.2.1 }
noncomputable def Sg.c_laws_eqEntry (K : Nat) : Fw.Cfg := { tab := Sg.tab, eqs := Sg.eqs, sig := [], inl := [], lo := [], K := K, jo := [] }
def Sg.h_laws_eqEntryS_0 : Fw.StSh := ⟨[(0, (.d (.sl (.pair .str (.int .i64))))), (1, (.d (.sl (.pair .str (.int .i64))))), (4, (.d .bool)), (5, (.d (.int .i64)))], [], 0, 27, ⟨0, []⟩⟩
def Sg.o_laws_eqEntryS_0 : Fw.StSh := ⟨[(4, (.d .bool))], [], 0, 27, ⟨0, []⟩⟩
def Sg.r_laws_eqEntryS_0 : Fw.StSh := ⟨[(4, (.d .bool))], [], 0, 27, ⟨0, []⟩⟩
noncomputable def Sg.p_laws_eqEntryS_0 (K : Nat) : Fw.LSpec := { g := 25, b := 0, lv := 6, l0 := 0, li := 0, head := Sg.h_laws_eqEntryS_0, post := Sg.o_laws_eqEntryS_0, retn := Sg.r_laws_eqEntryS_0, ex := 0, L := R.L_laws_eqEntryS_0 K }
noncomputable def Sg.f_laws_eqEntryS : Fw.PFn := Fw.PFn.get Tryd.f25
noncomputable def Sg.i_laws_eqEntryS : List (Nat × Fw.PFn) := []
noncomputable def Sg.s_laws_eqEntryS (K : Nat) : Fw.Sig := { ins := [.val false (.sl (.pair .str (.int .i64))), .val false (.sl (.pair .str (.int .i64)))], outs := [⟨false, .bool, false⟩], F := fun x => R.laws_eqEntryS K x.1 x.2.1 }
noncomputable def Sg.c_laws_eqEntryS (K : Nat) : Fw.Cfg := { tab := Sg.tab, eqs := Sg.eqs, sig := [(63, Sg.s_laws_eqEntry K)], inl := [], lo := Sg.p_laws_eqEntryS_0 K :: [], K := K, jo := ⟨25, 0, 6, 0, 6, none⟩ :: [] }
noncomputable def Sg.f_laws_eqResult : Fw.PFn := Fw.PFn.get Tryd.f17
noncomputable def Sg.i_laws_eqResult : List (Nat × Fw.PFn) := []
noncomputable def Sg.s_laws_eqResult (K : Nat) : Fw.Sig := { ins := [.val true (.pair (.int .i64) (.pair (.int .i64) (.pair (.int .i64) (.pair (.sl .str) (.sl (.pair .str (.int .i64))))))), .val true (.pair (.int .i64) (.pair (.int .i64) (.pair (.int .i64) (.pair (.sl .str) (.sl (.pair .str (.int .i64)))))))], outs := [⟨false, .bool, false⟩], F := fun x => R.laws_eqResult K x.1 x.2.1 }
noncomputable def Sg.c_laws_eqResult (K : Nat) : Fw.Cfg := { tab := Sg.tab, eqs := Sg.eqs, sig := [(47, Sg.s_laws_eqStringS K), (25, Sg.s_laws_eqEntryS K)], inl := [], lo := [], K := K, jo := [] }
noncomputable def Sg.f_laws_FnExactResultText : Fw.PFn := Fw.PFn.get Tryd.f4
noncomputable def Sg.i_laws_FnExactResultText : List (Nat × Fw.PFn) := []
noncomputable def Sg.s_laws_FnExactResultText (K : Nat) : Fw.Sig := { ins := [.val true (.pair (.int .i64) (.pair (.int .i64) (.pair (.int .i64) (.pair (.sl .str) (.sl (.pair .str (.int .i64)))))))], outs := [⟨false, .bool, false⟩], F := fun x => R.laws_FnExactResultText K x.1 }
noncomputable def Sg.c_laws_FnExactResultText (K : Nat) : Fw.Cfg := { tab := Sg.tab, eqs := Sg.eqs, sig := [(13, Sg.s_laws_szResult K), (15, Sg.s_laws_toResult K), (14, Sg.s_spec_ResultText K), (16, Sg.s_impl_ResultText K), (17, Sg.s_laws_eqResult K)], inl := [], lo := [], K := K, jo := ⟨4, 0, 6, 0, 10, none⟩ :: [] }
noncomputable def Sg.f_laws_szOp : Fw.PFn := Fw.PFn.get Tryd.f48
noncomputable def Sg.i_laws_szOp : List (Nat × Fw.PFn) := []
noncomputable def Sg.s_laws_szOp (K : Nat) : Fw.Sig := { ins := [.val true (.pair (.int .i64) (.pair (.int .i64) (.pair .str (.pair .str (.sl (.pair .str (.pair (.int .i64) .bool))))))), .val false (.int .i64)], outs := [⟨false, (.int .i64), false⟩], F := fun x => R.laws_szOp K x.1 x.2.1 }
noncomputable def Sg.c_laws_szOp (K : Nat) : Fw.Cfg := { tab := Sg.tab, eqs := Sg.eqs, sig := [(33, Sg.s_laws_szEditS K)], inl := [], lo := [], K := K, jo := [] }
noncomputable def Sg.f_laws_szMoment : Fw.PFn := Fw.PFn.get Tryd.f18
noncomputable def Sg.i_laws_szMoment : List (Nat × Fw.PFn) := []
noncomputable def Sg.s_laws_szMoment (K : Nat) : Fw.Sig := { ins := [.val true (.pair (.int .i64) (.pair (.int .i64) (.pair (.int .i64) (.pair (.pair (.int .i64) (.pair (.int .i64) (.pair .str (.pair .str (.sl (.pair .str (.pair (.int .i64) .bool))))))) (.pair (.int .i64) (.pair (.int .i64) (.pair (.int .i64) (.pair (.sl .str) (.sl (.pair .str (.int .i64))))))))))), .val false (.int .i64)], outs := [⟨false, (.int .i64), false⟩], F := fun x => R.laws_szMoment K x.1 x.2.1 }
noncomputable def Sg.c_laws_szMoment (K : Nat) : Fw.Cfg := { tab := Sg.tab, eqs := Sg.eqs, sig := [(13, Sg.s_laws_szResult K), (48, Sg.s_laws_szOp K)], inl := [], lo := [], K := K, jo := [] }
noncomputable def Sg.f_laws_toOp : Fw.PFn := Fw.PFn.get Tryd.f52
noncomputable def Sg.i_laws_toOp : List (Nat × Fw.PFn) := []
noncomputable def Sg.s_laws_toOp (K : Nat) : Fw.Sig := { ins := [.val true (.pair (.int .i64) (.pair (.int .i64) (.pair .str (.pair .str (.sl (.pair .str (.pair (.int .i64) .bool)))))))], outs := [⟨true, (.pair (.int .i64) (.pair (.int .i64) (.pair .str (.pair .str (.sl (.pair .str (.pair (.int .i64) .bool))))))), true⟩], F := fun x => R.laws_toOp K x.1 }
noncomputable def Sg.c_laws_toOp (K : Nat) : Fw.Cfg := { tab := Sg.tab, eqs := Sg.eqs, sig := [(36, Sg.s_laws_toEditS K)], inl := [], lo := [], K := K, jo := [] }
noncomputable def Sg.f_laws_toMoment : Fw.PFn := Fw.PFn.get Tryd.f20
noncomputable def Sg.i_laws_toMoment : List (Nat × Fw.PFn) := []
noncomputable def Sg.s_laws_toMoment (K : Nat) : Fw.Sig := { ins := [.val true (.pair (.int .i64) (.pair (.int .i64) (.pair (.int .i64) (.pair (.pair (.int .i64) (.pair (.int .i64) (.pair .str (.pair .str (.sl (.pair .str (.pair (.int .i64) .bool))))))) (.pair (.int .i64) (.pair (.int .i64) (.pair (.int .i64) (.pair (.sl .str) (.sl (.pair .str (.int .i64)))))))))))], outs := [⟨true, (.pair (.int .i64) (.pair (.int .i64) (.pair (.int .i64) (.pair (.pair (.int .i64) (.pair (.int .i64) (.pair .str (.pair .str (.sl (.pair .str (.pair (.int .i64) .bool))))))) (.pair (.int .i64) (.pair (.int .i64) (.pair (.int .i64) (.pair (.sl .str) (.sl (.pair .str (.int .i64))))))))))), true⟩], F := fun x => R.laws_toMoment K x.1 }
noncomputable def Sg.c_laws_toMoment (K : Nat) : Fw.Cfg := { tab := Sg.tab, eqs := Sg.eqs, sig := [(15, Sg.s_laws_toResult K), (52, Sg.s_laws_toOp K)], inl := [], lo := [], K := K, jo := [] }
noncomputable def Sg.f_spec_l05Op : Fw.PFn := Fw.PFn.get Tryd.f50
noncomputable def Sg.i_spec_l05Op : List (Nat × Fw.PFn) := []
noncomputable def Sg.s_spec_l05Op (K : Nat) : Fw.Sig := { ins := [.val true (.pair (.int .i64) (.pair (.int .i64) (.pair .str (.pair .str (.sl (.pair .str (.pair (.int .i64) .bool)))))))], outs := [⟨false, .bool, false⟩], F := fun x => R.spec_l05Op K x.1 }
noncomputable def Sg.c_spec_l05Op (K : Nat) : Fw.Cfg := { tab := Sg.tab, eqs := Sg.eqs, sig := [(69, Sg.s_spec_l00Word K), (49, Sg.s_spec_l01In K), (70, Sg.s_spec_l01Edits K)], inl := [], lo := [], K := K, jo := [] }
noncomputable def Sg.f_spec_l13Moment : Fw.PFn := Fw.PFn.get Tryd.f51
noncomputable def Sg.i_spec_l13Moment : List (Nat × Fw.PFn) := []
noncomputable def Sg.s_spec_l13Moment (K : Nat) : Fw.Sig := { ins := [.val true (.pair (.int .i64) (.pair (.int .i64) (.pair (.int .i64) (.pair (.pair (.int .i64) (.pair (.int .i64) (.pair .str (.pair .str (.sl (.pair .str (.pair (.int .i64) .bool))))))) (.pair (.int .i64) (.pair (.int .i64) (.pair (.int .i64) (.pair (.sl .str) (.sl (.pair .str (.int .i64)))))))))))], outs := [⟨false, .str, false⟩], F := fun x => R.spec_l13Moment K x.1 }
noncomputable def Sg.c_spec_l13Moment (K : Nat) : Fw.Cfg := { tab := Sg.tab, eqs := Sg.eqs, sig := [(71, Sg.s_spec_l13Kinds K), (82, Sg.s_spec_l00Digits K K), (42, Sg.s_spec_l13Result K)], inl := [], lo := [], K := K, jo := ⟨51, 0, 6, 0, 1, none⟩ :: ⟨51, 0, 6, 0, 3, none⟩ :: [] }
noncomputable def Sg.f_spec_MomentText : Fw.PFn := Fw.PFn.get Tryd.f19
noncomputable def Sg.i_spec_MomentText : List (Nat × Fw.PFn) := []
noncomputable def Sg.s_spec_MomentText (K : Nat) : Fw.Sig := { ins := [.val true (.pair (.int .i64) (.pair (.int .i64) (.pair (.int .i64) (.pair (.pair (.int .i64) (.pair (.int .i64) (.pair .str (.pair .str (.sl (.pair .str (.pair (.int .i64) .bool))))))) (.pair (.int .i64) (.pair (.int .i64) (.pair (.int .i64) (.pair (.sl .str) (.sl (.pair .str (.int .i64)))))))))))], outs := [⟨false, .str, false⟩, ⟨false, (.int .i64), false⟩], F := fun x => R.spec_MomentText K x.1 }
noncomputable def Sg.c_spec_MomentText (K : Nat) : Fw.Cfg := { tab := Sg.tab, eqs := Sg.eqs, sig := [(49, Sg.s_spec_l01In K), (41, Sg.s_spec_l13OK K), (50, Sg.s_spec_l05Op K), (51, Sg.s_spec_l13Moment K)], inl := [], lo := [], K := K, jo := [] }
noncomputable def Sg.f_impl_hasOp : Fw.PFn := Fw.PFn.get Tryd.f54
noncomputable def Sg.i_impl_hasOp : List (Nat × Fw.PFn) := []
noncomputable def Sg.s_impl_hasOp (K : Nat) : Fw.Sig := { ins := [.val true (.pair (.int .i64) (.pair (.int .i64) (.pair (.int .i64) (.pair (.pair (.int .i64) (.pair (.int .i64) (.pair .str (.pair .str (.sl (.pair .str (.pair (.int .i64) .bool))))))) (.pair (.int .i64) (.pair (.int .i64) (.pair (.int .i64) (.pair (.sl .str) (.sl (.pair .str (.int .i64)))))))))))], outs := [⟨false, .bool, false⟩], F := fun x => R.impl_hasOp K x.1 }
noncomputable def Sg.c_impl_hasOp (K : Nat) : Fw.Cfg := { tab := Sg.tab, eqs := Sg.eqs, sig := [], inl := [], lo := [], K := K, jo := [] }
noncomputable def Sg.f_impl_momentText : Fw.PFn := Fw.PFn.get Tryd.f56
noncomputable def Sg.i_impl_momentText : List (Nat × Fw.PFn) := []
noncomputable def Sg.s_impl_momentText (K : Nat) : Fw.Sig := { ins := [.val true (.pair (.int .i64) (.pair (.int .i64) (.pair (.int .i64) (.pair (.pair (.int .i64) (.pair (.int .i64) (.pair .str (.pair .str (.sl (.pair .str (.pair (.int .i64) .bool))))))) (.pair (.int .i64) (.pair (.int .i64) (.pair (.int .i64) (.pair (.sl .str) (.sl (.pair .str (.int .i64)))))))))))], outs := [⟨false, .str, false⟩], F := fun x => R.impl_momentText K x.1 }
noncomputable def Sg.c_impl_momentText (K : Nat) : Fw.Cfg := { tab := Sg.tab, eqs := Sg.eqs, sig := [(77, Sg.s_impl_kindWords K), (94, Sg.s_strconv_Itoa K), (89, Sg.s_impl_numbered K), (46, Sg.s_impl_resultText K), (54, Sg.s_impl_hasOp K)], inl := [], lo := [], K := K, jo := ⟨56, 0, 6, 0, 1, none⟩ :: ⟨56, 0, 6, 0, 3, none⟩ :: [] }
noncomputable def Sg.f_impl_MomentText : Fw.PFn := Fw.PFn.get Tryd.f21
noncomputable def Sg.i_impl_MomentText : List (Nat × Fw.PFn) := []
noncomputable def Sg.s_impl_MomentText (K : Nat) : Fw.Sig := { ins := [.val true (.pair (.int .i64) (.pair (.int .i64) (.pair (.int .i64) (.pair (.pair (.int .i64) (.pair (.int .i64) (.pair .str (.pair .str (.sl (.pair .str (.pair (.int .i64) .bool))))))) (.pair (.int .i64) (.pair (.int .i64) (.pair (.int .i64) (.pair (.sl .str) (.sl (.pair .str (.int .i64)))))))))))], outs := [⟨false, .str, false⟩, ⟨false, (.int .i64), false⟩], F := fun x => R.impl_MomentText K x.1 }
noncomputable def Sg.c_impl_MomentText (K : Nat) : Fw.Cfg := { tab := Sg.tab, eqs := Sg.eqs, sig := [(53, Sg.s_impl_within K), (55, Sg.s_impl_OpOK K), (45, Sg.s_impl_hasText K), (54, Sg.s_impl_hasOp K), (56, Sg.s_impl_momentText K)], inl := [], lo := [], K := K, jo := [] }
noncomputable def Sg.f_laws_eqOp : Fw.PFn := Fw.PFn.get Tryd.f57
noncomputable def Sg.i_laws_eqOp : List (Nat × Fw.PFn) := []
noncomputable def Sg.s_laws_eqOp (K : Nat) : Fw.Sig := { ins := [.val true (.pair (.int .i64) (.pair (.int .i64) (.pair .str (.pair .str (.sl (.pair .str (.pair (.int .i64) .bool))))))), .val true (.pair (.int .i64) (.pair (.int .i64) (.pair .str (.pair .str (.sl (.pair .str (.pair (.int .i64) .bool)))))))], outs := [⟨false, .bool, false⟩], F := fun x => R.laws_eqOp K x.1 x.2.1 }
noncomputable def Sg.c_laws_eqOp (K : Nat) : Fw.Cfg := { tab := Sg.tab, eqs := Sg.eqs, sig := [(30, Sg.s_laws_eqEditS K)], inl := [], lo := [], K := K, jo := [] }
noncomputable def Sg.f_laws_eqMoment : Fw.PFn := Fw.PFn.get Tryd.f22
noncomputable def Sg.i_laws_eqMoment : List (Nat × Fw.PFn) := []
noncomputable def Sg.s_laws_eqMoment (K : Nat) : Fw.Sig := { ins := [.val true (.pair (.int .i64) (.pair (.int .i64) (.pair (.int .i64) (.pair (.pair (.int .i64) (.pair (.int .i64) (.pair .str (.pair .str (.sl (.pair .str (.pair (.int .i64) .bool))))))) (.pair (.int .i64) (.pair (.int .i64) (.pair (.int .i64) (.pair (.sl .str) (.sl (.pair .str (.int .i64))))))))))), .val true (.pair (.int .i64) (.pair (.int .i64) (.pair (.int .i64) (.pair (.pair (.int .i64) (.pair (.int .i64) (.pair .str (.pair .str (.sl (.pair .str (.pair (.int .i64) .bool))))))) (.pair (.int .i64) (.pair (.int .i64) (.pair (.int .i64) (.pair (.sl .str) (.sl (.pair .str (.int .i64)))))))))))], outs := [⟨false, .bool, false⟩], F := fun x => R.laws_eqMoment K x.1 x.2.1 }
noncomputable def Sg.c_laws_eqMoment (K : Nat) : Fw.Cfg := { tab := Sg.tab, eqs := Sg.eqs, sig := [(17, Sg.s_laws_eqResult K), (57, Sg.s_laws_eqOp K)], inl := [], lo := [], K := K, jo := [] }
noncomputable def Sg.f_laws_FnExactMomentText : Fw.PFn := Fw.PFn.get Tryd.f5
noncomputable def Sg.i_laws_FnExactMomentText : List (Nat × Fw.PFn) := []
noncomputable def Sg.s_laws_FnExactMomentText (K : Nat) : Fw.Sig := { ins := [.val true (.pair (.int .i64) (.pair (.int .i64) (.pair (.int .i64) (.pair (.pair (.int .i64) (.pair (.int .i64) (.pair .str (.pair .str (.sl (.pair .str (.pair (.int .i64) .bool))))))) (.pair (.int .i64) (.pair (.int .i64) (.pair (.int .i64) (.pair (.sl .str) (.sl (.pair .str (.int .i64)))))))))))], outs := [⟨false, .bool, false⟩], F := fun x => R.laws_FnExactMomentText K x.1 }
noncomputable def Sg.c_laws_FnExactMomentText (K : Nat) : Fw.Cfg := { tab := Sg.tab, eqs := Sg.eqs, sig := [(18, Sg.s_laws_szMoment K), (20, Sg.s_laws_toMoment K), (19, Sg.s_spec_MomentText K), (21, Sg.s_impl_MomentText K), (22, Sg.s_laws_eqMoment K)], inl := [], lo := [], K := K, jo := ⟨5, 0, 6, 0, 10, none⟩ :: [] }
theorem fun_laws_szEdit : Tryd.prog.funcs[68]? = some Tryd.f68 := by kernel_rfl
theorem call_laws_szEdit : Fw.Callable Tryd.prog 68 := Fw.callable_of fun_laws_szEdit (by kernel_rfl) (by kernel_rfl)
theorem pf_laws_szEdit : Fw.PFn.of Tryd.f68 = some Sg.f_laws_szEdit := Fw.PFn.of_get (by kernel_rfl)
theorem ok_laws_szEdit (K : Nat) : Fw.Ok Tryd.prog 68 (Sg.s_laws_szEdit K) := Fw.funP_ok (c := Sg.c_laws_szEdit K) (pi := Sg.i_laws_szEdit) (depth := 6) (Fw.cfgP_ok (pi := Sg.i_laws_szEdit) Sg.tabOK Sg.eqsOK Sg.mixOK trivial trivial trivial pf_laws_szEdit trivial rfl) trivial pf_laws_szEdit fun_laws_szEdit call_laws_szEdit (fun x => by kernel_rfl)
theorem fun_laws_szEditS : Tryd.prog.funcs[33]? = some Tryd.f33 := by kernel_rfl
theorem call_laws_szEditS : Fw.Callable Tryd.prog 33 := Fw.callable_of fun_laws_szEditS (by kernel_rfl) (by kernel_rfl)
theorem pf_laws_szEditS : Fw.PFn.of Tryd.f33 = some Sg.f_laws_szEditS := Fw.PFn.of_get (by kernel_rfl)
theorem l_laws_szEditS_0 (K : Nat) : Fw.LoopP (Sg.c_laws_szEditS K) Sg.i_laws_szEditS Sg.f_laws_szEditS (Sg.p_laws_szEditS_0 K) := ⟨fun _ => by kernel_rfl, fun n p => by kernel_rfl⟩
theorem ok_laws_szEditS (K : Nat) : Fw.Ok Tryd.prog 33 (Sg.s_laws_szEditS K) := Fw.funP_ok (c := Sg.c_laws_szEditS K) (pi := Sg.i_laws_szEditS) (depth := 6) (Fw.cfgP_ok (pi := Sg.i_laws_szEditS) Sg.tabOK Sg.eqsOK Sg.mixOK ⟨ok_laws_szEdit K, trivial⟩ trivial trivial pf_laws_szEditS ⟨⟨_, rfl, l_laws_szEditS_0 K⟩, trivial⟩ rfl) trivial pf_laws_szEditS fun_laws_szEditS call_laws_szEditS (fun x => by kernel_rfl)
theorem fun_laws_szWish : Tryd.prog.funcs[8]? = some Tryd.f8 := by kernel_rfl
theorem call_laws_szWish : Fw.Callable Tryd.prog 8 := Fw.callable_of fun_laws_szWish (by kernel_rfl) (by kernel_rfl)
theorem pf_laws_szWish : Fw.PFn.of Tryd.f8 = some Sg.f_laws_szWish := Fw.PFn.of_get (by kernel_rfl)
theorem ok_laws_szWish (K : Nat) : Fw.Ok Tryd.prog 8 (Sg.s_laws_szWish K) := Fw.funP_ok (c := Sg.c_laws_szWish K) (pi := Sg.i_laws_szWish) (depth := 6) (Fw.cfgP_ok (pi := Sg.i_laws_szWish) Sg.tabOK Sg.eqsOK Sg.mixOK ⟨ok_laws_szEditS K, trivial⟩ trivial trivial pf_laws_szWish trivial rfl) trivial pf_laws_szWish fun_laws_szWish call_laws_szWish (fun x => by kernel_rfl)
theorem fun_laws_toEdit : Tryd.prog.funcs[73]? = some Tryd.f73 := by kernel_rfl
theorem call_laws_toEdit : Fw.Callable Tryd.prog 73 := Fw.callable_of fun_laws_toEdit (by kernel_rfl) (by kernel_rfl)
theorem pf_laws_toEdit : Fw.PFn.of Tryd.f73 = some Sg.f_laws_toEdit := Fw.PFn.of_get (by kernel_rfl)
theorem ok_laws_toEdit (K : Nat) : Fw.Ok Tryd.prog 73 (Sg.s_laws_toEdit K) := Fw.funP_ok (c := Sg.c_laws_toEdit K) (pi := Sg.i_laws_toEdit) (depth := 6) (Fw.cfgP_ok (pi := Sg.i_laws_toEdit) Sg.tabOK Sg.eqsOK Sg.mixOK trivial trivial trivial pf_laws_toEdit trivial rfl) trivial pf_laws_toEdit fun_laws_toEdit call_laws_toEdit (fun x => by kernel_rfl)
theorem fun_laws_toEditS : Tryd.prog.funcs[36]? = some Tryd.f36 := by kernel_rfl
theorem call_laws_toEditS : Fw.Callable Tryd.prog 36 := Fw.callable_of fun_laws_toEditS (by kernel_rfl) (by kernel_rfl)
theorem pf_laws_toEditS : Fw.PFn.of Tryd.f36 = some Sg.f_laws_toEditS := Fw.PFn.of_get (by kernel_rfl)
theorem l_laws_toEditS_0 (K : Nat) : Fw.LoopP (Sg.c_laws_toEditS K) Sg.i_laws_toEditS Sg.f_laws_toEditS (Sg.p_laws_toEditS_0 K) := ⟨fun _ => by kernel_rfl, fun n p => by kernel_rfl⟩
theorem ok_laws_toEditS (K : Nat) : Fw.Ok Tryd.prog 36 (Sg.s_laws_toEditS K) := Fw.funP_ok (c := Sg.c_laws_toEditS K) (pi := Sg.i_laws_toEditS) (depth := 6) (Fw.cfgP_ok (pi := Sg.i_laws_toEditS) Sg.tabOK Sg.eqsOK Sg.mixOK ⟨ok_laws_toEdit K, trivial⟩ trivial trivial pf_laws_toEditS ⟨⟨_, rfl, l_laws_toEditS_0 K⟩, trivial⟩ rfl) trivial pf_laws_toEditS fun_laws_toEditS call_laws_toEditS (fun x => by kernel_rfl)
theorem fun_laws_toWish : Tryd.prog.funcs[10]? = some Tryd.f10 := by kernel_rfl
theorem call_laws_toWish : Fw.Callable Tryd.prog 10 := Fw.callable_of fun_laws_toWish (by kernel_rfl) (by kernel_rfl)
theorem pf_laws_toWish : Fw.PFn.of Tryd.f10 = some Sg.f_laws_toWish := Fw.PFn.of_get (by kernel_rfl)
theorem ok_laws_toWish (K : Nat) : Fw.Ok Tryd.prog 10 (Sg.s_laws_toWish K) := Fw.funP_ok (c := Sg.c_laws_toWish K) (pi := Sg.i_laws_toWish) (depth := 6) (Fw.cfgP_ok (pi := Sg.i_laws_toWish) Sg.tabOK Sg.eqsOK Sg.mixOK ⟨ok_laws_toEditS K, trivial⟩ trivial trivial pf_laws_toWish trivial rfl) trivial pf_laws_toWish fun_laws_toWish call_laws_toWish (fun x => by kernel_rfl)
theorem fun_spec_l00Letter : Tryd.prog.funcs[102]? = some Tryd.f102 := by kernel_rfl
theorem call_spec_l00Letter : Fw.Callable Tryd.prog 102 := Fw.callable_of fun_spec_l00Letter (by kernel_rfl) (by kernel_rfl)
theorem pf_spec_l00Letter : Fw.PFn.of Tryd.f102 = some Sg.f_spec_l00Letter := Fw.PFn.of_get (by kernel_rfl)
theorem ok_spec_l00Letter (K : Nat) : Fw.Ok Tryd.prog 102 (Sg.s_spec_l00Letter K) := Fw.funP_ok (c := Sg.c_spec_l00Letter K) (pi := Sg.i_spec_l00Letter) (depth := 6) (Fw.cfgP_ok (pi := Sg.i_spec_l00Letter) Sg.tabOK Sg.eqsOK Sg.mixOK trivial trivial trivial pf_spec_l00Letter trivial rfl) trivial pf_spec_l00Letter fun_spec_l00Letter call_spec_l00Letter (fun x => by kernel_rfl)
theorem fun_spec_l00Digit : Tryd.prog.funcs[103]? = some Tryd.f103 := by kernel_rfl
theorem call_spec_l00Digit : Fw.Callable Tryd.prog 103 := Fw.callable_of fun_spec_l00Digit (by kernel_rfl) (by kernel_rfl)
theorem pf_spec_l00Digit : Fw.PFn.of Tryd.f103 = some Sg.f_spec_l00Digit := Fw.PFn.of_get (by kernel_rfl)
theorem ok_spec_l00Digit (K : Nat) : Fw.Ok Tryd.prog 103 (Sg.s_spec_l00Digit K) := Fw.funP_ok (c := Sg.c_spec_l00Digit K) (pi := Sg.i_spec_l00Digit) (depth := 6) (Fw.cfgP_ok (pi := Sg.i_spec_l00Digit) Sg.tabOK Sg.eqsOK Sg.mixOK trivial trivial trivial pf_spec_l00Digit trivial rfl) trivial pf_spec_l00Digit fun_spec_l00Digit call_spec_l00Digit (fun x => by kernel_rfl)
theorem fun_spec_l00Word : Tryd.prog.funcs[69]? = some Tryd.f69 := by kernel_rfl
theorem call_spec_l00Word : Fw.Callable Tryd.prog 69 := Fw.callable_of fun_spec_l00Word (by kernel_rfl) (by kernel_rfl)
theorem pf_spec_l00Word : Fw.PFn.of Tryd.f69 = some Sg.f_spec_l00Word := Fw.PFn.of_get (by kernel_rfl)
theorem l_spec_l00Word_0 (K : Nat) : Fw.LoopP (Sg.c_spec_l00Word K) Sg.i_spec_l00Word Sg.f_spec_l00Word (Sg.p_spec_l00Word_0 K) := ⟨fun _ => by kernel_rfl, fun n p => by kernel_rfl⟩
theorem ok_spec_l00Word (K : Nat) : Fw.Ok Tryd.prog 69 (Sg.s_spec_l00Word K) := Fw.funP_ok (c := Sg.c_spec_l00Word K) (pi := Sg.i_spec_l00Word) (depth := 6) (Fw.cfgP_ok (pi := Sg.i_spec_l00Word) Sg.tabOK Sg.eqsOK Sg.mixOK ⟨ok_spec_l00Letter K, ok_spec_l00Digit K, trivial⟩ trivial trivial pf_spec_l00Word ⟨⟨_, rfl, l_spec_l00Word_0 K⟩, trivial⟩ rfl) trivial pf_spec_l00Word fun_spec_l00Word call_spec_l00Word (fun x => by kernel_rfl)
theorem fun_spec_l01In : Tryd.prog.funcs[49]? = some Tryd.f49 := by kernel_rfl
theorem call_spec_l01In : Fw.Callable Tryd.prog 49 := Fw.callable_of fun_spec_l01In (by kernel_rfl) (by kernel_rfl)
theorem pf_spec_l01In : Fw.PFn.of Tryd.f49 = some Sg.f_spec_l01In := Fw.PFn.of_get (by kernel_rfl)
theorem ok_spec_l01In (K : Nat) : Fw.Ok Tryd.prog 49 (Sg.s_spec_l01In K) := Fw.funP_ok (c := Sg.c_spec_l01In K) (pi := Sg.i_spec_l01In) (depth := 6) (Fw.cfgP_ok (pi := Sg.i_spec_l01In) Sg.tabOK Sg.eqsOK Sg.mixOK trivial trivial trivial pf_spec_l01In trivial rfl) trivial pf_spec_l01In fun_spec_l01In call_spec_l01In (fun x => by kernel_rfl)
theorem fun_spec_l01Edits : Tryd.prog.funcs[70]? = some Tryd.f70 := by kernel_rfl
theorem call_spec_l01Edits : Fw.Callable Tryd.prog 70 := Fw.callable_of fun_spec_l01Edits (by kernel_rfl) (by kernel_rfl)
theorem pf_spec_l01Edits : Fw.PFn.of Tryd.f70 = some Sg.f_spec_l01Edits := Fw.PFn.of_get (by kernel_rfl)
theorem l_spec_l01Edits_0 (K : Nat) : Fw.LoopP (Sg.c_spec_l01Edits K) Sg.i_spec_l01Edits Sg.f_spec_l01Edits (Sg.p_spec_l01Edits_0 K) := ⟨fun _ => by kernel_rfl, fun n p => by kernel_rfl⟩
theorem ok_spec_l01Edits (K : Nat) : Fw.Ok Tryd.prog 70 (Sg.s_spec_l01Edits K) := Fw.funP_ok (c := Sg.c_spec_l01Edits K) (pi := Sg.i_spec_l01Edits) (depth := 6) (Fw.cfgP_ok (pi := Sg.i_spec_l01Edits) Sg.tabOK Sg.eqsOK Sg.mixOK ⟨ok_spec_l00Word K, ok_spec_l01In K, trivial⟩ trivial trivial pf_spec_l01Edits ⟨⟨_, rfl, l_spec_l01Edits_0 K⟩, trivial⟩ rfl) trivial pf_spec_l01Edits fun_spec_l01Edits call_spec_l01Edits (fun x => by kernel_rfl)
theorem fun_spec_l07Wish : Tryd.prog.funcs[34]? = some Tryd.f34 := by kernel_rfl
theorem call_spec_l07Wish : Fw.Callable Tryd.prog 34 := Fw.callable_of fun_spec_l07Wish (by kernel_rfl) (by kernel_rfl)
theorem pf_spec_l07Wish : Fw.PFn.of Tryd.f34 = some Sg.f_spec_l07Wish := Fw.PFn.of_get (by kernel_rfl)
theorem ok_spec_l07Wish (K : Nat) : Fw.Ok Tryd.prog 34 (Sg.s_spec_l07Wish K) := Fw.funP_ok (c := Sg.c_spec_l07Wish K) (pi := Sg.i_spec_l07Wish) (depth := 6) (Fw.cfgP_ok (pi := Sg.i_spec_l07Wish) Sg.tabOK Sg.eqsOK Sg.mixOK ⟨ok_spec_l00Word K, ok_spec_l01In K, ok_spec_l01Edits K, trivial⟩ trivial trivial pf_spec_l07Wish trivial rfl) trivial pf_spec_l07Wish fun_spec_l07Wish call_spec_l07Wish (fun x => by kernel_rfl)
theorem fun_spec_l13Kinds : Tryd.prog.funcs[71]? = some Tryd.f71 := by kernel_rfl
theorem call_spec_l13Kinds : Fw.Callable Tryd.prog 71 := Fw.callable_of fun_spec_l13Kinds (by kernel_rfl) (by kernel_rfl)
theorem pf_spec_l13Kinds : Fw.PFn.of Tryd.f71 = some Sg.f_spec_l13Kinds := Fw.PFn.of_get (by kernel_rfl)
theorem ok_spec_l13Kinds (K : Nat) : Fw.Ok Tryd.prog 71 (Sg.s_spec_l13Kinds K) := Fw.funP_ok (c := Sg.c_spec_l13Kinds K) (pi := Sg.i_spec_l13Kinds) (depth := 6) (Fw.cfgP_ok (pi := Sg.i_spec_l13Kinds) Sg.tabOK Sg.eqsOK Sg.mixOK trivial trivial trivial pf_spec_l13Kinds trivial rfl) trivial pf_spec_l13Kinds fun_spec_l13Kinds call_spec_l13Kinds (fun x => by kernel_rfl)
theorem fun_spec_l00Digits : Tryd.prog.funcs[82]? = some Tryd.f82 := by kernel_rfl
theorem call_spec_l00Digits : Fw.Callable Tryd.prog 82 := Fw.callable_of fun_spec_l00Digits (by kernel_rfl) (by kernel_rfl)
theorem pf_spec_l00Digits : Fw.PFn.of Tryd.f82 = some Sg.f_spec_l00Digits := Fw.PFn.of_get (by kernel_rfl)
theorem okn_spec_l00Digits (K : Nat) : ∀ n : Nat, Fw.Ok Tryd.prog 82 (Sg.s_spec_l00Digits K n)
  | 0 => ⟨call_spec_l00Digits, fun _ _ _ _ _ _ _ _ _ _ _ _ h => by cases h⟩
  | n + 1 => Fw.funP_ok (c := Sg.c_spec_l00Digits K (fun p0 => R.spec_l00Digits K n p0)) (pi := Sg.i_spec_l00Digits) (depth := 6) (Fw.cfgP_ok (pi := Sg.i_spec_l00Digits) Sg.tabOK Sg.eqsOK Sg.mixOK ⟨okn_spec_l00Digits K n, trivial⟩ trivial trivial pf_spec_l00Digits trivial rfl) trivial pf_spec_l00Digits fun_spec_l00Digits call_spec_l00Digits (fun x => by kernel_rfl)
theorem ok_spec_l00Digits (K : Nat) : Fw.Ok Tryd.prog 82 (Sg.s_spec_l00Digits K K) := okn_spec_l00Digits K K
theorem fun_spec_l13Edits : Tryd.prog.funcs[72]? = some Tryd.f72 := by kernel_rfl
theorem call_spec_l13Edits : Fw.Callable Tryd.prog 72 := Fw.callable_of fun_spec_l13Edits (by kernel_rfl) (by kernel_rfl)
theorem pf_spec_l13Edits : Fw.PFn.of Tryd.f72 = some Sg.f_spec_l13Edits := Fw.PFn.of_get (by kernel_rfl)
theorem l_spec_l13Edits_0 (K : Nat) : Fw.LoopP (Sg.c_spec_l13Edits K) Sg.i_spec_l13Edits Sg.f_spec_l13Edits (Sg.p_spec_l13Edits_0 K) := ⟨fun _ => by kernel_rfl, fun n p => by kernel_rfl⟩
theorem ok_spec_l13Edits (K : Nat) : Fw.Ok Tryd.prog 72 (Sg.s_spec_l13Edits K) := Fw.funP_ok (c := Sg.c_spec_l13Edits K) (pi := Sg.i_spec_l13Edits) (depth := 6) (Fw.cfgP_ok (pi := Sg.i_spec_l13Edits) Sg.tabOK Sg.eqsOK Sg.mixOK ⟨ok_spec_l00Digits K, trivial⟩ trivial trivial pf_spec_l13Edits ⟨⟨_, rfl, l_spec_l13Edits_0 K⟩, trivial⟩ rfl) trivial pf_spec_l13Edits fun_spec_l13Edits call_spec_l13Edits (fun x => by kernel_rfl)
theorem fun_spec_l13Wish : Tryd.prog.funcs[35]? = some Tryd.f35 := by kernel_rfl
theorem call_spec_l13Wish : Fw.Callable Tryd.prog 35 := Fw.callable_of fun_spec_l13Wish (by kernel_rfl) (by kernel_rfl)
theorem pf_spec_l13Wish : Fw.PFn.of Tryd.f35 = some Sg.f_spec_l13Wish := Fw.PFn.of_get (by kernel_rfl)
theorem ok_spec_l13Wish (K : Nat) : Fw.Ok Tryd.prog 35 (Sg.s_spec_l13Wish K) := Fw.funP_ok (c := Sg.c_spec_l13Wish K) (pi := Sg.i_spec_l13Wish) (depth := 6) (Fw.cfgP_ok (pi := Sg.i_spec_l13Wish) Sg.tabOK Sg.eqsOK Sg.mixOK ⟨ok_spec_l13Kinds K, ok_spec_l13Edits K, trivial⟩ trivial trivial pf_spec_l13Wish trivial rfl) trivial pf_spec_l13Wish fun_spec_l13Wish call_spec_l13Wish (fun x => by kernel_rfl)
theorem fun_spec_WishText : Tryd.prog.funcs[9]? = some Tryd.f9 := by kernel_rfl
theorem call_spec_WishText : Fw.Callable Tryd.prog 9 := Fw.callable_of fun_spec_WishText (by kernel_rfl) (by kernel_rfl)
theorem pf_spec_WishText : Fw.PFn.of Tryd.f9 = some Sg.f_spec_WishText := Fw.PFn.of_get (by kernel_rfl)
theorem ok_spec_WishText (K : Nat) : Fw.Ok Tryd.prog 9 (Sg.s_spec_WishText K) := Fw.funP_ok (c := Sg.c_spec_WishText K) (pi := Sg.i_spec_WishText) (depth := 6) (Fw.cfgP_ok (pi := Sg.i_spec_WishText) Sg.tabOK Sg.eqsOK Sg.mixOK ⟨ok_spec_l07Wish K, ok_spec_l13Wish K, trivial⟩ trivial trivial pf_spec_WishText trivial rfl) trivial pf_spec_WishText fun_spec_WishText call_spec_WishText (fun x => by kernel_rfl)
theorem fun_impl_hasSource : Tryd.prog.funcs[74]? = some Tryd.f74 := by kernel_rfl
theorem call_impl_hasSource : Fw.Callable Tryd.prog 74 := Fw.callable_of fun_impl_hasSource (by kernel_rfl) (by kernel_rfl)
theorem pf_impl_hasSource : Fw.PFn.of Tryd.f74 = some Sg.f_impl_hasSource := Fw.PFn.of_get (by kernel_rfl)
theorem ok_impl_hasSource (K : Nat) : Fw.Ok Tryd.prog 74 (Sg.s_impl_hasSource K) := Fw.funP_ok (c := Sg.c_impl_hasSource K) (pi := Sg.i_impl_hasSource) (depth := 6) (Fw.cfgP_ok (pi := Sg.i_impl_hasSource) Sg.tabOK Sg.eqsOK Sg.mixOK trivial trivial trivial pf_impl_hasSource trivial rfl) trivial pf_impl_hasSource fun_impl_hasSource call_impl_hasSource (fun x => by kernel_rfl)
theorem fun_slices_Clone_impl_Edit : Tryd.prog.funcs[104]? = some Tryd.f104 := by kernel_rfl
theorem call_slices_Clone_impl_Edit : Fw.Callable Tryd.prog 104 := Fw.callable_of fun_slices_Clone_impl_Edit (by kernel_rfl) (by kernel_rfl)
theorem pf_slices_Clone_impl_Edit : Fw.PFn.of Tryd.f104 = some Sg.f_slices_Clone_impl_Edit := Fw.PFn.of_get (by kernel_rfl)
theorem ok_slices_Clone_impl_Edit (K : Nat) : Fw.Ok Tryd.prog 104 (Sg.s_slices_Clone_impl_Edit K) := Fw.funP_ok (c := Sg.c_slices_Clone_impl_Edit K) (pi := Sg.i_slices_Clone_impl_Edit) (depth := 6) (Fw.cfgP_ok (pi := Sg.i_slices_Clone_impl_Edit) Sg.tabOK Sg.eqsOK Sg.mixOK trivial trivial trivial pf_slices_Clone_impl_Edit trivial rfl) trivial pf_slices_Clone_impl_Edit fun_slices_Clone_impl_Edit call_slices_Clone_impl_Edit (fun x => by kernel_rfl)
theorem fun_impl_Wish_op : Tryd.prog.funcs[75]? = some Tryd.f75 := by kernel_rfl
theorem call_impl_Wish_op : Fw.Callable Tryd.prog 75 := Fw.callable_of fun_impl_Wish_op (by kernel_rfl) (by kernel_rfl)
theorem pf_impl_Wish_op : Fw.PFn.of Tryd.f75 = some Sg.f_impl_Wish_op := Fw.PFn.of_get (by kernel_rfl)
theorem ok_impl_Wish_op (K : Nat) : Fw.Ok Tryd.prog 75 (Sg.s_impl_Wish_op K) := Fw.funP_ok (c := Sg.c_impl_Wish_op K) (pi := Sg.i_impl_Wish_op) (depth := 6) (Fw.cfgP_ok (pi := Sg.i_impl_Wish_op) Sg.tabOK Sg.eqsOK Sg.mixOK ⟨ok_slices_Clone_impl_Edit K, trivial⟩ trivial trivial pf_impl_Wish_op trivial rfl) trivial pf_impl_Wish_op fun_impl_Wish_op call_impl_Wish_op (fun x => by kernel_rfl)
theorem fun_impl_within : Tryd.prog.funcs[53]? = some Tryd.f53 := by kernel_rfl
theorem call_impl_within : Fw.Callable Tryd.prog 53 := Fw.callable_of fun_impl_within (by kernel_rfl) (by kernel_rfl)
theorem pf_impl_within : Fw.PFn.of Tryd.f53 = some Sg.f_impl_within := Fw.PFn.of_get (by kernel_rfl)
theorem ok_impl_within (K : Nat) : Fw.Ok Tryd.prog 53 (Sg.s_impl_within K) := Fw.funP_ok (c := Sg.c_impl_within K) (pi := Sg.i_impl_within) (depth := 6) (Fw.cfgP_ok (pi := Sg.i_impl_within) Sg.tabOK Sg.eqsOK Sg.mixOK trivial trivial trivial pf_impl_within trivial rfl) trivial pf_impl_within fun_impl_within call_impl_within (fun x => by kernel_rfl)
theorem fun_impl_isLetter : Tryd.prog.funcs[105]? = some Tryd.f105 := by kernel_rfl
theorem call_impl_isLetter : Fw.Callable Tryd.prog 105 := Fw.callable_of fun_impl_isLetter (by kernel_rfl) (by kernel_rfl)
theorem pf_impl_isLetter : Fw.PFn.of Tryd.f105 = some Sg.f_impl_isLetter := Fw.PFn.of_get (by kernel_rfl)
theorem ok_impl_isLetter (K : Nat) : Fw.Ok Tryd.prog 105 (Sg.s_impl_isLetter K) := Fw.funP_ok (c := Sg.c_impl_isLetter K) (pi := Sg.i_impl_isLetter) (depth := 6) (Fw.cfgP_ok (pi := Sg.i_impl_isLetter) Sg.tabOK Sg.eqsOK Sg.mixOK trivial trivial trivial pf_impl_isLetter trivial rfl) trivial pf_impl_isLetter fun_impl_isLetter call_impl_isLetter (fun x => by kernel_rfl)
theorem fun_impl_areAll_byte_1 : Tryd.prog.funcs[122]? = some Tryd.f122 := by kernel_rfl
theorem call_impl_areAll_byte_1 : Fw.Callable Tryd.prog 122 := Fw.callable_of fun_impl_areAll_byte_1 (by kernel_rfl) (by kernel_rfl)
theorem pf_impl_areAll_byte_1 : Fw.PFn.of Tryd.f122 = some Sg.f_impl_areAll_byte_1 := Fw.PFn.of_get (by kernel_rfl)
theorem fun_slices_IndexFunc_byte : Tryd.prog.funcs[136]? = some Tryd.f136 := by kernel_rfl
theorem call_slices_IndexFunc_byte : Fw.Callable Tryd.prog 136 := Fw.callable_of fun_slices_IndexFunc_byte (by kernel_rfl) (by kernel_rfl)
theorem pf_slices_IndexFunc_byte : Fw.PFn.of Tryd.f136 = some Sg.f_slices_IndexFunc_byte := Fw.PFn.of_get (by kernel_rfl)
theorem fun_slices_ContainsFunc_byte : Tryd.prog.funcs[121]? = some Tryd.f121 := by kernel_rfl
theorem call_slices_ContainsFunc_byte : Fw.Callable Tryd.prog 121 := Fw.callable_of fun_slices_ContainsFunc_byte (by kernel_rfl) (by kernel_rfl)
theorem pf_slices_ContainsFunc_byte : Fw.PFn.of Tryd.f121 = some Sg.f_slices_ContainsFunc_byte := Fw.PFn.of_get (by kernel_rfl)
theorem fun_impl_areAll_byte : Tryd.prog.funcs[106]? = some Tryd.f106 := by kernel_rfl
theorem call_impl_areAll_byte : Fw.Callable Tryd.prog 106 := Fw.callable_of fun_impl_areAll_byte (by kernel_rfl) (by kernel_rfl)
theorem pf_impl_areAll_byte : Fw.PFn.of Tryd.f106 = some Sg.f_impl_areAll_byte := Fw.PFn.of_get (by kernel_rfl)
theorem fun_impl_isDigit : Tryd.prog.funcs[108]? = some Tryd.f108 := by kernel_rfl
theorem call_impl_isDigit : Fw.Callable Tryd.prog 108 := Fw.callable_of fun_impl_isDigit (by kernel_rfl) (by kernel_rfl)
theorem pf_impl_isDigit : Fw.PFn.of Tryd.f108 = some Sg.f_impl_isDigit := Fw.PFn.of_get (by kernel_rfl)
theorem ok_impl_isDigit (K : Nat) : Fw.Ok Tryd.prog 108 (Sg.s_impl_isDigit K) := Fw.funP_ok (c := Sg.c_impl_isDigit K) (pi := Sg.i_impl_isDigit) (depth := 6) (Fw.cfgP_ok (pi := Sg.i_impl_isDigit) Sg.tabOK Sg.eqsOK Sg.mixOK trivial trivial trivial pf_impl_isDigit trivial rfl) trivial pf_impl_isDigit fun_impl_isDigit call_impl_isDigit (fun x => by kernel_rfl)
theorem fun_impl_NameOK_1 : Tryd.prog.funcs[107]? = some Tryd.f107 := by kernel_rfl
theorem call_impl_NameOK_1 : Fw.Callable Tryd.prog 107 := Fw.callable_of fun_impl_NameOK_1 (by kernel_rfl) (by kernel_rfl)
theorem pf_impl_NameOK_1 : Fw.PFn.of Tryd.f107 = some Sg.f_impl_NameOK_1 := Fw.PFn.of_get (by kernel_rfl)
theorem ok_impl_NameOK_1 (K : Nat) : Fw.Ok Tryd.prog 107 (Sg.s_impl_NameOK_1 K) := Fw.funP_ok (c := Sg.c_impl_NameOK_1 K) (pi := Sg.i_impl_NameOK_1) (depth := 6) (Fw.cfgP_ok (pi := Sg.i_impl_NameOK_1) Sg.tabOK Sg.eqsOK Sg.mixOK ⟨ok_impl_isLetter K, ok_impl_isDigit K, trivial⟩ trivial trivial pf_impl_NameOK_1 trivial rfl) trivial pf_impl_NameOK_1 fun_impl_NameOK_1 call_impl_NameOK_1 (fun x => by kernel_rfl)
theorem l_impl_areAll_byte__impl_NameOK_1_0 (K : Nat) : Fw.LoopP (Sg.c_impl_areAll_byte__impl_NameOK_1 K) Sg.i_impl_areAll_byte__impl_NameOK_1 Sg.f_slices_IndexFunc_byte (Sg.p_impl_areAll_byte__impl_NameOK_1_0 K) := ⟨fun _ => by kernel_rfl, fun n p => by kernel_rfl⟩
theorem ok_impl_areAll_byte__impl_NameOK_1 (K : Nat) : Fw.Ok Tryd.prog 106 (Sg.s_impl_areAll_byte__impl_NameOK_1 K) := Fw.funP_ok (c := Sg.c_impl_areAll_byte__impl_NameOK_1 K) (pi := Sg.i_impl_areAll_byte__impl_NameOK_1) (depth := 6) (Fw.cfgP_ok (pi := Sg.i_impl_areAll_byte__impl_NameOK_1) Sg.tabOK Sg.eqsOK Sg.mixOK ⟨ok_impl_NameOK_1 K, trivial⟩ ⟨⟨fun_impl_areAll_byte_1, call_impl_areAll_byte_1⟩, ⟨fun_slices_IndexFunc_byte, call_slices_IndexFunc_byte⟩, ⟨fun_slices_ContainsFunc_byte, call_slices_ContainsFunc_byte⟩, trivial⟩ ⟨⟨rfl, pf_impl_areAll_byte_1⟩, ⟨rfl, pf_slices_IndexFunc_byte⟩, ⟨rfl, pf_slices_ContainsFunc_byte⟩, trivial⟩ pf_impl_areAll_byte ⟨⟨_, rfl, l_impl_areAll_byte__impl_NameOK_1_0 K⟩, trivial⟩ rfl) ⟨⟨rfl, pf_impl_areAll_byte_1⟩, ⟨rfl, pf_slices_IndexFunc_byte⟩, ⟨rfl, pf_slices_ContainsFunc_byte⟩, trivial⟩ pf_impl_areAll_byte fun_impl_areAll_byte call_impl_areAll_byte (fun x => by kernel_rfl)
theorem fun_impl_NameOK : Tryd.prog.funcs[76]? = some Tryd.f76 := by kernel_rfl
theorem call_impl_NameOK : Fw.Callable Tryd.prog 76 := Fw.callable_of fun_impl_NameOK (by kernel_rfl) (by kernel_rfl)
theorem pf_impl_NameOK : Fw.PFn.of Tryd.f76 = some Sg.f_impl_NameOK := Fw.PFn.of_get (by kernel_rfl)
theorem ok_impl_NameOK (K : Nat) : Fw.Ok Tryd.prog 76 (Sg.s_impl_NameOK K) := Fw.funP_ok (c := Sg.c_impl_NameOK K) (pi := Sg.i_impl_NameOK) (depth := 6) (Fw.cfgP_ok (pi := Sg.i_impl_NameOK) Sg.tabOK Sg.eqsOK Sg.mixOK ⟨ok_impl_within K, ok_impl_isLetter K, ok_impl_NameOK_1 K, ok_impl_areAll_byte__impl_NameOK_1 K, trivial⟩ ⟨⟨fun_impl_areAll_byte_1, call_impl_areAll_byte_1⟩, ⟨fun_slices_IndexFunc_byte, call_slices_IndexFunc_byte⟩, ⟨fun_slices_ContainsFunc_byte, call_slices_ContainsFunc_byte⟩, ⟨fun_impl_areAll_byte, call_impl_areAll_byte⟩, trivial⟩ ⟨⟨rfl, pf_impl_areAll_byte_1⟩, ⟨rfl, pf_slices_IndexFunc_byte⟩, ⟨rfl, pf_slices_ContainsFunc_byte⟩, ⟨rfl, pf_impl_areAll_byte⟩, trivial⟩ pf_impl_NameOK trivial rfl) ⟨⟨rfl, pf_impl_areAll_byte_1⟩, ⟨rfl, pf_slices_IndexFunc_byte⟩, ⟨rfl, pf_slices_ContainsFunc_byte⟩, ⟨rfl, pf_impl_areAll_byte⟩, trivial⟩ pf_impl_NameOK fun_impl_NameOK call_impl_NameOK (fun x => by kernel_rfl)
theorem fun_impl_isHead : Tryd.prog.funcs[92]? = some Tryd.f92 := by kernel_rfl
theorem call_impl_isHead : Fw.Callable Tryd.prog 92 := Fw.callable_of fun_impl_isHead (by kernel_rfl) (by kernel_rfl)
theorem pf_impl_isHead : Fw.PFn.of Tryd.f92 = some Sg.f_impl_isHead := Fw.PFn.of_get (by kernel_rfl)
theorem ok_impl_isHead (K : Nat) : Fw.Ok Tryd.prog 92 (Sg.s_impl_isHead K) := Fw.funP_ok (c := Sg.c_impl_isHead K) (pi := Sg.i_impl_isHead) (depth := 6) (Fw.cfgP_ok (pi := Sg.i_impl_isHead) Sg.tabOK Sg.eqsOK Sg.mixOK ⟨ok_impl_within K, trivial⟩ trivial trivial pf_impl_isHead trivial rfl) trivial pf_impl_isHead fun_impl_isHead call_impl_isHead (fun x => by kernel_rfl)
theorem fun_impl_isValue : Tryd.prog.funcs[100]? = some Tryd.f100 := by kernel_rfl
theorem call_impl_isValue : Fw.Callable Tryd.prog 100 := Fw.callable_of fun_impl_isValue (by kernel_rfl) (by kernel_rfl)
theorem pf_impl_isValue : Fw.PFn.of Tryd.f100 = some Sg.f_impl_isValue := Fw.PFn.of_get (by kernel_rfl)
theorem ok_impl_isValue (K : Nat) : Fw.Ok Tryd.prog 100 (Sg.s_impl_isValue K) := Fw.funP_ok (c := Sg.c_impl_isValue K) (pi := Sg.i_impl_isValue) (depth := 6) (Fw.cfgP_ok (pi := Sg.i_impl_isValue) Sg.tabOK Sg.eqsOK Sg.mixOK ⟨ok_impl_within K, trivial⟩ trivial trivial pf_impl_isValue trivial rfl) trivial pf_impl_isValue fun_impl_isValue call_impl_isValue (fun x => by kernel_rfl)
theorem fun_impl_EditsOK : Tryd.prog.funcs[93]? = some Tryd.f93 := by kernel_rfl
theorem call_impl_EditsOK : Fw.Callable Tryd.prog 93 := Fw.callable_of fun_impl_EditsOK (by kernel_rfl) (by kernel_rfl)
theorem pf_impl_EditsOK : Fw.PFn.of Tryd.f93 = some Sg.f_impl_EditsOK := Fw.PFn.of_get (by kernel_rfl)
theorem l_impl_EditsOK_0 (K : Nat) : Fw.LoopP (Sg.c_impl_EditsOK K) Sg.i_impl_EditsOK Sg.f_impl_EditsOK (Sg.p_impl_EditsOK_0 K) := ⟨fun _ => by kernel_rfl, fun n p => by kernel_rfl⟩
theorem ok_impl_EditsOK (K : Nat) : Fw.Ok Tryd.prog 93 (Sg.s_impl_EditsOK K) := Fw.funP_ok (c := Sg.c_impl_EditsOK K) (pi := Sg.i_impl_EditsOK) (depth := 6) (Fw.cfgP_ok (pi := Sg.i_impl_EditsOK) Sg.tabOK Sg.eqsOK Sg.mixOK ⟨ok_impl_NameOK K, ok_impl_isValue K, trivial⟩ trivial trivial pf_impl_EditsOK ⟨⟨_, rfl, l_impl_EditsOK_0 K⟩, trivial⟩ rfl) trivial pf_impl_EditsOK fun_impl_EditsOK call_impl_EditsOK (fun x => by kernel_rfl)
theorem fun_impl_OpOK : Tryd.prog.funcs[55]? = some Tryd.f55 := by kernel_rfl
theorem call_impl_OpOK : Fw.Callable Tryd.prog 55 := Fw.callable_of fun_impl_OpOK (by kernel_rfl) (by kernel_rfl)
theorem pf_impl_OpOK : Fw.PFn.of Tryd.f55 = some Sg.f_impl_OpOK := Fw.PFn.of_get (by kernel_rfl)
theorem ok_impl_OpOK (K : Nat) : Fw.Ok Tryd.prog 55 (Sg.s_impl_OpOK K) := Fw.funP_ok (c := Sg.c_impl_OpOK K) (pi := Sg.i_impl_OpOK) (depth := 6) (Fw.cfgP_ok (pi := Sg.i_impl_OpOK) Sg.tabOK Sg.eqsOK Sg.mixOK ⟨ok_impl_within K, ok_impl_NameOK K, ok_impl_isHead K, ok_impl_EditsOK K, trivial⟩ trivial trivial pf_impl_OpOK trivial rfl) trivial pf_impl_OpOK fun_impl_OpOK call_impl_OpOK (fun x => by kernel_rfl)
theorem fun_impl_WishOK : Tryd.prog.funcs[37]? = some Tryd.f37 := by kernel_rfl
theorem call_impl_WishOK : Fw.Callable Tryd.prog 37 := Fw.callable_of fun_impl_WishOK (by kernel_rfl) (by kernel_rfl)
theorem pf_impl_WishOK : Fw.PFn.of Tryd.f37 = some Sg.f_impl_WishOK := Fw.PFn.of_get (by kernel_rfl)
theorem ok_impl_WishOK (K : Nat) : Fw.Ok Tryd.prog 37 (Sg.s_impl_WishOK K) := Fw.funP_ok (c := Sg.c_impl_WishOK K) (pi := Sg.i_impl_WishOK) (depth := 6) (Fw.cfgP_ok (pi := Sg.i_impl_WishOK) Sg.tabOK Sg.eqsOK Sg.mixOK ⟨ok_impl_hasSource K, ok_impl_Wish_op K, ok_impl_NameOK K, ok_impl_OpOK K, trivial⟩ trivial trivial pf_impl_WishOK trivial rfl) trivial pf_impl_WishOK fun_impl_WishOK call_impl_WishOK (fun x => by kernel_rfl)
theorem fun_impl_kindWords : Tryd.prog.funcs[77]? = some Tryd.f77 := by kernel_rfl
theorem call_impl_kindWords : Fw.Callable Tryd.prog 77 := Fw.callable_of fun_impl_kindWords (by kernel_rfl) (by kernel_rfl)
theorem pf_impl_kindWords : Fw.PFn.of Tryd.f77 = some Sg.f_impl_kindWords := Fw.PFn.of_get (by kernel_rfl)
theorem ok_impl_kindWords (K : Nat) : Fw.Ok Tryd.prog 77 (Sg.s_impl_kindWords K) := Fw.funP_ok (c := Sg.c_impl_kindWords K) (pi := Sg.i_impl_kindWords) (depth := 6) (Fw.cfgP_ok (pi := Sg.i_impl_kindWords) Sg.tabOK Sg.eqsOK Sg.mixOK trivial trivial trivial pf_impl_kindWords trivial rfl) trivial pf_impl_kindWords fun_impl_kindWords call_impl_kindWords (fun x => by kernel_rfl)
theorem fun_strconv_Itoa : Tryd.prog.funcs[94]? = some Tryd.f94 := by kernel_rfl
theorem call_strconv_Itoa : Fw.Callable Tryd.prog 94 := Fw.callable_of fun_strconv_Itoa (by kernel_rfl) (by kernel_rfl)
theorem ok_strconv_Itoa (K : Nat) : Fw.Ok Tryd.prog 94 (Sg.s_strconv_Itoa K) := Fw.ok_itoa call_strconv_Itoa (fun _ h => h) (fun n h0 h1 w ht => Tryd.strconv_Itoa n h0 h1 w ht)
theorem fun_strings_Join : Tryd.prog.funcs[113]? = some Tryd.f113 := by kernel_rfl
theorem call_strings_Join : Fw.Callable Tryd.prog 113 := Fw.callable_of fun_strings_Join (by kernel_rfl) (by kernel_rfl)
theorem ok_strings_Join (K : Nat) : Fw.Ok Tryd.prog 113 (Sg.s_strings_Join K) := Fw.ok_join call_strings_Join (fun a c sep w => Tryd.strings_Join_none a c sep w) (fun bk o c xs sep w h1 h2 h3 h4 h5 => Tryd.strings_Join bk o c xs sep w h1 h2 h3 h4 h5)
theorem fun_impl_listed : Tryd.prog.funcs[90]? = some Tryd.f90 := by kernel_rfl
theorem call_impl_listed : Fw.Callable Tryd.prog 90 := Fw.callable_of fun_impl_listed (by kernel_rfl) (by kernel_rfl)
theorem pf_impl_listed : Fw.PFn.of Tryd.f90 = some Sg.f_impl_listed := Fw.PFn.of_get (by kernel_rfl)
theorem ok_impl_listed (K : Nat) : Fw.Ok Tryd.prog 90 (Sg.s_impl_listed K) := Fw.funP_ok (c := Sg.c_impl_listed K) (pi := Sg.i_impl_listed) (depth := 6) (Fw.cfgP_ok (pi := Sg.i_impl_listed) Sg.tabOK Sg.eqsOK Sg.mixOK ⟨ok_strings_Join K, trivial⟩ trivial trivial pf_impl_listed trivial rfl) trivial pf_impl_listed fun_impl_listed call_impl_listed (fun x => by kernel_rfl)
theorem fun_impl_editsText : Tryd.prog.funcs[78]? = some Tryd.f78 := by kernel_rfl
theorem call_impl_editsText : Fw.Callable Tryd.prog 78 := Fw.callable_of fun_impl_editsText (by kernel_rfl) (by kernel_rfl)
theorem pf_impl_editsText : Fw.PFn.of Tryd.f78 = some Sg.f_impl_editsText := Fw.PFn.of_get (by kernel_rfl)
theorem l_impl_editsText_0 (K : Nat) : Fw.LoopP (Sg.c_impl_editsText K) Sg.i_impl_editsText Sg.f_impl_editsText (Sg.p_impl_editsText_0 K) := ⟨fun _ => by kernel_rfl, fun n p => by kernel_rfl⟩
theorem ok_impl_editsText (K : Nat) : Fw.Ok Tryd.prog 78 (Sg.s_impl_editsText K) := Fw.funP_ok (c := Sg.c_impl_editsText K) (pi := Sg.i_impl_editsText) (depth := 6) (Fw.cfgP_ok (pi := Sg.i_impl_editsText) Sg.tabOK Sg.eqsOK Sg.mixOK ⟨ok_strconv_Itoa K, ok_impl_listed K, trivial⟩ trivial trivial pf_impl_editsText ⟨⟨_, rfl, l_impl_editsText_0 K⟩, trivial⟩ rfl) trivial pf_impl_editsText fun_impl_editsText call_impl_editsText (fun x => by kernel_rfl)
theorem fun_impl_wishText : Tryd.prog.funcs[38]? = some Tryd.f38 := by kernel_rfl
theorem call_impl_wishText : Fw.Callable Tryd.prog 38 := Fw.callable_of fun_impl_wishText (by kernel_rfl) (by kernel_rfl)
theorem pf_impl_wishText : Fw.PFn.of Tryd.f38 = some Sg.f_impl_wishText := Fw.PFn.of_get (by kernel_rfl)
theorem ok_impl_wishText (K : Nat) : Fw.Ok Tryd.prog 38 (Sg.s_impl_wishText K) := Fw.funP_ok (c := Sg.c_impl_wishText K) (pi := Sg.i_impl_wishText) (depth := 6) (Fw.cfgP_ok (pi := Sg.i_impl_wishText) Sg.tabOK Sg.eqsOK Sg.mixOK ⟨ok_impl_kindWords K, ok_impl_editsText K, trivial⟩ trivial trivial pf_impl_wishText trivial rfl) trivial pf_impl_wishText fun_impl_wishText call_impl_wishText (fun x => by kernel_rfl)
theorem fun_impl_WishText : Tryd.prog.funcs[11]? = some Tryd.f11 := by kernel_rfl
theorem call_impl_WishText : Fw.Callable Tryd.prog 11 := Fw.callable_of fun_impl_WishText (by kernel_rfl) (by kernel_rfl)
theorem pf_impl_WishText : Fw.PFn.of Tryd.f11 = some Sg.f_impl_WishText := Fw.PFn.of_get (by kernel_rfl)
theorem ok_impl_WishText (K : Nat) : Fw.Ok Tryd.prog 11 (Sg.s_impl_WishText K) := Fw.funP_ok (c := Sg.c_impl_WishText K) (pi := Sg.i_impl_WishText) (depth := 6) (Fw.cfgP_ok (pi := Sg.i_impl_WishText) Sg.tabOK Sg.eqsOK Sg.mixOK ⟨ok_impl_WishOK K, ok_impl_wishText K, trivial⟩ trivial trivial pf_impl_WishText trivial rfl) trivial pf_impl_WishText fun_impl_WishText call_impl_WishText (fun x => by kernel_rfl)
theorem fun_laws_eqEdit : Tryd.prog.funcs[67]? = some Tryd.f67 := by kernel_rfl
theorem call_laws_eqEdit : Fw.Callable Tryd.prog 67 := Fw.callable_of fun_laws_eqEdit (by kernel_rfl) (by kernel_rfl)
theorem pf_laws_eqEdit : Fw.PFn.of Tryd.f67 = some Sg.f_laws_eqEdit := Fw.PFn.of_get (by kernel_rfl)
theorem ok_laws_eqEdit (K : Nat) : Fw.Ok Tryd.prog 67 (Sg.s_laws_eqEdit K) := Fw.funP_ok (c := Sg.c_laws_eqEdit K) (pi := Sg.i_laws_eqEdit) (depth := 6) (Fw.cfgP_ok (pi := Sg.i_laws_eqEdit) Sg.tabOK Sg.eqsOK Sg.mixOK trivial trivial trivial pf_laws_eqEdit trivial rfl) trivial pf_laws_eqEdit fun_laws_eqEdit call_laws_eqEdit (fun x => by kernel_rfl)
theorem fun_laws_eqEditS : Tryd.prog.funcs[30]? = some Tryd.f30 := by kernel_rfl
theorem call_laws_eqEditS : Fw.Callable Tryd.prog 30 := Fw.callable_of fun_laws_eqEditS (by kernel_rfl) (by kernel_rfl)
theorem pf_laws_eqEditS : Fw.PFn.of Tryd.f30 = some Sg.f_laws_eqEditS := Fw.PFn.of_get (by kernel_rfl)
theorem l_laws_eqEditS_0 (K : Nat) : Fw.LoopP (Sg.c_laws_eqEditS K) Sg.i_laws_eqEditS Sg.f_laws_eqEditS (Sg.p_laws_eqEditS_0 K) := ⟨fun _ => by kernel_rfl, fun n p => by kernel_rfl⟩
theorem ok_laws_eqEditS (K : Nat) : Fw.Ok Tryd.prog 30 (Sg.s_laws_eqEditS K) := Fw.funP_ok (c := Sg.c_laws_eqEditS K) (pi := Sg.i_laws_eqEditS) (depth := 6) (Fw.cfgP_ok (pi := Sg.i_laws_eqEditS) Sg.tabOK Sg.eqsOK Sg.mixOK ⟨ok_laws_eqEdit K, trivial⟩ trivial trivial pf_laws_eqEditS ⟨⟨_, rfl, l_laws_eqEditS_0 K⟩, trivial⟩ rfl) trivial pf_laws_eqEditS fun_laws_eqEditS call_laws_eqEditS (fun x => by kernel_rfl)
theorem fun_laws_eqWish : Tryd.prog.funcs[12]? = some Tryd.f12 := by kernel_rfl
theorem call_laws_eqWish : Fw.Callable Tryd.prog 12 := Fw.callable_of fun_laws_eqWish (by kernel_rfl) (by kernel_rfl)
theorem pf_laws_eqWish : Fw.PFn.of Tryd.f12 = some Sg.f_laws_eqWish := Fw.PFn.of_get (by kernel_rfl)
theorem ok_laws_eqWish (K : Nat) : Fw.Ok Tryd.prog 12 (Sg.s_laws_eqWish K) := Fw.funP_ok (c := Sg.c_laws_eqWish K) (pi := Sg.i_laws_eqWish) (depth := 6) (Fw.cfgP_ok (pi := Sg.i_laws_eqWish) Sg.tabOK Sg.eqsOK Sg.mixOK ⟨ok_laws_eqEditS K, trivial⟩ trivial trivial pf_laws_eqWish trivial rfl) trivial pf_laws_eqWish fun_laws_eqWish call_laws_eqWish (fun x => by kernel_rfl)
theorem fun_laws_FnExactWishText : Tryd.prog.funcs[3]? = some Tryd.f3 := by kernel_rfl
theorem call_laws_FnExactWishText : Fw.Callable Tryd.prog 3 := Fw.callable_of fun_laws_FnExactWishText (by kernel_rfl) (by kernel_rfl)
theorem pf_laws_FnExactWishText : Fw.PFn.of Tryd.f3 = some Sg.f_laws_FnExactWishText := Fw.PFn.of_get (by kernel_rfl)
theorem ok_laws_FnExactWishText (K : Nat) : Fw.Ok Tryd.prog 3 (Sg.s_laws_FnExactWishText K) := Fw.funP_ok (c := Sg.c_laws_FnExactWishText K) (pi := Sg.i_laws_FnExactWishText) (depth := 6) (Fw.cfgP_ok (pi := Sg.i_laws_FnExactWishText) Sg.tabOK Sg.eqsOK Sg.mixOK ⟨ok_laws_szWish K, ok_laws_toWish K, ok_spec_WishText K, ok_impl_WishText K, ok_laws_eqWish K, trivial⟩ trivial trivial pf_laws_FnExactWishText trivial rfl) trivial pf_laws_FnExactWishText fun_laws_FnExactWishText call_laws_FnExactWishText (fun x => by kernel_rfl)
theorem fun_laws_szStringS : Tryd.prog.funcs[39]? = some Tryd.f39 := by kernel_rfl
theorem call_laws_szStringS : Fw.Callable Tryd.prog 39 := Fw.callable_of fun_laws_szStringS (by kernel_rfl) (by kernel_rfl)
theorem pf_laws_szStringS : Fw.PFn.of Tryd.f39 = some Sg.f_laws_szStringS := Fw.PFn.of_get (by kernel_rfl)
theorem l_laws_szStringS_0 (K : Nat) : Fw.LoopP (Sg.c_laws_szStringS K) Sg.i_laws_szStringS Sg.f_laws_szStringS (Sg.p_laws_szStringS_0 K) := ⟨fun _ => by kernel_rfl, fun n p => by kernel_rfl⟩
theorem ok_laws_szStringS (K : Nat) : Fw.Ok Tryd.prog 39 (Sg.s_laws_szStringS K) := Fw.funP_ok (c := Sg.c_laws_szStringS K) (pi := Sg.i_laws_szStringS) (depth := 6) (Fw.cfgP_ok (pi := Sg.i_laws_szStringS) Sg.tabOK Sg.eqsOK Sg.mixOK trivial trivial trivial pf_laws_szStringS ⟨⟨_, rfl, l_laws_szStringS_0 K⟩, trivial⟩ rfl) trivial pf_laws_szStringS fun_laws_szStringS call_laws_szStringS (fun x => by kernel_rfl)
theorem fun_laws_szEntry : Tryd.prog.funcs[79]? = some Tryd.f79 := by kernel_rfl
theorem call_laws_szEntry : Fw.Callable Tryd.prog 79 := Fw.callable_of fun_laws_szEntry (by kernel_rfl) (by kernel_rfl)
theorem pf_laws_szEntry : Fw.PFn.of Tryd.f79 = some Sg.f_laws_szEntry := Fw.PFn.of_get (by kernel_rfl)
theorem ok_laws_szEntry (K : Nat) : Fw.Ok Tryd.prog 79 (Sg.s_laws_szEntry K) := Fw.funP_ok (c := Sg.c_laws_szEntry K) (pi := Sg.i_laws_szEntry) (depth := 6) (Fw.cfgP_ok (pi := Sg.i_laws_szEntry) Sg.tabOK Sg.eqsOK Sg.mixOK trivial trivial trivial pf_laws_szEntry trivial rfl) trivial pf_laws_szEntry fun_laws_szEntry call_laws_szEntry (fun x => by kernel_rfl)
theorem fun_laws_szEntryS : Tryd.prog.funcs[40]? = some Tryd.f40 := by kernel_rfl
theorem call_laws_szEntryS : Fw.Callable Tryd.prog 40 := Fw.callable_of fun_laws_szEntryS (by kernel_rfl) (by kernel_rfl)
theorem pf_laws_szEntryS : Fw.PFn.of Tryd.f40 = some Sg.f_laws_szEntryS := Fw.PFn.of_get (by kernel_rfl)
theorem l_laws_szEntryS_0 (K : Nat) : Fw.LoopP (Sg.c_laws_szEntryS K) Sg.i_laws_szEntryS Sg.f_laws_szEntryS (Sg.p_laws_szEntryS_0 K) := ⟨fun _ => by kernel_rfl, fun n p => by kernel_rfl⟩
theorem ok_laws_szEntryS (K : Nat) : Fw.Ok Tryd.prog 40 (Sg.s_laws_szEntryS K) := Fw.funP_ok (c := Sg.c_laws_szEntryS K) (pi := Sg.i_laws_szEntryS) (depth := 6) (Fw.cfgP_ok (pi := Sg.i_laws_szEntryS) Sg.tabOK Sg.eqsOK Sg.mixOK ⟨ok_laws_szEntry K, trivial⟩ trivial trivial pf_laws_szEntryS ⟨⟨_, rfl, l_laws_szEntryS_0 K⟩, trivial⟩ rfl) trivial pf_laws_szEntryS fun_laws_szEntryS call_laws_szEntryS (fun x => by kernel_rfl)
theorem fun_laws_szResult : Tryd.prog.funcs[13]? = some Tryd.f13 := by kernel_rfl
theorem call_laws_szResult : Fw.Callable Tryd.prog 13 := Fw.callable_of fun_laws_szResult (by kernel_rfl) (by kernel_rfl)
theorem pf_laws_szResult : Fw.PFn.of Tryd.f13 = some Sg.f_laws_szResult := Fw.PFn.of_get (by kernel_rfl)
theorem ok_laws_szResult (K : Nat) : Fw.Ok Tryd.prog 13 (Sg.s_laws_szResult K) := Fw.funP_ok (c := Sg.c_laws_szResult K) (pi := Sg.i_laws_szResult) (depth := 6) (Fw.cfgP_ok (pi := Sg.i_laws_szResult) Sg.tabOK Sg.eqsOK Sg.mixOK ⟨ok_laws_szStringS K, ok_laws_szEntryS K, trivial⟩ trivial trivial pf_laws_szResult trivial rfl) trivial pf_laws_szResult fun_laws_szResult call_laws_szResult (fun x => by kernel_rfl)
theorem fun_laws_toStringS : Tryd.prog.funcs[43]? = some Tryd.f43 := by kernel_rfl
theorem call_laws_toStringS : Fw.Callable Tryd.prog 43 := Fw.callable_of fun_laws_toStringS (by kernel_rfl) (by kernel_rfl)
theorem pf_laws_toStringS : Fw.PFn.of Tryd.f43 = some Sg.f_laws_toStringS := Fw.PFn.of_get (by kernel_rfl)
theorem l_laws_toStringS_0 (K : Nat) : Fw.LoopP (Sg.c_laws_toStringS K) Sg.i_laws_toStringS Sg.f_laws_toStringS (Sg.p_laws_toStringS_0 K) := ⟨fun _ => by kernel_rfl, fun n p => by kernel_rfl⟩
theorem ok_laws_toStringS (K : Nat) : Fw.Ok Tryd.prog 43 (Sg.s_laws_toStringS K) := Fw.funP_ok (c := Sg.c_laws_toStringS K) (pi := Sg.i_laws_toStringS) (depth := 6) (Fw.cfgP_ok (pi := Sg.i_laws_toStringS) Sg.tabOK Sg.eqsOK Sg.mixOK trivial trivial trivial pf_laws_toStringS ⟨⟨_, rfl, l_laws_toStringS_0 K⟩, trivial⟩ rfl) trivial pf_laws_toStringS fun_laws_toStringS call_laws_toStringS (fun x => by kernel_rfl)
theorem fun_laws_toEntry : Tryd.prog.funcs[85]? = some Tryd.f85 := by kernel_rfl
theorem call_laws_toEntry : Fw.Callable Tryd.prog 85 := Fw.callable_of fun_laws_toEntry (by kernel_rfl) (by kernel_rfl)
theorem pf_laws_toEntry : Fw.PFn.of Tryd.f85 = some Sg.f_laws_toEntry := Fw.PFn.of_get (by kernel_rfl)
theorem ok_laws_toEntry (K : Nat) : Fw.Ok Tryd.prog 85 (Sg.s_laws_toEntry K) := Fw.funP_ok (c := Sg.c_laws_toEntry K) (pi := Sg.i_laws_toEntry) (depth := 6) (Fw.cfgP_ok (pi := Sg.i_laws_toEntry) Sg.tabOK Sg.eqsOK Sg.mixOK trivial trivial trivial pf_laws_toEntry trivial rfl) trivial pf_laws_toEntry fun_laws_toEntry call_laws_toEntry (fun x => by kernel_rfl)
theorem fun_laws_toEntryS : Tryd.prog.funcs[44]? = some Tryd.f44 := by kernel_rfl
theorem call_laws_toEntryS : Fw.Callable Tryd.prog 44 := Fw.callable_of fun_laws_toEntryS (by kernel_rfl) (by kernel_rfl)
theorem pf_laws_toEntryS : Fw.PFn.of Tryd.f44 = some Sg.f_laws_toEntryS := Fw.PFn.of_get (by kernel_rfl)
theorem l_laws_toEntryS_0 (K : Nat) : Fw.LoopP (Sg.c_laws_toEntryS K) Sg.i_laws_toEntryS Sg.f_laws_toEntryS (Sg.p_laws_toEntryS_0 K) := ⟨fun _ => by kernel_rfl, fun n p => by kernel_rfl⟩
theorem ok_laws_toEntryS (K : Nat) : Fw.Ok Tryd.prog 44 (Sg.s_laws_toEntryS K) := Fw.funP_ok (c := Sg.c_laws_toEntryS K) (pi := Sg.i_laws_toEntryS) (depth := 6) (Fw.cfgP_ok (pi := Sg.i_laws_toEntryS) Sg.tabOK Sg.eqsOK Sg.mixOK ⟨ok_laws_toEntry K, trivial⟩ trivial trivial pf_laws_toEntryS ⟨⟨_, rfl, l_laws_toEntryS_0 K⟩, trivial⟩ rfl) trivial pf_laws_toEntryS fun_laws_toEntryS call_laws_toEntryS (fun x => by kernel_rfl)
theorem fun_laws_toResult : Tryd.prog.funcs[15]? = some Tryd.f15 := by kernel_rfl
theorem call_laws_toResult : Fw.Callable Tryd.prog 15 := Fw.callable_of fun_laws_toResult (by kernel_rfl) (by kernel_rfl)
theorem pf_laws_toResult : Fw.PFn.of Tryd.f15 = some Sg.f_laws_toResult := Fw.PFn.of_get (by kernel_rfl)
theorem ok_laws_toResult (K : Nat) : Fw.Ok Tryd.prog 15 (Sg.s_laws_toResult K) := Fw.funP_ok (c := Sg.c_laws_toResult K) (pi := Sg.i_laws_toResult) (depth := 6) (Fw.cfgP_ok (pi := Sg.i_laws_toResult) Sg.tabOK Sg.eqsOK Sg.mixOK ⟨ok_laws_toStringS K, ok_laws_toEntryS K, trivial⟩ trivial trivial pf_laws_toResult trivial rfl) trivial pf_laws_toResult fun_laws_toResult call_laws_toResult (fun x => by kernel_rfl)
theorem fun_spec_l01OK : Tryd.prog.funcs[80]? = some Tryd.f80 := by kernel_rfl
theorem call_spec_l01OK : Fw.Callable Tryd.prog 80 := Fw.callable_of fun_spec_l01OK (by kernel_rfl) (by kernel_rfl)
theorem pf_spec_l01OK : Fw.PFn.of Tryd.f80 = some Sg.f_spec_l01OK := Fw.PFn.of_get (by kernel_rfl)
theorem l_spec_l01OK_0 (K : Nat) : Fw.LoopP (Sg.c_spec_l01OK K) Sg.i_spec_l01OK Sg.f_spec_l01OK (Sg.p_spec_l01OK_0 K) := ⟨fun _ => by kernel_rfl, fun n p => by kernel_rfl⟩
theorem ok_spec_l01OK (K : Nat) : Fw.Ok Tryd.prog 80 (Sg.s_spec_l01OK K) := Fw.funP_ok (c := Sg.c_spec_l01OK K) (pi := Sg.i_spec_l01OK) (depth := 6) (Fw.cfgP_ok (pi := Sg.i_spec_l01OK) Sg.tabOK Sg.eqsOK Sg.mixOK ⟨ok_spec_l00Word K, ok_spec_l01In K, trivial⟩ trivial trivial pf_spec_l01OK ⟨⟨_, rfl, l_spec_l01OK_0 K⟩, trivial⟩ rfl) trivial pf_spec_l01OK fun_spec_l01OK call_spec_l01OK (fun x => by kernel_rfl)
theorem fun_spec_l13OK : Tryd.prog.funcs[41]? = some Tryd.f41 := by kernel_rfl
theorem call_spec_l13OK : Fw.Callable Tryd.prog 41 := Fw.callable_of fun_spec_l13OK (by kernel_rfl) (by kernel_rfl)
theorem pf_spec_l13OK : Fw.PFn.of Tryd.f41 = some Sg.f_spec_l13OK := Fw.PFn.of_get (by kernel_rfl)
theorem l_spec_l13OK_0 (K : Nat) : Fw.LoopP (Sg.c_spec_l13OK K) Sg.i_spec_l13OK Sg.f_spec_l13OK (Sg.p_spec_l13OK_0 K) := ⟨fun _ => by kernel_rfl, fun n p => by kernel_rfl⟩
theorem ok_spec_l13OK (K : Nat) : Fw.Ok Tryd.prog 41 (Sg.s_spec_l13OK K) := Fw.funP_ok (c := Sg.c_spec_l13OK K) (pi := Sg.i_spec_l13OK) (depth := 6) (Fw.cfgP_ok (pi := Sg.i_spec_l13OK) Sg.tabOK Sg.eqsOK Sg.mixOK ⟨ok_spec_l00Word K, ok_spec_l01In K, ok_spec_l01OK K, trivial⟩ trivial trivial pf_spec_l13OK ⟨⟨_, rfl, l_spec_l13OK_0 K⟩, trivial⟩ rfl) trivial pf_spec_l13OK fun_spec_l13OK call_spec_l13OK (fun x => by kernel_rfl)
theorem fun_spec_CodeWord : Tryd.prog.funcs[81]? = some Tryd.f81 := by kernel_rfl
theorem call_spec_CodeWord : Fw.Callable Tryd.prog 81 := Fw.callable_of fun_spec_CodeWord (by kernel_rfl) (by kernel_rfl)
theorem pf_spec_CodeWord : Fw.PFn.of Tryd.f81 = some Sg.f_spec_CodeWord := Fw.PFn.of_get (by kernel_rfl)
theorem ok_spec_CodeWord (K : Nat) : Fw.Ok Tryd.prog 81 (Sg.s_spec_CodeWord K) := Fw.funP_ok (c := Sg.c_spec_CodeWord K) (pi := Sg.i_spec_CodeWord) (depth := 6) (Fw.cfgP_ok (pi := Sg.i_spec_CodeWord) Sg.tabOK Sg.eqsOK Sg.mixOK trivial trivial trivial pf_spec_CodeWord trivial rfl) trivial pf_spec_CodeWord fun_spec_CodeWord call_spec_CodeWord (fun x => by kernel_rfl)
theorem fun_spec_l00Join : Tryd.prog.funcs[83]? = some Tryd.f83 := by kernel_rfl
theorem call_spec_l00Join : Fw.Callable Tryd.prog 83 := Fw.callable_of fun_spec_l00Join (by kernel_rfl) (by kernel_rfl)
theorem pf_spec_l00Join : Fw.PFn.of Tryd.f83 = some Sg.f_spec_l00Join := Fw.PFn.of_get (by kernel_rfl)
theorem l_spec_l00Join_0 (K : Nat) : Fw.LoopP (Sg.c_spec_l00Join K) Sg.i_spec_l00Join Sg.f_spec_l00Join (Sg.p_spec_l00Join_0 K) := ⟨fun _ => by kernel_rfl, fun n p => by kernel_rfl⟩
theorem ok_spec_l00Join (K : Nat) : Fw.Ok Tryd.prog 83 (Sg.s_spec_l00Join K) := Fw.funP_ok (c := Sg.c_spec_l00Join K) (pi := Sg.i_spec_l00Join) (depth := 6) (Fw.cfgP_ok (pi := Sg.i_spec_l00Join) Sg.tabOK Sg.eqsOK Sg.mixOK trivial trivial trivial pf_spec_l00Join ⟨⟨_, rfl, l_spec_l00Join_0 K⟩, trivial⟩ rfl) trivial pf_spec_l00Join fun_spec_l00Join call_spec_l00Join (fun x => by kernel_rfl)
theorem fun_spec_l13Map : Tryd.prog.funcs[84]? = some Tryd.f84 := by kernel_rfl
theorem call_spec_l13Map : Fw.Callable Tryd.prog 84 := Fw.callable_of fun_spec_l13Map (by kernel_rfl) (by kernel_rfl)
theorem pf_spec_l13Map : Fw.PFn.of Tryd.f84 = some Sg.f_spec_l13Map := Fw.PFn.of_get (by kernel_rfl)
theorem l_spec_l13Map_0 (K : Nat) : Fw.LoopP (Sg.c_spec_l13Map K) Sg.i_spec_l13Map Sg.f_spec_l13Map (Sg.p_spec_l13Map_0 K) := ⟨fun _ => by kernel_rfl, fun n p => by kernel_rfl⟩
theorem ok_spec_l13Map (K : Nat) : Fw.Ok Tryd.prog 84 (Sg.s_spec_l13Map K) := Fw.funP_ok (c := Sg.c_spec_l13Map K) (pi := Sg.i_spec_l13Map) (depth := 6) (Fw.cfgP_ok (pi := Sg.i_spec_l13Map) Sg.tabOK Sg.eqsOK Sg.mixOK ⟨ok_spec_l00Digits K, trivial⟩ trivial trivial pf_spec_l13Map ⟨⟨_, rfl, l_spec_l13Map_0 K⟩, trivial⟩ rfl) trivial pf_spec_l13Map fun_spec_l13Map call_spec_l13Map (fun x => by kernel_rfl)
theorem fun_spec_l13Result : Tryd.prog.funcs[42]? = some Tryd.f42 := by kernel_rfl
theorem call_spec_l13Result : Fw.Callable Tryd.prog 42 := Fw.callable_of fun_spec_l13Result (by kernel_rfl) (by kernel_rfl)
theorem pf_spec_l13Result : Fw.PFn.of Tryd.f42 = some Sg.f_spec_l13Result := Fw.PFn.of_get (by kernel_rfl)
theorem ok_spec_l13Result (K : Nat) : Fw.Ok Tryd.prog 42 (Sg.s_spec_l13Result K) := Fw.funP_ok (c := Sg.c_spec_l13Result K) (pi := Sg.i_spec_l13Result) (depth := 6) (Fw.cfgP_ok (pi := Sg.i_spec_l13Result) Sg.tabOK Sg.eqsOK Sg.mixOK ⟨ok_spec_l00Digits K, ok_spec_CodeWord K, ok_spec_l00Join K, ok_spec_l13Map K, trivial⟩ trivial trivial pf_spec_l13Result trivial rfl) trivial pf_spec_l13Result fun_spec_l13Result call_spec_l13Result (fun x => by kernel_rfl)
theorem fun_spec_ResultText : Tryd.prog.funcs[14]? = some Tryd.f14 := by kernel_rfl
theorem call_spec_ResultText : Fw.Callable Tryd.prog 14 := Fw.callable_of fun_spec_ResultText (by kernel_rfl) (by kernel_rfl)
theorem pf_spec_ResultText : Fw.PFn.of Tryd.f14 = some Sg.f_spec_ResultText := Fw.PFn.of_get (by kernel_rfl)
theorem ok_spec_ResultText (K : Nat) : Fw.Ok Tryd.prog 14 (Sg.s_spec_ResultText K) := Fw.funP_ok (c := Sg.c_spec_ResultText K) (pi := Sg.i_spec_ResultText) (depth := 6) (Fw.cfgP_ok (pi := Sg.i_spec_ResultText) Sg.tabOK Sg.eqsOK Sg.mixOK ⟨ok_spec_l13OK K, ok_spec_l13Result K, trivial⟩ trivial trivial pf_spec_ResultText trivial rfl) trivial pf_spec_ResultText fun_spec_ResultText call_spec_ResultText (fun x => by kernel_rfl)
theorem fun_impl_isCode : Tryd.prog.funcs[109]? = some Tryd.f109 := by kernel_rfl
theorem call_impl_isCode : Fw.Callable Tryd.prog 109 := Fw.callable_of fun_impl_isCode (by kernel_rfl) (by kernel_rfl)
theorem pf_impl_isCode : Fw.PFn.of Tryd.f109 = some Sg.f_impl_isCode := Fw.PFn.of_get (by kernel_rfl)
theorem ok_impl_isCode (K : Nat) : Fw.Ok Tryd.prog 109 (Sg.s_impl_isCode K) := Fw.funP_ok (c := Sg.c_impl_isCode K) (pi := Sg.i_impl_isCode) (depth := 6) (Fw.cfgP_ok (pi := Sg.i_impl_isCode) Sg.tabOK Sg.eqsOK Sg.mixOK ⟨ok_impl_within K, trivial⟩ trivial trivial pf_impl_isCode trivial rfl) trivial pf_impl_isCode fun_impl_isCode call_impl_isCode (fun x => by kernel_rfl)
theorem fun_impl_MapOK : Tryd.prog.funcs[62]? = some Tryd.f62 := by kernel_rfl
theorem call_impl_MapOK : Fw.Callable Tryd.prog 62 := Fw.callable_of fun_impl_MapOK (by kernel_rfl) (by kernel_rfl)
theorem pf_impl_MapOK : Fw.PFn.of Tryd.f62 = some Sg.f_impl_MapOK := Fw.PFn.of_get (by kernel_rfl)
theorem l_impl_MapOK_0 (K : Nat) : Fw.LoopP (Sg.c_impl_MapOK K) Sg.i_impl_MapOK Sg.f_impl_MapOK (Sg.p_impl_MapOK_0 K) := ⟨fun _ => by kernel_rfl, fun n p => by kernel_rfl⟩
theorem ok_impl_MapOK (K : Nat) : Fw.Ok Tryd.prog 62 (Sg.s_impl_MapOK K) := Fw.funP_ok (c := Sg.c_impl_MapOK K) (pi := Sg.i_impl_MapOK) (depth := 6) (Fw.cfgP_ok (pi := Sg.i_impl_MapOK) Sg.tabOK Sg.eqsOK Sg.mixOK ⟨ok_impl_NameOK K, ok_impl_isValue K, trivial⟩ trivial trivial pf_impl_MapOK ⟨⟨_, rfl, l_impl_MapOK_0 K⟩, trivial⟩ rfl) trivial pf_impl_MapOK fun_impl_MapOK call_impl_MapOK (fun x => by kernel_rfl)
theorem fun_impl_isResult : Tryd.prog.funcs[86]? = some Tryd.f86 := by kernel_rfl
theorem call_impl_isResult : Fw.Callable Tryd.prog 86 := Fw.callable_of fun_impl_isResult (by kernel_rfl) (by kernel_rfl)
theorem pf_impl_isResult : Fw.PFn.of Tryd.f86 = some Sg.f_impl_isResult := Fw.PFn.of_get (by kernel_rfl)
theorem ok_impl_isResult (K : Nat) : Fw.Ok Tryd.prog 86 (Sg.s_impl_isResult K) := Fw.funP_ok (c := Sg.c_impl_isResult K) (pi := Sg.i_impl_isResult) (depth := 6) (Fw.cfgP_ok (pi := Sg.i_impl_isResult) Sg.tabOK Sg.eqsOK Sg.mixOK ⟨ok_impl_within K, ok_impl_isValue K, ok_impl_isCode K, ok_impl_MapOK K, trivial⟩ trivial trivial pf_impl_isResult trivial rfl) trivial pf_impl_isResult fun_impl_isResult call_impl_isResult (fun x => by kernel_rfl)
theorem fun_impl_areAll_string_1 : Tryd.prog.funcs[111]? = some Tryd.f111 := by kernel_rfl
theorem call_impl_areAll_string_1 : Fw.Callable Tryd.prog 111 := Fw.callable_of fun_impl_areAll_string_1 (by kernel_rfl) (by kernel_rfl)
theorem pf_impl_areAll_string_1 : Fw.PFn.of Tryd.f111 = some Sg.f_impl_areAll_string_1 := Fw.PFn.of_get (by kernel_rfl)
theorem fun_slices_IndexFunc_string : Tryd.prog.funcs[123]? = some Tryd.f123 := by kernel_rfl
theorem call_slices_IndexFunc_string : Fw.Callable Tryd.prog 123 := Fw.callable_of fun_slices_IndexFunc_string (by kernel_rfl) (by kernel_rfl)
theorem pf_slices_IndexFunc_string : Fw.PFn.of Tryd.f123 = some Sg.f_slices_IndexFunc_string := Fw.PFn.of_get (by kernel_rfl)
theorem fun_slices_ContainsFunc_string : Tryd.prog.funcs[110]? = some Tryd.f110 := by kernel_rfl
theorem call_slices_ContainsFunc_string : Fw.Callable Tryd.prog 110 := Fw.callable_of fun_slices_ContainsFunc_string (by kernel_rfl) (by kernel_rfl)
theorem pf_slices_ContainsFunc_string : Fw.PFn.of Tryd.f110 = some Sg.f_slices_ContainsFunc_string := Fw.PFn.of_get (by kernel_rfl)
theorem fun_impl_areAll_string : Tryd.prog.funcs[87]? = some Tryd.f87 := by kernel_rfl
theorem call_impl_areAll_string : Fw.Callable Tryd.prog 87 := Fw.callable_of fun_impl_areAll_string (by kernel_rfl) (by kernel_rfl)
theorem pf_impl_areAll_string : Fw.PFn.of Tryd.f87 = some Sg.f_impl_areAll_string := Fw.PFn.of_get (by kernel_rfl)
theorem l_impl_areAll_string__impl_NameOK_0 (K : Nat) : Fw.LoopP (Sg.c_impl_areAll_string__impl_NameOK K) Sg.i_impl_areAll_string__impl_NameOK Sg.f_slices_IndexFunc_string (Sg.p_impl_areAll_string__impl_NameOK_0 K) := ⟨fun _ => by kernel_rfl, fun n p => by kernel_rfl⟩
theorem ok_impl_areAll_string__impl_NameOK (K : Nat) : Fw.Ok Tryd.prog 87 (Sg.s_impl_areAll_string__impl_NameOK K) := Fw.funP_ok (c := Sg.c_impl_areAll_string__impl_NameOK K) (pi := Sg.i_impl_areAll_string__impl_NameOK) (depth := 6) (Fw.cfgP_ok (pi := Sg.i_impl_areAll_string__impl_NameOK) Sg.tabOK Sg.eqsOK Sg.mixOK ⟨ok_impl_NameOK K, trivial⟩ ⟨⟨fun_impl_areAll_string_1, call_impl_areAll_string_1⟩, ⟨fun_slices_IndexFunc_string, call_slices_IndexFunc_string⟩, ⟨fun_slices_ContainsFunc_string, call_slices_ContainsFunc_string⟩, trivial⟩ ⟨⟨rfl, pf_impl_areAll_string_1⟩, ⟨rfl, pf_slices_IndexFunc_string⟩, ⟨rfl, pf_slices_ContainsFunc_string⟩, trivial⟩ pf_impl_areAll_string ⟨⟨_, rfl, l_impl_areAll_string__impl_NameOK_0 K⟩, trivial⟩ rfl) ⟨⟨rfl, pf_impl_areAll_string_1⟩, ⟨rfl, pf_slices_IndexFunc_string⟩, ⟨rfl, pf_slices_ContainsFunc_string⟩, trivial⟩ pf_impl_areAll_string fun_impl_areAll_string call_impl_areAll_string (fun x => by kernel_rfl)
theorem fun_impl_hasText : Tryd.prog.funcs[45]? = some Tryd.f45 := by kernel_rfl
theorem call_impl_hasText : Fw.Callable Tryd.prog 45 := Fw.callable_of fun_impl_hasText (by kernel_rfl) (by kernel_rfl)
theorem pf_impl_hasText : Fw.PFn.of Tryd.f45 = some Sg.f_impl_hasText := Fw.PFn.of_get (by kernel_rfl)
theorem ok_impl_hasText (K : Nat) : Fw.Ok Tryd.prog 45 (Sg.s_impl_hasText K) := Fw.funP_ok (c := Sg.c_impl_hasText K) (pi := Sg.i_impl_hasText) (depth := 6) (Fw.cfgP_ok (pi := Sg.i_impl_hasText) Sg.tabOK Sg.eqsOK Sg.mixOK ⟨ok_impl_NameOK K, ok_impl_isResult K, ok_impl_areAll_string__impl_NameOK K, trivial⟩ ⟨⟨fun_impl_areAll_string_1, call_impl_areAll_string_1⟩, ⟨fun_slices_IndexFunc_string, call_slices_IndexFunc_string⟩, ⟨fun_slices_ContainsFunc_string, call_slices_ContainsFunc_string⟩, ⟨fun_impl_areAll_string, call_impl_areAll_string⟩, trivial⟩ ⟨⟨rfl, pf_impl_areAll_string_1⟩, ⟨rfl, pf_slices_IndexFunc_string⟩, ⟨rfl, pf_slices_ContainsFunc_string⟩, ⟨rfl, pf_impl_areAll_string⟩, trivial⟩ pf_impl_hasText trivial rfl) ⟨⟨rfl, pf_impl_areAll_string_1⟩, ⟨rfl, pf_slices_IndexFunc_string⟩, ⟨rfl, pf_slices_ContainsFunc_string⟩, ⟨rfl, pf_impl_areAll_string⟩, trivial⟩ pf_impl_hasText fun_impl_hasText call_impl_hasText (fun x => by kernel_rfl)
theorem fun_impl_codeWords : Tryd.prog.funcs[112]? = some Tryd.f112 := by kernel_rfl
theorem call_impl_codeWords : Fw.Callable Tryd.prog 112 := Fw.callable_of fun_impl_codeWords (by kernel_rfl) (by kernel_rfl)
theorem pf_impl_codeWords : Fw.PFn.of Tryd.f112 = some Sg.f_impl_codeWords := Fw.PFn.of_get (by kernel_rfl)
theorem ok_impl_codeWords (K : Nat) : Fw.Ok Tryd.prog 112 (Sg.s_impl_codeWords K) := Fw.funP_ok (c := Sg.c_impl_codeWords K) (pi := Sg.i_impl_codeWords) (depth := 6) (Fw.cfgP_ok (pi := Sg.i_impl_codeWords) Sg.tabOK Sg.eqsOK Sg.mixOK trivial trivial trivial pf_impl_codeWords trivial rfl) trivial pf_impl_codeWords fun_impl_codeWords call_impl_codeWords (fun x => by kernel_rfl)
theorem fun_impl_CodeWord : Tryd.prog.funcs[88]? = some Tryd.f88 := by kernel_rfl
theorem call_impl_CodeWord : Fw.Callable Tryd.prog 88 := Fw.callable_of fun_impl_CodeWord (by kernel_rfl) (by kernel_rfl)
theorem pf_impl_CodeWord : Fw.PFn.of Tryd.f88 = some Sg.f_impl_CodeWord := Fw.PFn.of_get (by kernel_rfl)
theorem ok_impl_CodeWord (K : Nat) : Fw.Ok Tryd.prog 88 (Sg.s_impl_CodeWord K) := Fw.funP_ok (c := Sg.c_impl_CodeWord K) (pi := Sg.i_impl_CodeWord) (depth := 6) (Fw.cfgP_ok (pi := Sg.i_impl_CodeWord) Sg.tabOK Sg.eqsOK Sg.mixOK ⟨ok_impl_isCode K, ok_impl_codeWords K, trivial⟩ trivial trivial pf_impl_CodeWord trivial rfl) trivial pf_impl_CodeWord fun_impl_CodeWord call_impl_CodeWord (fun x => by kernel_rfl)
theorem fun_impl_numbered : Tryd.prog.funcs[89]? = some Tryd.f89 := by kernel_rfl
theorem call_impl_numbered : Fw.Callable Tryd.prog 89 := Fw.callable_of fun_impl_numbered (by kernel_rfl) (by kernel_rfl)
theorem pf_impl_numbered : Fw.PFn.of Tryd.f89 = some Sg.f_impl_numbered := Fw.PFn.of_get (by kernel_rfl)
theorem ok_impl_numbered (K : Nat) : Fw.Ok Tryd.prog 89 (Sg.s_impl_numbered K) := Fw.funP_ok (c := Sg.c_impl_numbered K) (pi := Sg.i_impl_numbered) (depth := 6) (Fw.cfgP_ok (pi := Sg.i_impl_numbered) Sg.tabOK Sg.eqsOK Sg.mixOK ⟨ok_strconv_Itoa K, trivial⟩ trivial trivial pf_impl_numbered trivial rfl) trivial pf_impl_numbered fun_impl_numbered call_impl_numbered (fun x => by kernel_rfl)
theorem fun_impl_mapText : Tryd.prog.funcs[91]? = some Tryd.f91 := by kernel_rfl
theorem call_impl_mapText : Fw.Callable Tryd.prog 91 := Fw.callable_of fun_impl_mapText (by kernel_rfl) (by kernel_rfl)
theorem pf_impl_mapText : Fw.PFn.of Tryd.f91 = some Sg.f_impl_mapText := Fw.PFn.of_get (by kernel_rfl)
theorem l_impl_mapText_0 (K : Nat) : Fw.LoopP (Sg.c_impl_mapText K) Sg.i_impl_mapText Sg.f_impl_mapText (Sg.p_impl_mapText_0 K) := ⟨fun _ => by kernel_rfl, fun n p => by kernel_rfl⟩
theorem ok_impl_mapText (K : Nat) : Fw.Ok Tryd.prog 91 (Sg.s_impl_mapText K) := Fw.funP_ok (c := Sg.c_impl_mapText K) (pi := Sg.i_impl_mapText) (depth := 6) (Fw.cfgP_ok (pi := Sg.i_impl_mapText) Sg.tabOK Sg.eqsOK Sg.mixOK ⟨ok_strconv_Itoa K, ok_impl_listed K, trivial⟩ trivial trivial pf_impl_mapText ⟨⟨_, rfl, l_impl_mapText_0 K⟩, trivial⟩ rfl) trivial pf_impl_mapText fun_impl_mapText call_impl_mapText (fun x => by kernel_rfl)
theorem fun_impl_resultText : Tryd.prog.funcs[46]? = some Tryd.f46 := by kernel_rfl
theorem call_impl_resultText : Fw.Callable Tryd.prog 46 := Fw.callable_of fun_impl_resultText (by kernel_rfl) (by kernel_rfl)
theorem pf_impl_resultText : Fw.PFn.of Tryd.f46 = some Sg.f_impl_resultText := Fw.PFn.of_get (by kernel_rfl)
theorem ok_impl_resultText (K : Nat) : Fw.Ok Tryd.prog 46 (Sg.s_impl_resultText K) := Fw.funP_ok (c := Sg.c_impl_resultText K) (pi := Sg.i_impl_resultText) (depth := 6) (Fw.cfgP_ok (pi := Sg.i_impl_resultText) Sg.tabOK Sg.eqsOK Sg.mixOK ⟨ok_impl_listed K, ok_impl_CodeWord K, ok_impl_numbered K, ok_impl_mapText K, trivial⟩ trivial trivial pf_impl_resultText trivial rfl) trivial pf_impl_resultText fun_impl_resultText call_impl_resultText (fun x => by kernel_rfl)
theorem fun_impl_ResultText : Tryd.prog.funcs[16]? = some Tryd.f16 := by kernel_rfl
theorem call_impl_ResultText : Fw.Callable Tryd.prog 16 := Fw.callable_of fun_impl_ResultText (by kernel_rfl) (by kernel_rfl)
theorem pf_impl_ResultText : Fw.PFn.of Tryd.f16 = some Sg.f_impl_ResultText := Fw.PFn.of_get (by kernel_rfl)
theorem ok_impl_ResultText (K : Nat) : Fw.Ok Tryd.prog 16 (Sg.s_impl_ResultText K) := Fw.funP_ok (c := Sg.c_impl_ResultText K) (pi := Sg.i_impl_ResultText) (depth := 6) (Fw.cfgP_ok (pi := Sg.i_impl_ResultText) Sg.tabOK Sg.eqsOK Sg.mixOK ⟨ok_impl_hasText K, ok_impl_resultText K, trivial⟩ trivial trivial pf_impl_ResultText trivial rfl) trivial pf_impl_ResultText fun_impl_ResultText call_impl_ResultText (fun x => by kernel_rfl)
theorem fun_laws_eqStringS : Tryd.prog.funcs[47]? = some Tryd.f47 := by kernel_rfl
theorem call_laws_eqStringS : Fw.Callable Tryd.prog 47 := Fw.callable_of fun_laws_eqStringS (by kernel_rfl) (by kernel_rfl)
theorem pf_laws_eqStringS : Fw.PFn.of Tryd.f47 = some Sg.f_laws_eqStringS := Fw.PFn.of_get (by kernel_rfl)
theorem l_laws_eqStringS_0 (K : Nat) : Fw.LoopP (Sg.c_laws_eqStringS K) Sg.i_laws_eqStringS Sg.f_laws_eqStringS (Sg.p_laws_eqStringS_0 K) := ⟨fun _ => by kernel_rfl, fun n p => by kernel_rfl⟩
theorem ok_laws_eqStringS (K : Nat) : Fw.Ok Tryd.prog 47 (Sg.s_laws_eqStringS K) := Fw.funP_ok (c := Sg.c_laws_eqStringS K) (pi := Sg.i_laws_eqStringS) (depth := 6) (Fw.cfgP_ok (pi := Sg.i_laws_eqStringS) Sg.tabOK Sg.eqsOK Sg.mixOK trivial trivial trivial pf_laws_eqStringS ⟨⟨_, rfl, l_laws_eqStringS_0 K⟩, trivial⟩ rfl) trivial pf_laws_eqStringS fun_laws_eqStringS call_laws_eqStringS (fun x => by kernel_rfl)
theorem fun_laws_eqEntry : Tryd.prog.funcs[63]? = some Tryd.f63 := by kernel_rfl
theorem call_laws_eqEntry : Fw.Callable Tryd.prog 63 := Fw.callable_of fun_laws_eqEntry (by kernel_rfl) (by kernel_rfl)
theorem pf_laws_eqEntry : Fw.PFn.of Tryd.f63 = some Sg.f_laws_eqEntry := Fw.PFn.of_get (by kernel_rfl)
theorem ok_laws_eqEntry (K : Nat) : Fw.Ok Tryd.prog 63 (Sg.s_laws_eqEntry K) := Fw.funP_ok (c := Sg.c_laws_eqEntry K) (pi := Sg.i_laws_eqEntry) (depth := 6) (Fw.cfgP_ok (pi := Sg.i_laws_eqEntry) Sg.tabOK Sg.eqsOK Sg.mixOK trivial trivial trivial pf_laws_eqEntry trivial rfl) trivial pf_laws_eqEntry fun_laws_eqEntry call_laws_eqEntry (fun x => by kernel_rfl)
theorem fun_laws_eqEntryS : Tryd.prog.funcs[25]? = some Tryd.f25 := by kernel_rfl
theorem call_laws_eqEntryS : Fw.Callable Tryd.prog 25 := Fw.callable_of fun_laws_eqEntryS (by kernel_rfl) (by kernel_rfl)
theorem pf_laws_eqEntryS : Fw.PFn.of Tryd.f25 = some Sg.f_laws_eqEntryS := Fw.PFn.of_get (by kernel_rfl)
theorem l_laws_eqEntryS_0 (K : Nat) : Fw.LoopP (Sg.c_laws_eqEntryS K) Sg.i_laws_eqEntryS Sg.f_laws_eqEntryS (Sg.p_laws_eqEntryS_0 K) := ⟨fun _ => by kernel_rfl, fun n p => by kernel_rfl⟩
theorem ok_laws_eqEntryS (K : Nat) : Fw.Ok Tryd.prog 25 (Sg.s_laws_eqEntryS K) := Fw.funP_ok (c := Sg.c_laws_eqEntryS K) (pi := Sg.i_laws_eqEntryS) (depth := 6) (Fw.cfgP_ok (pi := Sg.i_laws_eqEntryS) Sg.tabOK Sg.eqsOK Sg.mixOK ⟨ok_laws_eqEntry K, trivial⟩ trivial trivial pf_laws_eqEntryS ⟨⟨_, rfl, l_laws_eqEntryS_0 K⟩, trivial⟩ rfl) trivial pf_laws_eqEntryS fun_laws_eqEntryS call_laws_eqEntryS (fun x => by kernel_rfl)
theorem fun_laws_eqResult : Tryd.prog.funcs[17]? = some Tryd.f17 := by kernel_rfl
theorem call_laws_eqResult : Fw.Callable Tryd.prog 17 := Fw.callable_of fun_laws_eqResult (by kernel_rfl) (by kernel_rfl)
theorem pf_laws_eqResult : Fw.PFn.of Tryd.f17 = some Sg.f_laws_eqResult := Fw.PFn.of_get (by kernel_rfl)
theorem ok_laws_eqResult (K : Nat) : Fw.Ok Tryd.prog 17 (Sg.s_laws_eqResult K) := Fw.funP_ok (c := Sg.c_laws_eqResult K) (pi := Sg.i_laws_eqResult) (depth := 6) (Fw.cfgP_ok (pi := Sg.i_laws_eqResult) Sg.tabOK Sg.eqsOK Sg.mixOK ⟨ok_laws_eqStringS K, ok_laws_eqEntryS K, trivial⟩ trivial trivial pf_laws_eqResult trivial rfl) trivial pf_laws_eqResult fun_laws_eqResult call_laws_eqResult (fun x => by kernel_rfl)
theorem fun_laws_FnExactResultText : Tryd.prog.funcs[4]? = some Tryd.f4 := by kernel_rfl
theorem call_laws_FnExactResultText : Fw.Callable Tryd.prog 4 := Fw.callable_of fun_laws_FnExactResultText (by kernel_rfl) (by kernel_rfl)
theorem pf_laws_FnExactResultText : Fw.PFn.of Tryd.f4 = some Sg.f_laws_FnExactResultText := Fw.PFn.of_get (by kernel_rfl)
theorem ok_laws_FnExactResultText (K : Nat) : Fw.Ok Tryd.prog 4 (Sg.s_laws_FnExactResultText K) := Fw.funP_ok (c := Sg.c_laws_FnExactResultText K) (pi := Sg.i_laws_FnExactResultText) (depth := 6) (Fw.cfgP_ok (pi := Sg.i_laws_FnExactResultText) Sg.tabOK Sg.eqsOK Sg.mixOK ⟨ok_laws_szResult K, ok_laws_toResult K, ok_spec_ResultText K, ok_impl_ResultText K, ok_laws_eqResult K, trivial⟩ trivial trivial pf_laws_FnExactResultText trivial rfl) trivial pf_laws_FnExactResultText fun_laws_FnExactResultText call_laws_FnExactResultText (fun x => by kernel_rfl)
theorem fun_laws_szOp : Tryd.prog.funcs[48]? = some Tryd.f48 := by kernel_rfl
theorem call_laws_szOp : Fw.Callable Tryd.prog 48 := Fw.callable_of fun_laws_szOp (by kernel_rfl) (by kernel_rfl)
theorem pf_laws_szOp : Fw.PFn.of Tryd.f48 = some Sg.f_laws_szOp := Fw.PFn.of_get (by kernel_rfl)
theorem ok_laws_szOp (K : Nat) : Fw.Ok Tryd.prog 48 (Sg.s_laws_szOp K) := Fw.funP_ok (c := Sg.c_laws_szOp K) (pi := Sg.i_laws_szOp) (depth := 6) (Fw.cfgP_ok (pi := Sg.i_laws_szOp) Sg.tabOK Sg.eqsOK Sg.mixOK ⟨ok_laws_szEditS K, trivial⟩ trivial trivial pf_laws_szOp trivial rfl) trivial pf_laws_szOp fun_laws_szOp call_laws_szOp (fun x => by kernel_rfl)
theorem fun_laws_szMoment : Tryd.prog.funcs[18]? = some Tryd.f18 := by kernel_rfl
theorem call_laws_szMoment : Fw.Callable Tryd.prog 18 := Fw.callable_of fun_laws_szMoment (by kernel_rfl) (by kernel_rfl)
theorem pf_laws_szMoment : Fw.PFn.of Tryd.f18 = some Sg.f_laws_szMoment := Fw.PFn.of_get (by kernel_rfl)
theorem ok_laws_szMoment (K : Nat) : Fw.Ok Tryd.prog 18 (Sg.s_laws_szMoment K) := Fw.funP_ok (c := Sg.c_laws_szMoment K) (pi := Sg.i_laws_szMoment) (depth := 6) (Fw.cfgP_ok (pi := Sg.i_laws_szMoment) Sg.tabOK Sg.eqsOK Sg.mixOK ⟨ok_laws_szResult K, ok_laws_szOp K, trivial⟩ trivial trivial pf_laws_szMoment trivial rfl) trivial pf_laws_szMoment fun_laws_szMoment call_laws_szMoment (fun x => by kernel_rfl)
theorem fun_laws_toOp : Tryd.prog.funcs[52]? = some Tryd.f52 := by kernel_rfl
theorem call_laws_toOp : Fw.Callable Tryd.prog 52 := Fw.callable_of fun_laws_toOp (by kernel_rfl) (by kernel_rfl)
theorem pf_laws_toOp : Fw.PFn.of Tryd.f52 = some Sg.f_laws_toOp := Fw.PFn.of_get (by kernel_rfl)
theorem ok_laws_toOp (K : Nat) : Fw.Ok Tryd.prog 52 (Sg.s_laws_toOp K) := Fw.funP_ok (c := Sg.c_laws_toOp K) (pi := Sg.i_laws_toOp) (depth := 6) (Fw.cfgP_ok (pi := Sg.i_laws_toOp) Sg.tabOK Sg.eqsOK Sg.mixOK ⟨ok_laws_toEditS K, trivial⟩ trivial trivial pf_laws_toOp trivial rfl) trivial pf_laws_toOp fun_laws_toOp call_laws_toOp (fun x => by kernel_rfl)
theorem fun_laws_toMoment : Tryd.prog.funcs[20]? = some Tryd.f20 := by kernel_rfl
theorem call_laws_toMoment : Fw.Callable Tryd.prog 20 := Fw.callable_of fun_laws_toMoment (by kernel_rfl) (by kernel_rfl)
theorem pf_laws_toMoment : Fw.PFn.of Tryd.f20 = some Sg.f_laws_toMoment := Fw.PFn.of_get (by kernel_rfl)
theorem ok_laws_toMoment (K : Nat) : Fw.Ok Tryd.prog 20 (Sg.s_laws_toMoment K) := Fw.funP_ok (c := Sg.c_laws_toMoment K) (pi := Sg.i_laws_toMoment) (depth := 6) (Fw.cfgP_ok (pi := Sg.i_laws_toMoment) Sg.tabOK Sg.eqsOK Sg.mixOK ⟨ok_laws_toResult K, ok_laws_toOp K, trivial⟩ trivial trivial pf_laws_toMoment trivial rfl) trivial pf_laws_toMoment fun_laws_toMoment call_laws_toMoment (fun x => by kernel_rfl)
theorem fun_spec_l05Op : Tryd.prog.funcs[50]? = some Tryd.f50 := by kernel_rfl
theorem call_spec_l05Op : Fw.Callable Tryd.prog 50 := Fw.callable_of fun_spec_l05Op (by kernel_rfl) (by kernel_rfl)
theorem pf_spec_l05Op : Fw.PFn.of Tryd.f50 = some Sg.f_spec_l05Op := Fw.PFn.of_get (by kernel_rfl)
theorem ok_spec_l05Op (K : Nat) : Fw.Ok Tryd.prog 50 (Sg.s_spec_l05Op K) := Fw.funP_ok (c := Sg.c_spec_l05Op K) (pi := Sg.i_spec_l05Op) (depth := 6) (Fw.cfgP_ok (pi := Sg.i_spec_l05Op) Sg.tabOK Sg.eqsOK Sg.mixOK ⟨ok_spec_l00Word K, ok_spec_l01In K, ok_spec_l01Edits K, trivial⟩ trivial trivial pf_spec_l05Op trivial rfl) trivial pf_spec_l05Op fun_spec_l05Op call_spec_l05Op (fun x => by kernel_rfl)
theorem fun_spec_l13Moment : Tryd.prog.funcs[51]? = some Tryd.f51 := by kernel_rfl
theorem call_spec_l13Moment : Fw.Callable Tryd.prog 51 := Fw.callable_of fun_spec_l13Moment (by kernel_rfl) (by kernel_rfl)
theorem pf_spec_l13Moment : Fw.PFn.of Tryd.f51 = some Sg.f_spec_l13Moment := Fw.PFn.of_get (by kernel_rfl)
theorem ok_spec_l13Moment (K : Nat) : Fw.Ok Tryd.prog 51 (Sg.s_spec_l13Moment K) := Fw.funP_ok (c := Sg.c_spec_l13Moment K) (pi := Sg.i_spec_l13Moment) (depth := 6) (Fw.cfgP_ok (pi := Sg.i_spec_l13Moment) Sg.tabOK Sg.eqsOK Sg.mixOK ⟨ok_spec_l13Kinds K, ok_spec_l00Digits K, ok_spec_l13Result K, trivial⟩ trivial trivial pf_spec_l13Moment trivial rfl) trivial pf_spec_l13Moment fun_spec_l13Moment call_spec_l13Moment (fun x => by kernel_rfl)
theorem fun_spec_MomentText : Tryd.prog.funcs[19]? = some Tryd.f19 := by kernel_rfl
theorem call_spec_MomentText : Fw.Callable Tryd.prog 19 := Fw.callable_of fun_spec_MomentText (by kernel_rfl) (by kernel_rfl)
theorem pf_spec_MomentText : Fw.PFn.of Tryd.f19 = some Sg.f_spec_MomentText := Fw.PFn.of_get (by kernel_rfl)
theorem ok_spec_MomentText (K : Nat) : Fw.Ok Tryd.prog 19 (Sg.s_spec_MomentText K) := Fw.funP_ok (c := Sg.c_spec_MomentText K) (pi := Sg.i_spec_MomentText) (depth := 6) (Fw.cfgP_ok (pi := Sg.i_spec_MomentText) Sg.tabOK Sg.eqsOK Sg.mixOK ⟨ok_spec_l01In K, ok_spec_l13OK K, ok_spec_l05Op K, ok_spec_l13Moment K, trivial⟩ trivial trivial pf_spec_MomentText trivial rfl) trivial pf_spec_MomentText fun_spec_MomentText call_spec_MomentText (fun x => by kernel_rfl)
theorem fun_impl_hasOp : Tryd.prog.funcs[54]? = some Tryd.f54 := by kernel_rfl
theorem call_impl_hasOp : Fw.Callable Tryd.prog 54 := Fw.callable_of fun_impl_hasOp (by kernel_rfl) (by kernel_rfl)
theorem pf_impl_hasOp : Fw.PFn.of Tryd.f54 = some Sg.f_impl_hasOp := Fw.PFn.of_get (by kernel_rfl)
theorem ok_impl_hasOp (K : Nat) : Fw.Ok Tryd.prog 54 (Sg.s_impl_hasOp K) := Fw.funP_ok (c := Sg.c_impl_hasOp K) (pi := Sg.i_impl_hasOp) (depth := 6) (Fw.cfgP_ok (pi := Sg.i_impl_hasOp) Sg.tabOK Sg.eqsOK Sg.mixOK trivial trivial trivial pf_impl_hasOp trivial rfl) trivial pf_impl_hasOp fun_impl_hasOp call_impl_hasOp (fun x => by kernel_rfl)
theorem fun_impl_momentText : Tryd.prog.funcs[56]? = some Tryd.f56 := by kernel_rfl
theorem call_impl_momentText : Fw.Callable Tryd.prog 56 := Fw.callable_of fun_impl_momentText (by kernel_rfl) (by kernel_rfl)
theorem pf_impl_momentText : Fw.PFn.of Tryd.f56 = some Sg.f_impl_momentText := Fw.PFn.of_get (by kernel_rfl)
theorem ok_impl_momentText (K : Nat) : Fw.Ok Tryd.prog 56 (Sg.s_impl_momentText K) := Fw.funP_ok (c := Sg.c_impl_momentText K) (pi := Sg.i_impl_momentText) (depth := 6) (Fw.cfgP_ok (pi := Sg.i_impl_momentText) Sg.tabOK Sg.eqsOK Sg.mixOK ⟨ok_impl_kindWords K, ok_strconv_Itoa K, ok_impl_numbered K, ok_impl_resultText K, ok_impl_hasOp K, trivial⟩ trivial trivial pf_impl_momentText trivial rfl) trivial pf_impl_momentText fun_impl_momentText call_impl_momentText (fun x => by kernel_rfl)
theorem fun_impl_MomentText : Tryd.prog.funcs[21]? = some Tryd.f21 := by kernel_rfl
theorem call_impl_MomentText : Fw.Callable Tryd.prog 21 := Fw.callable_of fun_impl_MomentText (by kernel_rfl) (by kernel_rfl)
theorem pf_impl_MomentText : Fw.PFn.of Tryd.f21 = some Sg.f_impl_MomentText := Fw.PFn.of_get (by kernel_rfl)
theorem ok_impl_MomentText (K : Nat) : Fw.Ok Tryd.prog 21 (Sg.s_impl_MomentText K) := Fw.funP_ok (c := Sg.c_impl_MomentText K) (pi := Sg.i_impl_MomentText) (depth := 6) (Fw.cfgP_ok (pi := Sg.i_impl_MomentText) Sg.tabOK Sg.eqsOK Sg.mixOK ⟨ok_impl_within K, ok_impl_OpOK K, ok_impl_hasText K, ok_impl_hasOp K, ok_impl_momentText K, trivial⟩ trivial trivial pf_impl_MomentText trivial rfl) trivial pf_impl_MomentText fun_impl_MomentText call_impl_MomentText (fun x => by kernel_rfl)
theorem fun_laws_eqOp : Tryd.prog.funcs[57]? = some Tryd.f57 := by kernel_rfl
theorem call_laws_eqOp : Fw.Callable Tryd.prog 57 := Fw.callable_of fun_laws_eqOp (by kernel_rfl) (by kernel_rfl)
theorem pf_laws_eqOp : Fw.PFn.of Tryd.f57 = some Sg.f_laws_eqOp := Fw.PFn.of_get (by kernel_rfl)
theorem ok_laws_eqOp (K : Nat) : Fw.Ok Tryd.prog 57 (Sg.s_laws_eqOp K) := Fw.funP_ok (c := Sg.c_laws_eqOp K) (pi := Sg.i_laws_eqOp) (depth := 6) (Fw.cfgP_ok (pi := Sg.i_laws_eqOp) Sg.tabOK Sg.eqsOK Sg.mixOK ⟨ok_laws_eqEditS K, trivial⟩ trivial trivial pf_laws_eqOp trivial rfl) trivial pf_laws_eqOp fun_laws_eqOp call_laws_eqOp (fun x => by kernel_rfl)
theorem fun_laws_eqMoment : Tryd.prog.funcs[22]? = some Tryd.f22 := by kernel_rfl
theorem call_laws_eqMoment : Fw.Callable Tryd.prog 22 := Fw.callable_of fun_laws_eqMoment (by kernel_rfl) (by kernel_rfl)
theorem pf_laws_eqMoment : Fw.PFn.of Tryd.f22 = some Sg.f_laws_eqMoment := Fw.PFn.of_get (by kernel_rfl)
theorem ok_laws_eqMoment (K : Nat) : Fw.Ok Tryd.prog 22 (Sg.s_laws_eqMoment K) := Fw.funP_ok (c := Sg.c_laws_eqMoment K) (pi := Sg.i_laws_eqMoment) (depth := 6) (Fw.cfgP_ok (pi := Sg.i_laws_eqMoment) Sg.tabOK Sg.eqsOK Sg.mixOK ⟨ok_laws_eqResult K, ok_laws_eqOp K, trivial⟩ trivial trivial pf_laws_eqMoment trivial rfl) trivial pf_laws_eqMoment fun_laws_eqMoment call_laws_eqMoment (fun x => by kernel_rfl)
theorem fun_laws_FnExactMomentText : Tryd.prog.funcs[5]? = some Tryd.f5 := by kernel_rfl
theorem call_laws_FnExactMomentText : Fw.Callable Tryd.prog 5 := Fw.callable_of fun_laws_FnExactMomentText (by kernel_rfl) (by kernel_rfl)
theorem pf_laws_FnExactMomentText : Fw.PFn.of Tryd.f5 = some Sg.f_laws_FnExactMomentText := Fw.PFn.of_get (by kernel_rfl)
theorem ok_laws_FnExactMomentText (K : Nat) : Fw.Ok Tryd.prog 5 (Sg.s_laws_FnExactMomentText K) := Fw.funP_ok (c := Sg.c_laws_FnExactMomentText K) (pi := Sg.i_laws_FnExactMomentText) (depth := 6) (Fw.cfgP_ok (pi := Sg.i_laws_FnExactMomentText) Sg.tabOK Sg.eqsOK Sg.mixOK ⟨ok_laws_szMoment K, ok_laws_toMoment K, ok_spec_MomentText K, ok_impl_MomentText K, ok_laws_eqMoment K, trivial⟩ trivial trivial pf_laws_FnExactMomentText trivial rfl) trivial pf_laws_FnExactMomentText fun_laws_FnExactMomentText call_laws_FnExactMomentText (fun x => by kernel_rfl)
end Go.Proofs
