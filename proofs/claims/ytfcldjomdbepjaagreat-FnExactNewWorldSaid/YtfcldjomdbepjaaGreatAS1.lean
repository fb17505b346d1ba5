/- The functions' contracts, printed by a program of the prover's own. -/
import Derived.Test.YtfcldjomdbepjaaGreatAR
import Derived.Test.YtfcldjomdbepjaaGreatProg
set_option linter.all false
namespace Go.Proofs
open Go Fw
set_option maxRecDepth 100000
def Sg.eqs : List Nat := [137, 143, 178, 179, 184, 193, 214]
def Sg.tab : List (Nat × Fw.TyI) := [
(1, .one),
(2, .leaf (.int .i64)),
(3, .leaf (.int .i64)),
(4, .leaf .bool),
(5, .leaf (.int .u8)),
(6, .leaf (.int .u8)),
(7, .struct (.pair (.int .i64) (.pair (.int .i64) (.pair .bool (.int .u8)))) [(0, 2), (1, 3), (2, 4), (3, 6)]),
(8, .struct (.pair (.int .i64) (.pair (.int .i64) (.pair .bool (.int .u8)))) [(0, 2), (1, 3), (2, 4), (3, 6)]),
(9, .leaf .str),
(10, .leaf .str),
(11, .leaf .str),
(12, .leaf (.int .u64)),
(13, .struct (.pair .str (.int .u64)) [(0, 9), (1, 12)]),
(14, .struct (.pair .str (.int .u64)) [(0, 9), (1, 12)]),
(21, .leaf (.int .i32)),
(22, .slice 134 (.pair (.sl (.int .i64)) (.sl (.pair .str (.int .i64)))) 0),
(23, .slice 137 (.pair .str (.pair (.int .i64) (.pair (.int .i64) .bool))) 0),
(24, .struct (.pair (.sl (.pair (.sl (.int .i64)) (.sl (.pair .str (.int .i64))))) (.sl (.pair .str (.pair (.int .i64) (.pair (.int .i64) .bool))))) [(0, 22), (1, 23)]),
(25, .struct (.pair (.sl (.pair (.sl (.int .i64)) (.sl (.pair .str (.int .i64))))) (.sl (.pair .str (.pair (.int .i64) (.pair (.int .i64) .bool))))) [(0, 22), (1, 23)]),
(26, .slice 54 (.sl (.pair (.int .i64) (.pair .str (.pair .str (.pair .str (.sl (.pair .str (.pair (.int .i64) .bool)))))))) 0),
(27, .slice 9 .str 0),
(28, .one),
(29, .one),
(30, .one),
(31, .slice 156 (.pair (.sl (.int .i64)) (.sl (.pair .str (.int .i64)))) 0),
(32, .slice 143 (.pair .str (.pair (.int .i64) (.pair (.int .i64) .bool))) 0),
(33, .struct (.pair (.sl (.pair (.sl (.int .i64)) (.sl (.pair .str (.int .i64))))) (.sl (.pair .str (.pair (.int .i64) (.pair (.int .i64) .bool))))) [(0, 31), (1, 32)]),
(34, .struct (.pair (.sl (.pair (.sl (.int .i64)) (.sl (.pair .str (.int .i64))))) (.sl (.pair .str (.pair (.int .i64) (.pair (.int .i64) .bool))))) [(0, 31), (1, 32)]),
(35, .slice 63 (.pair (.sl (.pair (.int .i64) (.pair .str (.pair .str (.pair .str (.sl (.pair .str (.pair (.int .i64) .bool)))))))) (.pair (.int .i64) (.pair (.int .i64) (.pair (.int .i64) (.pair (.int .i64) (.pair (.int .i64) (.pair (.int .i64) (.pair (.int .i64) (.sl (.pair .str (.int .i64))))))))))) 0),
(36, .slice 103 (.pair .str (.pair (.int .i64) (.sl (.pair (.int .i64) (.pair (.int .i64) .bool))))) 0),
(37, .slice 151 (.pair (.int .i64) (.pair (.int .i64) (.pair (.int .i64) (.pair (.pair (.int .i64) (.pair (.int .i64) (.pair .str (.pair .str (.sl (.pair .str (.pair (.int .i64) .bool))))))) (.pair (.int .i64) (.pair (.int .i64) (.pair (.int .i64) (.pair (.sl .str) (.sl (.pair .str (.int .i64))))))))))) 0),
(38, .struct (.pair (.pair (.sl (.pair (.sl (.int .i64)) (.sl (.pair .str (.int .i64))))) (.sl (.pair .str (.pair (.int .i64) (.pair (.int .i64) .bool))))) (.pair (.sl (.pair (.sl (.pair (.int .i64) (.pair .str (.pair .str (.pair .str (.sl (.pair .str (.pair (.int .i64) .bool)))))))) (.pair (.int .i64) (.pair (.int .i64) (.pair (.int .i64) (.pair (.int .i64) (.pair (.int .i64) (.pair (.int .i64) (.pair (.int .i64) (.sl (.pair .str (.int .i64)))))))))))) (.pair (.sl (.pair .str (.pair (.int .i64) (.sl (.pair (.int .i64) (.pair (.int .i64) .bool)))))) (.pair (.sl (.pair (.int .i64) (.pair (.int .i64) (.pair (.int .i64) (.pair (.pair (.int .i64) (.pair (.int .i64) (.pair .str (.pair .str (.sl (.pair .str (.pair (.int .i64) .bool))))))) (.pair (.int .i64) (.pair (.int .i64) (.pair (.int .i64) (.pair (.sl .str) (.sl (.pair .str (.int .i64)))))))))))) (.int .i64))))) [(0, 34), (2, 35), (3, 36), (4, 37), (5, 3)]),
(39, .struct (.pair (.pair (.sl (.pair (.sl (.int .i64)) (.sl (.pair .str (.int .i64))))) (.sl (.pair .str (.pair (.int .i64) (.pair (.int .i64) .bool))))) (.pair (.sl (.pair (.sl (.pair (.int .i64) (.pair .str (.pair .str (.pair .str (.sl (.pair .str (.pair (.int .i64) .bool)))))))) (.pair (.int .i64) (.pair (.int .i64) (.pair (.int .i64) (.pair (.int .i64) (.pair (.int .i64) (.pair (.int .i64) (.pair (.int .i64) (.sl (.pair .str (.int .i64)))))))))))) (.pair (.sl (.pair .str (.pair (.int .i64) (.sl (.pair (.int .i64) (.pair (.int .i64) .bool)))))) (.pair (.sl (.pair (.int .i64) (.pair (.int .i64) (.pair (.int .i64) (.pair (.pair (.int .i64) (.pair (.int .i64) (.pair .str (.pair .str (.sl (.pair .str (.pair (.int .i64) .bool))))))) (.pair (.int .i64) (.pair (.int .i64) (.pair (.int .i64) (.pair (.sl .str) (.sl (.pair .str (.int .i64)))))))))))) (.int .i64))))) [(0, 34), (2, 35), (3, 36), (4, 37), (5, 3)]),
(41, .one),
(42, .one),
(43, .slice 60 (.sl (.pair (.int .i64) (.pair .str (.pair .str (.pair .str (.sl (.pair .str (.pair (.int .i64) .bool)))))))) 0),
(44, .one),
(45, .one),
(46, .one),
(47, .one),
(48, .one),
(49, .one),
(50, .one),
(51, .one),
(52, .one),
(53, .one),
(54, .slice 140 (.pair (.int .i64) (.pair .str (.pair .str (.pair .str (.sl (.pair .str (.pair (.int .i64) .bool))))))) 0),
(55, .slice 178 (.pair .str (.int .i64)) 0),
(56, .struct (.pair (.sl (.pair (.int .i64) (.pair .str (.pair .str (.pair .str (.sl (.pair .str (.pair (.int .i64) .bool)))))))) (.pair (.int .i64) (.pair (.int .i64) (.pair (.int .i64) (.pair (.int .i64) (.pair (.int .i64) (.pair (.int .i64) (.pair (.int .i64) (.sl (.pair .str (.int .i64))))))))))) [(0, 54), (1, 3), (2, 3), (3, 3), (4, 3), (5, 3), (6, 3), (7, 3), (8, 55)]),
(57, .struct (.pair (.sl (.pair (.int .i64) (.pair .str (.pair .str (.pair .str (.sl (.pair .str (.pair (.int .i64) .bool)))))))) (.pair (.int .i64) (.pair (.int .i64) (.pair (.int .i64) (.pair (.int .i64) (.pair (.int .i64) (.pair (.int .i64) (.pair (.int .i64) (.sl (.pair .str (.int .i64))))))))))) [(0, 54), (1, 3), (2, 3), (3, 3), (4, 3), (5, 3), (6, 3), (7, 3), (8, 55)]),
(58, .one),
(59, .one),
(60, .slice 146 (.pair (.int .i64) (.pair .str (.pair .str (.pair .str (.sl (.pair .str (.pair (.int .i64) .bool))))))) 0),
(61, .slice 179 (.pair .str (.int .i64)) 0),
(62, .struct (.pair (.sl (.pair (.int .i64) (.pair .str (.pair .str (.pair .str (.sl (.pair .str (.pair (.int .i64) .bool)))))))) (.pair (.int .i64) (.pair (.int .i64) (.pair (.int .i64) (.pair (.int .i64) (.pair (.int .i64) (.pair (.int .i64) (.pair (.int .i64) (.sl (.pair .str (.int .i64))))))))))) [(0, 60), (1, 3), (2, 3), (3, 3), (4, 3), (5, 3), (6, 3), (7, 3), (8, 61)]),
(63, .struct (.pair (.sl (.pair (.int .i64) (.pair .str (.pair .str (.pair .str (.sl (.pair .str (.pair (.int .i64) .bool)))))))) (.pair (.int .i64) (.pair (.int .i64) (.pair (.int .i64) (.pair (.int .i64) (.pair (.int .i64) (.pair (.int .i64) (.pair (.int .i64) (.sl (.pair .str (.int .i64))))))))))) [(0, 60), (1, 3), (2, 3), (3, 3), (4, 3), (5, 3), (6, 3), (7, 3), (8, 61)]),
(64, .one),
(65, .one),
(66, .one),
(67, .slice 184 (.pair .str (.pair (.int .i64) .bool)) 0),
(68, .struct (.pair (.int .i64) (.pair (.int .i64) (.pair .str (.pair .str (.sl (.pair .str (.pair (.int .i64) .bool))))))) [(0, 3), (1, 3), (2, 9), (3, 9), (4, 67)]),
(69, .struct (.pair (.int .i64) (.pair (.int .i64) (.pair .str (.pair .str (.sl (.pair .str (.pair (.int .i64) .bool))))))) [(0, 3), (1, 3), (2, 9), (3, 9), (4, 67)]),
(70, .one),
(71, .struct (.pair (.int .i64) (.pair (.int .i64) (.pair (.int .i64) (.pair (.sl .str) (.sl (.pair .str (.int .i64))))))) [(0, 3), (1, 3), (2, 3), (3, 27), (4, 61)]),
(72, .struct (.pair (.int .i64) (.pair (.int .i64) (.pair (.int .i64) (.pair (.sl .str) (.sl (.pair .str (.int .i64))))))) [(0, 3), (1, 3), (2, 3), (3, 27), (4, 61)]),
(74, .one),
(75, .slice 193 (.pair .str (.pair (.int .i64) .bool)) 0),
(76, .struct (.pair (.int .i64) (.pair (.int .i64) (.pair .str (.pair .str (.sl (.pair .str (.pair (.int .i64) .bool))))))) [(0, 3), (1, 3), (2, 9), (3, 9), (4, 75)]),
(77, .struct (.pair (.int .i64) (.pair (.int .i64) (.pair .str (.pair .str (.sl (.pair .str (.pair (.int .i64) .bool))))))) [(0, 3), (1, 3), (2, 9), (3, 9), (4, 75)]),
(78, .one),
(79, .one),
(80, .one),
(81, .one),
(82, .one),
(83, .one),
(84, .one),
(85, .one),
(86, .one),
(87, .one),
(88, .one),
(89, .one),
(90, .one),
(91, .one),
(92, .one),
(93, .one),
(94, .one),
(95, .one),
(96, .one),
(97, .one),
(99, .one),
(100, .one),
(101, .slice 214 (.pair (.int .i64) (.pair (.int .i64) .bool)) 0),
(102, .struct (.pair .str (.pair (.int .i64) (.sl (.pair (.int .i64) (.pair (.int .i64) .bool))))) [(0, 9), (1, 3), (2, 101)]),
(103, .struct (.pair .str (.pair (.int .i64) (.sl (.pair (.int .i64) (.pair (.int .i64) .bool))))) [(0, 9), (1, 3), (2, 101)]),
(104, .one),
(105, .one),
(106, .one),
(107, .one),
(108, .one),
(109, .one),
(110, .one),
(111, .one),
(112, .one),
(113, .one),
(114, .one),
(115, .one),
(116, .one),
(117, .one),
(118, .one),
(119, .one),
(120, .one),
(121, .one),
(123, .one),
(124, .one),
(125, .one),
(126, .one),
(127, .one),
(128, .one),
(129, .one),
(130, .one),
(131, .one),
(132, .slice 3 (.int .i64) 0),
(133, .struct (.pair (.sl (.int .i64)) (.sl (.pair .str (.int .i64)))) [(0, 132), (1, 55)]),
(134, .struct (.pair (.sl (.int .i64)) (.sl (.pair .str (.int .i64)))) [(0, 132), (1, 55)]),
(135, .one),
(136, .struct (.pair .str (.pair (.int .i64) (.pair (.int .i64) .bool))) [(0, 9), (1, 3), (2, 3), (3, 4)]),
(137, .struct (.pair .str (.pair (.int .i64) (.pair (.int .i64) .bool))) [(0, 9), (1, 3), (2, 3), (3, 4)]),
(138, .one),
(139, .struct (.pair (.int .i64) (.pair .str (.pair .str (.pair .str (.sl (.pair .str (.pair (.int .i64) .bool))))))) [(0, 3), (1, 9), (2, 9), (3, 9), (4, 67)]),
(140, .struct (.pair (.int .i64) (.pair .str (.pair .str (.pair .str (.sl (.pair .str (.pair (.int .i64) .bool))))))) [(0, 3), (1, 9), (2, 9), (3, 9), (4, 67)]),
(141, .one),
(142, .one),
(143, .struct (.pair .str (.pair (.int .i64) (.pair (.int .i64) .bool))) [(0, 9), (1, 3), (2, 3), (3, 4)]),
(144, .one),
(145, .struct (.pair (.int .i64) (.pair .str (.pair .str (.pair .str (.sl (.pair .str (.pair (.int .i64) .bool))))))) [(0, 3), (1, 9), (2, 9), (3, 9), (4, 75)]),
(146, .struct (.pair (.int .i64) (.pair .str (.pair .str (.pair .str (.sl (.pair .str (.pair (.int .i64) .bool))))))) [(0, 3), (1, 9), (2, 9), (3, 9), (4, 75)]),
(147, .one),
(148, .one),
(149, .one),
(150, .struct (.pair (.int .i64) (.pair (.int .i64) (.pair (.int .i64) (.pair (.pair (.int .i64) (.pair (.int .i64) (.pair .str (.pair .str (.sl (.pair .str (.pair (.int .i64) .bool))))))) (.pair (.int .i64) (.pair (.int .i64) (.pair (.int .i64) (.pair (.sl .str) (.sl (.pair .str (.int .i64))))))))))) [(0, 3), (1, 3), (2, 3), (3, 77), (8, 72)]),
(151, .struct (.pair (.int .i64) (.pair (.int .i64) (.pair (.int .i64) (.pair (.pair (.int .i64) (.pair (.int .i64) (.pair .str (.pair .str (.sl (.pair .str (.pair (.int .i64) .bool))))))) (.pair (.int .i64) (.pair (.int .i64) (.pair (.int .i64) (.pair (.sl .str) (.sl (.pair .str (.int .i64))))))))))) [(0, 3), (1, 3), (2, 3), (3, 77), (8, 72)]),
(152, .one),
(153, .one),
(154, .one),
(155, .struct (.pair (.sl (.int .i64)) (.sl (.pair .str (.int .i64)))) [(0, 132), (1, 61)]),
(156, .struct (.pair (.sl (.int .i64)) (.sl (.pair .str (.int .i64)))) [(0, 132), (1, 61)]),
(157, .one),
(158, .one),
(159, .one),
(160, .one),
(161, .one),
(162, .one),
(163, .one),
(164, .one),
(165, .one),
(166, .one),
(167, .one),
(168, .slice 5 (.int .u8) 0),
(169, .one),
(170, .one),
(171, .one),
(172, .one),
(173, .one),
(174, .one),
(175, .one),
(176, .one),
(177, .struct (.pair .str (.int .i64)) [(0, 9), (1, 3)]),
(178, .struct (.pair .str (.int .i64)) [(0, 9), (1, 3)]),
(179, .struct (.pair .str (.int .i64)) [(0, 9), (1, 3)]),
(180, .one),
(181, .one),
(182, .one),
(183, .struct (.pair .str (.pair (.int .i64) .bool)) [(0, 9), (1, 3), (2, 4)]),
(184, .struct (.pair .str (.pair (.int .i64) .bool)) [(0, 9), (1, 3), (2, 4)]),
(185, .one),
(186, .one),
(188, .one),
(189, .one),
(190, .one),
(192, .one),
(193, .struct (.pair .str (.pair (.int .i64) .bool)) [(0, 9), (1, 3), (2, 4)]),
(194, .one),
(195, .one),
(197, .one),
(198, .one),
(199, .one),
(200, .one),
(201, .one),
(202, .one),
(203, .one),
(204, .one),
(205, .one),
(206, .one),
(207, .one),
(208, .one),
(209, .one),
(210, .one),
(211, .one),
(212, .one),
(213, .struct (.pair (.int .i64) (.pair (.int .i64) .bool)) [(0, 3), (1, 3), (2, 4)]),
(214, .struct (.pair (.int .i64) (.pair (.int .i64) .bool)) [(0, 3), (1, 3), (2, 4)]),
(216, .one),
(217, .one),
(218, .one),
(219, .one),
(220, .struct (.pair .bool (.pair (.sl (.pair .str (.int .i64))) (.pair (.sl (.int .i64)) (.pair (.sl .str) (.int .i64))))) [(0, 4), (1, 61), (2, 132), (3, 27), (4, 3)]),
(221, .struct (.pair .bool (.pair (.sl (.pair .str (.int .i64))) (.pair (.sl (.int .i64)) (.pair (.sl .str) (.int .i64))))) [(0, 4), (1, 61), (2, 132), (3, 27), (4, 3)]),
(222, .one),
(223, .one),
(224, .one),
(226, .one),
(227, .one),
(228, .one),
(229, .one),
(230, .one),
(231, .one),
(232, .one),
(233, .one),
(234, .one),
(235, .one),
(236, .one),
(237, .one),
(238, .one),
(240, .one),
(241, .one),
(242, .one),
(243, .one),
(245, .one),
(246, .leaf (.int .u64)),
(247, .one),
(249, .one),
(250, .one),
(251, .slice 4 .bool 0),
(252, .one),
(253, .one),
(254, .one),
(255, .one),
(257, .one),
(258, .one),
(259, .one),
(260, .map 193),
(261, .one),
(262, .one),
(263, .one),
(264, .one),
(265, .one),
(266, .one),
(267, .one),
(268, .one),
(269, .leaf (.int .i64)),
(271, .one),
(272, .one),
(273, .one),
(274, .one),
(275, .one),
(276, .leaf (.int .u32)),
(277, .one),
(278, .leaf (.int .u64)),
(279, .leaf (.int .u64)),
(280, .one),
(281, .one),
(282, .one),
(284, .one),
(286, .one),
(287, .one),
(293, .one),
(294, .leaf (.int .u8)),
(295, .leaf (.int .u8)),
(296, .one),
(298, .leaf (.int .i32)),
(299, .leaf (.int .i32)),
(302, .one),
(303, .one)]
def Sg.ptrs : List (Nat × Fw.Ty) := []
theorem Sg.tabOK : Fw.chkAll Tryz.prog Sg.tab = true := by kernel_rfl
theorem Sg.eqsOK : Fw.eqFacts Tryz.prog Sg.tab Sg.eqs = true := by kernel_rfl
theorem Sg.mixOK : Tryz.prog.follows .mixedOrders = true := by kernel_rfl
instance Sg.glob : Fw.GInv := ⟨fun _ => True, fun _ => False, fun _ _ _ h => h⟩
abbrev Sg.t0 : Fw.Ty := (.pair (.int .i64) (.pair (.int .i64) .bool))
abbrev Sg.t1 : Fw.Ty := (.pair (.sl .str) (.sl (.pair .str (.int .i64))))
abbrev Sg.t2 : Fw.Ty := (.pair (.int .i64) (.sl (.pair .str (.int .i64))))
abbrev Sg.t3 : Fw.Ty := (.pair (.sl (.int .i64)) (.sl (.pair .str (.int .i64))))
abbrev Sg.t4 : Fw.Ty := (.pair .str (.sl (.pair .str (.pair (.int .i64) .bool))))
abbrev Sg.t5 : Fw.Ty := (.pair .str Sg.t0)
abbrev Sg.t6 : Fw.Ty := (.pair (.int .i64) Sg.t1)
abbrev Sg.t7 : Fw.Ty := (.pair .str Sg.t4)
abbrev Sg.t8 : Fw.Ty := (.pair (.int .i64) Sg.t2)
abbrev Sg.t9 : Fw.Ty := (.pair (.int .i64) (.sl Sg.t0))
abbrev Sg.t10 : Fw.Ty := (.pair .str Sg.t7)
abbrev Sg.t11 : Fw.Ty := (.pair .str Sg.t9)
abbrev Sg.t12 : Fw.Ty := (.pair (.int .i64) Sg.t6)
abbrev Sg.t13 : Fw.Ty := (.pair (.int .i64) Sg.t8)
abbrev Sg.t14 : Fw.Ty := (.pair (.int .i64) Sg.t7)
abbrev Sg.t15 : Fw.Ty := (.pair (.int .i64) Sg.t10)
abbrev Sg.t16 : Fw.Ty := (.pair (.int .i64) Sg.t12)
abbrev Sg.t17 : Fw.Ty := (.pair (.int .i64) Sg.t13)
abbrev Sg.t18 : Fw.Ty := (.pair (.int .i64) Sg.t14)
abbrev Sg.t19 : Fw.Ty := (.pair (.int .i64) Sg.t17)
abbrev Sg.t20 : Fw.Ty := (.pair (.sl Sg.t3) (.sl Sg.t5))
abbrev Sg.t21 : Fw.Ty := (.pair (.int .i64) Sg.t19)
abbrev Sg.t22 : Fw.Ty := (.pair (.int .i64) Sg.t21)
abbrev Sg.t23 : Fw.Ty := (.pair Sg.t18 Sg.t16)
abbrev Sg.t24 : Fw.Ty := (.pair (.int .i64) Sg.t23)
abbrev Sg.t25 : Fw.Ty := (.pair (.int .i64) Sg.t24)
abbrev Sg.t26 : Fw.Ty := (.pair (.sl Sg.t15) Sg.t22)
abbrev Sg.t27 : Fw.Ty := (.pair (.int .i64) Sg.t25)
abbrev Sg.t28 : Fw.Ty := (.pair (.sl Sg.t27) (.int .i64))
abbrev Sg.t29 : Fw.Ty := (.pair (.sl Sg.t11) Sg.t28)
abbrev Sg.t30 : Fw.Ty := (.pair (.sl Sg.t26) Sg.t29)
abbrev Sg.t31 : Fw.Ty := (.pair Sg.t20 Sg.t30)
def Sg.opn : List Nat := [18, 19, 20, 21, 34, 35, 62, 63, 64, 66, 67, 68, 86, 87, 129, 130]
noncomputable def Sg.f_laws_szIntS : Fw.PFn := Fw.PFn.get Tryz.f163
noncomputable def Sg.i_laws_szIntS : List (Nat × Fw.PFn) := []
noncomputable def Sg.s_laws_szIntS (K : Nat) : Fw.Sig := { ins := [.val false (.sl (.int .i64)), .val false (.int .i64)], outs := [⟨false, (.int .i64), false⟩], F := fun x => R.laws_szIntS K x.1 x.2.1 }
noncomputable def Sg.c_laws_szIntS (K : Nat) : Fw.Cfg := { tab := Sg.tab, eqs := Sg.eqs, sig := [], inl := [], lo := [], K := K, jo := [], opn := Sg.opn }
noncomputable def Sg.f_laws_szEntry : Fw.PFn := Fw.PFn.get Tryz.f134
noncomputable def Sg.i_laws_szEntry : List (Nat × Fw.PFn) := []
noncomputable def Sg.s_laws_szEntry (K : Nat) : Fw.Sig := { ins := [.val true (.pair .str (.int .i64)), .val false (.int .i64)], outs := [⟨false, (.int .i64), false⟩], F := fun x => R.laws_szEntry K x.1 x.2.1 }
noncomputable def Sg.c_laws_szEntry (K : Nat) : Fw.Cfg := { tab := Sg.tab, eqs := Sg.eqs, sig := [], inl := [], lo := [], K := K, jo := [], opn := Sg.opn }
def Sg.h_laws_szEntryS_0 : Fw.StSh := ⟨[(0, (.d (.sl (.pair .str (.int .i64))))), (1, (.d (.int .i64))), (4, (.d (.int .i64))), (5, (.d (.int .i64)))], [], 0, 27, ⟨0, []⟩⟩
def Sg.o_laws_szEntryS_0 : Fw.StSh := ⟨[(1, (.d (.int .i64))), (4, (.d (.int .i64)))], [], 0, 27, ⟨0, []⟩⟩
def Sg.r_laws_szEntryS_0 : Fw.StSh := ⟨[(4, (.d (.int .i64)))], [], 0, 27, ⟨0, []⟩⟩
noncomputable def Sg.p_laws_szEntryS_0 (K : Nat) : Fw.LSpec := { g := 72, b := 0, lv := 6, l0 := 0, li := 0, head := Sg.h_laws_szEntryS_0, post := Sg.o_laws_szEntryS_0, retn := Sg.r_laws_szEntryS_0, ex := 0, L := R.L_laws_szEntryS_0 K }
noncomputable def Sg.f_laws_szEntryS : Fw.PFn := Fw.PFn.get Tryz.f72
noncomputable def Sg.i_laws_szEntryS : List (Nat × Fw.PFn) := []
noncomputable def Sg.s_laws_szEntryS (K : Nat) : Fw.Sig := { ins := [.val false (.sl (.pair .str (.int .i64))), .val false (.int .i64)], outs := [⟨false, (.int .i64), false⟩], F := fun x => R.laws_szEntryS K x.1 x.2.1 }
noncomputable def Sg.c_laws_szEntryS (K : Nat) : Fw.Cfg := { tab := Sg.tab, eqs := Sg.eqs, sig := [(134, Sg.s_laws_szEntry K)], inl := [], lo := Sg.p_laws_szEntryS_0 K :: [], K := K, jo := [], opn := Sg.opn }
noncomputable def Sg.f_laws_szCommit : Fw.PFn := Fw.PFn.get Tryz.f92
noncomputable def Sg.i_laws_szCommit : List (Nat × Fw.PFn) := []
noncomputable def Sg.s_laws_szCommit (K : Nat) : Fw.Sig := { ins := [.val true Sg.t3, .val false (.int .i64)], outs := [⟨false, (.int .i64), false⟩], F := fun x => R.laws_szCommit K x.1 x.2.1 }
noncomputable def Sg.c_laws_szCommit (K : Nat) : Fw.Cfg := { tab := Sg.tab, eqs := Sg.eqs, sig := [(163, Sg.s_laws_szIntS K), (72, Sg.s_laws_szEntryS K)], inl := [], lo := [], K := K, jo := [], opn := Sg.opn }
def Sg.h_laws_szCommitS_0 : Fw.StSh := ⟨[(0, (.d (.sl Sg.t3))), (1, (.d (.int .i64))), (4, (.d (.int .i64))), (5, (.d (.int .i64)))], [], 0, 27, ⟨0, []⟩⟩
def Sg.o_laws_szCommitS_0 : Fw.StSh := ⟨[(1, (.d (.int .i64))), (4, (.d (.int .i64)))], [], 0, 27, ⟨0, []⟩⟩
def Sg.r_laws_szCommitS_0 : Fw.StSh := ⟨[(4, (.d (.int .i64)))], [], 0, 27, ⟨0, []⟩⟩
noncomputable def Sg.p_laws_szCommitS_0 (K : Nat) : Fw.LSpec := { g := 38, b := 0, lv := 6, l0 := 0, li := 0, head := Sg.h_laws_szCommitS_0, post := Sg.o_laws_szCommitS_0, retn := Sg.r_laws_szCommitS_0, ex := 0, L := R.L_laws_szCommitS_0 K }
noncomputable def Sg.f_laws_szCommitS : Fw.PFn := Fw.PFn.get Tryz.f38
noncomputable def Sg.i_laws_szCommitS : List (Nat × Fw.PFn) := []
noncomputable def Sg.s_laws_szCommitS (K : Nat) : Fw.Sig := { ins := [.val false (.sl Sg.t3), .val false (.int .i64)], outs := [⟨false, (.int .i64), false⟩], F := fun x => R.laws_szCommitS K x.1 x.2.1 }
noncomputable def Sg.c_laws_szCommitS (K : Nat) : Fw.Cfg := { tab := Sg.tab, eqs := Sg.eqs, sig := [(92, Sg.s_laws_szCommit K)], inl := [], lo := Sg.p_laws_szCommitS_0 K :: [], K := K, jo := [], opn := Sg.opn }
noncomputable def Sg.f_laws_szRef : Fw.PFn := Fw.PFn.get Tryz.f93
noncomputable def Sg.i_laws_szRef : List (Nat × Fw.PFn) := []
noncomputable def Sg.s_laws_szRef (K : Nat) : Fw.Sig := { ins := [.val true Sg.t5, .val false (.int .i64)], outs := [⟨false, (.int .i64), false⟩], F := fun x => R.laws_szRef K x.1 x.2.1 }
noncomputable def Sg.c_laws_szRef (K : Nat) : Fw.Cfg := { tab := Sg.tab, eqs := Sg.eqs, sig := [], inl := [], lo := [], K := K, jo := [], opn := Sg.opn }
def Sg.h_laws_szRefS_0 : Fw.StSh := ⟨[(0, (.d (.sl Sg.t5))), (1, (.d (.int .i64))), (4, (.d (.int .i64))), (5, (.d (.int .i64)))], [], 0, 27, ⟨0, []⟩⟩
def Sg.o_laws_szRefS_0 : Fw.StSh := ⟨[(1, (.d (.int .i64))), (4, (.d (.int .i64)))], [], 0, 27, ⟨0, []⟩⟩
def Sg.r_laws_szRefS_0 : Fw.StSh := ⟨[(4, (.d (.int .i64)))], [], 0, 27, ⟨0, []⟩⟩
noncomputable def Sg.p_laws_szRefS_0 (K : Nat) : Fw.LSpec := { g := 39, b := 0, lv := 6, l0 := 0, li := 0, head := Sg.h_laws_szRefS_0, post := Sg.o_laws_szRefS_0, retn := Sg.r_laws_szRefS_0, ex := 0, L := R.L_laws_szRefS_0 K }
noncomputable def Sg.f_laws_szRefS : Fw.PFn := Fw.PFn.get Tryz.f39
noncomputable def Sg.i_laws_szRefS : List (Nat × Fw.PFn) := []
noncomputable def Sg.s_laws_szRefS (K : Nat) : Fw.Sig := { ins := [.val false (.sl Sg.t5), .val false (.int .i64)], outs := [⟨false, (.int .i64), false⟩], F := fun x => R.laws_szRefS K x.1 x.2.1 }
noncomputable def Sg.c_laws_szRefS (K : Nat) : Fw.Cfg := { tab := Sg.tab, eqs := Sg.eqs, sig := [(93, Sg.s_laws_szRef K)], inl := [], lo := Sg.p_laws_szRefS_0 K :: [], K := K, jo := [], opn := Sg.opn }
noncomputable def Sg.f_laws_szBase : Fw.PFn := Fw.PFn.get Tryz.f6
noncomputable def Sg.i_laws_szBase : List (Nat × Fw.PFn) := []
noncomputable def Sg.s_laws_szBase (K : Nat) : Fw.Sig := { ins := [.val true Sg.t20, .val false (.int .i64)], outs := [⟨false, (.int .i64), false⟩], F := fun x => R.laws_szBase K x.1 x.2.1 }
noncomputable def Sg.c_laws_szBase (K : Nat) : Fw.Cfg := { tab := Sg.tab, eqs := Sg.eqs, sig := [(38, Sg.s_laws_szCommitS K), (39, Sg.s_laws_szRefS K)], inl := [], lo := [], K := K, jo := [], opn := Sg.opn }
noncomputable def Sg.f_laws_szEdit : Fw.PFn := Fw.PFn.get Tryz.f140
noncomputable def Sg.i_laws_szEdit : List (Nat × Fw.PFn) := []
noncomputable def Sg.s_laws_szEdit (K : Nat) : Fw.Sig := { ins := [.val true (.pair .str (.pair (.int .i64) .bool)), .val false (.int .i64)], outs := [⟨false, (.int .i64), false⟩], F := fun x => R.laws_szEdit K x.1 x.2.1 }
noncomputable def Sg.c_laws_szEdit (K : Nat) : Fw.Cfg := { tab := Sg.tab, eqs := Sg.eqs, sig := [], inl := [], lo := [], K := K, jo := [], opn := Sg.opn }
def Sg.h_laws_szEditS_0 : Fw.StSh := ⟨[(0, (.d (.sl (.pair .str (.pair (.int .i64) .bool))))), (1, (.d (.int .i64))), (4, (.d (.int .i64))), (5, (.d (.int .i64)))], [], 0, 27, ⟨0, []⟩⟩
def Sg.o_laws_szEditS_0 : Fw.StSh := ⟨[(1, (.d (.int .i64))), (4, (.d (.int .i64)))], [], 0, 27, ⟨0, []⟩⟩
def Sg.r_laws_szEditS_0 : Fw.StSh := ⟨[(4, (.d (.int .i64)))], [], 0, 27, ⟨0, []⟩⟩
noncomputable def Sg.p_laws_szEditS_0 (K : Nat) : Fw.LSpec := { g := 77, b := 0, lv := 6, l0 := 0, li := 0, head := Sg.h_laws_szEditS_0, post := Sg.o_laws_szEditS_0, retn := Sg.r_laws_szEditS_0, ex := 0, L := R.L_laws_szEditS_0 K }
noncomputable def Sg.f_laws_szEditS : Fw.PFn := Fw.PFn.get Tryz.f77
noncomputable def Sg.i_laws_szEditS : List (Nat × Fw.PFn) := []
noncomputable def Sg.s_laws_szEditS (K : Nat) : Fw.Sig := { ins := [.val false (.sl (.pair .str (.pair (.int .i64) .bool))), .val false (.int .i64)], outs := [⟨false, (.int .i64), false⟩], F := fun x => R.laws_szEditS K x.1 x.2.1 }
noncomputable def Sg.c_laws_szEditS (K : Nat) : Fw.Cfg := { tab := Sg.tab, eqs := Sg.eqs, sig := [(140, Sg.s_laws_szEdit K)], inl := [], lo := Sg.p_laws_szEditS_0 K :: [], K := K, jo := [], opn := Sg.opn }
noncomputable def Sg.f_laws_szWish : Fw.PFn := Fw.PFn.get Tryz.f94
noncomputable def Sg.i_laws_szWish : List (Nat × Fw.PFn) := []
noncomputable def Sg.s_laws_szWish (K : Nat) : Fw.Sig := { ins := [.val true Sg.t15, .val false (.int .i64)], outs := [⟨false, (.int .i64), false⟩], F := fun x => R.laws_szWish K x.1 x.2.1 }
noncomputable def Sg.c_laws_szWish (K : Nat) : Fw.Cfg := { tab := Sg.tab, eqs := Sg.eqs, sig := [(77, Sg.s_laws_szEditS K)], inl := [], lo := [], K := K, jo := [], opn := Sg.opn }
def Sg.h_laws_szWishS_0 : Fw.StSh := ⟨[(0, (.d (.sl Sg.t15))), (1, (.d (.int .i64))), (4, (.d (.int .i64))), (5, (.d (.int .i64)))], [], 0, 27, ⟨0, []⟩⟩
def Sg.o_laws_szWishS_0 : Fw.StSh := ⟨[(1, (.d (.int .i64))), (4, (.d (.int .i64)))], [], 0, 27, ⟨0, []⟩⟩
def Sg.r_laws_szWishS_0 : Fw.StSh := ⟨[(4, (.d (.int .i64)))], [], 0, 27, ⟨0, []⟩⟩
noncomputable def Sg.p_laws_szWishS_0 (K : Nat) : Fw.LSpec := { g := 40, b := 0, lv := 6, l0 := 0, li := 0, head := Sg.h_laws_szWishS_0, post := Sg.o_laws_szWishS_0, retn := Sg.r_laws_szWishS_0, ex := 0, L := R.L_laws_szWishS_0 K }
noncomputable def Sg.f_laws_szWishS : Fw.PFn := Fw.PFn.get Tryz.f40
noncomputable def Sg.i_laws_szWishS : List (Nat × Fw.PFn) := []
noncomputable def Sg.s_laws_szWishS (K : Nat) : Fw.Sig := { ins := [.val false (.sl Sg.t15), .val false (.int .i64)], outs := [⟨false, (.int .i64), false⟩], F := fun x => R.laws_szWishS K x.1 x.2.1 }
noncomputable def Sg.c_laws_szWishS (K : Nat) : Fw.Cfg := { tab := Sg.tab, eqs := Sg.eqs, sig := [(94, Sg.s_laws_szWish K)], inl := [], lo := Sg.p_laws_szWishS_0 K :: [], K := K, jo := [], opn := Sg.opn }
def Sg.h_laws_szWishSS_0 : Fw.StSh := ⟨[(0, (.d (.sl (.sl Sg.t15)))), (1, (.d (.int .i64))), (4, (.d (.int .i64))), (5, (.d (.int .i64)))], [], 0, 27, ⟨0, []⟩⟩
def Sg.o_laws_szWishSS_0 : Fw.StSh := ⟨[(1, (.d (.int .i64))), (4, (.d (.int .i64)))], [], 0, 27, ⟨0, []⟩⟩
def Sg.r_laws_szWishSS_0 : Fw.StSh := ⟨[(4, (.d (.int .i64)))], [], 0, 27, ⟨0, []⟩⟩
noncomputable def Sg.p_laws_szWishSS_0 (K : Nat) : Fw.LSpec := { g := 7, b := 0, lv := 6, l0 := 0, li := 0, head := Sg.h_laws_szWishSS_0, post := Sg.o_laws_szWishSS_0, retn := Sg.r_laws_szWishSS_0, ex := 0, L := R.L_laws_szWishSS_0 K }
noncomputable def Sg.f_laws_szWishSS : Fw.PFn := Fw.PFn.get Tryz.f7
noncomputable def Sg.i_laws_szWishSS : List (Nat × Fw.PFn) := []
noncomputable def Sg.s_laws_szWishSS (K : Nat) : Fw.Sig := { ins := [.val false (.sl (.sl Sg.t15)), .val false (.int .i64)], outs := [⟨false, (.int .i64), false⟩], F := fun x => R.laws_szWishSS K x.1 x.2.1 }
noncomputable def Sg.c_laws_szWishSS (K : Nat) : Fw.Cfg := { tab := Sg.tab, eqs := Sg.eqs, sig := [(40, Sg.s_laws_szWishS K)], inl := [], lo := Sg.p_laws_szWishSS_0 K :: [], K := K, jo := [], opn := Sg.opn }
def Sg.h_laws_szStringS_0 : Fw.StSh := ⟨[(0, (.d (.sl .str))), (1, (.d (.int .i64))), (4, (.d (.int .i64))), (5, (.d (.int .i64)))], [], 0, 28, ⟨0, []⟩⟩
def Sg.o_laws_szStringS_0 : Fw.StSh := ⟨[(1, (.d (.int .i64))), (4, (.d (.int .i64)))], [], 0, 28, ⟨0, []⟩⟩
def Sg.r_laws_szStringS_0 : Fw.StSh := ⟨[(4, (.d (.int .i64)))], [], 0, 28, ⟨0, []⟩⟩
noncomputable def Sg.p_laws_szStringS_0 (K : Nat) : Fw.LSpec := { g := 8, b := 0, lv := 6, l0 := 0, li := 0, head := Sg.h_laws_szStringS_0, post := Sg.o_laws_szStringS_0, retn := Sg.r_laws_szStringS_0, ex := 0, L := R.L_laws_szStringS_0 K }
noncomputable def Sg.f_laws_szStringS : Fw.PFn := Fw.PFn.get Tryz.f8
noncomputable def Sg.i_laws_szStringS : List (Nat × Fw.PFn) := []
noncomputable def Sg.s_laws_szStringS (K : Nat) : Fw.Sig := { ins := [.val false (.sl .str), .val false (.int .i64)], outs := [⟨false, (.int .i64), false⟩], F := fun x => R.laws_szStringS K x.1 x.2.1 }
noncomputable def Sg.c_laws_szStringS (K : Nat) : Fw.Cfg := { tab := Sg.tab, eqs := Sg.eqs, sig := [], inl := [], lo := Sg.p_laws_szStringS_0 K :: [], K := K, jo := [], opn := Sg.opn }
def Sg.h_laws_toIntS_0 : Fw.StSh := ⟨[(0, (.d (.sl (.int .i64)))), (2, (.row 0)), (3, (.row 1)), (4, (.d (.int .i64)))], [(0, (.row (.int .i64) true)), (1, (.row (.int .i64) true))], 2, 22, ⟨0, []⟩⟩
def Sg.o_laws_toIntS_0 : Fw.StSh := ⟨[(2, (.row 0)), (3, (.row 1))], [(0, (.row (.int .i64) true)), (1, (.row (.int .i64) true))], 2, 22, ⟨0, []⟩⟩
def Sg.r_laws_toIntS_0 : Fw.StSh := ⟨[], [], 2, 22, ⟨0, []⟩⟩
noncomputable def Sg.p_laws_toIntS_0 (K : Nat) : Fw.LSpec := { g := 167, b := 0, lv := 6, l0 := 0, li := 0, head := Sg.h_laws_toIntS_0, post := Sg.o_laws_toIntS_0, retn := Sg.r_laws_toIntS_0, ex := 0, L := R.L_laws_toIntS_0 K }
noncomputable def Sg.f_laws_toIntS : Fw.PFn := Fw.PFn.get Tryz.f167
noncomputable def Sg.i_laws_toIntS : List (Nat × Fw.PFn) := []
noncomputable def Sg.s_laws_toIntS (K : Nat) : Fw.Sig := { ins := [.val false (.sl (.int .i64))], outs := [⟨false, (.sl (.int .i64)), true⟩], F := fun x => R.laws_toIntS K x.1 }
noncomputable def Sg.c_laws_toIntS (K : Nat) : Fw.Cfg := { tab := Sg.tab, eqs := Sg.eqs, sig := [], inl := [], lo := Sg.p_laws_toIntS_0 K :: [], K := K, jo := [], opn := Sg.opn }
noncomputable def Sg.f_laws_toEntry : Fw.PFn := Fw.PFn.get Tryz.f137
noncomputable def Sg.i_laws_toEntry : List (Nat × Fw.PFn) := []
noncomputable def Sg.s_laws_toEntry (K : Nat) : Fw.Sig := { ins := [.val true (.pair .str (.int .i64))], outs := [⟨true, (.pair .str (.int .i64)), false⟩], F := fun x => R.laws_toEntry K x.1 }
noncomputable def Sg.c_laws_toEntry (K : Nat) : Fw.Cfg := { tab := Sg.tab, eqs := Sg.eqs, sig := [], inl := [], lo := [], K := K, jo := [], opn := Sg.opn }
def Sg.h_laws_toEntryS_0 : Fw.StSh := ⟨[(0, (.d (.sl (.pair .str (.int .i64))))), (2, (.row 0)), (3, (.row 1)), (4, (.d (.int .i64)))], [(0, (.row (.pair .str (.int .i64)) true)), (1, (.row (.pair .str (.int .i64)) true))], 2, 23, ⟨0, []⟩⟩
def Sg.o_laws_toEntryS_0 : Fw.StSh := ⟨[(2, (.row 0)), (3, (.row 1))], [(0, (.row (.pair .str (.int .i64)) true)), (1, (.row (.pair .str (.int .i64)) true))], 2, 23, ⟨0, []⟩⟩
def Sg.r_laws_toEntryS_0 : Fw.StSh := ⟨[], [], 2, 23, ⟨0, []⟩⟩
noncomputable def Sg.p_laws_toEntryS_0 (K : Nat) : Fw.LSpec := { g := 74, b := 0, lv := 6, l0 := 0, li := 0, head := Sg.h_laws_toEntryS_0, post := Sg.o_laws_toEntryS_0, retn := Sg.r_laws_toEntryS_0, ex := 0, L := R.L_laws_toEntryS_0 K }
noncomputable def Sg.f_laws_toEntryS : Fw.PFn := Fw.PFn.get Tryz.f74
noncomputable def Sg.i_laws_toEntryS : List (Nat × Fw.PFn) := []
noncomputable def Sg.s_laws_toEntryS (K : Nat) : Fw.Sig := { ins := [.val false (.sl (.pair .str (.int .i64)))], outs := [⟨false, (.sl (.pair .str (.int .i64))), true⟩], F := fun x => R.laws_toEntryS K x.1 }
noncomputable def Sg.c_laws_toEntryS (K : Nat) : Fw.Cfg := { tab := Sg.tab, eqs := Sg.eqs, sig := [(137, Sg.s_laws_toEntry K)], inl := [], lo := Sg.p_laws_toEntryS_0 K :: [], K := K, jo := [], opn := Sg.opn }
noncomputable def Sg.f_laws_toCommit : Fw.PFn := Fw.PFn.get Tryz.f105
noncomputable def Sg.i_laws_toCommit : List (Nat × Fw.PFn) := []
noncomputable def Sg.s_laws_toCommit (K : Nat) : Fw.Sig := { ins := [.val true Sg.t3], outs := [⟨true, Sg.t3, true⟩], F := fun x => R.laws_toCommit K x.1 }
noncomputable def Sg.c_laws_toCommit (K : Nat) : Fw.Cfg := { tab := Sg.tab, eqs := Sg.eqs, sig := [(167, Sg.s_laws_toIntS K), (74, Sg.s_laws_toEntryS K)], inl := [], lo := [], K := K, jo := [], opn := Sg.opn }
def Sg.h_laws_toCommitS_0 : Fw.StSh := ⟨[(0, (.d (.sl Sg.t3))), (2, (.row 0)), (3, (.row 1)), (4, (.d (.int .i64)))], [(0, (.row Sg.t3 true)), (1, (.row Sg.t3 true))], 2, 23, ⟨0, []⟩⟩
def Sg.o_laws_toCommitS_0 : Fw.StSh := ⟨[(2, (.row 0)), (3, (.row 1))], [(0, (.row Sg.t3 true)), (1, (.row Sg.t3 true))], 2, 23, ⟨0, []⟩⟩
def Sg.r_laws_toCommitS_0 : Fw.StSh := ⟨[], [], 2, 23, ⟨0, []⟩⟩
noncomputable def Sg.p_laws_toCommitS_0 (K : Nat) : Fw.LSpec := { g := 46, b := 0, lv := 6, l0 := 0, li := 0, head := Sg.h_laws_toCommitS_0, post := Sg.o_laws_toCommitS_0, retn := Sg.r_laws_toCommitS_0, ex := 0, L := R.L_laws_toCommitS_0 K }
noncomputable def Sg.f_laws_toCommitS : Fw.PFn := Fw.PFn.get Tryz.f46
noncomputable def Sg.i_laws_toCommitS : List (Nat × Fw.PFn) := []
noncomputable def Sg.s_laws_toCommitS (K : Nat) : Fw.Sig := { ins := [.val false (.sl Sg.t3)], outs := [⟨false, (.sl Sg.t3), true⟩], F := fun x => R.laws_toCommitS K x.1 }
noncomputable def Sg.c_laws_toCommitS (K : Nat) : Fw.Cfg := { tab := Sg.tab, eqs := Sg.eqs, sig := [(105, Sg.s_laws_toCommit K)], inl := [], lo := Sg.p_laws_toCommitS_0 K :: [], K := K, jo := [], opn := Sg.opn }
noncomputable def Sg.f_laws_toRef : Fw.PFn := Fw.PFn.get Tryz.f106
noncomputable def Sg.i_laws_toRef : List (Nat × Fw.PFn) := []
noncomputable def Sg.s_laws_toRef (K : Nat) : Fw.Sig := { ins := [.val true Sg.t5], outs := [⟨true, Sg.t5, false⟩], F := fun x => R.laws_toRef K x.1 }
noncomputable def Sg.c_laws_toRef (K : Nat) : Fw.Cfg := { tab := Sg.tab, eqs := Sg.eqs, sig := [], inl := [], lo := [], K := K, jo := [], opn := Sg.opn }
def Sg.h_laws_toRefS_0 : Fw.StSh := ⟨[(0, (.d (.sl Sg.t5))), (2, (.row 0)), (3, (.row 1)), (4, (.d (.int .i64)))], [(0, (.row Sg.t5 true)), (1, (.row Sg.t5 true))], 2, 23, ⟨0, []⟩⟩
def Sg.o_laws_toRefS_0 : Fw.StSh := ⟨[(2, (.row 0)), (3, (.row 1))], [(0, (.row Sg.t5 true)), (1, (.row Sg.t5 true))], 2, 23, ⟨0, []⟩⟩
def Sg.r_laws_toRefS_0 : Fw.StSh := ⟨[], [], 2, 23, ⟨0, []⟩⟩
noncomputable def Sg.p_laws_toRefS_0 (K : Nat) : Fw.LSpec := { g := 47, b := 0, lv := 6, l0 := 0, li := 0, head := Sg.h_laws_toRefS_0, post := Sg.o_laws_toRefS_0, retn := Sg.r_laws_toRefS_0, ex := 0, L := R.L_laws_toRefS_0 K }
noncomputable def Sg.f_laws_toRefS : Fw.PFn := Fw.PFn.get Tryz.f47
noncomputable def Sg.i_laws_toRefS : List (Nat × Fw.PFn) := []
noncomputable def Sg.s_laws_toRefS (K : Nat) : Fw.Sig := { ins := [.val false (.sl Sg.t5)], outs := [⟨false, (.sl Sg.t5), true⟩], F := fun x => R.laws_toRefS K x.1 }
noncomputable def Sg.c_laws_toRefS (K : Nat) : Fw.Cfg := { tab := Sg.tab, eqs := Sg.eqs, sig := [(106, Sg.s_laws_toRef K)], inl := [], lo := Sg.p_laws_toRefS_0 K :: [], K := K, jo := [], opn := Sg.opn }
noncomputable def Sg.f_laws_toBase : Fw.PFn := Fw.PFn.get Tryz.f10
noncomputable def Sg.i_laws_toBase : List (Nat × Fw.PFn) := []
noncomputable def Sg.s_laws_toBase (K : Nat) : Fw.Sig := { ins := [.val true Sg.t20], outs := [⟨true, Sg.t20, true⟩], F := fun x => R.laws_toBase K x.1 }
noncomputable def Sg.c_laws_toBase (K : Nat) : Fw.Cfg := { tab := Sg.tab, eqs := Sg.eqs, sig := [(46, Sg.s_laws_toCommitS K), (47, Sg.s_laws_toRefS K)], inl := [], lo := [], K := K, jo := [], opn := Sg.opn }
noncomputable def Sg.f_laws_toEdit : Fw.PFn := Fw.PFn.get Tryz.f150
noncomputable def Sg.i_laws_toEdit : List (Nat × Fw.PFn) := []
noncomputable def Sg.s_laws_toEdit (K : Nat) : Fw.Sig := { ins := [.val true (.pair .str (.pair (.int .i64) .bool))], outs := [⟨true, (.pair .str (.pair (.int .i64) .bool)), false⟩], F := fun x => R.laws_toEdit K x.1 }
noncomputable def Sg.c_laws_toEdit (K : Nat) : Fw.Cfg := { tab := Sg.tab, eqs := Sg.eqs, sig := [], inl := [], lo := [], K := K, jo := [], opn := Sg.opn }
def Sg.h_laws_toEditS_0 : Fw.StSh := ⟨[(0, (.d (.sl (.pair .str (.pair (.int .i64) .bool))))), (2, (.row 0)), (3, (.row 1)), (4, (.d (.int .i64)))], [(0, (.row (.pair .str (.pair (.int .i64) .bool)) true)), (1, (.row (.pair .str (.pair (.int .i64) .bool)) true))], 2, 23, ⟨0, []⟩⟩
def Sg.o_laws_toEditS_0 : Fw.StSh := ⟨[(2, (.row 0)), (3, (.row 1))], [(0, (.row (.pair .str (.pair (.int .i64) .bool)) true)), (1, (.row (.pair .str (.pair (.int .i64) .bool)) true))], 2, 23, ⟨0, []⟩⟩
def Sg.r_laws_toEditS_0 : Fw.StSh := ⟨[], [], 2, 23, ⟨0, []⟩⟩
noncomputable def Sg.p_laws_toEditS_0 (K : Nat) : Fw.LSpec := { g := 82, b := 0, lv := 6, l0 := 0, li := 0, head := Sg.h_laws_toEditS_0, post := Sg.o_laws_toEditS_0, retn := Sg.r_laws_toEditS_0, ex := 0, L := R.L_laws_toEditS_0 K }
noncomputable def Sg.f_laws_toEditS : Fw.PFn := Fw.PFn.get Tryz.f82
noncomputable def Sg.i_laws_toEditS : List (Nat × Fw.PFn) := []
noncomputable def Sg.s_laws_toEditS (K : Nat) : Fw.Sig := { ins := [.val false (.sl (.pair .str (.pair (.int .i64) .bool)))], outs := [⟨false, (.sl (.pair .str (.pair (.int .i64) .bool))), true⟩], F := fun x => R.laws_toEditS K x.1 }
noncomputable def Sg.c_laws_toEditS (K : Nat) : Fw.Cfg := { tab := Sg.tab, eqs := Sg.eqs, sig := [(150, Sg.s_laws_toEdit K)], inl := [], lo := Sg.p_laws_toEditS_0 K :: [], K := K, jo := [], opn := Sg.opn }
noncomputable def Sg.f_laws_toWish : Fw.PFn := Fw.PFn.get Tryz.f107
noncomputable def Sg.i_laws_toWish : List (Nat × Fw.PFn) := []
noncomputable def Sg.s_laws_toWish (K : Nat) : Fw.Sig := { ins := [.val true Sg.t15], outs := [⟨true, Sg.t15, true⟩], F := fun x => R.laws_toWish K x.1 }
noncomputable def Sg.c_laws_toWish (K : Nat) : Fw.Cfg := { tab := Sg.tab, eqs := Sg.eqs, sig := [(82, Sg.s_laws_toEditS K)], inl := [], lo := [], K := K, jo := [], opn := Sg.opn }
def Sg.h_laws_toWishS_0 : Fw.StSh := ⟨[(0, (.d (.sl Sg.t15))), (2, (.row 0)), (3, (.row 1)), (4, (.d (.int .i64)))], [(0, (.row Sg.t15 true)), (1, (.row Sg.t15 true))], 2, 23, ⟨0, []⟩⟩
def Sg.o_laws_toWishS_0 : Fw.StSh := ⟨[(2, (.row 0)), (3, (.row 1))], [(0, (.row Sg.t15 true)), (1, (.row Sg.t15 true))], 2, 23, ⟨0, []⟩⟩
def Sg.r_laws_toWishS_0 : Fw.StSh := ⟨[], [], 2, 23, ⟨0, []⟩⟩
noncomputable def Sg.p_laws_toWishS_0 (K : Nat) : Fw.LSpec := { g := 48, b := 0, lv := 6, l0 := 0, li := 0, head := Sg.h_laws_toWishS_0, post := Sg.o_laws_toWishS_0, retn := Sg.r_laws_toWishS_0, ex := 0, L := R.L_laws_toWishS_0 K }
noncomputable def Sg.f_laws_toWishS : Fw.PFn := Fw.PFn.get Tryz.f48
noncomputable def Sg.i_laws_toWishS : List (Nat × Fw.PFn) := []
noncomputable def Sg.s_laws_toWishS (K : Nat) : Fw.Sig := { ins := [.val false (.sl Sg.t15)], outs := [⟨false, (.sl Sg.t15), true⟩], F := fun x => R.laws_toWishS K x.1 }
noncomputable def Sg.c_laws_toWishS (K : Nat) : Fw.Cfg := { tab := Sg.tab, eqs := Sg.eqs, sig := [(107, Sg.s_laws_toWish K)], inl := [], lo := Sg.p_laws_toWishS_0 K :: [], K := K, jo := [], opn := Sg.opn }
def Sg.h_laws_toWishSS_0 : Fw.StSh := ⟨[(0, (.d (.sl (.sl Sg.t15)))), (2, (.row 0)), (3, (.row 1)), (4, (.d (.int .i64)))], [(0, (.row (.sl Sg.t15) true)), (1, (.row (.sl Sg.t15) true))], 2, 23, ⟨0, []⟩⟩
def Sg.o_laws_toWishSS_0 : Fw.StSh := ⟨[(2, (.row 0)), (3, (.row 1))], [(0, (.row (.sl Sg.t15) true)), (1, (.row (.sl Sg.t15) true))], 2, 23, ⟨0, []⟩⟩
def Sg.r_laws_toWishSS_0 : Fw.StSh := ⟨[], [], 2, 23, ⟨0, []⟩⟩
noncomputable def Sg.p_laws_toWishSS_0 (K : Nat) : Fw.LSpec := { g := 11, b := 0, lv := 6, l0 := 0, li := 0, head := Sg.h_laws_toWishSS_0, post := Sg.o_laws_toWishSS_0, retn := Sg.r_laws_toWishSS_0, ex := 0, L := R.L_laws_toWishSS_0 K }
noncomputable def Sg.f_laws_toWishSS : Fw.PFn := Fw.PFn.get Tryz.f11
noncomputable def Sg.i_laws_toWishSS : List (Nat × Fw.PFn) := []
noncomputable def Sg.s_laws_toWishSS (K : Nat) : Fw.Sig := { ins := [.val false (.sl (.sl Sg.t15))], outs := [⟨false, (.sl (.sl Sg.t15)), true⟩], F := fun x => R.laws_toWishSS K x.1 }
noncomputable def Sg.c_laws_toWishSS (K : Nat) : Fw.Cfg := { tab := Sg.tab, eqs := Sg.eqs, sig := [(48, Sg.s_laws_toWishS K)], inl := [], lo := Sg.p_laws_toWishSS_0 K :: [], K := K, jo := [], opn := Sg.opn }
def Sg.h_laws_toStringS_0 : Fw.StSh := ⟨[(0, (.d (.sl .str))), (2, (.row 0)), (3, (.row 1)), (4, (.d (.int .i64)))], [(0, (.row .str true)), (1, (.row .str true))], 2, 22, ⟨0, []⟩⟩
def Sg.o_laws_toStringS_0 : Fw.StSh := ⟨[(2, (.row 0)), (3, (.row 1))], [(0, (.row .str true)), (1, (.row .str true))], 2, 22, ⟨0, []⟩⟩
def Sg.r_laws_toStringS_0 : Fw.StSh := ⟨[], [], 2, 22, ⟨0, []⟩⟩
noncomputable def Sg.p_laws_toStringS_0 (K : Nat) : Fw.LSpec := { g := 12, b := 0, lv := 6, l0 := 0, li := 0, head := Sg.h_laws_toStringS_0, post := Sg.o_laws_toStringS_0, retn := Sg.r_laws_toStringS_0, ex := 0, L := R.L_laws_toStringS_0 K }
noncomputable def Sg.f_laws_toStringS : Fw.PFn := Fw.PFn.get Tryz.f12
noncomputable def Sg.i_laws_toStringS : List (Nat × Fw.PFn) := []
noncomputable def Sg.s_laws_toStringS (K : Nat) : Fw.Sig := { ins := [.val false (.sl .str)], outs := [⟨false, (.sl .str), true⟩], F := fun x => R.laws_toStringS K x.1 }
noncomputable def Sg.c_laws_toStringS (K : Nat) : Fw.Cfg := { tab := Sg.tab, eqs := Sg.eqs, sig := [], inl := [], lo := Sg.p_laws_toStringS_0 K :: [], K := K, jo := [], opn := Sg.opn }
noncomputable def Sg.f_spec_l01In : Fw.PFn := Fw.PFn.get Tryz.f135
noncomputable def Sg.i_spec_l01In : List (Nat × Fw.PFn) := []
noncomputable def Sg.s_spec_l01In (K : Nat) : Fw.Sig := { ins := [.val false (.int .i64), .val false (.int .i64), .val false (.int .i64)], outs := [⟨false, .bool, false⟩], F := fun x => R.spec_l01In K x.1 x.2.1 x.2.2.1 }
noncomputable def Sg.c_spec_l01In (K : Nat) : Fw.Cfg := { tab := Sg.tab, eqs := Sg.eqs, sig := [], inl := [], lo := [], K := K, jo := [], opn := Sg.opn }
noncomputable def Sg.f_spec_l00Letter : Fw.PFn := Fw.PFn.get Tryz.f98
noncomputable def Sg.i_spec_l00Letter : List (Nat × Fw.PFn) := []
noncomputable def Sg.s_spec_l00Letter (K : Nat) : Fw.Sig := { ins := [.val false (.int .u8)], outs := [⟨false, .bool, false⟩], F := fun x => R.spec_l00Letter K x.1 }
noncomputable def Sg.c_spec_l00Letter (K : Nat) : Fw.Cfg := { tab := Sg.tab, eqs := Sg.eqs, sig := [], inl := [], lo := [], K := K, jo := [], opn := Sg.opn }
noncomputable def Sg.f_spec_l00Digit : Fw.PFn := Fw.PFn.get Tryz.f99
noncomputable def Sg.i_spec_l00Digit : List (Nat × Fw.PFn) := []
noncomputable def Sg.s_spec_l00Digit (K : Nat) : Fw.Sig := { ins := [.val false (.int .u8)], outs := [⟨false, .bool, false⟩], F := fun x => R.spec_l00Digit K x.1 }
noncomputable def Sg.c_spec_l00Digit (K : Nat) : Fw.Cfg := { tab := Sg.tab, eqs := Sg.eqs, sig := [], inl := [], lo := [], K := K, jo := [], opn := Sg.opn }
def Sg.h_spec_l00Word_0 : Fw.StSh := ⟨[(0, (.d .str)), (2, (.d .bool)), (3, (.d (.int .i64)))], [], 0, 36, ⟨0, []⟩⟩
def Sg.o_spec_l00Word_0 : Fw.StSh := ⟨[(2, (.d .bool))], [], 0, 36, ⟨0, []⟩⟩
def Sg.r_spec_l00Word_0 : Fw.StSh := ⟨[(2, (.d .bool))], [], 0, 36, ⟨0, []⟩⟩
noncomputable def Sg.p_spec_l00Word_0 (K : Nat) : Fw.LSpec := { g := 43, b := 0, lv := 6, l0 := 0, li := 0, head := Sg.h_spec_l00Word_0, post := Sg.o_spec_l00Word_0, retn := Sg.r_spec_l00Word_0, ex := 0, L := R.L_spec_l00Word_0 K }
noncomputable def Sg.f_spec_l00Word : Fw.PFn := Fw.PFn.get Tryz.f43
noncomputable def Sg.i_spec_l00Word : List (Nat × Fw.PFn) := []
noncomputable def Sg.s_spec_l00Word (K : Nat) : Fw.Sig := { ins := [.val false .str], outs := [⟨false, .bool, false⟩], F := fun x => R.spec_l00Word K x.1 }
noncomputable def Sg.c_spec_l00Word (K : Nat) : Fw.Cfg := { tab := Sg.tab, eqs := Sg.eqs, sig := [(98, Sg.s_spec_l00Letter K), (99, Sg.s_spec_l00Digit K)], inl := [], lo := Sg.p_spec_l00Word_0 K :: [], K := K, jo := [], opn := Sg.opn }
def Sg.h_spec_l01OK_0 : Fw.StSh := ⟨[(0, (.d (.sl (.pair .str (.int .i64))))), (2, (.d .bool)), (3, (.d (.int .i64)))], [], 0, 47, ⟨0, []⟩⟩
def Sg.o_spec_l01OK_0 : Fw.StSh := ⟨[(2, (.d .bool))], [], 0, 47, ⟨0, []⟩⟩
def Sg.r_spec_l01OK_0 : Fw.StSh := ⟨[(2, (.d .bool))], [], 0, 47, ⟨0, []⟩⟩
noncomputable def Sg.p_spec_l01OK_0 (K : Nat) : Fw.LSpec := { g := 205, b := 0, lv := 6, l0 := 0, li := 0, head := Sg.h_spec_l01OK_0, post := Sg.o_spec_l01OK_0, retn := Sg.r_spec_l01OK_0, ex := 0, L := R.L_spec_l01OK_0 K }
noncomputable def Sg.f_spec_l01OK : Fw.PFn := Fw.PFn.get Tryz.f205
noncomputable def Sg.i_spec_l01OK : List (Nat × Fw.PFn) := []
noncomputable def Sg.s_spec_l01OK (K : Nat) : Fw.Sig := { ins := [.val false (.sl (.pair .str (.int .i64)))], outs := [⟨false, .bool, false⟩], F := fun x => R.spec_l01OK K x.1 }
noncomputable def Sg.c_spec_l01OK (K : Nat) : Fw.Cfg := { tab := Sg.tab, eqs := Sg.eqs, sig := [(135, Sg.s_spec_l01In K), (43, Sg.s_spec_l00Word K)], inl := [], lo := Sg.p_spec_l01OK_0 K :: [], K := K, jo := ⟨205, 0, 6, 0, 6, none⟩ :: [], opn := Sg.opn }
def Sg.h_spec_l03Commit_0 : Fw.StSh := ⟨[(0, (.d (.sl Sg.t3))), (3, (.ref 0 0)), (4, (.d .bool)), (5, (.d (.int .i64))), (6, (.d (.int .i64)))], [(0, (.box [(.d (.sl (.int .i64))), (.d (.sl (.pair .str (.int .i64))))]))], 1, 56, ⟨0, []⟩⟩
def Sg.o_spec_l03Commit_0 : Fw.StSh := ⟨[(4, (.d .bool))], [], 1, 56, ⟨0, []⟩⟩
def Sg.r_spec_l03Commit_0 : Fw.StSh := ⟨[(4, (.d .bool))], [], 1, 56, ⟨0, []⟩⟩
noncomputable def Sg.p_spec_l03Commit_0 (K : Nat) : Fw.LSpec := { g := 164, b := 0, lv := 6, l0 := 0, li := 0, head := Sg.h_spec_l03Commit_0, post := Sg.o_spec_l03Commit_0, retn := Sg.r_spec_l03Commit_0, ex := 0, L := R.L_spec_l03Commit_0 K }
noncomputable def Sg.f_spec_l03Commit : Fw.PFn := Fw.PFn.get Tryz.f164
noncomputable def Sg.i_spec_l03Commit : List (Nat × Fw.PFn) := []
noncomputable def Sg.s_spec_l03Commit (K : Nat) : Fw.Sig := { ins := [.val false (.sl Sg.t3), .val true Sg.t3], outs := [⟨false, .bool, false⟩], F := fun x => R.spec_l03Commit K x.1 x.2.1 }
noncomputable def Sg.c_spec_l03Commit (K : Nat) : Fw.Cfg := { tab := Sg.tab, eqs := Sg.eqs, sig := [(135, Sg.s_spec_l01In K), (205, Sg.s_spec_l01OK K)], inl := [], lo := Sg.p_spec_l03Commit_0 K :: [], K := K, jo := ⟨164, 0, 6, 0, 7, none⟩ :: [], opn := Sg.opn }
def Sg.h_spec_l03OK_0 : Fw.StSh := ⟨[(0, (.d (.sl Sg.t3))), (2, (.d .bool)), (3, (.d (.int .i64)))], [], 0, 23, ⟨0, []⟩⟩
def Sg.o_spec_l03OK_0 : Fw.StSh := ⟨[(2, (.d .bool))], [], 0, 23, ⟨0, []⟩⟩
def Sg.r_spec_l03OK_0 : Fw.StSh := ⟨[(2, (.d .bool))], [], 0, 23, ⟨0, []⟩⟩
noncomputable def Sg.p_spec_l03OK_0 (K : Nat) : Fw.LSpec := { g := 95, b := 0, lv := 6, l0 := 0, li := 0, head := Sg.h_spec_l03OK_0, post := Sg.o_spec_l03OK_0, retn := Sg.r_spec_l03OK_0, ex := 0, L := R.L_spec_l03OK_0 K }
noncomputable def Sg.f_spec_l03OK : Fw.PFn := Fw.PFn.get Tryz.f95
noncomputable def Sg.i_spec_l03OK : List (Nat × Fw.PFn) := []
noncomputable def Sg.s_spec_l03OK (K : Nat) : Fw.Sig := { ins := [.val false (.sl Sg.t3)], outs := [⟨false, .bool, false⟩], F := fun x => R.spec_l03OK K x.1 }
noncomputable def Sg.c_spec_l03OK (K : Nat) : Fw.Cfg := { tab := Sg.tab, eqs := Sg.eqs, sig := [(135, Sg.s_spec_l01In K), (164, Sg.s_spec_l03Commit K)], inl := [], lo := Sg.p_spec_l03OK_0 K :: [], K := K, jo := ⟨95, 0, 6, 0, 6, none⟩ :: [], opn := Sg.opn }
def Sg.h_spec_l04At_0 : Fw.StSh := ⟨[(0, (.d (.sl Sg.t5))), (1, (.d .str)), (4, (.d (.int .i64))), (5, (.d (.int .i64)))], [], 0, 20, ⟨0, []⟩⟩
def Sg.o_spec_l04At_0 : Fw.StSh := ⟨[(4, (.d (.int .i64)))], [], 0, 20, ⟨0, []⟩⟩
def Sg.r_spec_l04At_0 : Fw.StSh := ⟨[(4, (.d (.int .i64)))], [], 0, 20, ⟨0, []⟩⟩
noncomputable def Sg.p_spec_l04At_0 (K : Nat) : Fw.LSpec := { g := 165, b := 0, lv := 6, l0 := 0, li := 0, head := Sg.h_spec_l04At_0, post := Sg.o_spec_l04At_0, retn := Sg.r_spec_l04At_0, ex := 0, L := R.L_spec_l04At_0 K }
noncomputable def Sg.f_spec_l04At : Fw.PFn := Fw.PFn.get Tryz.f165
noncomputable def Sg.i_spec_l04At : List (Nat × Fw.PFn) := []
noncomputable def Sg.s_spec_l04At (K : Nat) : Fw.Sig := { ins := [.val false (.sl Sg.t5), .val false .str], outs := [⟨false, (.int .i64), false⟩], F := fun x => R.spec_l04At K x.1 x.2.1 }
noncomputable def Sg.c_spec_l04At (K : Nat) : Fw.Cfg := { tab := Sg.tab, eqs := Sg.eqs, sig := [], inl := [], lo := Sg.p_spec_l04At_0 K :: [], K := K, jo := [], opn := Sg.opn }
def Sg.h_spec_l04OK_0 : Fw.StSh := ⟨[(0, (.d (.sl Sg.t5))), (2, (.d .bool)), (3, (.d (.int .i64)))], [], 0, 56, ⟨0, []⟩⟩
def Sg.o_spec_l04OK_0 : Fw.StSh := ⟨[(2, (.d .bool))], [], 0, 56, ⟨0, []⟩⟩
def Sg.r_spec_l04OK_0 : Fw.StSh := ⟨[(2, (.d .bool))], [], 1, 56, ⟨0, []⟩⟩
noncomputable def Sg.p_spec_l04OK_0 (K : Nat) : Fw.LSpec := { g := 96, b := 0, lv := 6, l0 := 0, li := 0, head := Sg.h_spec_l04OK_0, post := Sg.o_spec_l04OK_0, retn := Sg.r_spec_l04OK_0, ex := 0, L := R.L_spec_l04OK_0 K }
noncomputable def Sg.f_spec_l04OK : Fw.PFn := Fw.PFn.get Tryz.f96
noncomputable def Sg.i_spec_l04OK : List (Nat × Fw.PFn) := []
noncomputable def Sg.s_spec_l04OK (K : Nat) : Fw.Sig := { ins := [.val false (.sl Sg.t5)], outs := [⟨false, .bool, false⟩], F := fun x => R.spec_l04OK K x.1 }
noncomputable def Sg.c_spec_l04OK (K : Nat) : Fw.Cfg := { tab := Sg.tab, eqs := Sg.eqs, sig := [(135, Sg.s_spec_l01In K), (43, Sg.s_spec_l00Word K), (165, Sg.s_spec_l04At K)], inl := [], lo := Sg.p_spec_l04OK_0 K :: [], K := K, jo := [], opn := Sg.opn }
def Sg.h_spec_l05OK_0 : Fw.StSh := ⟨[(1, (.ref 0 0)), (2, (.d .bool)), (3, (.d (.int .i64)))], [(0, (.box [(.d (.sl Sg.t3)), (.d (.sl Sg.t5))]))], 1, 31, ⟨0, []⟩⟩
def Sg.o_spec_l05OK_0 : Fw.StSh := ⟨[(2, (.d .bool))], [], 1, 31, ⟨0, []⟩⟩
def Sg.r_spec_l05OK_0 : Fw.StSh := ⟨[(2, (.d .bool))], [], 1, 31, ⟨0, []⟩⟩
noncomputable def Sg.p_spec_l05OK_0 (K : Nat) : Fw.LSpec := { g := 41, b := 0, lv := 6, l0 := 0, li := 0, head := Sg.h_spec_l05OK_0, post := Sg.o_spec_l05OK_0, retn := Sg.r_spec_l05OK_0, ex := 0, L := R.L_spec_l05OK_0 K }
noncomputable def Sg.f_spec_l05OK : Fw.PFn := Fw.PFn.get Tryz.f41
noncomputable def Sg.i_spec_l05OK : List (Nat × Fw.PFn) := []
noncomputable def Sg.s_spec_l05OK (K : Nat) : Fw.Sig := { ins := [.val true Sg.t20], outs := [⟨false, .bool, false⟩], F := fun x => R.spec_l05OK K x.1 }
noncomputable def Sg.c_spec_l05OK (K : Nat) : Fw.Cfg := { tab := Sg.tab, eqs := Sg.eqs, sig := [(95, Sg.s_spec_l03OK K), (96, Sg.s_spec_l04OK K)], inl := [], lo := Sg.p_spec_l05OK_0 K :: [], K := K, jo := ⟨41, 0, 6, 0, 6, none⟩ :: [], opn := Sg.opn }
def Sg.h_spec_l01Edits_0 : Fw.StSh := ⟨[(0, (.d (.sl (.pair .str (.pair (.int .i64) .bool))))), (2, (.d .bool)), (3, (.d (.int .i64)))], [], 0, 52, ⟨0, []⟩⟩
def Sg.o_spec_l01Edits_0 : Fw.StSh := ⟨[(2, (.d .bool))], [], 0, 52, ⟨0, []⟩⟩
def Sg.r_spec_l01Edits_0 : Fw.StSh := ⟨[(2, (.d .bool))], [], 1, 52, ⟨0, []⟩⟩
noncomputable def Sg.p_spec_l01Edits_0 (K : Nat) : Fw.LSpec := { g := 141, b := 0, lv := 6, l0 := 0, li := 0, head := Sg.h_spec_l01Edits_0, post := Sg.o_spec_l01Edits_0, retn := Sg.r_spec_l01Edits_0, ex := 0, L := R.L_spec_l01Edits_0 K }
noncomputable def Sg.f_spec_l01Edits : Fw.PFn := Fw.PFn.get Tryz.f141
noncomputable def Sg.i_spec_l01Edits : List (Nat × Fw.PFn) := []
noncomputable def Sg.s_spec_l01Edits (K : Nat) : Fw.Sig := { ins := [.val false (.sl (.pair .str (.pair (.int .i64) .bool)))], outs := [⟨false, .bool, false⟩], F := fun x => R.spec_l01Edits K x.1 }
noncomputable def Sg.c_spec_l01Edits (K : Nat) : Fw.Cfg := { tab := Sg.tab, eqs := Sg.eqs, sig := [(135, Sg.s_spec_l01In K), (43, Sg.s_spec_l00Word K)], inl := [], lo := Sg.p_spec_l01Edits_0 K :: [], K := K, jo := ⟨141, 0, 6, 0, 7, none⟩ :: [], opn := Sg.opn }
noncomputable def Sg.f_spec_l07Wish : Fw.PFn := Fw.PFn.get Tryz.f97
noncomputable def Sg.i_spec_l07Wish : List (Nat × Fw.PFn) := []
noncomputable def Sg.s_spec_l07Wish (K : Nat) : Fw.Sig := { ins := [.val true Sg.t15], outs := [⟨false, .bool, false⟩], F := fun x => R.spec_l07Wish K x.1 }
noncomputable def Sg.c_spec_l07Wish (K : Nat) : Fw.Cfg := { tab := Sg.tab, eqs := Sg.eqs, sig := [(135, Sg.s_spec_l01In K), (43, Sg.s_spec_l00Word K), (141, Sg.s_spec_l01Edits K)], inl := [], lo := [], K := K, jo := [], opn := Sg.opn }
def Sg.h_spec_l07Wishes_0 : Fw.StSh := ⟨[(0, (.d (.sl Sg.t15))), (2, (.d .bool)), (3, (.d (.int .i64)))], [], 0, 19, ⟨0, []⟩⟩
def Sg.o_spec_l07Wishes_0 : Fw.StSh := ⟨[(2, (.d .bool))], [], 0, 19, ⟨0, []⟩⟩
def Sg.r_spec_l07Wishes_0 : Fw.StSh := ⟨[(2, (.d .bool))], [], 0, 19, ⟨0, []⟩⟩
noncomputable def Sg.p_spec_l07Wishes_0 (K : Nat) : Fw.LSpec := { g := 42, b := 0, lv := 6, l0 := 0, li := 0, head := Sg.h_spec_l07Wishes_0, post := Sg.o_spec_l07Wishes_0, retn := Sg.r_spec_l07Wishes_0, ex := 0, L := R.L_spec_l07Wishes_0 K }
noncomputable def Sg.f_spec_l07Wishes : Fw.PFn := Fw.PFn.get Tryz.f42
noncomputable def Sg.i_spec_l07Wishes : List (Nat × Fw.PFn) := []
noncomputable def Sg.s_spec_l07Wishes (K : Nat) : Fw.Sig := { ins := [.val false (.sl Sg.t15)], outs := [⟨false, .bool, false⟩], F := fun x => R.spec_l07Wishes K x.1 }
noncomputable def Sg.c_spec_l07Wishes (K : Nat) : Fw.Cfg := { tab := Sg.tab, eqs := Sg.eqs, sig := [(97, Sg.s_spec_l07Wish K)], inl := [], lo := Sg.p_spec_l07Wishes_0 K :: [], K := K, jo := [], opn := Sg.opn }
def Sg.h_spec_l07CopyWishes_0 : Fw.StSh := ⟨[(0, (.d (.sl Sg.t15))), (2, (.row 0)), (3, (.row 1)), (4, (.d (.int .i64)))], [(0, (.row Sg.t15 true)), (1, (.row Sg.t15 true))], 2, 27, ⟨0, []⟩⟩
def Sg.o_spec_l07CopyWishes_0 : Fw.StSh := ⟨[(2, (.row 0)), (3, (.row 1))], [(0, (.row Sg.t15 true)), (1, (.row Sg.t15 true))], 2, 27, ⟨0, []⟩⟩
def Sg.r_spec_l07CopyWishes_0 : Fw.StSh := ⟨[], [], 2, 27, ⟨0, []⟩⟩
noncomputable def Sg.p_spec_l07CopyWishes_0 (K : Nat) : Fw.LSpec := { g := 166, b := 0, lv := 6, l0 := 0, li := 0, head := Sg.h_spec_l07CopyWishes_0, post := Sg.o_spec_l07CopyWishes_0, retn := Sg.r_spec_l07CopyWishes_0, ex := 0, L := R.L_spec_l07CopyWishes_0 K }
noncomputable def Sg.f_spec_l07CopyWishes : Fw.PFn := Fw.PFn.get Tryz.f166
noncomputable def Sg.i_spec_l07CopyWishes : List (Nat × Fw.PFn) := []
noncomputable def Sg.s_spec_l07CopyWishes (K : Nat) : Fw.Sig := { ins := [.val false (.sl Sg.t15)], outs := [⟨false, (.sl Sg.t15), true⟩], F := fun x => R.spec_l07CopyWishes K x.1 }
noncomputable def Sg.c_spec_l07CopyWishes (K : Nat) : Fw.Cfg := { tab := Sg.tab, eqs := Sg.eqs, sig := [], inl := [], lo := Sg.p_spec_l07CopyWishes_0 K :: [], K := K, jo := [], opn := Sg.opn }
noncomputable def Sg.f_spec_l07New : Fw.PFn := Fw.PFn.get Tryz.f103
noncomputable def Sg.i_spec_l07New : List (Nat × Fw.PFn) := []
noncomputable def Sg.s_spec_l07New (K : Nat) : Fw.Sig := { ins := [.val false (.sl Sg.t15)], outs := [⟨true, Sg.t26, true⟩], F := fun x => R.spec_l07New K x.1 }
noncomputable def Sg.c_spec_l07New (K : Nat) : Fw.Cfg := { tab := Sg.tab, eqs := Sg.eqs, sig := [(166, Sg.s_spec_l07CopyWishes K)], inl := [], lo := [], K := K, jo := [], opn := Sg.opn }
noncomputable def Sg.f_spec_l06New : Fw.PFn := Fw.PFn.get Tryz.f104
noncomputable def Sg.i_spec_l06New : List (Nat × Fw.PFn) := []
noncomputable def Sg.s_spec_l06New (K : Nat) : Fw.Sig := { ins := [.val false (.sl Sg.t5), .val false .str], outs := [⟨true, Sg.t11, true⟩], F := fun x => R.spec_l06New K x.1 x.2.1 }
noncomputable def Sg.c_spec_l06New (K : Nat) : Fw.Cfg := { tab := Sg.tab, eqs := Sg.eqs, sig := [(165, Sg.s_spec_l04At K)], inl := [], lo := [], K := K, jo := [], opn := Sg.opn }
def Sg.h_spec_l08New_40 : Fw.StSh := ⟨[(1, (.d (.sl (.sl Sg.t15)))), (2, (.d (.sl .str))), (3, (.ref 0 0)), (6, (.ref 6 0)), (7, (.ref 20 0)), (8, (.d (.int .i64)))], [(0, (.box [(.d (.sl Sg.t3)), (.d (.sl Sg.t5))])), (6, (.box [(.row 1), (.row 2), (.row 3), (.row 4), (.row 5), (.d (.int .i64))])), (20, (.box [(.d (.sl Sg.t3)), (.d (.sl Sg.t5)), (.row 7), (.row 8), (.row 9), (.d (.int .i64))])), (1, (.row Sg.t3 true)), (2, (.row Sg.t5 true)), (3, (.row Sg.t26 true)), (4, (.row Sg.t11 true)), (5, (.row Sg.t27 true)), (7, (.row Sg.t26 true)), (8, (.row Sg.t11 true)), (9, (.row Sg.t27 true))], 21, 50, ⟨0, []⟩⟩
def Sg.o_spec_l08New_40 : Fw.StSh := ⟨[(2, (.d (.sl .str))), (3, (.ref 0 0)), (6, (.ref 6 0)), (7, (.ref 20 0))], [(0, (.box [(.d (.sl Sg.t3)), (.d (.sl Sg.t5))])), (6, (.box [(.row 1), (.row 2), (.row 3), (.row 4), (.row 5), (.d (.int .i64))])), (20, (.box [(.d (.sl Sg.t3)), (.d (.sl Sg.t5)), (.row 7), (.row 8), (.row 9), (.d (.int .i64))])), (1, (.row Sg.t3 true)), (2, (.row Sg.t5 true)), (3, (.row Sg.t26 true)), (4, (.row Sg.t11 true)), (5, (.row Sg.t27 true)), (7, (.row Sg.t26 true)), (8, (.row Sg.t11 true)), (9, (.row Sg.t27 true))], 21, 50, ⟨0, []⟩⟩
def Sg.r_spec_l08New_40 : Fw.StSh := ⟨[], [], 21, 50, ⟨0, []⟩⟩
noncomputable def Sg.p_spec_l08New_40 (K : Nat) : Fw.LSpec := { g := 45, b := 0, lv := 6, l0 := 0, li := 0, head := Sg.h_spec_l08New_40, post := Sg.o_spec_l08New_40, retn := Sg.r_spec_l08New_40, ex := 0, L := R.L_spec_l08New_40 K }
def Sg.h_spec_l08New_41 : Fw.StSh := ⟨[(2, (.d (.sl .str))), (3, (.ref 0 0)), (6, (.ref 6 0)), (7, (.ref 20 0)), (9, (.d (.int .i64)))], [(0, (.box [(.d (.sl Sg.t3)), (.d (.sl Sg.t5))])), (6, (.box [(.row 1), (.row 2), (.row 3), (.row 4), (.row 5), (.d (.int .i64))])), (20, (.box [(.d (.sl Sg.t3)), (.d (.sl Sg.t5)), (.row 7), (.row 8), (.row 9), (.d (.int .i64))])), (1, (.row Sg.t3 true)), (2, (.row Sg.t5 true)), (3, (.row Sg.t26 true)), (4, (.row Sg.t11 true)), (5, (.row Sg.t27 true)), (7, (.row Sg.t26 true)), (8, (.row Sg.t11 true)), (9, (.row Sg.t27 true))], 21, 50, ⟨0, []⟩⟩
def Sg.o_spec_l08New_41 : Fw.StSh := ⟨[(6, (.ref 6 0)), (7, (.ref 20 0))], [(6, (.box [(.row 1), (.row 2), (.row 3), (.row 4), (.row 5), (.d (.int .i64))])), (20, (.box [(.d (.sl Sg.t3)), (.d (.sl Sg.t5)), (.row 7), (.row 8), (.row 9), (.d (.int .i64))])), (1, (.row Sg.t3 true)), (2, (.row Sg.t5 true)), (3, (.row Sg.t26 true)), (4, (.row Sg.t11 true)), (5, (.row Sg.t27 true)), (7, (.row Sg.t26 true)), (8, (.row Sg.t11 true)), (9, (.row Sg.t27 true))], 21, 50, ⟨0, []⟩⟩
def Sg.r_spec_l08New_41 : Fw.StSh := ⟨[], [], 21, 50, ⟨0, []⟩⟩
noncomputable def Sg.p_spec_l08New_41 (K : Nat) : Fw.LSpec := { g := 45, b := 0, lv := 6, l0 := 0, li := 1, head := Sg.h_spec_l08New_41, post := Sg.o_spec_l08New_41, retn := Sg.r_spec_l08New_41, ex := 2, L := R.L_spec_l08New_41 K }
noncomputable def Sg.f_spec_l08New : Fw.PFn := Fw.PFn.get Tryz.f45
noncomputable def Sg.i_spec_l08New : List (Nat × Fw.PFn) := []
noncomputable def Sg.s_spec_l08New (K : Nat) : Fw.Sig := { ins := [.val true Sg.t20, .val false (.sl (.sl Sg.t15)), .val false (.sl .str)], outs := [⟨true, Sg.t31, false⟩], F := fun x => R.spec_l08New K x.1 x.2.1 x.2.2.1 }
noncomputable def Sg.c_spec_l08New (K : Nat) : Fw.Cfg := { tab := Sg.tab, eqs := Sg.eqs, sig := [(103, Sg.s_spec_l07New K), (104, Sg.s_spec_l06New K)], inl := [], lo := Sg.p_spec_l08New_40 K :: Sg.p_spec_l08New_41 K :: [], K := K, jo := ⟨45, 0, 6, 0, 5, none⟩ :: ⟨45, 0, 6, 0, 9, none⟩ :: [], opn := Sg.opn }
def Sg.j_spec_l03Own_0 : Fw.StSh := ⟨[(2, (.ref 3 0))], [(3, (.box [(.row 4), (.row 5)])), (4, (.row (.int .i64) true)), (5, (.row (.pair .str (.int .i64)) true))], 6, 12, ⟨0, []⟩⟩
noncomputable def Sg.f_spec_l03Own : Fw.PFn := Fw.PFn.get Tryz.f200
noncomputable def Sg.i_spec_l03Own : List (Nat × Fw.PFn) := []
noncomputable def Sg.s_spec_l03Own (K : Nat) : Fw.Sig := { ins := [.val true Sg.t3], outs := [⟨true, Sg.t3, true⟩], F := fun x => R.spec_l03Own K x.1 }
noncomputable def Sg.c_spec_l03Own (K : Nat) : Fw.Cfg := { tab := Sg.tab, eqs := Sg.eqs, sig := [], inl := [], lo := [], K := K, jo := ⟨200, 0, 6, 0, 1, some Sg.j_spec_l03Own_0⟩ :: [], opn := Sg.opn }
def Sg.h_spec_l03Copy_0 : Fw.StSh := ⟨[(0, (.d (.sl Sg.t3))), (2, (.row 0)), (3, (.row 1)), (4, (.d (.int .i64)))], [(0, (.row Sg.t3 true)), (1, (.row Sg.t3 true))], 2, 21, ⟨0, []⟩⟩
def Sg.o_spec_l03Copy_0 : Fw.StSh := ⟨[(2, (.row 0)), (3, (.row 1))], [(0, (.row Sg.t3 true)), (1, (.row Sg.t3 true))], 2, 21, ⟨0, []⟩⟩
def Sg.r_spec_l03Copy_0 : Fw.StSh := ⟨[], [], 2, 21, ⟨0, []⟩⟩
noncomputable def Sg.p_spec_l03Copy_0 (K : Nat) : Fw.LSpec := { g := 149, b := 0, lv := 6, l0 := 0, li := 0, head := Sg.h_spec_l03Copy_0, post := Sg.o_spec_l03Copy_0, retn := Sg.r_spec_l03Copy_0, ex := 0, L := R.L_spec_l03Copy_0 K }
noncomputable def Sg.f_spec_l03Copy : Fw.PFn := Fw.PFn.get Tryz.f149
noncomputable def Sg.i_spec_l03Copy : List (Nat × Fw.PFn) := []
noncomputable def Sg.s_spec_l03Copy (K : Nat) : Fw.Sig := { ins := [.val false (.sl Sg.t3)], outs := [⟨false, (.sl Sg.t3), true⟩], F := fun x => R.spec_l03Copy K x.1 }
noncomputable def Sg.c_spec_l03Copy (K : Nat) : Fw.Cfg := { tab := Sg.tab, eqs := Sg.eqs, sig := [(200, Sg.s_spec_l03Own K)], inl := [], lo := Sg.p_spec_l03Copy_0 K :: [], K := K, jo := [], opn := Sg.opn }
def Sg.j_spec_l05Own_0 : Fw.StSh := ⟨[(2, (.ref 3 0))], [(3, (.box [(.row 4), (.row 5)])), (4, (.row Sg.t3 true)), (5, (.row Sg.t5 true))], 6, 11, ⟨0, []⟩⟩
noncomputable def Sg.f_spec_l05Own : Fw.PFn := Fw.PFn.get Tryz.f80
noncomputable def Sg.i_spec_l05Own : List (Nat × Fw.PFn) := []
noncomputable def Sg.s_spec_l05Own (K : Nat) : Fw.Sig := { ins := [.val true Sg.t20], outs := [⟨true, Sg.t20, true⟩], F := fun x => R.spec_l05Own K x.1 }
noncomputable def Sg.c_spec_l05Own (K : Nat) : Fw.Cfg := { tab := Sg.tab, eqs := Sg.eqs, sig := [(149, Sg.s_spec_l03Copy K)], inl := [], lo := [], K := K, jo := ⟨80, 0, 6, 0, 1, some Sg.j_spec_l05Own_0⟩ :: [], opn := Sg.opn }
noncomputable def Sg.f_spec_l07Own : Fw.PFn := Fw.PFn.get Tryz.f100
noncomputable def Sg.i_spec_l07Own : List (Nat × Fw.PFn) := []
noncomputable def Sg.s_spec_l07Own (K : Nat) : Fw.Sig := { ins := [.val true Sg.t26], outs := [⟨true, Sg.t26, true⟩], F := fun x => R.spec_l07Own K x.1 }
noncomputable def Sg.c_spec_l07Own (K : Nat) : Fw.Cfg := { tab := Sg.tab, eqs := Sg.eqs, sig := [(166, Sg.s_spec_l07CopyWishes K)], inl := [], lo := [], K := K, jo := [], opn := Sg.opn }
noncomputable def Sg.f_spec_l06Own : Fw.PFn := Fw.PFn.get Tryz.f101
noncomputable def Sg.i_spec_l06Own : List (Nat × Fw.PFn) := []
noncomputable def Sg.s_spec_l06Own (K : Nat) : Fw.Sig := { ins := [.val true Sg.t11], outs := [⟨true, Sg.t11, true⟩], F := fun x => R.spec_l06Own K x.1 }
noncomputable def Sg.c_spec_l06Own (K : Nat) : Fw.Cfg := { tab := Sg.tab, eqs := Sg.eqs, sig := [], inl := [], lo := [], K := K, jo := [], opn := Sg.opn }
noncomputable def Sg.f_spec_l05OwnResult : Fw.PFn := Fw.PFn.get Tryz.f81
noncomputable def Sg.i_spec_l05OwnResult : List (Nat × Fw.PFn) := []
noncomputable def Sg.s_spec_l05OwnResult (K : Nat) : Fw.Sig := { ins := [.val true Sg.t16], outs := [⟨true, Sg.t16, true⟩], F := fun x => R.spec_l05OwnResult K x.1 }
noncomputable def Sg.c_spec_l05OwnResult (K : Nat) : Fw.Cfg := { tab := Sg.tab, eqs := Sg.eqs, sig := [], inl := [], lo := [], K := K, jo := [], opn := Sg.opn }
noncomputable def Sg.f_spec_l07OwnMoment : Fw.PFn := Fw.PFn.get Tryz.f102
noncomputable def Sg.i_spec_l07OwnMoment : List (Nat × Fw.PFn) := []
noncomputable def Sg.s_spec_l07OwnMoment (K : Nat) : Fw.Sig := { ins := [.val true Sg.t27], outs := [⟨true, Sg.t27, true⟩], F := fun x => R.spec_l07OwnMoment K x.1 }
noncomputable def Sg.c_spec_l07OwnMoment (K : Nat) : Fw.Cfg := { tab := Sg.tab, eqs := Sg.eqs, sig := [(81, Sg.s_spec_l05OwnResult K)], inl := [], lo := [], K := K, jo := [], opn := Sg.opn }
def Sg.j_spec_l08Own_0 : Fw.StSh := ⟨[(1, (.ref 0 0)), (2, (.ref 6 0)), (3, (.ref 17 0))], [(0, (.box [(.d (.sl Sg.t3)), (.d (.sl Sg.t5)), (.d (.sl Sg.t26)), (.d (.sl Sg.t11)), (.d (.sl Sg.t27)), (.d (.int .i64))])), (6, (.box [(.row 1), (.row 2), (.row 3), (.row 4), (.row 5), (.d (.int .i64))])), (17, (.box [(.row 7), (.row 8), (.row 9), (.row 10), (.row 11), (.d (.int .i64))])), (1, (.row Sg.t3 true)), (2, (.row Sg.t5 true)), (3, (.row Sg.t26 true)), (4, (.row Sg.t11 true)), (5, (.row Sg.t27 true)), (7, (.row Sg.t3 true)), (8, (.row Sg.t5 true)), (9, (.row Sg.t26 true)), (10, (.row Sg.t11 true)), (11, (.row Sg.t27 true))], 18, 71, ⟨0, []⟩⟩
def Sg.h_spec_l08Own_0 : Fw.StSh := ⟨[(1, (.ref 0 0)), (2, (.ref 6 0)), (3, (.ref 17 0)), (4, (.d (.int .i64)))], [(0, (.box [(.d (.sl Sg.t3)), (.d (.sl Sg.t5)), (.d (.sl Sg.t26)), (.d (.sl Sg.t11)), (.d (.sl Sg.t27)), (.d (.int .i64))])), (6, (.box [(.row 1), (.row 2), (.row 3), (.row 4), (.row 5), (.d (.int .i64))])), (17, (.box [(.row 7), (.row 8), (.row 9), (.row 10), (.row 11), (.d (.int .i64))])), (1, (.row Sg.t3 true)), (2, (.row Sg.t5 true)), (3, (.row Sg.t26 true)), (4, (.row Sg.t11 true)), (5, (.row Sg.t27 true)), (7, (.row Sg.t3 true)), (8, (.row Sg.t5 true)), (9, (.row Sg.t26 true)), (10, (.row Sg.t11 true)), (11, (.row Sg.t27 true))], 18, 71, ⟨0, []⟩⟩
def Sg.o_spec_l08Own_0 : Fw.StSh := ⟨[(1, (.ref 0 0)), (2, (.ref 6 0)), (3, (.ref 17 0))], [(0, (.box [(.d (.sl Sg.t3)), (.d (.sl Sg.t5)), (.d (.sl Sg.t26)), (.d (.sl Sg.t11)), (.d (.sl Sg.t27)), (.d (.int .i64))])), (6, (.box [(.row 1), (.row 2), (.row 3), (.row 4), (.row 5), (.d (.int .i64))])), (17, (.box [(.row 7), (.row 8), (.row 9), (.row 10), (.row 11), (.d (.int .i64))])), (1, (.row Sg.t3 true)), (2, (.row Sg.t5 true)), (3, (.row Sg.t26 true)), (4, (.row Sg.t11 true)), (5, (.row Sg.t27 true)), (7, (.row Sg.t3 true)), (8, (.row Sg.t5 true)), (9, (.row Sg.t26 true)), (10, (.row Sg.t11 true)), (11, (.row Sg.t27 true))], 18, 71, ⟨0, []⟩⟩
def Sg.r_spec_l08Own_0 : Fw.StSh := ⟨[], [], 18, 71, ⟨0, []⟩⟩
noncomputable def Sg.p_spec_l08Own_0 (K : Nat) : Fw.LSpec := { g := 44, b := 0, lv := 6, l0 := 0, li := 0, head := Sg.h_spec_l08Own_0, post := Sg.o_spec_l08Own_0, retn := Sg.r_spec_l08Own_0, ex := 0, L := R.L_spec_l08Own_0 K }
def Sg.h_spec_l08Own_1 : Fw.StSh := ⟨[(1, (.ref 0 0)), (2, (.ref 6 0)), (3, (.ref 17 0)), (5, (.d (.int .i64)))], [(0, (.box [(.d (.sl Sg.t3)), (.d (.sl Sg.t5)), (.d (.sl Sg.t26)), (.d (.sl Sg.t11)), (.d (.sl Sg.t27)), (.d (.int .i64))])), (6, (.box [(.row 1), (.row 2), (.row 3), (.row 4), (.row 5), (.d (.int .i64))])), (17, (.box [(.row 7), (.row 8), (.row 9), (.row 10), (.row 11), (.d (.int .i64))])), (1, (.row Sg.t3 true)), (2, (.row Sg.t5 true)), (3, (.row Sg.t26 true)), (4, (.row Sg.t11 true)), (5, (.row Sg.t27 true)), (7, (.row Sg.t3 true)), (8, (.row Sg.t5 true)), (9, (.row Sg.t26 true)), (10, (.row Sg.t11 true)), (11, (.row Sg.t27 true))], 18, 71, ⟨0, []⟩⟩
def Sg.o_spec_l08Own_1 : Fw.StSh := ⟨[(1, (.ref 0 0)), (2, (.ref 6 0)), (3, (.ref 17 0))], [(0, (.box [(.d (.sl Sg.t3)), (.d (.sl Sg.t5)), (.d (.sl Sg.t26)), (.d (.sl Sg.t11)), (.d (.sl Sg.t27)), (.d (.int .i64))])), (6, (.box [(.row 1), (.row 2), (.row 3), (.row 4), (.row 5), (.d (.int .i64))])), (17, (.box [(.row 7), (.row 8), (.row 9), (.row 10), (.row 11), (.d (.int .i64))])), (1, (.row Sg.t3 true)), (2, (.row Sg.t5 true)), (3, (.row Sg.t26 true)), (4, (.row Sg.t11 true)), (5, (.row Sg.t27 true)), (7, (.row Sg.t3 true)), (8, (.row Sg.t5 true)), (9, (.row Sg.t26 true)), (10, (.row Sg.t11 true)), (11, (.row Sg.t27 true))], 18, 71, ⟨0, []⟩⟩
def Sg.r_spec_l08Own_1 : Fw.StSh := ⟨[], [], 18, 71, ⟨0, []⟩⟩
noncomputable def Sg.p_spec_l08Own_1 (K : Nat) : Fw.LSpec := { g := 44, b := 0, lv := 6, l0 := 0, li := 1, head := Sg.h_spec_l08Own_1, post := Sg.o_spec_l08Own_1, retn := Sg.r_spec_l08Own_1, ex := 2, L := R.L_spec_l08Own_1 K }
def Sg.h_spec_l08Own_2 : Fw.StSh := ⟨[(1, (.ref 0 0)), (2, (.ref 6 0)), (3, (.ref 17 0)), (6, (.d (.int .i64)))], [(0, (.box [(.d (.sl Sg.t3)), (.d (.sl Sg.t5)), (.d (.sl Sg.t26)), (.d (.sl Sg.t11)), (.d (.sl Sg.t27)), (.d (.int .i64))])), (6, (.box [(.row 1), (.row 2), (.row 3), (.row 4), (.row 5), (.d (.int .i64))])), (17, (.box [(.row 7), (.row 8), (.row 9), (.row 10), (.row 11), (.d (.int .i64))])), (1, (.row Sg.t3 true)), (2, (.row Sg.t5 true)), (3, (.row Sg.t26 true)), (4, (.row Sg.t11 true)), (5, (.row Sg.t27 true)), (7, (.row Sg.t3 true)), (8, (.row Sg.t5 true)), (9, (.row Sg.t26 true)), (10, (.row Sg.t11 true)), (11, (.row Sg.t27 true))], 18, 71, ⟨0, []⟩⟩
def Sg.o_spec_l08Own_2 : Fw.StSh := ⟨[(2, (.ref 6 0)), (3, (.ref 17 0))], [(6, (.box [(.row 1), (.row 2), (.row 3), (.row 4), (.row 5), (.d (.int .i64))])), (17, (.box [(.row 7), (.row 8), (.row 9), (.row 10), (.row 11), (.d (.int .i64))])), (1, (.row Sg.t3 true)), (2, (.row Sg.t5 true)), (3, (.row Sg.t26 true)), (4, (.row Sg.t11 true)), (5, (.row Sg.t27 true)), (7, (.row Sg.t3 true)), (8, (.row Sg.t5 true)), (9, (.row Sg.t26 true)), (10, (.row Sg.t11 true)), (11, (.row Sg.t27 true))], 18, 71, ⟨0, []⟩⟩
def Sg.r_spec_l08Own_2 : Fw.StSh := ⟨[], [], 18, 71, ⟨0, []⟩⟩
noncomputable def Sg.p_spec_l08Own_2 (K : Nat) : Fw.LSpec := { g := 44, b := 0, lv := 6, l0 := 0, li := 2, head := Sg.h_spec_l08Own_2, post := Sg.o_spec_l08Own_2, retn := Sg.r_spec_l08Own_2, ex := 4, L := R.L_spec_l08Own_2 K }
noncomputable def Sg.f_spec_l08Own : Fw.PFn := Fw.PFn.get Tryz.f44
noncomputable def Sg.i_spec_l08Own : List (Nat × Fw.PFn) := []
noncomputable def Sg.s_spec_l08Own (K : Nat) : Fw.Sig := { ins := [.val true Sg.t31], outs := [⟨true, Sg.t31, true⟩], F := fun x => R.spec_l08Own K x.1 }
noncomputable def Sg.c_spec_l08Own (K : Nat) : Fw.Cfg := { tab := Sg.tab, eqs := Sg.eqs, sig := [(80, Sg.s_spec_l05Own K), (100, Sg.s_spec_l07Own K), (101, Sg.s_spec_l06Own K), (102, Sg.s_spec_l07OwnMoment K)], inl := [], lo := Sg.p_spec_l08Own_0 K :: Sg.p_spec_l08Own_1 K :: Sg.p_spec_l08Own_2 K :: [], K := K, jo := ⟨44, 0, 6, 0, 1, some Sg.j_spec_l08Own_0⟩ :: ⟨44, 0, 6, 0, 5, none⟩ :: ⟨44, 0, 6, 0, 9, none⟩ :: ⟨44, 0, 6, 0, 13, none⟩ :: [], opn := Sg.opn }
def Sg.h_spec_NewWorld_0 : Fw.StSh := ⟨[(1, (.d (.sl (.sl Sg.t15)))), (2, (.d (.sl .str))), (3, (.ref 0 0)), (6, (.ref 6 0)), (7, (.d (.int .i64))), (8, (.d (.int .i64)))], [(0, (.box [(.d (.sl Sg.t3)), (.d (.sl Sg.t5))])), (6, (.box [(.row 1), (.row 2), (.row 3), (.row 4), (.row 5), (.d (.int .i64))])), (1, (.row Sg.t3 true)), (2, (.row Sg.t5 true)), (3, (.row Sg.t26 true)), (4, (.row Sg.t11 true)), (5, (.row Sg.t27 true))], 7, 63, ⟨0, []⟩⟩
def Sg.o_spec_NewWorld_0 : Fw.StSh := ⟨[(1, (.d (.sl (.sl Sg.t15)))), (2, (.d (.sl .str))), (3, (.ref 0 0)), (6, (.ref 6 0)), (7, (.d (.int .i64)))], [(0, (.box [(.d (.sl Sg.t3)), (.d (.sl Sg.t5))])), (6, (.box [(.row 1), (.row 2), (.row 3), (.row 4), (.row 5), (.d (.int .i64))])), (1, (.row Sg.t3 true)), (2, (.row Sg.t5 true)), (3, (.row Sg.t26 true)), (4, (.row Sg.t11 true)), (5, (.row Sg.t27 true))], 7, 63, ⟨0, []⟩⟩
def Sg.r_spec_NewWorld_0 : Fw.StSh := ⟨[(6, (.ref 6 0)), (7, (.d (.int .i64)))], [(6, (.box [(.row 7), (.row 8), (.row 9), (.row 10), (.row 11), (.d (.int .i64))])), (7, (.row Sg.t3 true)), (8, (.row Sg.t5 true)), (9, (.row Sg.t26 true)), (10, (.row Sg.t11 true)), (11, (.row Sg.t27 true))], 12, 63, ⟨0, []⟩⟩
noncomputable def Sg.p_spec_NewWorld_0 (K : Nat) : Fw.LSpec := { g := 9, b := 0, lv := 6, l0 := 0, li := 0, head := Sg.h_spec_NewWorld_0, post := Sg.o_spec_NewWorld_0, retn := Sg.r_spec_NewWorld_0, ex := 0, L := R.L_spec_NewWorld_0 K }
def Sg.h_spec_NewWorld_1 : Fw.StSh := ⟨[(1, (.d (.sl (.sl Sg.t15)))), (2, (.d (.sl .str))), (3, (.ref 0 0)), (6, (.ref 6 0)), (7, (.d (.int .i64))), (9, (.d (.int .i64)))], [(0, (.box [(.d (.sl Sg.t3)), (.d (.sl Sg.t5))])), (6, (.box [(.row 1), (.row 2), (.row 3), (.row 4), (.row 5), (.d (.int .i64))])), (1, (.row Sg.t3 true)), (2, (.row Sg.t5 true)), (3, (.row Sg.t26 true)), (4, (.row Sg.t11 true)), (5, (.row Sg.t27 true))], 7, 63, ⟨0, []⟩⟩
def Sg.o_spec_NewWorld_1 : Fw.StSh := ⟨[(1, (.d (.sl (.sl Sg.t15)))), (2, (.d (.sl .str))), (3, (.ref 0 0)), (6, (.ref 6 0)), (7, (.d (.int .i64)))], [(0, (.box [(.d (.sl Sg.t3)), (.d (.sl Sg.t5))])), (6, (.box [(.row 1), (.row 2), (.row 3), (.row 4), (.row 5), (.d (.int .i64))])), (1, (.row Sg.t3 true)), (2, (.row Sg.t5 true)), (3, (.row Sg.t26 true)), (4, (.row Sg.t11 true)), (5, (.row Sg.t27 true))], 7, 63, ⟨0, []⟩⟩
def Sg.r_spec_NewWorld_1 : Fw.StSh := ⟨[(6, (.ref 6 0)), (7, (.d (.int .i64)))], [(6, (.box [(.row 7), (.row 8), (.row 9), (.row 10), (.row 11), (.d (.int .i64))])), (7, (.row Sg.t3 true)), (8, (.row Sg.t5 true)), (9, (.row Sg.t26 true)), (10, (.row Sg.t11 true)), (11, (.row Sg.t27 true))], 12, 63, ⟨0, []⟩⟩
noncomputable def Sg.p_spec_NewWorld_1 (K : Nat) : Fw.LSpec := { g := 9, b := 0, lv := 6, l0 := 0, li := 1, head := Sg.h_spec_NewWorld_1, post := Sg.o_spec_NewWorld_1, retn := Sg.r_spec_NewWorld_1, ex := 2, L := R.L_spec_NewWorld_1 K }
noncomputable def Sg.f_spec_NewWorld : Fw.PFn := Fw.PFn.get Tryz.f9
noncomputable def Sg.i_spec_NewWorld : List (Nat × Fw.PFn) := []
noncomputable def Sg.s_spec_NewWorld (K : Nat) : Fw.Sig := { ins := [.val true Sg.t20, .val false (.sl (.sl Sg.t15)), .val false (.sl .str)], outs := [⟨true, Sg.t31, true⟩, ⟨false, (.int .i64), false⟩], F := fun x => R.spec_NewWorld K x.1 x.2.1 x.2.2.1 }
noncomputable def Sg.c_spec_NewWorld (K : Nat) : Fw.Cfg := { tab := Sg.tab, eqs := Sg.eqs, sig := [(43, Sg.s_spec_l00Word K), (41, Sg.s_spec_l05OK K), (42, Sg.s_spec_l07Wishes K), (45, Sg.s_spec_l08New K), (44, Sg.s_spec_l08Own K)], inl := [], lo := Sg.p_spec_NewWorld_0 K :: Sg.p_spec_NewWorld_1 K :: [], K := K, jo := [], opn := Sg.opn }
noncomputable def Sg.f_impl_isList_simpl_Wish : Fw.PFn := Fw.PFn.get Tryz.f49
noncomputable def Sg.i_impl_isList_simpl_Wish : List (Nat × Fw.PFn) := []
noncomputable def Sg.s_impl_isList_simpl_Wish (K : Nat) : Fw.Sig := { ins := [.val false (.sl (.sl Sg.t15))], outs := [⟨false, .bool, false⟩], F := fun x => R.impl_isList_simpl_Wish K x.1 }
noncomputable def Sg.c_impl_isList_simpl_Wish (K : Nat) : Fw.Cfg := { tab := Sg.tab, eqs := Sg.eqs, sig := [], inl := [], lo := [], K := K, jo := [], opn := Sg.opn }
noncomputable def Sg.f_impl_isList_string : Fw.PFn := Fw.PFn.get Tryz.f50
noncomputable def Sg.i_impl_isList_string : List (Nat × Fw.PFn) := []
noncomputable def Sg.s_impl_isList_string (K : Nat) : Fw.Sig := { ins := [.val false (.sl .str)], outs := [⟨false, .bool, false⟩], F := fun x => R.impl_isList_string K x.1 }
noncomputable def Sg.c_impl_isList_string (K : Nat) : Fw.Cfg := { tab := Sg.tab, eqs := Sg.eqs, sig := [], inl := [], lo := [], K := K, jo := [], opn := Sg.opn }
noncomputable def Sg.f_impl_isList_impl_Commit : Fw.PFn := Fw.PFn.get Tryz.f168
noncomputable def Sg.i_impl_isList_impl_Commit : List (Nat × Fw.PFn) := []
noncomputable def Sg.s_impl_isList_impl_Commit (K : Nat) : Fw.Sig := { ins := [.val false (.sl Sg.t3)], outs := [⟨false, .bool, false⟩], F := fun x => R.impl_isList_impl_Commit K x.1 }
noncomputable def Sg.c_impl_isList_impl_Commit (K : Nat) : Fw.Cfg := { tab := Sg.tab, eqs := Sg.eqs, sig := [], inl := [], lo := [], K := K, jo := [], opn := Sg.opn }
noncomputable def Sg.f_impl_within : Fw.PFn := Fw.PFn.get Tryz.f118
noncomputable def Sg.i_impl_within : List (Nat × Fw.PFn) := []
noncomputable def Sg.s_impl_within (K : Nat) : Fw.Sig := { ins := [.val false (.int .i64), .val false (.int .i64), .val false (.int .i64)], outs := [⟨false, .bool, false⟩], F := fun x => R.impl_within K x.1 x.2.1 x.2.2.1 }
noncomputable def Sg.c_impl_within (K : Nat) : Fw.Cfg := { tab := Sg.tab, eqs := Sg.eqs, sig := [], inl := [], lo := [], K := K, jo := [], opn := Sg.opn }
noncomputable def Sg.f_impl_isLetter : Fw.PFn := Fw.PFn.get Tryz.f119
noncomputable def Sg.i_impl_isLetter : List (Nat × Fw.PFn) := []
noncomputable def Sg.s_impl_isLetter (K : Nat) : Fw.Sig := { ins := [.val false (.int .u8)], outs := [⟨false, .bool, false⟩], F := fun x => R.impl_isLetter K x.1 }
noncomputable def Sg.c_impl_isLetter (K : Nat) : Fw.Cfg := { tab := Sg.tab, eqs := Sg.eqs, sig := [], inl := [], lo := [], K := K, jo := [], opn := Sg.opn }
noncomputable def Sg.f_impl_areAll_byte_1 : Fw.PFn := Fw.PFn.get Tryz.f180
noncomputable def Sg.f_slices_IndexFunc_byte : Fw.PFn := Fw.PFn.get Tryz.f209
noncomputable def Sg.f_slices_ContainsFunc_byte : Fw.PFn := Fw.PFn.get Tryz.f179
noncomputable def Sg.f_impl_areAll_byte : Fw.PFn := Fw.PFn.get Tryz.f120
noncomputable def Sg.f_impl_isDigit : Fw.PFn := Fw.PFn.get Tryz.f122
noncomputable def Sg.i_impl_isDigit : List (Nat × Fw.PFn) := []
noncomputable def Sg.s_impl_isDigit (K : Nat) : Fw.Sig := { ins := [.val false (.int .u8)], outs := [⟨false, .bool, false⟩], F := fun x => R.impl_isDigit K x.1 }
noncomputable def Sg.c_impl_isDigit (K : Nat) : Fw.Cfg := { tab := Sg.tab, eqs := Sg.eqs, sig := [], inl := [], lo := [], K := K, jo := [], opn := Sg.opn }
noncomputable def Sg.f_impl_NameOK_1 : Fw.PFn := Fw.PFn.get Tryz.f121
noncomputable def Sg.i_impl_NameOK_1 : List (Nat × Fw.PFn) := []
noncomputable def Sg.s_impl_NameOK_1 (K : Nat) : Fw.Sig := { ins := [.val false (.int .u8)], outs := [⟨false, .bool, false⟩], F := fun x => R.impl_NameOK_1 K x.1 }
noncomputable def Sg.c_impl_NameOK_1 (K : Nat) : Fw.Cfg := { tab := Sg.tab, eqs := Sg.eqs, sig := [(119, Sg.s_impl_isLetter K), (122, Sg.s_impl_isDigit K)], inl := [], lo := [], K := K, jo := [], opn := Sg.opn }
def Sg.h_impl_areAll_byte__impl_NameOK_1_0 : Fw.StSh := ⟨[(0, (.d (.sl (.int .u8)))), (1, (.fn 121 [])), (3, (.ref 0 0)), (4, (.d .bool)), (5, (.d (.sl (.int .u8)))), (6, (.fn 180 [(.ref 0 0)])), (9, (.d (.sl (.int .u8)))), (10, (.fn 180 [(.ref 0 0)])), (13, (.d .bool)), (14, (.d (.sl (.int .u8)))), (15, (.fn 180 [(.ref 0 0)])), (18, (.d (.sl (.int .u8)))), (19, (.fn 180 [(.ref 0 0)])), (22, (.d (.int .i64))), (25, (.d (.int .i64))), (26, (.d (.int .i64)))], [(0, (.box [(.fn 121 [])]))], 1, 37, ⟨0, []⟩⟩
def Sg.o_impl_areAll_byte__impl_NameOK_1_0 : Fw.StSh := ⟨[(0, (.d (.sl (.int .u8)))), (1, (.fn 121 [])), (3, (.ref 0 0)), (4, (.d .bool)), (5, (.d (.sl (.int .u8)))), (6, (.fn 180 [(.ref 0 0)])), (9, (.d (.sl (.int .u8)))), (10, (.fn 180 [(.ref 0 0)])), (13, (.d .bool)), (14, (.d (.sl (.int .u8)))), (15, (.fn 180 [(.ref 0 0)])), (22, (.d (.int .i64)))], [(0, (.box [(.fn 121 [])]))], 1, 37, ⟨0, []⟩⟩
def Sg.r_impl_areAll_byte__impl_NameOK_1_0 : Fw.StSh := ⟨[(0, (.d (.sl (.int .u8)))), (1, (.fn 121 [])), (3, (.ref 0 0)), (4, (.d .bool)), (5, (.d (.sl (.int .u8)))), (6, (.fn 180 [(.ref 0 0)])), (9, (.d (.sl (.int .u8)))), (10, (.fn 180 [(.ref 0 0)])), (13, (.d .bool)), (14, (.d (.sl (.int .u8)))), (15, (.fn 180 [(.ref 0 0)])), (22, (.d (.int .i64)))], [(0, (.box [(.fn 121 [])]))], 1, 45, ⟨0, []⟩⟩
noncomputable def Sg.p_impl_areAll_byte__impl_NameOK_1_0 (K : Nat) : Fw.LSpec := { g := 209, b := 18, lv := 4, l0 := 1, li := 0, head := Sg.h_impl_areAll_byte__impl_NameOK_1_0, post := Sg.o_impl_areAll_byte__impl_NameOK_1_0, retn := Sg.r_impl_areAll_byte__impl_NameOK_1_0, ex := 0, L := R.L_impl_areAll_byte__impl_NameOK_1_0 K }
noncomputable def Sg.i_impl_areAll_byte__impl_NameOK_1 : List (Nat × Fw.PFn) := [(180, Sg.f_impl_areAll_byte_1), (209, Sg.f_slices_IndexFunc_byte), (179, Sg.f_slices_ContainsFunc_byte)]
noncomputable def Sg.s_impl_areAll_byte__impl_NameOK_1 (K : Nat) : Fw.Sig := { ins := [.val false (.sl (.int .u8)), .fn 121 []], outs := [⟨false, .bool, false⟩], F := fun x => R.impl_areAll_byte__impl_NameOK_1 K x.1 }
noncomputable def Sg.c_impl_areAll_byte__impl_NameOK_1 (K : Nat) : Fw.Cfg := { tab := Sg.tab, eqs := Sg.eqs, sig := [(121, Sg.s_impl_NameOK_1 K)], inl := [(180, Tryz.f180), (209, Tryz.f209), (179, Tryz.f179)], lo := Sg.p_impl_areAll_byte__impl_NameOK_1_0 K :: [], K := K, jo := [], opn := Sg.opn }
noncomputable def Sg.f_impl_NameOK : Fw.PFn := Fw.PFn.get Tryz.f54
noncomputable def Sg.i_impl_NameOK : List (Nat × Fw.PFn) := [(180, Sg.f_impl_areAll_byte_1), (209, Sg.f_slices_IndexFunc_byte), (179, Sg.f_slices_ContainsFunc_byte), (120, Sg.f_impl_areAll_byte)]
noncomputable def Sg.s_impl_NameOK (K : Nat) : Fw.Sig := { ins := [.val false .str], outs := [⟨false, .bool, false⟩], F := fun x => R.impl_NameOK K x.1 }
noncomputable def Sg.c_impl_NameOK (K : Nat) : Fw.Cfg := { tab := Sg.tab, eqs := Sg.eqs, sig := [(118, Sg.s_impl_within K), (119, Sg.s_impl_isLetter K), (121, Sg.s_impl_NameOK_1 K), (120, Sg.s_impl_areAll_byte__impl_NameOK_1 K)], inl := [(180, Tryz.f180), (209, Tryz.f209), (179, Tryz.f179), (120, Tryz.f120)], lo := [], K := K, jo := [], opn := Sg.opn }
noncomputable def Sg.f_impl_isValue : Fw.PFn := Fw.PFn.get Tryz.f201
noncomputable def Sg.i_impl_isValue : List (Nat × Fw.PFn) := []
noncomputable def Sg.s_impl_isValue (K : Nat) : Fw.Sig := { ins := [.val false (.int .i64)], outs := [⟨false, .bool, false⟩], F := fun x => R.impl_isValue K x.1 }
noncomputable def Sg.c_impl_isValue (K : Nat) : Fw.Cfg := { tab := Sg.tab, eqs := Sg.eqs, sig := [(118, Sg.s_impl_within K)], inl := [], lo := [], K := K, jo := [], opn := Sg.opn }
def Sg.h_impl_MapOK_0 : Fw.StSh := ⟨[(0, (.d (.sl (.pair .str (.int .i64))))), (2, (.d .bool)), (5, (.d (.sl (.pair .str (.int .i64))))), (6, (.d (.int .i64))), (7, (.d (.int .i64)))], [], 0, 41, ⟨0, []⟩⟩
def Sg.o_impl_MapOK_0 : Fw.StSh := ⟨[(0, (.d (.sl (.pair .str (.int .i64))))), (2, (.d .bool))], [], 0, 41, ⟨0, []⟩⟩
def Sg.r_impl_MapOK_0 : Fw.StSh := ⟨[(2, (.d .bool))], [], 1, 41, ⟨0, []⟩⟩
noncomputable def Sg.p_impl_MapOK_0 (K : Nat) : Fw.LSpec := { g := 220, b := 0, lv := 6, l0 := 0, li := 0, head := Sg.h_impl_MapOK_0, post := Sg.o_impl_MapOK_0, retn := Sg.r_impl_MapOK_0, ex := 0, L := R.L_impl_MapOK_0 K }
noncomputable def Sg.f_impl_MapOK : Fw.PFn := Fw.PFn.get Tryz.f220
noncomputable def Sg.i_impl_MapOK : List (Nat × Fw.PFn) := []
noncomputable def Sg.s_impl_MapOK (K : Nat) : Fw.Sig := { ins := [.val false (.sl (.pair .str (.int .i64)))], outs := [⟨false, .bool, false⟩], F := fun x => R.impl_MapOK K x.1 }
noncomputable def Sg.c_impl_MapOK (K : Nat) : Fw.Cfg := { tab := Sg.tab, eqs := Sg.eqs, sig := [(54, Sg.s_impl_NameOK K), (201, Sg.s_impl_isValue K)], inl := [], lo := Sg.p_impl_MapOK_0 K :: [], K := K, jo := ⟨220, 0, 6, 0, 4, none⟩ :: [], opn := Sg.opn }
noncomputable def Sg.f_impl_Commit_isAt_1 : Fw.PFn := Fw.PFn.get Tryz.f222
noncomputable def Sg.f_impl_areAll_int_1 : Fw.PFn := Fw.PFn.get Tryz.f234
noncomputable def Sg.f_slices_IndexFunc_int : Fw.PFn := Fw.PFn.get Tryz.f238
noncomputable def Sg.f_slices_ContainsFunc_int : Fw.PFn := Fw.PFn.get Tryz.f233
noncomputable def Sg.f_impl_areAll_int : Fw.PFn := Fw.PFn.get Tryz.f221
def Sg.h_impl_areAll_int__impl_Commit_isAt_1_0 : Fw.StSh := ⟨[(0, (.d (.sl (.int .i64)))), (1, (.fn 222 [(.dref (.int .i64) 0)])), (3, (.ref 0 0)), (4, (.d .bool)), (5, (.d (.sl (.int .i64)))), (6, (.fn 234 [(.ref 0 0)])), (9, (.d (.sl (.int .i64)))), (10, (.fn 234 [(.ref 0 0)])), (13, (.d .bool)), (14, (.d (.sl (.int .i64)))), (15, (.fn 234 [(.ref 0 0)])), (18, (.d (.sl (.int .i64)))), (19, (.fn 234 [(.ref 0 0)])), (22, (.d (.int .i64))), (25, (.d (.int .i64))), (26, (.d (.int .i64)))], [(0, (.box [(.fn 222 [(.dref (.int .i64) 0)])]))], 1, 37, ⟨0, []⟩⟩
def Sg.o_impl_areAll_int__impl_Commit_isAt_1_0 : Fw.StSh := ⟨[(0, (.d (.sl (.int .i64)))), (1, (.fn 222 [(.dref (.int .i64) 0)])), (3, (.ref 0 0)), (4, (.d .bool)), (5, (.d (.sl (.int .i64)))), (6, (.fn 234 [(.ref 0 0)])), (9, (.d (.sl (.int .i64)))), (10, (.fn 234 [(.ref 0 0)])), (13, (.d .bool)), (14, (.d (.sl (.int .i64)))), (15, (.fn 234 [(.ref 0 0)])), (22, (.d (.int .i64)))], [(0, (.box [(.fn 222 [(.dref (.int .i64) 0)])]))], 1, 37, ⟨0, []⟩⟩
def Sg.r_impl_areAll_int__impl_Commit_isAt_1_0 : Fw.StSh := ⟨[(0, (.d (.sl (.int .i64)))), (1, (.fn 222 [(.dref (.int .i64) 0)])), (3, (.ref 0 0)), (4, (.d .bool)), (5, (.d (.sl (.int .i64)))), (6, (.fn 234 [(.ref 0 0)])), (9, (.d (.sl (.int .i64)))), (10, (.fn 234 [(.ref 0 0)])), (13, (.d .bool)), (14, (.d (.sl (.int .i64)))), (15, (.fn 234 [(.ref 0 0)])), (22, (.d (.int .i64)))], [(0, (.box [(.fn 222 [(.dref (.int .i64) 0)])]))], 1, 53, ⟨0, []⟩⟩
noncomputable def Sg.p_impl_areAll_int__impl_Commit_isAt_1_0 (K : Nat) : Fw.LSpec := { g := 238, b := 18, lv := 4, l0 := 1, li := 0, head := Sg.h_impl_areAll_int__impl_Commit_isAt_1_0, post := Sg.o_impl_areAll_int__impl_Commit_isAt_1_0, retn := Sg.r_impl_areAll_int__impl_Commit_isAt_1_0, ex := 0, L := R.L_impl_areAll_int__impl_Commit_isAt_1_0 K }
noncomputable def Sg.i_impl_areAll_int__impl_Commit_isAt_1 : List (Nat × Fw.PFn) := [(222, Sg.f_impl_Commit_isAt_1), (234, Sg.f_impl_areAll_int_1), (238, Sg.f_slices_IndexFunc_int), (233, Sg.f_slices_ContainsFunc_int)]
noncomputable def Sg.s_impl_areAll_int__impl_Commit_isAt_1 (K : Nat) : Fw.Sig := { ins := [.val false (.sl (.int .i64)), .fn 222 [(.int .i64)]], outs := [⟨false, .bool, false⟩], F := fun x => R.impl_areAll_int__impl_Commit_isAt_1 K x.1 x.2.1.1 }
noncomputable def Sg.c_impl_areAll_int__impl_Commit_isAt_1 (K : Nat) : Fw.Cfg := { tab := Sg.tab, eqs := Sg.eqs, sig := [(118, Sg.s_impl_within K)], inl := [(222, Tryz.f222), (234, Tryz.f234), (238, Tryz.f238), (233, Tryz.f233)], lo := Sg.p_impl_areAll_int__impl_Commit_isAt_1_0 K :: [], K := K, jo := [], opn := Sg.opn }
noncomputable def Sg.f_impl_Commit_isAt : Fw.PFn := Fw.PFn.get Tryz.f206
noncomputable def Sg.i_impl_Commit_isAt : List (Nat × Fw.PFn) := [(222, Sg.f_impl_Commit_isAt_1), (234, Sg.f_impl_areAll_int_1), (238, Sg.f_slices_IndexFunc_int), (233, Sg.f_slices_ContainsFunc_int), (221, Sg.f_impl_areAll_int)]
noncomputable def Sg.s_impl_Commit_isAt (K : Nat) : Fw.Sig := { ins := [.val true Sg.t3, .val false (.int .i64)], outs := [⟨false, .bool, false⟩], F := fun x => R.impl_Commit_isAt K x.1 x.2.1 }
noncomputable def Sg.c_impl_Commit_isAt (K : Nat) : Fw.Cfg := { tab := Sg.tab, eqs := Sg.eqs, sig := [(118, Sg.s_impl_within K), (220, Sg.s_impl_MapOK K), (221, Sg.s_impl_areAll_int__impl_Commit_isAt_1 K)], inl := [(222, Tryz.f222), (234, Tryz.f234), (238, Tryz.f238), (233, Tryz.f233), (221, Tryz.f221)], lo := [], K := K, jo := ⟨206, 0, 6, 0, 2, none⟩ :: [], opn := Sg.opn }
def Sg.h_impl_areCommits_0 : Fw.StSh := ⟨[(0, (.d (.sl Sg.t3))), (2, (.d .bool)), (5, (.d (.sl Sg.t3))), (6, (.d (.int .i64))), (7, (.d (.int .i64)))], [], 0, 21, ⟨0, []⟩⟩
def Sg.o_impl_areCommits_0 : Fw.StSh := ⟨[(0, (.d (.sl Sg.t3))), (2, (.d .bool))], [], 0, 21, ⟨0, []⟩⟩
def Sg.r_impl_areCommits_0 : Fw.StSh := ⟨[(2, (.d .bool))], [], 3, 21, ⟨0, []⟩⟩
noncomputable def Sg.p_impl_areCommits_0 (K : Nat) : Fw.LSpec := { g := 169, b := 0, lv := 6, l0 := 0, li := 0, head := Sg.h_impl_areCommits_0, post := Sg.o_impl_areCommits_0, retn := Sg.r_impl_areCommits_0, ex := 0, L := R.L_impl_areCommits_0 K }
noncomputable def Sg.f_impl_areCommits : Fw.PFn := Fw.PFn.get Tryz.f169
noncomputable def Sg.i_impl_areCommits : List (Nat × Fw.PFn) := []
noncomputable def Sg.s_impl_areCommits (K : Nat) : Fw.Sig := { ins := [.val false (.sl Sg.t3)], outs := [⟨false, .bool, false⟩], F := fun x => R.impl_areCommits K x.1 }
noncomputable def Sg.c_impl_areCommits (K : Nat) : Fw.Cfg := { tab := Sg.tab, eqs := Sg.eqs, sig := [(206, Sg.s_impl_Commit_isAt K)], inl := [], lo := Sg.p_impl_areCommits_0 K :: [], K := K, jo := [], opn := Sg.opn }
noncomputable def Sg.f_impl_StoreOK : Fw.PFn := Fw.PFn.get Tryz.f108
noncomputable def Sg.i_impl_StoreOK : List (Nat × Fw.PFn) := []
noncomputable def Sg.s_impl_StoreOK (K : Nat) : Fw.Sig := { ins := [.val false (.sl Sg.t3)], outs := [⟨false, .bool, false⟩], F := fun x => R.impl_StoreOK K x.1 }
noncomputable def Sg.c_impl_StoreOK (K : Nat) : Fw.Cfg := { tab := Sg.tab, eqs := Sg.eqs, sig := [(168, Sg.s_impl_isList_impl_Commit K), (169, Sg.s_impl_areCommits K)], inl := [], lo := [], K := K, jo := [], opn := Sg.opn }
noncomputable def Sg.f_impl_areAll_impl_Ref_1 : Fw.PFn := Fw.PFn.get Tryz.f172
noncomputable def Sg.f_slices_IndexFunc_impl_Ref : Fw.PFn := Fw.PFn.get Tryz.f181
noncomputable def Sg.f_slices_ContainsFunc_impl_Ref : Fw.PFn := Fw.PFn.get Tryz.f171
noncomputable def Sg.f_impl_areAll_impl_Ref : Fw.PFn := Fw.PFn.get Tryz.f110
noncomputable def Sg.f_impl_isHead : Fw.PFn := Fw.PFn.get Tryz.f151
noncomputable def Sg.i_impl_isHead : List (Nat × Fw.PFn) := []
noncomputable def Sg.s_impl_isHead (K : Nat) : Fw.Sig := { ins := [.val false (.int .i64)], outs := [⟨false, .bool, false⟩], F := fun x => R.impl_isHead K x.1 }
noncomputable def Sg.c_impl_isHead (K : Nat) : Fw.Cfg := { tab := Sg.tab, eqs := Sg.eqs, sig := [(118, Sg.s_impl_within K)], inl := [], lo := [], K := K, jo := [], opn := Sg.opn }
noncomputable def Sg.f_impl_isRef : Fw.PFn := Fw.PFn.get Tryz.f170
noncomputable def Sg.i_impl_isRef : List (Nat × Fw.PFn) := []
noncomputable def Sg.s_impl_isRef (K : Nat) : Fw.Sig := { ins := [.val true Sg.t5], outs := [⟨false, .bool, false⟩], F := fun x => R.impl_isRef K x.1 }
noncomputable def Sg.c_impl_isRef (K : Nat) : Fw.Cfg := { tab := Sg.tab, eqs := Sg.eqs, sig := [(118, Sg.s_impl_within K), (54, Sg.s_impl_NameOK K), (151, Sg.s_impl_isHead K)], inl := [], lo := [], K := K, jo := [], opn := Sg.opn }
noncomputable def Sg.f_impl_place_1 : Fw.PFn := Fw.PFn.get Tryz.f182
def Sg.h_slices_IndexFunc_impl_Ref__impl_place_1_0 : Fw.StSh := ⟨[(0, (.d (.sl Sg.t5))), (1, (.fn 182 [(.dref .str 0)])), (4, (.d (.int .i64))), (7, (.d (.int .i64))), (8, (.d (.int .i64)))], [], 0, 19, ⟨0, []⟩⟩
def Sg.o_slices_IndexFunc_impl_Ref__impl_place_1_0 : Fw.StSh := ⟨[(4, (.d (.int .i64)))], [], 0, 19, ⟨0, []⟩⟩
def Sg.r_slices_IndexFunc_impl_Ref__impl_place_1_0 : Fw.StSh := ⟨[(4, (.d (.int .i64)))], [], 1, 27, ⟨0, []⟩⟩
noncomputable def Sg.p_slices_IndexFunc_impl_Ref__impl_place_1_0 (K : Nat) : Fw.LSpec := { g := 181, b := 0, lv := 6, l0 := 0, li := 0, head := Sg.h_slices_IndexFunc_impl_Ref__impl_place_1_0, post := Sg.o_slices_IndexFunc_impl_Ref__impl_place_1_0, retn := Sg.r_slices_IndexFunc_impl_Ref__impl_place_1_0, ex := 0, L := R.L_slices_IndexFunc_impl_Ref__impl_place_1_0 K }
noncomputable def Sg.i_slices_IndexFunc_impl_Ref__impl_place_1 : List (Nat × Fw.PFn) := [(182, Sg.f_impl_place_1)]
noncomputable def Sg.s_slices_IndexFunc_impl_Ref__impl_place_1 (K : Nat) : Fw.Sig := { ins := [.val false (.sl Sg.t5), .fn 182 [.str]], outs := [⟨false, (.int .i64), false⟩], F := fun x => R.slices_IndexFunc_impl_Ref__impl_place_1 K x.1 x.2.1.1 }
noncomputable def Sg.c_slices_IndexFunc_impl_Ref__impl_place_1 (K : Nat) : Fw.Cfg := { tab := Sg.tab, eqs := Sg.eqs, sig := [], inl := [(182, Tryz.f182)], lo := Sg.p_slices_IndexFunc_impl_Ref__impl_place_1_0 K :: [], K := K, jo := [], opn := Sg.opn }
noncomputable def Sg.f_impl_place : Fw.PFn := Fw.PFn.get Tryz.f123
noncomputable def Sg.i_impl_place : List (Nat × Fw.PFn) := [(181, Sg.f_slices_IndexFunc_impl_Ref), (182, Sg.f_impl_place_1)]
noncomputable def Sg.s_impl_place (K : Nat) : Fw.Sig := { ins := [.val false (.sl Sg.t5), .val false .str], outs := [⟨false, (.int .i64), false⟩], F := fun x => R.impl_place K x.1 x.2.1 }
noncomputable def Sg.c_impl_place (K : Nat) : Fw.Cfg := { tab := Sg.tab, eqs := Sg.eqs, sig := [(181, Sg.s_slices_IndexFunc_impl_Ref__impl_place_1 K)], inl := [(181, Tryz.f181), (182, Tryz.f182)], lo := [], K := K, jo := [], opn := Sg.opn }
def Sg.h_impl_areAll_impl_Ref__impl_isRef_0 : Fw.StSh := ⟨[(0, (.d (.sl Sg.t5))), (1, (.fn 170 [])), (3, (.ref 0 0)), (4, (.d .bool)), (5, (.d (.sl Sg.t5))), (6, (.fn 172 [(.ref 0 0)])), (9, (.d (.sl Sg.t5))), (10, (.fn 172 [(.ref 0 0)])), (13, (.d .bool)), (14, (.d (.sl Sg.t5))), (15, (.fn 172 [(.ref 0 0)])), (18, (.d (.sl Sg.t5))), (19, (.fn 172 [(.ref 0 0)])), (22, (.d (.int .i64))), (25, (.d (.int .i64))), (26, (.d (.int .i64)))], [(0, (.box [(.fn 170 [])]))], 1, 37, ⟨0, []⟩⟩
def Sg.o_impl_areAll_impl_Ref__impl_isRef_0 : Fw.StSh := ⟨[(0, (.d (.sl Sg.t5))), (1, (.fn 170 [])), (3, (.ref 0 0)), (4, (.d .bool)), (5, (.d (.sl Sg.t5))), (6, (.fn 172 [(.ref 0 0)])), (9, (.d (.sl Sg.t5))), (10, (.fn 172 [(.ref 0 0)])), (13, (.d .bool)), (14, (.d (.sl Sg.t5))), (15, (.fn 172 [(.ref 0 0)])), (22, (.d (.int .i64)))], [(0, (.box [(.fn 170 [])]))], 1, 37, ⟨0, []⟩⟩
def Sg.r_impl_areAll_impl_Ref__impl_isRef_0 : Fw.StSh := ⟨[(0, (.d (.sl Sg.t5))), (1, (.fn 170 [])), (3, (.ref 0 0)), (4, (.d .bool)), (5, (.d (.sl Sg.t5))), (6, (.fn 172 [(.ref 0 0)])), (9, (.d (.sl Sg.t5))), (10, (.fn 172 [(.ref 0 0)])), (13, (.d .bool)), (14, (.d (.sl Sg.t5))), (15, (.fn 172 [(.ref 0 0)])), (22, (.d (.int .i64)))], [(0, (.box [(.fn 170 [])]))], 2, 45, ⟨0, []⟩⟩
noncomputable def Sg.p_impl_areAll_impl_Ref__impl_isRef_0 (K : Nat) : Fw.LSpec := { g := 181, b := 18, lv := 4, l0 := 1, li := 0, head := Sg.h_impl_areAll_impl_Ref__impl_isRef_0, post := Sg.o_impl_areAll_impl_Ref__impl_isRef_0, retn := Sg.r_impl_areAll_impl_Ref__impl_isRef_0, ex := 0, L := R.L_impl_areAll_impl_Ref__impl_isRef_0 K }
noncomputable def Sg.i_impl_areAll_impl_Ref__impl_isRef : List (Nat × Fw.PFn) := [(172, Sg.f_impl_areAll_impl_Ref_1), (181, Sg.f_slices_IndexFunc_impl_Ref), (171, Sg.f_slices_ContainsFunc_impl_Ref)]
noncomputable def Sg.s_impl_areAll_impl_Ref__impl_isRef (K : Nat) : Fw.Sig := { ins := [.val false (.sl Sg.t5), .fn 170 []], outs := [⟨false, .bool, false⟩], F := fun x => R.impl_areAll_impl_Ref__impl_isRef K x.1 }
noncomputable def Sg.c_impl_areAll_impl_Ref__impl_isRef (K : Nat) : Fw.Cfg := { tab := Sg.tab, eqs := Sg.eqs, sig := [(170, Sg.s_impl_isRef K)], inl := [(172, Tryz.f172), (181, Tryz.f181), (171, Tryz.f171)], lo := Sg.p_impl_areAll_impl_Ref__impl_isRef_0 K :: [], K := K, jo := [], opn := Sg.opn }
def Sg.h_impl_RefsOK_0 : Fw.StSh := ⟨[(0, (.d (.sl Sg.t5))), (2, (.d .bool)), (13, (.d (.sl Sg.t5))), (14, (.d (.int .i64))), (15, (.d (.int .i64)))], [], 0, 28, ⟨0, []⟩⟩
def Sg.o_impl_RefsOK_0 : Fw.StSh := ⟨[(2, (.d .bool))], [], 0, 28, ⟨0, []⟩⟩
def Sg.r_impl_RefsOK_0 : Fw.StSh := ⟨[(2, (.d .bool))], [], 1, 28, ⟨0, []⟩⟩
noncomputable def Sg.p_impl_RefsOK_0 (K : Nat) : Fw.LSpec := { g := 109, b := 0, lv := 6, l0 := 0, li := 0, head := Sg.h_impl_RefsOK_0, post := Sg.o_impl_RefsOK_0, retn := Sg.r_impl_RefsOK_0, ex := 0, L := R.L_impl_RefsOK_0 K }
noncomputable def Sg.f_impl_RefsOK : Fw.PFn := Fw.PFn.get Tryz.f109
noncomputable def Sg.i_impl_RefsOK : List (Nat × Fw.PFn) := [(172, Sg.f_impl_areAll_impl_Ref_1), (181, Sg.f_slices_IndexFunc_impl_Ref), (171, Sg.f_slices_ContainsFunc_impl_Ref), (110, Sg.f_impl_areAll_impl_Ref)]
noncomputable def Sg.s_impl_RefsOK (K : Nat) : Fw.Sig := { ins := [.val false (.sl Sg.t5)], outs := [⟨false, .bool, false⟩], F := fun x => R.impl_RefsOK K x.1 }
noncomputable def Sg.c_impl_RefsOK (K : Nat) : Fw.Cfg := { tab := Sg.tab, eqs := Sg.eqs, sig := [(170, Sg.s_impl_isRef K), (123, Sg.s_impl_place K), (110, Sg.s_impl_areAll_impl_Ref__impl_isRef K)], inl := [(172, Tryz.f172), (181, Tryz.f181), (171, Tryz.f171), (110, Tryz.f110)], lo := Sg.p_impl_RefsOK_0 K :: [], K := K, jo := ⟨109, 0, 6, 0, 6, none⟩ :: [], opn := Sg.opn }
noncomputable def Sg.f_impl_BaseOK_1 : Fw.PFn := Fw.PFn.get Tryz.f111
def Sg.h_impl_areAll_impl_Ref__impl_BaseOK_1_0 : Fw.StSh := ⟨[(0, (.d (.sl Sg.t5))), (1, (.fn 111 [(.dref Sg.t20 0)])), (3, (.ref 0 0)), (4, (.d .bool)), (5, (.d (.sl Sg.t5))), (6, (.fn 172 [(.ref 0 0)])), (9, (.d (.sl Sg.t5))), (10, (.fn 172 [(.ref 0 0)])), (13, (.d .bool)), (14, (.d (.sl Sg.t5))), (15, (.fn 172 [(.ref 0 0)])), (18, (.d (.sl Sg.t5))), (19, (.fn 172 [(.ref 0 0)])), (22, (.d (.int .i64))), (25, (.d (.int .i64))), (26, (.d (.int .i64)))], [(0, (.box [(.fn 111 [(.dref Sg.t20 0)])]))], 1, 37, ⟨0, []⟩⟩
def Sg.o_impl_areAll_impl_Ref__impl_BaseOK_1_0 : Fw.StSh := ⟨[(0, (.d (.sl Sg.t5))), (1, (.fn 111 [(.dref Sg.t20 0)])), (3, (.ref 0 0)), (4, (.d .bool)), (5, (.d (.sl Sg.t5))), (6, (.fn 172 [(.ref 0 0)])), (9, (.d (.sl Sg.t5))), (10, (.fn 172 [(.ref 0 0)])), (13, (.d .bool)), (14, (.d (.sl Sg.t5))), (15, (.fn 172 [(.ref 0 0)])), (22, (.d (.int .i64)))], [(0, (.box [(.fn 111 [(.dref Sg.t20 0)])]))], 1, 37, ⟨0, []⟩⟩
def Sg.r_impl_areAll_impl_Ref__impl_BaseOK_1_0 : Fw.StSh := ⟨[(0, (.d (.sl Sg.t5))), (1, (.fn 111 [(.dref Sg.t20 0)])), (3, (.ref 0 0)), (4, (.d .bool)), (5, (.d (.sl Sg.t5))), (6, (.fn 172 [(.ref 0 0)])), (9, (.d (.sl Sg.t5))), (10, (.fn 172 [(.ref 0 0)])), (13, (.d .bool)), (14, (.d (.sl Sg.t5))), (15, (.fn 172 [(.ref 0 0)])), (22, (.d (.int .i64)))], [(0, (.box [(.fn 111 [(.dref Sg.t20 0)])]))], 3, 55, ⟨0, []⟩⟩
noncomputable def Sg.p_impl_areAll_impl_Ref__impl_BaseOK_1_0 (K : Nat) : Fw.LSpec := { g := 181, b := 18, lv := 4, l0 := 1, li := 0, head := Sg.h_impl_areAll_impl_Ref__impl_BaseOK_1_0, post := Sg.o_impl_areAll_impl_Ref__impl_BaseOK_1_0, retn := Sg.r_impl_areAll_impl_Ref__impl_BaseOK_1_0, ex := 0, L := R.L_impl_areAll_impl_Ref__impl_BaseOK_1_0 K }
noncomputable def Sg.i_impl_areAll_impl_Ref__impl_BaseOK_1 : List (Nat × Fw.PFn) := [(172, Sg.f_impl_areAll_impl_Ref_1), (181, Sg.f_slices_IndexFunc_impl_Ref), (171, Sg.f_slices_ContainsFunc_impl_Ref), (111, Sg.f_impl_BaseOK_1)]
noncomputable def Sg.s_impl_areAll_impl_Ref__impl_BaseOK_1 (K : Nat) : Fw.Sig := { ins := [.val false (.sl Sg.t5), .fn 111 [Sg.t20]], outs := [⟨false, .bool, false⟩], F := fun x => R.impl_areAll_impl_Ref__impl_BaseOK_1 K x.1 x.2.1.1 }
noncomputable def Sg.c_impl_areAll_impl_Ref__impl_BaseOK_1 (K : Nat) : Fw.Cfg := { tab := Sg.tab, eqs := Sg.eqs, sig := [], inl := [(172, Tryz.f172), (181, Tryz.f181), (171, Tryz.f171), (111, Tryz.f111)], lo := Sg.p_impl_areAll_impl_Ref__impl_BaseOK_1_0 K :: [], K := K, jo := [], opn := Sg.opn }
noncomputable def Sg.f_impl_BaseOK : Fw.PFn := Fw.PFn.get Tryz.f51
noncomputable def Sg.i_impl_BaseOK : List (Nat × Fw.PFn) := [(172, Sg.f_impl_areAll_impl_Ref_1), (181, Sg.f_slices_IndexFunc_impl_Ref), (171, Sg.f_slices_ContainsFunc_impl_Ref), (110, Sg.f_impl_areAll_impl_Ref), (111, Sg.f_impl_BaseOK_1)]
noncomputable def Sg.s_impl_BaseOK (K : Nat) : Fw.Sig := { ins := [.val true Sg.t20], outs := [⟨false, .bool, false⟩], F := fun x => R.impl_BaseOK K x.1 }
noncomputable def Sg.c_impl_BaseOK (K : Nat) : Fw.Cfg := { tab := Sg.tab, eqs := Sg.eqs, sig := [(108, Sg.s_impl_StoreOK K), (109, Sg.s_impl_RefsOK K), (110, Sg.s_impl_areAll_impl_Ref__impl_BaseOK_1 K)], inl := [(172, Tryz.f172), (181, Tryz.f181), (171, Tryz.f171), (110, Tryz.f110), (111, Tryz.f111)], lo := [], K := K, jo := [], opn := Sg.opn }
noncomputable def Sg.f_slices_Clone_int : Fw.PFn := Fw.PFn.get Tryz.f207
noncomputable def Sg.i_slices_Clone_int : List (Nat × Fw.PFn) := []
noncomputable def Sg.s_slices_Clone_int (K : Nat) : Fw.Sig := { ins := [.val false (.sl (.int .i64))], outs := [⟨false, (.sl (.int .i64)), true⟩], F := fun x => R.slices_Clone_int K x.1 }
noncomputable def Sg.c_slices_Clone_int (K : Nat) : Fw.Cfg := { tab := Sg.tab, eqs := Sg.eqs, sig := [], inl := [], lo := [], K := K, jo := [], opn := Sg.opn }
noncomputable def Sg.f_slices_Clone_impl_Entry : Fw.PFn := Fw.PFn.get Tryz.f159
noncomputable def Sg.i_slices_Clone_impl_Entry : List (Nat × Fw.PFn) := []
noncomputable def Sg.s_slices_Clone_impl_Entry (K : Nat) : Fw.Sig := { ins := [.val false (.sl (.pair .str (.int .i64)))], outs := [⟨false, (.sl (.pair .str (.int .i64))), true⟩], F := fun x => R.slices_Clone_impl_Entry K x.1 }
noncomputable def Sg.c_slices_Clone_impl_Entry (K : Nat) : Fw.Cfg := { tab := Sg.tab, eqs := Sg.eqs, sig := [], inl := [], lo := [], K := K, jo := [], opn := Sg.opn }
noncomputable def Sg.f_impl_Commit_own : Fw.PFn := Fw.PFn.get Tryz.f173
noncomputable def Sg.i_impl_Commit_own : List (Nat × Fw.PFn) := []
noncomputable def Sg.s_impl_Commit_own (K : Nat) : Fw.Sig := { ins := [.val true Sg.t3], outs := [⟨true, Sg.t3, true⟩], F := fun x => R.impl_Commit_own K x.1 }
noncomputable def Sg.c_impl_Commit_own (K : Nat) : Fw.Cfg := { tab := Sg.tab, eqs := Sg.eqs, sig := [(207, Sg.s_slices_Clone_int K), (159, Sg.s_slices_Clone_impl_Entry K)], inl := [], lo := [], K := K, jo := ⟨173, 0, 6, 0, 1, none⟩ :: [], opn := Sg.opn }
def Sg.h_impl_ownStore_0 : Fw.StSh := ⟨[(2, (.row 0)), (3, (.row 1)), (6, (.d (.sl Sg.t3))), (7, (.d (.int .i64))), (8, (.d (.int .i64)))], [(0, (.row Sg.t3 true)), (1, (.row Sg.t3 true))], 2, 19, ⟨0, []⟩⟩
def Sg.o_impl_ownStore_0 : Fw.StSh := ⟨[(2, (.row 0)), (3, (.row 1))], [(0, (.row Sg.t3 true)), (1, (.row Sg.t3 true))], 2, 19, ⟨0, []⟩⟩
def Sg.r_impl_ownStore_0 : Fw.StSh := ⟨[], [], 2, 19, ⟨0, []⟩⟩
noncomputable def Sg.p_impl_ownStore_0 (K : Nat) : Fw.LSpec := { g := 112, b := 0, lv := 6, l0 := 0, li := 0, head := Sg.h_impl_ownStore_0, post := Sg.o_impl_ownStore_0, retn := Sg.r_impl_ownStore_0, ex := 0, L := R.L_impl_ownStore_0 K }
noncomputable def Sg.f_impl_ownStore : Fw.PFn := Fw.PFn.get Tryz.f112
noncomputable def Sg.i_impl_ownStore : List (Nat × Fw.PFn) := []
noncomputable def Sg.s_impl_ownStore (K : Nat) : Fw.Sig := { ins := [.val false (.sl Sg.t3)], outs := [⟨false, (.sl Sg.t3), true⟩], F := fun x => R.impl_ownStore K x.1 }
noncomputable def Sg.c_impl_ownStore (K : Nat) : Fw.Cfg := { tab := Sg.tab, eqs := Sg.eqs, sig := [(173, Sg.s_impl_Commit_own K)], inl := [], lo := Sg.p_impl_ownStore_0 K :: [], K := K, jo := [], opn := Sg.opn }
noncomputable def Sg.f_slices_Clone_impl_Ref : Fw.PFn := Fw.PFn.get Tryz.f113
noncomputable def Sg.i_slices_Clone_impl_Ref : List (Nat × Fw.PFn) := []
noncomputable def Sg.s_slices_Clone_impl_Ref (K : Nat) : Fw.Sig := { ins := [.val false (.sl Sg.t5)], outs := [⟨false, (.sl Sg.t5), true⟩], F := fun x => R.slices_Clone_impl_Ref K x.1 }
noncomputable def Sg.c_slices_Clone_impl_Ref (K : Nat) : Fw.Cfg := { tab := Sg.tab, eqs := Sg.eqs, sig := [], inl := [], lo := [], K := K, jo := [], opn := Sg.opn }
noncomputable def Sg.f_impl_Base_own : Fw.PFn := Fw.PFn.get Tryz.f52
noncomputable def Sg.i_impl_Base_own : List (Nat × Fw.PFn) := []
noncomputable def Sg.s_impl_Base_own (K : Nat) : Fw.Sig := { ins := [.val true Sg.t20], outs := [⟨true, Sg.t20, true⟩], F := fun x => R.impl_Base_own K x.1 }
noncomputable def Sg.c_impl_Base_own (K : Nat) : Fw.Cfg := { tab := Sg.tab, eqs := Sg.eqs, sig := [(112, Sg.s_impl_ownStore K), (113, Sg.s_slices_Clone_impl_Ref K)], inl := [], lo := [], K := K, jo := ⟨52, 0, 6, 0, 1, none⟩ :: [], opn := Sg.opn }
noncomputable def Sg.f_impl_isList_impl_Wish : Fw.PFn := Fw.PFn.get Tryz.f114
noncomputable def Sg.i_impl_isList_impl_Wish : List (Nat × Fw.PFn) := []
noncomputable def Sg.s_impl_isList_impl_Wish (K : Nat) : Fw.Sig := { ins := [.val false (.sl Sg.t15)], outs := [⟨false, .bool, false⟩], F := fun x => R.impl_isList_impl_Wish K x.1 }
noncomputable def Sg.c_impl_isList_impl_Wish (K : Nat) : Fw.Cfg := { tab := Sg.tab, eqs := Sg.eqs, sig := [], inl := [], lo := [], K := K, jo := [], opn := Sg.opn }
noncomputable def Sg.f_impl_areAll_impl_Wish_1 : Fw.PFn := Fw.PFn.get Tryz.f175
noncomputable def Sg.f_slices_IndexFunc_impl_Wish : Fw.PFn := Fw.PFn.get Tryz.f208
noncomputable def Sg.f_slices_ContainsFunc_impl_Wish : Fw.PFn := Fw.PFn.get Tryz.f174
noncomputable def Sg.f_impl_areAll_impl_Wish : Fw.PFn := Fw.PFn.get Tryz.f115
noncomputable def Sg.f_impl_hasSource : Fw.PFn := Fw.PFn.get Tryz.f176
noncomputable def Sg.i_impl_hasSource : List (Nat × Fw.PFn) := []
noncomputable def Sg.s_impl_hasSource (K : Nat) : Fw.Sig := { ins := [.val false (.int .i64)], outs := [⟨false, .bool, false⟩], F := fun x => R.impl_hasSource K x.1 }
noncomputable def Sg.c_impl_hasSource (K : Nat) : Fw.Cfg := { tab := Sg.tab, eqs := Sg.eqs, sig := [], inl := [], lo := [], K := K, jo := [], opn := Sg.opn }
noncomputable def Sg.f_slices_Clone_impl_Edit : Fw.PFn := Fw.PFn.get Tryz.f178
noncomputable def Sg.i_slices_Clone_impl_Edit : List (Nat × Fw.PFn) := []
noncomputable def Sg.s_slices_Clone_impl_Edit (K : Nat) : Fw.Sig := { ins := [.val false (.sl (.pair .str (.pair (.int .i64) .bool)))], outs := [⟨false, (.sl (.pair .str (.pair (.int .i64) .bool))), true⟩], F := fun x => R.slices_Clone_impl_Edit K x.1 }
noncomputable def Sg.c_slices_Clone_impl_Edit (K : Nat) : Fw.Cfg := { tab := Sg.tab, eqs := Sg.eqs, sig := [], inl := [], lo := [], K := K, jo := [], opn := Sg.opn }
noncomputable def Sg.f_impl_Wish_op : Fw.PFn := Fw.PFn.get Tryz.f177
noncomputable def Sg.i_impl_Wish_op : List (Nat × Fw.PFn) := []
noncomputable def Sg.s_impl_Wish_op (K : Nat) : Fw.Sig := { ins := [.val true Sg.t15, .val false (.int .i64)], outs := [⟨true, Sg.t18, true⟩], F := fun x => R.impl_Wish_op K x.1 x.2.1 }
noncomputable def Sg.c_impl_Wish_op (K : Nat) : Fw.Cfg := { tab := Sg.tab, eqs := Sg.eqs, sig := [(178, Sg.s_slices_Clone_impl_Edit K)], inl := [], lo := [], K := K, jo := ⟨177, 0, 6, 0, 1, none⟩ :: [], opn := Sg.opn }
def Sg.h_impl_EditsOK_0 : Fw.StSh := ⟨[(0, (.d (.sl (.pair .str (.pair (.int .i64) .bool))))), (2, (.d .bool)), (5, (.d (.sl (.pair .str (.pair (.int .i64) .bool))))), (6, (.d (.int .i64))), (7, (.d (.int .i64)))], [], 0, 50, ⟨0, []⟩⟩
def Sg.o_impl_EditsOK_0 : Fw.StSh := ⟨[(0, (.d (.sl (.pair .str (.pair (.int .i64) .bool))))), (2, (.d .bool))], [], 0, 50, ⟨0, []⟩⟩
def Sg.r_impl_EditsOK_0 : Fw.StSh := ⟨[(2, (.d .bool))], [], 1, 50, ⟨0, []⟩⟩
noncomputable def Sg.p_impl_EditsOK_0 (K : Nat) : Fw.LSpec := { g := 152, b := 0, lv := 6, l0 := 0, li := 0, head := Sg.h_impl_EditsOK_0, post := Sg.o_impl_EditsOK_0, retn := Sg.r_impl_EditsOK_0, ex := 0, L := R.L_impl_EditsOK_0 K }
noncomputable def Sg.f_impl_EditsOK : Fw.PFn := Fw.PFn.get Tryz.f152
noncomputable def Sg.i_impl_EditsOK : List (Nat × Fw.PFn) := []
noncomputable def Sg.s_impl_EditsOK (K : Nat) : Fw.Sig := { ins := [.val false (.sl (.pair .str (.pair (.int .i64) .bool)))], outs := [⟨false, .bool, false⟩], F := fun x => R.impl_EditsOK K x.1 }
noncomputable def Sg.c_impl_EditsOK (K : Nat) : Fw.Cfg := { tab := Sg.tab, eqs := Sg.eqs, sig := [(54, Sg.s_impl_NameOK K), (201, Sg.s_impl_isValue K)], inl := [], lo := Sg.p_impl_EditsOK_0 K :: [], K := K, jo := ⟨152, 0, 6, 0, 4, none⟩ :: [], opn := Sg.opn }
noncomputable def Sg.f_impl_OpOK : Fw.PFn := Fw.PFn.get Tryz.f83
noncomputable def Sg.i_impl_OpOK : List (Nat × Fw.PFn) := []
noncomputable def Sg.s_impl_OpOK (K : Nat) : Fw.Sig := { ins := [.val true Sg.t18], outs := [⟨false, .bool, false⟩], F := fun x => R.impl_OpOK K x.1 }
noncomputable def Sg.c_impl_OpOK (K : Nat) : Fw.Cfg := { tab := Sg.tab, eqs := Sg.eqs, sig := [(118, Sg.s_impl_within K), (54, Sg.s_impl_NameOK K), (151, Sg.s_impl_isHead K), (152, Sg.s_impl_EditsOK K)], inl := [], lo := [], K := K, jo := [], opn := Sg.opn }
noncomputable def Sg.f_impl_WishOK : Fw.PFn := Fw.PFn.get Tryz.f116
noncomputable def Sg.i_impl_WishOK : List (Nat × Fw.PFn) := []
noncomputable def Sg.s_impl_WishOK (K : Nat) : Fw.Sig := { ins := [.val true Sg.t15], outs := [⟨false, .bool, false⟩], F := fun x => R.impl_WishOK K x.1 }
noncomputable def Sg.c_impl_WishOK (K : Nat) : Fw.Cfg := { tab := Sg.tab, eqs := Sg.eqs, sig := [(54, Sg.s_impl_NameOK K), (176, Sg.s_impl_hasSource K), (177, Sg.s_impl_Wish_op K), (83, Sg.s_impl_OpOK K)], inl := [], lo := [], K := K, jo := [], opn := Sg.opn }
def Sg.h_impl_ownWishes_0 : Fw.StSh := ⟨[(2, (.row 0)), (3, (.row 1)), (6, (.d (.sl Sg.t15))), (7, (.d (.int .i64))), (8, (.d (.int .i64)))], [(0, (.row Sg.t15 true)), (1, (.row Sg.t15 true))], 2, 22, ⟨0, []⟩⟩
def Sg.o_impl_ownWishes_0 : Fw.StSh := ⟨[(2, (.row 0)), (3, (.row 1))], [(0, (.row Sg.t15 true)), (1, (.row Sg.t15 true))], 2, 22, ⟨0, []⟩⟩
def Sg.r_impl_ownWishes_0 : Fw.StSh := ⟨[], [], 2, 22, ⟨0, []⟩⟩
noncomputable def Sg.p_impl_ownWishes_0 (K : Nat) : Fw.LSpec := { g := 117, b := 0, lv := 6, l0 := 0, li := 0, head := Sg.h_impl_ownWishes_0, post := Sg.o_impl_ownWishes_0, retn := Sg.r_impl_ownWishes_0, ex := 0, L := R.L_impl_ownWishes_0 K }
noncomputable def Sg.f_impl_ownWishes : Fw.PFn := Fw.PFn.get Tryz.f117
noncomputable def Sg.i_impl_ownWishes : List (Nat × Fw.PFn) := []
noncomputable def Sg.s_impl_ownWishes (K : Nat) : Fw.Sig := { ins := [.val false (.sl Sg.t15)], outs := [⟨false, (.sl Sg.t15), true⟩], F := fun x => R.impl_ownWishes K x.1 }
noncomputable def Sg.c_impl_ownWishes (K : Nat) : Fw.Cfg := { tab := Sg.tab, eqs := Sg.eqs, sig := [(178, Sg.s_slices_Clone_impl_Edit K)], inl := [], lo := Sg.p_impl_ownWishes_0 K :: [], K := K, jo := [], opn := Sg.opn }
def Sg.h_impl_areAll_impl_Wish__impl_WishOK_0 : Fw.StSh := ⟨[(0, (.d (.sl Sg.t15))), (1, (.fn 116 [])), (3, (.ref 0 0)), (4, (.d .bool)), (5, (.d (.sl Sg.t15))), (6, (.fn 175 [(.ref 0 0)])), (9, (.d (.sl Sg.t15))), (10, (.fn 175 [(.ref 0 0)])), (13, (.d .bool)), (14, (.d (.sl Sg.t15))), (15, (.fn 175 [(.ref 0 0)])), (18, (.d (.sl Sg.t15))), (19, (.fn 175 [(.ref 0 0)])), (22, (.d (.int .i64))), (25, (.d (.int .i64))), (26, (.d (.int .i64)))], [(0, (.box [(.fn 116 [])]))], 1, 37, ⟨0, []⟩⟩
def Sg.o_impl_areAll_impl_Wish__impl_WishOK_0 : Fw.StSh := ⟨[(0, (.d (.sl Sg.t15))), (1, (.fn 116 [])), (3, (.ref 0 0)), (4, (.d .bool)), (5, (.d (.sl Sg.t15))), (6, (.fn 175 [(.ref 0 0)])), (9, (.d (.sl Sg.t15))), (10, (.fn 175 [(.ref 0 0)])), (13, (.d .bool)), (14, (.d (.sl Sg.t15))), (15, (.fn 175 [(.ref 0 0)])), (22, (.d (.int .i64)))], [(0, (.box [(.fn 116 [])]))], 1, 37, ⟨0, []⟩⟩
def Sg.r_impl_areAll_impl_Wish__impl_WishOK_0 : Fw.StSh := ⟨[(0, (.d (.sl Sg.t15))), (1, (.fn 116 [])), (3, (.ref 0 0)), (4, (.d .bool)), (5, (.d (.sl Sg.t15))), (6, (.fn 175 [(.ref 0 0)])), (9, (.d (.sl Sg.t15))), (10, (.fn 175 [(.ref 0 0)])), (13, (.d .bool)), (14, (.d (.sl Sg.t15))), (15, (.fn 175 [(.ref 0 0)])), (22, (.d (.int .i64)))], [(0, (.box [(.fn 116 [])]))], 2, 45, ⟨0, []⟩⟩
noncomputable def Sg.p_impl_areAll_impl_Wish__impl_WishOK_0 (K : Nat) : Fw.LSpec := { g := 208, b := 18, lv := 4, l0 := 1, li := 0, head := Sg.h_impl_areAll_impl_Wish__impl_WishOK_0, post := Sg.o_impl_areAll_impl_Wish__impl_WishOK_0, retn := Sg.r_impl_areAll_impl_Wish__impl_WishOK_0, ex := 0, L := R.L_impl_areAll_impl_Wish__impl_WishOK_0 K }
noncomputable def Sg.i_impl_areAll_impl_Wish__impl_WishOK : List (Nat × Fw.PFn) := [(175, Sg.f_impl_areAll_impl_Wish_1), (208, Sg.f_slices_IndexFunc_impl_Wish), (174, Sg.f_slices_ContainsFunc_impl_Wish)]
noncomputable def Sg.s_impl_areAll_impl_Wish__impl_WishOK (K : Nat) : Fw.Sig := { ins := [.val false (.sl Sg.t15), .fn 116 []], outs := [⟨false, .bool, false⟩], F := fun x => R.impl_areAll_impl_Wish__impl_WishOK K x.1 }
noncomputable def Sg.c_impl_areAll_impl_Wish__impl_WishOK (K : Nat) : Fw.Cfg := { tab := Sg.tab, eqs := Sg.eqs, sig := [(116, Sg.s_impl_WishOK K)], inl := [(175, Tryz.f175), (208, Tryz.f208), (174, Tryz.f174)], lo := Sg.p_impl_areAll_impl_Wish__impl_WishOK_0 K :: [], K := K, jo := [], opn := Sg.opn }
noncomputable def Sg.f_impl_NewClient : Fw.PFn := Fw.PFn.get Tryz.f53
noncomputable def Sg.i_impl_NewClient : List (Nat × Fw.PFn) := [(175, Sg.f_impl_areAll_impl_Wish_1), (208, Sg.f_slices_IndexFunc_impl_Wish), (174, Sg.f_slices_ContainsFunc_impl_Wish), (115, Sg.f_impl_areAll_impl_Wish)]
noncomputable def Sg.s_impl_NewClient (K : Nat) : Fw.Sig := { ins := [.val false (.sl Sg.t15)], outs := [⟨true, Sg.t26, true⟩, ⟨false, (.int .i64), false⟩], F := fun x => R.impl_NewClient K x.1 }
noncomputable def Sg.c_impl_NewClient (K : Nat) : Fw.Cfg := { tab := Sg.tab, eqs := Sg.eqs, sig := [(114, Sg.s_impl_isList_impl_Wish K), (116, Sg.s_impl_WishOK K), (117, Sg.s_impl_ownWishes K), (115, Sg.s_impl_areAll_impl_Wish__impl_WishOK K)], inl := [(175, Tryz.f175), (208, Tryz.f208), (174, Tryz.f174), (115, Tryz.f115)], lo := [], K := K, jo := [], opn := Sg.opn }
noncomputable def Sg.f_impl_versionOf : Fw.PFn := Fw.PFn.get Tryz.f55
noncomputable def Sg.i_impl_versionOf : List (Nat × Fw.PFn) := []
noncomputable def Sg.s_impl_versionOf (K : Nat) : Fw.Sig := { ins := [.val false (.sl Sg.t5), .val false .str], outs := [⟨false, (.int .i64), false⟩], F := fun x => R.impl_versionOf K x.1 x.2.1 }
noncomputable def Sg.c_impl_versionOf (K : Nat) : Fw.Cfg := { tab := Sg.tab, eqs := Sg.eqs, sig := [(123, Sg.s_impl_place K)], inl := [], lo := [], K := K, jo := [], opn := Sg.opn }
def Sg.h_impl_NewWorld_0 : Fw.StSh := ⟨[(2, (.d (.sl .str))), (3, (.ref 0 0)), (6, (.ref 6 0)), (7, (.d (.int .i64))), (8, (.ref 19 0)), (43, (.d (.sl (.sl Sg.t15)))), (44, (.d (.int .i64))), (45, (.d (.int .i64)))], [(0, (.box [(.d (.sl Sg.t3)), (.d (.sl Sg.t5))])), (6, (.box [(.row 1), (.row 2), (.row 3), (.row 4), (.row 5), (.d (.int .i64))])), (19, (.box [(.row 7), (.row 8), (.row 11), (.row 12), (.row 13), (.d (.int .i64))])), (1, (.row Sg.t3 true)), (2, (.row Sg.t5 true)), (3, (.row Sg.t26 true)), (4, (.row Sg.t11 true)), (5, (.row Sg.t27 true)), (7, (.row Sg.t3 true)), (8, (.row Sg.t5 true)), (11, (.row Sg.t26 true)), (12, (.row Sg.t11 true)), (13, (.row Sg.t27 true))], 20, 87, ⟨0, []⟩⟩
def Sg.o_impl_NewWorld_0 : Fw.StSh := ⟨[(2, (.d (.sl .str))), (3, (.ref 0 0)), (6, (.ref 6 0)), (7, (.d (.int .i64))), (8, (.ref 19 0))], [(0, (.box [(.d (.sl Sg.t3)), (.d (.sl Sg.t5))])), (6, (.box [(.row 1), (.row 2), (.row 3), (.row 4), (.row 5), (.d (.int .i64))])), (19, (.box [(.row 7), (.row 8), (.row 11), (.row 12), (.row 13), (.d (.int .i64))])), (1, (.row Sg.t3 true)), (2, (.row Sg.t5 true)), (3, (.row Sg.t26 true)), (4, (.row Sg.t11 true)), (5, (.row Sg.t27 true)), (7, (.row Sg.t3 true)), (8, (.row Sg.t5 true)), (11, (.row Sg.t26 true)), (12, (.row Sg.t11 true)), (13, (.row Sg.t27 true))], 20, 87, ⟨0, []⟩⟩
def Sg.r_impl_NewWorld_0 : Fw.StSh := ⟨[(6, (.ref 6 0)), (7, (.d (.int .i64)))], [(6, (.box [(.row 25), (.row 26), (.row 27), (.row 28), (.row 29), (.d (.int .i64))])), (25, (.row Sg.t3 true)), (26, (.row Sg.t5 true)), (27, (.row Sg.t26 true)), (28, (.row Sg.t11 true)), (29, (.row Sg.t27 true))], 30, 87, ⟨0, []⟩⟩
noncomputable def Sg.p_impl_NewWorld_0 (K : Nat) : Fw.LSpec := { g := 13, b := 0, lv := 6, l0 := 0, li := 0, head := Sg.h_impl_NewWorld_0, post := Sg.o_impl_NewWorld_0, retn := Sg.r_impl_NewWorld_0, ex := 1, L := R.L_impl_NewWorld_0 K }
def Sg.h_impl_NewWorld_1 : Fw.StSh := ⟨[(3, (.ref 0 0)), (6, (.ref 6 0)), (7, (.d (.int .i64))), (8, (.ref 19 0)), (64, (.d (.sl .str))), (65, (.d (.int .i64))), (66, (.d (.int .i64)))], [(0, (.box [(.d (.sl Sg.t3)), (.d (.sl Sg.t5))])), (6, (.box [(.row 1), (.row 2), (.row 3), (.row 4), (.row 5), (.d (.int .i64))])), (19, (.box [(.row 7), (.row 8), (.row 11), (.row 12), (.row 13), (.d (.int .i64))])), (1, (.row Sg.t3 true)), (2, (.row Sg.t5 true)), (3, (.row Sg.t26 true)), (4, (.row Sg.t11 true)), (5, (.row Sg.t27 true)), (7, (.row Sg.t3 true)), (8, (.row Sg.t5 true)), (11, (.row Sg.t26 true)), (12, (.row Sg.t11 true)), (13, (.row Sg.t27 true))], 20, 87, ⟨0, []⟩⟩
def Sg.o_impl_NewWorld_1 : Fw.StSh := ⟨[(6, (.ref 6 0)), (7, (.d (.int .i64))), (8, (.ref 19 0))], [(6, (.box [(.row 1), (.row 2), (.row 3), (.row 4), (.row 5), (.d (.int .i64))])), (19, (.box [(.row 7), (.row 8), (.row 11), (.row 12), (.row 13), (.d (.int .i64))])), (1, (.row Sg.t3 true)), (2, (.row Sg.t5 true)), (3, (.row Sg.t26 true)), (4, (.row Sg.t11 true)), (5, (.row Sg.t27 true)), (7, (.row Sg.t3 true)), (8, (.row Sg.t5 true)), (11, (.row Sg.t26 true)), (12, (.row Sg.t11 true)), (13, (.row Sg.t27 true))], 20, 87, ⟨0, []⟩⟩
def Sg.r_impl_NewWorld_1 : Fw.StSh := ⟨[(6, (.ref 6 0)), (7, (.d (.int .i64)))], [(6, (.box [(.row 20), (.row 21), (.row 22), (.row 23), (.row 24), (.d (.int .i64))])), (20, (.row Sg.t3 true)), (21, (.row Sg.t5 true)), (22, (.row Sg.t26 true)), (23, (.row Sg.t11 true)), (24, (.row Sg.t27 true))], 25, 87, ⟨0, []⟩⟩
noncomputable def Sg.p_impl_NewWorld_1 (K : Nat) : Fw.LSpec := { g := 13, b := 0, lv := 6, l0 := 0, li := 1, head := Sg.h_impl_NewWorld_1, post := Sg.o_impl_NewWorld_1, retn := Sg.r_impl_NewWorld_1, ex := 3, L := R.L_impl_NewWorld_1 K }
noncomputable def Sg.f_impl_NewWorld : Fw.PFn := Fw.PFn.get Tryz.f13
noncomputable def Sg.i_impl_NewWorld : List (Nat × Fw.PFn) := []
noncomputable def Sg.s_impl_NewWorld (K : Nat) : Fw.Sig := { ins := [.val true Sg.t20, .val false (.sl (.sl Sg.t15)), .val false (.sl .str)], outs := [⟨true, Sg.t31, true⟩, ⟨false, (.int .i64), false⟩], F := fun x => R.impl_NewWorld K x.1 x.2.1 x.2.2.1 }
noncomputable def Sg.c_impl_NewWorld (K : Nat) : Fw.Cfg := { tab := Sg.tab, eqs := Sg.eqs, sig := [(49, Sg.s_impl_isList_simpl_Wish K), (50, Sg.s_impl_isList_string K), (54, Sg.s_impl_NameOK K), (51, Sg.s_impl_BaseOK K), (52, Sg.s_impl_Base_own K), (53, Sg.s_impl_NewClient K), (55, Sg.s_impl_versionOf K)], inl := [], lo := Sg.p_impl_NewWorld_0 K :: Sg.p_impl_NewWorld_1 K :: [], K := K, jo := ⟨13, 0, 6, 0, 21, none⟩ :: [], opn := Sg.opn }
def Sg.h_laws_eqIntS_0 : Fw.StSh := ⟨[(0, (.d (.sl (.int .i64)))), (1, (.d (.sl (.int .i64)))), (4, (.d .bool)), (5, (.d (.int .i64)))], [], 0, 26, ⟨0, []⟩⟩
def Sg.o_laws_eqIntS_0 : Fw.StSh := ⟨[(4, (.d .bool))], [], 0, 26, ⟨0, []⟩⟩
def Sg.r_laws_eqIntS_0 : Fw.StSh := ⟨[(4, (.d .bool))], [], 0, 26, ⟨0, []⟩⟩
noncomputable def Sg.p_laws_eqIntS_0 (K : Nat) : Fw.LSpec := { g := 184, b := 0, lv := 6, l0 := 0, li := 0, head := Sg.h_laws_eqIntS_0, post := Sg.o_laws_eqIntS_0, retn := Sg.r_laws_eqIntS_0, ex := 0, L := R.L_laws_eqIntS_0 K }
noncomputable def Sg.f_laws_eqIntS : Fw.PFn := Fw.PFn.get Tryz.f184
noncomputable def Sg.i_laws_eqIntS : List (Nat × Fw.PFn) := []
noncomputable def Sg.s_laws_eqIntS (K : Nat) : Fw.Sig := { ins := [.val false (.sl (.int .i64)), .val false (.sl (.int .i64))], outs := [⟨false, .bool, false⟩], F := fun x => R.laws_eqIntS K x.1 x.2.1 }
noncomputable def Sg.c_laws_eqIntS (K : Nat) : Fw.Cfg := { tab := Sg.tab, eqs := Sg.eqs, sig := [], inl := [], lo := Sg.p_laws_eqIntS_0 K :: [], K := K, jo := ⟨184, 0, 6, 0, 6, none⟩ :: [], opn := Sg.opn }
noncomputable def Sg.f_laws_eqEntry : Fw.PFn := Fw.PFn.get Tryz.f139
noncomputable def Sg.i_laws_eqEntry : List (Nat × Fw.PFn) := []
noncomputable def Sg.s_laws_eqEntry (K : Nat) : Fw.Sig := { ins := [.val true (.pair .str (.int .i64)), .val true (.pair .str (.int .i64))], outs := [⟨false, .bool, false⟩], F := fun x => R.laws_eqEntry K x.1 x.2.1 }
noncomputable def Sg.c_laws_eqEntry (K : Nat) : Fw.Cfg := { tab := Sg.tab, eqs := Sg.eqs, sig := [], inl := [], lo := [], K := K, jo := [], opn := Sg.opn }
def Sg.h_laws_eqEntryS_0 : Fw.StSh := ⟨[(0, (.d (.sl (.pair .str (.int .i64))))), (1, (.d (.sl (.pair .str (.int .i64))))), (4, (.d .bool)), (5, (.d (.int .i64)))], [], 0, 27, ⟨0, []⟩⟩
def Sg.o_laws_eqEntryS_0 : Fw.StSh := ⟨[(4, (.d .bool))], [], 0, 27, ⟨0, []⟩⟩
def Sg.r_laws_eqEntryS_0 : Fw.StSh := ⟨[(4, (.d .bool))], [], 0, 27, ⟨0, []⟩⟩
noncomputable def Sg.p_laws_eqEntryS_0 (K : Nat) : Fw.LSpec := { g := 76, b := 0, lv := 6, l0 := 0, li := 0, head := Sg.h_laws_eqEntryS_0, post := Sg.o_laws_eqEntryS_0, retn := Sg.r_laws_eqEntryS_0, ex := 0, L := R.L_laws_eqEntryS_0 K }
noncomputable def Sg.f_laws_eqEntryS : Fw.PFn := Fw.PFn.get Tryz.f76
noncomputable def Sg.i_laws_eqEntryS : List (Nat × Fw.PFn) := []
noncomputable def Sg.s_laws_eqEntryS (K : Nat) : Fw.Sig := { ins := [.val false (.sl (.pair .str (.int .i64))), .val false (.sl (.pair .str (.int .i64)))], outs := [⟨false, .bool, false⟩], F := fun x => R.laws_eqEntryS K x.1 x.2.1 }
noncomputable def Sg.c_laws_eqEntryS (K : Nat) : Fw.Cfg := { tab := Sg.tab, eqs := Sg.eqs, sig := [(139, Sg.s_laws_eqEntry K)], inl := [], lo := Sg.p_laws_eqEntryS_0 K :: [], K := K, jo := ⟨76, 0, 6, 0, 6, none⟩ :: [], opn := Sg.opn }
noncomputable def Sg.f_laws_eqCommit : Fw.PFn := Fw.PFn.get Tryz.f126
noncomputable def Sg.i_laws_eqCommit : List (Nat × Fw.PFn) := []
noncomputable def Sg.s_laws_eqCommit (K : Nat) : Fw.Sig := { ins := [.val true Sg.t3, .val true Sg.t3], outs := [⟨false, .bool, false⟩], F := fun x => R.laws_eqCommit K x.1 x.2.1 }
noncomputable def Sg.c_laws_eqCommit (K : Nat) : Fw.Cfg := { tab := Sg.tab, eqs := Sg.eqs, sig := [(184, Sg.s_laws_eqIntS K), (76, Sg.s_laws_eqEntryS K)], inl := [], lo := [], K := K, jo := [], opn := Sg.opn }
def Sg.h_laws_eqCommitS_0 : Fw.StSh := ⟨[(0, (.d (.sl Sg.t3))), (1, (.d (.sl Sg.t3))), (4, (.d .bool)), (5, (.d (.int .i64)))], [], 0, 27, ⟨0, []⟩⟩
def Sg.o_laws_eqCommitS_0 : Fw.StSh := ⟨[(4, (.d .bool))], [], 0, 27, ⟨0, []⟩⟩
def Sg.r_laws_eqCommitS_0 : Fw.StSh := ⟨[(4, (.d .bool))], [], 0, 27, ⟨0, []⟩⟩
noncomputable def Sg.p_laws_eqCommitS_0 (K : Nat) : Fw.LSpec := { g := 59, b := 0, lv := 6, l0 := 0, li := 0, head := Sg.h_laws_eqCommitS_0, post := Sg.o_laws_eqCommitS_0, retn := Sg.r_laws_eqCommitS_0, ex := 0, L := R.L_laws_eqCommitS_0 K }
noncomputable def Sg.f_laws_eqCommitS : Fw.PFn := Fw.PFn.get Tryz.f59
noncomputable def Sg.i_laws_eqCommitS : List (Nat × Fw.PFn) := []
noncomputable def Sg.s_laws_eqCommitS (K : Nat) : Fw.Sig := { ins := [.val false (.sl Sg.t3), .val false (.sl Sg.t3)], outs := [⟨false, .bool, false⟩], F := fun x => R.laws_eqCommitS K x.1 x.2.1 }
noncomputable def Sg.c_laws_eqCommitS (K : Nat) : Fw.Cfg := { tab := Sg.tab, eqs := Sg.eqs, sig := [(126, Sg.s_laws_eqCommit K)], inl := [], lo := Sg.p_laws_eqCommitS_0 K :: [], K := K, jo := ⟨59, 0, 6, 0, 6, none⟩ :: [], opn := Sg.opn }
noncomputable def Sg.f_laws_eqRef : Fw.PFn := Fw.PFn.get Tryz.f127
noncomputable def Sg.i_laws_eqRef : List (Nat × Fw.PFn) := []
noncomputable def Sg.s_laws_eqRef (K : Nat) : Fw.Sig := { ins := [.val true Sg.t5, .val true Sg.t5], outs := [⟨false, .bool, false⟩], F := fun x => R.laws_eqRef K x.1 x.2.1 }
noncomputable def Sg.c_laws_eqRef (K : Nat) : Fw.Cfg := { tab := Sg.tab, eqs := Sg.eqs, sig := [], inl := [], lo := [], K := K, jo := [], opn := Sg.opn }
def Sg.h_laws_eqRefS_0 : Fw.StSh := ⟨[(0, (.d (.sl Sg.t5))), (1, (.d (.sl Sg.t5))), (4, (.d .bool)), (5, (.d (.int .i64)))], [], 0, 27, ⟨0, []⟩⟩
def Sg.o_laws_eqRefS_0 : Fw.StSh := ⟨[(4, (.d .bool))], [], 0, 27, ⟨0, []⟩⟩
def Sg.r_laws_eqRefS_0 : Fw.StSh := ⟨[(4, (.d .bool))], [], 0, 27, ⟨0, []⟩⟩
noncomputable def Sg.p_laws_eqRefS_0 (K : Nat) : Fw.LSpec := { g := 60, b := 0, lv := 6, l0 := 0, li := 0, head := Sg.h_laws_eqRefS_0, post := Sg.o_laws_eqRefS_0, retn := Sg.r_laws_eqRefS_0, ex := 0, L := R.L_laws_eqRefS_0 K }
noncomputable def Sg.f_laws_eqRefS : Fw.PFn := Fw.PFn.get Tryz.f60
noncomputable def Sg.i_laws_eqRefS : List (Nat × Fw.PFn) := []
noncomputable def Sg.s_laws_eqRefS (K : Nat) : Fw.Sig := { ins := [.val false (.sl Sg.t5), .val false (.sl Sg.t5)], outs := [⟨false, .bool, false⟩], F := fun x => R.laws_eqRefS K x.1 x.2.1 }
noncomputable def Sg.c_laws_eqRefS (K : Nat) : Fw.Cfg := { tab := Sg.tab, eqs := Sg.eqs, sig := [(127, Sg.s_laws_eqRef K)], inl := [], lo := Sg.p_laws_eqRefS_0 K :: [], K := K, jo := ⟨60, 0, 6, 0, 6, none⟩ :: [], opn := Sg.opn }
noncomputable def Sg.f_laws_eqBase : Fw.PFn := Fw.PFn.get Tryz.f15
noncomputable def Sg.i_laws_eqBase : List (Nat × Fw.PFn) := []
noncomputable def Sg.s_laws_eqBase (K : Nat) : Fw.Sig := { ins := [.val true Sg.t20, .val true Sg.t20], outs := [⟨false, .bool, false⟩], F := fun x => R.laws_eqBase K x.1 x.2.1 }
noncomputable def Sg.c_laws_eqBase (K : Nat) : Fw.Cfg := { tab := Sg.tab, eqs := Sg.eqs, sig := [(59, Sg.s_laws_eqCommitS K), (60, Sg.s_laws_eqRefS K)], inl := [], lo := [], K := K, jo := [], opn := Sg.opn }
noncomputable def Sg.f_laws_eqEdit : Fw.PFn := Fw.PFn.get Tryz.f161
noncomputable def Sg.i_laws_eqEdit : List (Nat × Fw.PFn) := []
noncomputable def Sg.s_laws_eqEdit (K : Nat) : Fw.Sig := { ins := [.val true (.pair .str (.pair (.int .i64) .bool)), .val true (.pair .str (.pair (.int .i64) .bool))], outs := [⟨false, .bool, false⟩], F := fun x => R.laws_eqEdit K x.1 x.2.1 }
noncomputable def Sg.c_laws_eqEdit (K : Nat) : Fw.Cfg := { tab := Sg.tab, eqs := Sg.eqs, sig := [], inl := [], lo := [], K := K, jo := [], opn := Sg.opn }
def Sg.h_laws_eqEditS_0 : Fw.StSh := ⟨[(0, (.d (.sl (.pair .str (.pair (.int .i64) .bool))))), (1, (.d (.sl (.pair .str (.pair (.int .i64) .bool))))), (4, (.d .bool)), (5, (.d (.int .i64)))], [], 0, 27, ⟨0, []⟩⟩
def Sg.o_laws_eqEditS_0 : Fw.StSh := ⟨[(4, (.d .bool))], [], 0, 27, ⟨0, []⟩⟩
def Sg.r_laws_eqEditS_0 : Fw.StSh := ⟨[(4, (.d .bool))], [], 0, 27, ⟨0, []⟩⟩
noncomputable def Sg.p_laws_eqEditS_0 (K : Nat) : Fw.LSpec := { g := 85, b := 0, lv := 6, l0 := 0, li := 0, head := Sg.h_laws_eqEditS_0, post := Sg.o_laws_eqEditS_0, retn := Sg.r_laws_eqEditS_0, ex := 0, L := R.L_laws_eqEditS_0 K }
noncomputable def Sg.f_laws_eqEditS : Fw.PFn := Fw.PFn.get Tryz.f85
noncomputable def Sg.i_laws_eqEditS : List (Nat × Fw.PFn) := []
noncomputable def Sg.s_laws_eqEditS (K : Nat) : Fw.Sig := { ins := [.val false (.sl (.pair .str (.pair (.int .i64) .bool))), .val false (.sl (.pair .str (.pair (.int .i64) .bool)))], outs := [⟨false, .bool, false⟩], F := fun x => R.laws_eqEditS K x.1 x.2.1 }
noncomputable def Sg.c_laws_eqEditS (K : Nat) : Fw.Cfg := { tab := Sg.tab, eqs := Sg.eqs, sig := [(161, Sg.s_laws_eqEdit K)], inl := [], lo := Sg.p_laws_eqEditS_0 K :: [], K := K, jo := ⟨85, 0, 6, 0, 6, none⟩ :: [], opn := Sg.opn }
noncomputable def Sg.f_laws_eqWish : Fw.PFn := Fw.PFn.get Tryz.f128
noncomputable def Sg.i_laws_eqWish : List (Nat × Fw.PFn) := []
noncomputable def Sg.s_laws_eqWish (K : Nat) : Fw.Sig := { ins := [.val true Sg.t15, .val true Sg.t15], outs := [⟨false, .bool, false⟩], F := fun x => R.laws_eqWish K x.1 x.2.1 }
noncomputable def Sg.c_laws_eqWish (K : Nat) : Fw.Cfg := { tab := Sg.tab, eqs := Sg.eqs, sig := [(85, Sg.s_laws_eqEditS K)], inl := [], lo := [], K := K, jo := [], opn := Sg.opn }
def Sg.h_laws_eqWishS_0 : Fw.StSh := ⟨[(0, (.d (.sl Sg.t15))), (1, (.d (.sl Sg.t15))), (4, (.d .bool)), (5, (.d (.int .i64)))], [], 0, 27, ⟨0, []⟩⟩
def Sg.o_laws_eqWishS_0 : Fw.StSh := ⟨[(4, (.d .bool))], [], 0, 27, ⟨0, []⟩⟩
def Sg.r_laws_eqWishS_0 : Fw.StSh := ⟨[(4, (.d .bool))], [], 0, 27, ⟨0, []⟩⟩
noncomputable def Sg.p_laws_eqWishS_0 (K : Nat) : Fw.LSpec := { g := 61, b := 0, lv := 6, l0 := 0, li := 0, head := Sg.h_laws_eqWishS_0, post := Sg.o_laws_eqWishS_0, retn := Sg.r_laws_eqWishS_0, ex := 0, L := R.L_laws_eqWishS_0 K }
noncomputable def Sg.f_laws_eqWishS : Fw.PFn := Fw.PFn.get Tryz.f61
noncomputable def Sg.i_laws_eqWishS : List (Nat × Fw.PFn) := []
noncomputable def Sg.s_laws_eqWishS (K : Nat) : Fw.Sig := { ins := [.val false (.sl Sg.t15), .val false (.sl Sg.t15)], outs := [⟨false, .bool, false⟩], F := fun x => R.laws_eqWishS K x.1 x.2.1 }
noncomputable def Sg.c_laws_eqWishS (K : Nat) : Fw.Cfg := { tab := Sg.tab, eqs := Sg.eqs, sig := [(128, Sg.s_laws_eqWish K)], inl := [], lo := Sg.p_laws_eqWishS_0 K :: [], K := K, jo := ⟨61, 0, 6, 0, 6, none⟩ :: [], opn := Sg.opn }
noncomputable def Sg.f_laws_eqClient : Fw.PFn := Fw.PFn.get Tryz.f27
noncomputable def Sg.i_laws_eqClient : List (Nat × Fw.PFn) := []
noncomputable def Sg.s_laws_eqClient (K : Nat) : Fw.Sig := { ins := [.val true Sg.t26, .val true Sg.t26], outs := [⟨false, .bool, false⟩], F := fun x => R.laws_eqClient K x.1 x.2.1 }
noncomputable def Sg.c_laws_eqClient (K : Nat) : Fw.Cfg := { tab := Sg.tab, eqs := Sg.eqs, sig := [(76, Sg.s_laws_eqEntryS K), (61, Sg.s_laws_eqWishS K)], inl := [], lo := [], K := K, jo := [], opn := Sg.opn }
def Sg.h_laws_eqClientS_0 : Fw.StSh := ⟨[(0, (.d (.sl Sg.t26))), (1, (.d (.sl Sg.t26))), (4, (.d .bool)), (5, (.d (.int .i64)))], [], 0, 27, ⟨0, []⟩⟩
def Sg.o_laws_eqClientS_0 : Fw.StSh := ⟨[(4, (.d .bool))], [], 0, 27, ⟨0, []⟩⟩
def Sg.r_laws_eqClientS_0 : Fw.StSh := ⟨[(4, (.d .bool))], [], 0, 27, ⟨0, []⟩⟩
noncomputable def Sg.p_laws_eqClientS_0 (K : Nat) : Fw.LSpec := { g := 56, b := 0, lv := 6, l0 := 0, li := 0, head := Sg.h_laws_eqClientS_0, post := Sg.o_laws_eqClientS_0, retn := Sg.r_laws_eqClientS_0, ex := 0, L := R.L_laws_eqClientS_0 K }
noncomputable def Sg.f_laws_eqClientS : Fw.PFn := Fw.PFn.get Tryz.f56
noncomputable def Sg.i_laws_eqClientS : List (Nat × Fw.PFn) := []
noncomputable def Sg.s_laws_eqClientS (K : Nat) : Fw.Sig := { ins := [.val false (.sl Sg.t26), .val false (.sl Sg.t26)], outs := [⟨false, .bool, false⟩], F := fun x => R.laws_eqClientS K x.1 x.2.1 }
noncomputable def Sg.c_laws_eqClientS (K : Nat) : Fw.Cfg := { tab := Sg.tab, eqs := Sg.eqs, sig := [(27, Sg.s_laws_eqClient K)], inl := [], lo := Sg.p_laws_eqClientS_0 K :: [], K := K, jo := ⟨56, 0, 6, 0, 6, none⟩ :: [], opn := Sg.opn }
noncomputable def Sg.f_laws_eqEvent : Fw.PFn := Fw.PFn.get Tryz.f210
noncomputable def Sg.i_laws_eqEvent : List (Nat × Fw.PFn) := []
noncomputable def Sg.s_laws_eqEvent (K : Nat) : Fw.Sig := { ins := [.val true Sg.t0, .val true Sg.t0], outs := [⟨false, .bool, false⟩], F := fun x => R.laws_eqEvent K x.1 x.2.1 }
noncomputable def Sg.c_laws_eqEvent (K : Nat) : Fw.Cfg := { tab := Sg.tab, eqs := Sg.eqs, sig := [], inl := [], lo := [], K := K, jo := [], opn := Sg.opn }
def Sg.h_laws_eqEventS_0 : Fw.StSh := ⟨[(0, (.d (.sl Sg.t0))), (1, (.d (.sl Sg.t0))), (4, (.d .bool)), (5, (.d (.int .i64)))], [], 0, 27, ⟨0, []⟩⟩
def Sg.o_laws_eqEventS_0 : Fw.StSh := ⟨[(4, (.d .bool))], [], 0, 27, ⟨0, []⟩⟩
def Sg.r_laws_eqEventS_0 : Fw.StSh := ⟨[(4, (.d .bool))], [], 0, 27, ⟨0, []⟩⟩
noncomputable def Sg.p_laws_eqEventS_0 (K : Nat) : Fw.LSpec := { g := 183, b := 0, lv := 6, l0 := 0, li := 0, head := Sg.h_laws_eqEventS_0, post := Sg.o_laws_eqEventS_0, retn := Sg.r_laws_eqEventS_0, ex := 0, L := R.L_laws_eqEventS_0 K }
noncomputable def Sg.f_laws_eqEventS : Fw.PFn := Fw.PFn.get Tryz.f183
noncomputable def Sg.i_laws_eqEventS : List (Nat × Fw.PFn) := []
noncomputable def Sg.s_laws_eqEventS (K : Nat) : Fw.Sig := { ins := [.val false (.sl Sg.t0), .val false (.sl Sg.t0)], outs := [⟨false, .bool, false⟩], F := fun x => R.laws_eqEventS K x.1 x.2.1 }
noncomputable def Sg.c_laws_eqEventS (K : Nat) : Fw.Cfg := { tab := Sg.tab, eqs := Sg.eqs, sig := [(210, Sg.s_laws_eqEvent K)], inl := [], lo := Sg.p_laws_eqEventS_0 K :: [], K := K, jo := ⟨183, 0, 6, 0, 6, none⟩ :: [], opn := Sg.opn }
noncomputable def Sg.f_laws_eqWatch : Fw.PFn := Fw.PFn.get Tryz.f124
noncomputable def Sg.i_laws_eqWatch : List (Nat × Fw.PFn) := []
noncomputable def Sg.s_laws_eqWatch (K : Nat) : Fw.Sig := { ins := [.val true Sg.t11, .val true Sg.t11], outs := [⟨false, .bool, false⟩], F := fun x => R.laws_eqWatch K x.1 x.2.1 }
noncomputable def Sg.c_laws_eqWatch (K : Nat) : Fw.Cfg := { tab := Sg.tab, eqs := Sg.eqs, sig := [(183, Sg.s_laws_eqEventS K)], inl := [], lo := [], K := K, jo := [], opn := Sg.opn }
def Sg.h_laws_eqWatchS_0 : Fw.StSh := ⟨[(0, (.d (.sl Sg.t11))), (1, (.d (.sl Sg.t11))), (4, (.d .bool)), (5, (.d (.int .i64)))], [], 0, 27, ⟨0, []⟩⟩
def Sg.o_laws_eqWatchS_0 : Fw.StSh := ⟨[(4, (.d .bool))], [], 0, 27, ⟨0, []⟩⟩
def Sg.r_laws_eqWatchS_0 : Fw.StSh := ⟨[(4, (.d .bool))], [], 0, 27, ⟨0, []⟩⟩
noncomputable def Sg.p_laws_eqWatchS_0 (K : Nat) : Fw.LSpec := { g := 57, b := 0, lv := 6, l0 := 0, li := 0, head := Sg.h_laws_eqWatchS_0, post := Sg.o_laws_eqWatchS_0, retn := Sg.r_laws_eqWatchS_0, ex := 0, L := R.L_laws_eqWatchS_0 K }
noncomputable def Sg.f_laws_eqWatchS : Fw.PFn := Fw.PFn.get Tryz.f57
noncomputable def Sg.i_laws_eqWatchS : List (Nat × Fw.PFn) := []
noncomputable def Sg.s_laws_eqWatchS (K : Nat) : Fw.Sig := { ins := [.val false (.sl Sg.t11), .val false (.sl Sg.t11)], outs := [⟨false, .bool, false⟩], F := fun x => R.laws_eqWatchS K x.1 x.2.1 }
noncomputable def Sg.c_laws_eqWatchS (K : Nat) : Fw.Cfg := { tab := Sg.tab, eqs := Sg.eqs, sig := [(124, Sg.s_laws_eqWatch K)], inl := [], lo := Sg.p_laws_eqWatchS_0 K :: [], K := K, jo := ⟨57, 0, 6, 0, 6, none⟩ :: [], opn := Sg.opn }
noncomputable def Sg.f_laws_eqOp : Fw.PFn := Fw.PFn.get Tryz.f33
noncomputable def Sg.i_laws_eqOp : List (Nat × Fw.PFn) := []
noncomputable def Sg.s_laws_eqOp (K : Nat) : Fw.Sig := { ins := [.val true Sg.t18, .val true Sg.t18], outs := [⟨false, .bool, false⟩], F := fun x => R.laws_eqOp K x.1 x.2.1 }
noncomputable def Sg.c_laws_eqOp (K : Nat) : Fw.Cfg := { tab := Sg.tab, eqs := Sg.eqs, sig := [(85, Sg.s_laws_eqEditS K)], inl := [], lo := [], K := K, jo := [], opn := Sg.opn }
def Sg.h_laws_eqStringS_0 : Fw.StSh := ⟨[(0, (.d (.sl .str))), (1, (.d (.sl .str))), (4, (.d .bool)), (5, (.d (.int .i64)))], [], 0, 26, ⟨0, []⟩⟩
def Sg.o_laws_eqStringS_0 : Fw.StSh := ⟨[(4, (.d .bool))], [], 0, 26, ⟨0, []⟩⟩
def Sg.r_laws_eqStringS_0 : Fw.StSh := ⟨[(4, (.d .bool))], [], 0, 26, ⟨0, []⟩⟩
noncomputable def Sg.p_laws_eqStringS_0 (K : Nat) : Fw.LSpec := { g := 17, b := 0, lv := 6, l0 := 0, li := 0, head := Sg.h_laws_eqStringS_0, post := Sg.o_laws_eqStringS_0, retn := Sg.r_laws_eqStringS_0, ex := 0, L := R.L_laws_eqStringS_0 K }
noncomputable def Sg.f_laws_eqStringS : Fw.PFn := Fw.PFn.get Tryz.f17
noncomputable def Sg.i_laws_eqStringS : List (Nat × Fw.PFn) := []
noncomputable def Sg.s_laws_eqStringS (K : Nat) : Fw.Sig := { ins := [.val false (.sl .str), .val false (.sl .str)], outs := [⟨false, .bool, false⟩], F := fun x => R.laws_eqStringS K x.1 x.2.1 }
noncomputable def Sg.c_laws_eqStringS (K : Nat) : Fw.Cfg := { tab := Sg.tab, eqs := Sg.eqs, sig := [], inl := [], lo := Sg.p_laws_eqStringS_0 K :: [], K := K, jo := ⟨17, 0, 6, 0, 6, none⟩ :: [], opn := Sg.opn }
noncomputable def Sg.f_laws_eqResult : Fw.PFn := Fw.PFn.get Tryz.f32
noncomputable def Sg.i_laws_eqResult : List (Nat × Fw.PFn) := []
noncomputable def Sg.s_laws_eqResult (K : Nat) : Fw.Sig := { ins := [.val true Sg.t16, .val true Sg.t16], outs := [⟨false, .bool, false⟩], F := fun x => R.laws_eqResult K x.1 x.2.1 }
noncomputable def Sg.c_laws_eqResult (K : Nat) : Fw.Cfg := { tab := Sg.tab, eqs := Sg.eqs, sig := [(76, Sg.s_laws_eqEntryS K), (17, Sg.s_laws_eqStringS K)], inl := [], lo := [], K := K, jo := [], opn := Sg.opn }
noncomputable def Sg.f_laws_eqMoment : Fw.PFn := Fw.PFn.get Tryz.f125
noncomputable def Sg.i_laws_eqMoment : List (Nat × Fw.PFn) := []
noncomputable def Sg.s_laws_eqMoment (K : Nat) : Fw.Sig := { ins := [.val true Sg.t27, .val true Sg.t27], outs := [⟨false, .bool, false⟩], F := fun x => R.laws_eqMoment K x.1 x.2.1 }
noncomputable def Sg.c_laws_eqMoment (K : Nat) : Fw.Cfg := { tab := Sg.tab, eqs := Sg.eqs, sig := [(33, Sg.s_laws_eqOp K), (32, Sg.s_laws_eqResult K)], inl := [], lo := [], K := K, jo := [], opn := Sg.opn }
def Sg.h_laws_eqMomentS_0 : Fw.StSh := ⟨[(0, (.d (.sl Sg.t27))), (1, (.d (.sl Sg.t27))), (4, (.d .bool)), (5, (.d (.int .i64)))], [], 0, 27, ⟨0, []⟩⟩
def Sg.o_laws_eqMomentS_0 : Fw.StSh := ⟨[(4, (.d .bool))], [], 0, 27, ⟨0, []⟩⟩
def Sg.r_laws_eqMomentS_0 : Fw.StSh := ⟨[(4, (.d .bool))], [], 0, 27, ⟨0, []⟩⟩
noncomputable def Sg.p_laws_eqMomentS_0 (K : Nat) : Fw.LSpec := { g := 58, b := 0, lv := 6, l0 := 0, li := 0, head := Sg.h_laws_eqMomentS_0, post := Sg.o_laws_eqMomentS_0, retn := Sg.r_laws_eqMomentS_0, ex := 0, L := R.L_laws_eqMomentS_0 K }
noncomputable def Sg.f_laws_eqMomentS : Fw.PFn := Fw.PFn.get Tryz.f58
noncomputable def Sg.i_laws_eqMomentS : List (Nat × Fw.PFn) := []
noncomputable def Sg.s_laws_eqMomentS (K : Nat) : Fw.Sig := { ins := [.val false (.sl Sg.t27), .val false (.sl Sg.t27)], outs := [⟨false, .bool, false⟩], F := fun x => R.laws_eqMomentS K x.1 x.2.1 }
noncomputable def Sg.c_laws_eqMomentS (K : Nat) : Fw.Cfg := { tab := Sg.tab, eqs := Sg.eqs, sig := [(125, Sg.s_laws_eqMoment K)], inl := [], lo := Sg.p_laws_eqMomentS_0 K :: [], K := K, jo := ⟨58, 0, 6, 0, 6, none⟩ :: [], opn := Sg.opn }
noncomputable def Sg.f_laws_eqWorld : Fw.PFn := Fw.PFn.get Tryz.f14
noncomputable def Sg.i_laws_eqWorld : List (Nat × Fw.PFn) := []
noncomputable def Sg.s_laws_eqWorld (K : Nat) : Fw.Sig := { ins := [.val true Sg.t31, .val true Sg.t31], outs := [⟨false, .bool, false⟩], F := fun x => R.laws_eqWorld K x.1 x.2.1 }
noncomputable def Sg.c_laws_eqWorld (K : Nat) : Fw.Cfg := { tab := Sg.tab, eqs := Sg.eqs, sig := [(15, Sg.s_laws_eqBase K), (56, Sg.s_laws_eqClientS K), (57, Sg.s_laws_eqWatchS K), (58, Sg.s_laws_eqMomentS K)], inl := [], lo := [], K := K, jo := [], opn := Sg.opn }
def Sg.h_laws_eqWishSS_0 : Fw.StSh := ⟨[(0, (.d (.sl (.sl Sg.t15)))), (1, (.d (.sl (.sl Sg.t15)))), (4, (.d .bool)), (5, (.d (.int .i64)))], [], 0, 27, ⟨0, []⟩⟩
def Sg.o_laws_eqWishSS_0 : Fw.StSh := ⟨[(4, (.d .bool))], [], 0, 27, ⟨0, []⟩⟩
def Sg.r_laws_eqWishSS_0 : Fw.StSh := ⟨[(4, (.d .bool))], [], 0, 27, ⟨0, []⟩⟩
noncomputable def Sg.p_laws_eqWishSS_0 (K : Nat) : Fw.LSpec := { g := 16, b := 0, lv := 6, l0 := 0, li := 0, head := Sg.h_laws_eqWishSS_0, post := Sg.o_laws_eqWishSS_0, retn := Sg.r_laws_eqWishSS_0, ex := 0, L := R.L_laws_eqWishSS_0 K }
noncomputable def Sg.f_laws_eqWishSS : Fw.PFn := Fw.PFn.get Tryz.f16
noncomputable def Sg.i_laws_eqWishSS : List (Nat × Fw.PFn) := []
noncomputable def Sg.s_laws_eqWishSS (K : Nat) : Fw.Sig := { ins := [.val false (.sl (.sl Sg.t15)), .val false (.sl (.sl Sg.t15))], outs := [⟨false, .bool, false⟩], F := fun x => R.laws_eqWishSS K x.1 x.2.1 }
noncomputable def Sg.c_laws_eqWishSS (K : Nat) : Fw.Cfg := { tab := Sg.tab, eqs := Sg.eqs, sig := [(61, Sg.s_laws_eqWishS K)], inl := [], lo := Sg.p_laws_eqWishSS_0 K :: [], K := K, jo := ⟨16, 0, 6, 0, 6, none⟩ :: [], opn := Sg.opn }
def Sg.h_laws_markIntS_0 : Fw.StSh := ⟨[(0, (.row 0)), (1, (.row 0)), (2, (.d (.int .i64))), (5, (.d (.int .i64))), (6, (.d (.int .i64)))], [(0, (.row (.int .i64) true))], 1, 20, ⟨0, []⟩⟩
def Sg.o_laws_markIntS_0 : Fw.StSh := ⟨[(0, (.row 0)), (2, (.d (.int .i64))), (5, (.d (.int .i64)))], [(0, (.row (.int .i64) true))], 1, 20, ⟨0, []⟩⟩
def Sg.r_laws_markIntS_0 : Fw.StSh := ⟨[], [], 1, 20, ⟨0, []⟩⟩
noncomputable def Sg.p_laws_markIntS_0 (K : Nat) : Fw.LSpec := { g := 129, b := 1, lv := 6, l0 := 1, li := 0, head := Sg.h_laws_markIntS_0, post := Sg.o_laws_markIntS_0, retn := Sg.r_laws_markIntS_0, ex := 0, L := R.L_laws_markIntS_0 K }
noncomputable def Sg.f_laws_markIntS : Fw.PFn := Fw.PFn.get Tryz.f129
noncomputable def Sg.i_laws_markIntS : List (Nat × Fw.PFn) := []
noncomputable def Sg.s_laws_markIntS (K : Nat) : Fw.Sig := { ins := [.mut false (.sl (.int .i64)), .val false (.int .i64)], outs := [⟨false, (.int .i64), false⟩], F := fun x => R.laws_markIntS K x.1 x.2.1 }
noncomputable def Sg.c_laws_markIntS (K : Nat) : Fw.Cfg := { tab := Sg.tab, eqs := Sg.eqs, sig := [], inl := [], lo := Sg.p_laws_markIntS_0 K :: [], K := K, jo := [], opn := Sg.opn }
def Sg.h_laws_markText_0 : Fw.StSh := ⟨[(0, (.d (.int .i64))), (2, (.d .str)), (3, (.d .str))], [], 0, 20, ⟨0, []⟩⟩
def Sg.o_laws_markText_0 : Fw.StSh := ⟨[(2, (.d .str)), (3, (.d .str))], [], 0, 20, ⟨0, []⟩⟩
def Sg.r_laws_markText_0 : Fw.StSh := ⟨[], [], 0, 20, ⟨0, []⟩⟩
noncomputable def Sg.p_laws_markText_0 (K : Nat) : Fw.LSpec := { g := 65, b := 0, lv := 6, l0 := 0, li := 0, head := Sg.h_laws_markText_0, post := Sg.o_laws_markText_0, retn := Sg.r_laws_markText_0, ex := 0, L := R.L_laws_markText_0 K }
noncomputable def Sg.f_laws_markText : Fw.PFn := Fw.PFn.get Tryz.f65
noncomputable def Sg.i_laws_markText : List (Nat × Fw.PFn) := []
noncomputable def Sg.s_laws_markText (K : Nat) : Fw.Sig := { ins := [.val false (.int .i64)], outs := [⟨false, .str, false⟩], F := fun x => R.laws_markText K x.1 }
noncomputable def Sg.c_laws_markText (K : Nat) : Fw.Cfg := { tab := Sg.tab, eqs := Sg.eqs, sig := [], inl := [], lo := Sg.p_laws_markText_0 K :: [], K := K, jo := [], opn := Sg.opn }
def Sg.h_laws_markEntryS_0 : Fw.StSh := ⟨[(0, (.row 0)), (1, (.row 0)), (2, (.d (.int .i64))), (5, (.d (.int .i64))), (6, (.d (.int .i64)))], [(0, (.row (.pair .str (.int .i64)) true))], 1, 29, ⟨0, []⟩⟩
def Sg.o_laws_markEntryS_0 : Fw.StSh := ⟨[(0, (.row 0)), (2, (.d (.int .i64))), (5, (.d (.int .i64)))], [(0, (.row (.pair .str (.int .i64)) true))], 1, 29, ⟨0, []⟩⟩
def Sg.r_laws_markEntryS_0 : Fw.StSh := ⟨[], [], 1, 29, ⟨0, []⟩⟩
noncomputable def Sg.p_laws_markEntryS_0 (K : Nat) : Fw.LSpec := { g := 87, b := 1, lv := 6, l0 := 1, li := 0, head := Sg.h_laws_markEntryS_0, post := Sg.o_laws_markEntryS_0, retn := Sg.r_laws_markEntryS_0, ex := 0, L := R.L_laws_markEntryS_0 K }
noncomputable def Sg.f_laws_markEntryS : Fw.PFn := Fw.PFn.get Tryz.f87
noncomputable def Sg.i_laws_markEntryS : List (Nat × Fw.PFn) := []
noncomputable def Sg.s_laws_markEntryS (K : Nat) : Fw.Sig := { ins := [.mut false (.sl (.pair .str (.int .i64))), .val false (.int .i64)], outs := [⟨false, (.int .i64), false⟩], F := fun x => R.laws_markEntryS K x.1 x.2.1 }
noncomputable def Sg.c_laws_markEntryS (K : Nat) : Fw.Cfg := { tab := Sg.tab, eqs := Sg.eqs, sig := [(65, Sg.s_laws_markText K)], inl := [], lo := Sg.p_laws_markEntryS_0 K :: [], K := K, jo := [], opn := Sg.opn }
def Sg.h_laws_markCommitS_0 : Fw.StSh := ⟨[(0, (.row 0)), (1, (.row 0)), (2, (.d (.int .i64))), (5, (.d (.int .i64))), (6, (.d (.int .i64)))], [(0, (.row Sg.t3 true))], 1, 28, ⟨0, []⟩⟩
def Sg.o_laws_markCommitS_0 : Fw.StSh := ⟨[(0, (.row 0)), (2, (.d (.int .i64))), (5, (.d (.int .i64)))], [(0, (.row Sg.t3 true))], 1, 28, ⟨0, []⟩⟩
def Sg.r_laws_markCommitS_0 : Fw.StSh := ⟨[], [], 1, 28, ⟨0, []⟩⟩
noncomputable def Sg.p_laws_markCommitS_0 (K : Nat) : Fw.LSpec := { g := 62, b := 1, lv := 6, l0 := 1, li := 0, head := Sg.h_laws_markCommitS_0, post := Sg.o_laws_markCommitS_0, retn := Sg.r_laws_markCommitS_0, ex := 0, L := R.L_laws_markCommitS_0 K }
noncomputable def Sg.f_laws_markCommitS : Fw.PFn := Fw.PFn.get Tryz.f62
noncomputable def Sg.i_laws_markCommitS : List (Nat × Fw.PFn) := []
noncomputable def Sg.s_laws_markCommitS (K : Nat) : Fw.Sig := { ins := [.mut false (.sl Sg.t3), .val false (.int .i64)], outs := [⟨false, (.int .i64), false⟩], F := fun x => R.laws_markCommitS K x.1 x.2.1 }
noncomputable def Sg.c_laws_markCommitS (K : Nat) : Fw.Cfg := { tab := Sg.tab, eqs := Sg.eqs, sig := [(129, Sg.s_laws_markIntS K), (87, Sg.s_laws_markEntryS K)], inl := [], lo := Sg.p_laws_markCommitS_0 K :: [], K := K, jo := [], opn := Sg.opn }
def Sg.h_laws_markRefS_0 : Fw.StSh := ⟨[(0, (.row 0)), (1, (.row 0)), (2, (.d (.int .i64))), (5, (.d (.int .i64))), (6, (.d (.int .i64)))], [(0, (.row Sg.t5 true))], 1, 45, ⟨0, []⟩⟩
def Sg.o_laws_markRefS_0 : Fw.StSh := ⟨[(0, (.row 0)), (2, (.d (.int .i64))), (5, (.d (.int .i64)))], [(0, (.row Sg.t5 true))], 1, 45, ⟨0, []⟩⟩
def Sg.r_laws_markRefS_0 : Fw.StSh := ⟨[], [], 1, 45, ⟨0, []⟩⟩
noncomputable def Sg.p_laws_markRefS_0 (K : Nat) : Fw.LSpec := { g := 63, b := 1, lv := 6, l0 := 1, li := 0, head := Sg.h_laws_markRefS_0, post := Sg.o_laws_markRefS_0, retn := Sg.r_laws_markRefS_0, ex := 0, L := R.L_laws_markRefS_0 K }
noncomputable def Sg.f_laws_markRefS : Fw.PFn := Fw.PFn.get Tryz.f63
noncomputable def Sg.i_laws_markRefS : List (Nat × Fw.PFn) := []
noncomputable def Sg.s_laws_markRefS (K : Nat) : Fw.Sig := { ins := [.mut false (.sl Sg.t5), .val false (.int .i64)], outs := [⟨false, (.int .i64), false⟩], F := fun x => R.laws_markRefS K x.1 x.2.1 }
noncomputable def Sg.c_laws_markRefS (K : Nat) : Fw.Cfg := { tab := Sg.tab, eqs := Sg.eqs, sig := [(65, Sg.s_laws_markText K)], inl := [], lo := Sg.p_laws_markRefS_0 K :: [], K := K, jo := [], opn := Sg.opn }
noncomputable def Sg.f_laws_markBase : Fw.PFn := Fw.PFn.get Tryz.f18
noncomputable def Sg.i_laws_markBase : List (Nat × Fw.PFn) := []
noncomputable def Sg.s_laws_markBase (K : Nat) : Fw.Sig := { ins := [.mut true Sg.t20, .val false (.int .i64)], outs := [⟨false, (.int .i64), false⟩], F := fun x => R.laws_markBase K x.1 x.2.1 }
noncomputable def Sg.c_laws_markBase (K : Nat) : Fw.Cfg := { tab := Sg.tab, eqs := Sg.eqs, sig := [(62, Sg.s_laws_markCommitS K), (63, Sg.s_laws_markRefS K)], inl := [], lo := [], K := K, jo := [], opn := Sg.opn }
def Sg.h_laws_markEditS_0 : Fw.StSh := ⟨[(0, (.row 0)), (1, (.row 0)), (2, (.d (.int .i64))), (5, (.d (.int .i64))), (6, (.d (.int .i64)))], [(0, (.row (.pair .str (.pair (.int .i64) .bool)) true))], 1, 38, ⟨0, []⟩⟩
def Sg.o_laws_markEditS_0 : Fw.StSh := ⟨[(0, (.row 0)), (2, (.d (.int .i64))), (5, (.d (.int .i64)))], [(0, (.row (.pair .str (.pair (.int .i64) .bool)) true))], 1, 38, ⟨0, []⟩⟩
def Sg.r_laws_markEditS_0 : Fw.StSh := ⟨[], [], 1, 38, ⟨0, []⟩⟩
noncomputable def Sg.p_laws_markEditS_0 (K : Nat) : Fw.LSpec := { g := 86, b := 1, lv := 6, l0 := 1, li := 0, head := Sg.h_laws_markEditS_0, post := Sg.o_laws_markEditS_0, retn := Sg.r_laws_markEditS_0, ex := 0, L := R.L_laws_markEditS_0 K }
noncomputable def Sg.f_laws_markEditS : Fw.PFn := Fw.PFn.get Tryz.f86
noncomputable def Sg.i_laws_markEditS : List (Nat × Fw.PFn) := []
noncomputable def Sg.s_laws_markEditS (K : Nat) : Fw.Sig := { ins := [.mut false (.sl (.pair .str (.pair (.int .i64) .bool))), .val false (.int .i64)], outs := [⟨false, (.int .i64), false⟩], F := fun x => R.laws_markEditS K x.1 x.2.1 }
noncomputable def Sg.c_laws_markEditS (K : Nat) : Fw.Cfg := { tab := Sg.tab, eqs := Sg.eqs, sig := [(65, Sg.s_laws_markText K)], inl := [], lo := Sg.p_laws_markEditS_0 K :: [], K := K, jo := [], opn := Sg.opn }
def Sg.h_laws_markWishS_0 : Fw.StSh := ⟨[(0, (.row 0)), (1, (.row 0)), (2, (.d (.int .i64))), (5, (.d (.int .i64))), (6, (.d (.int .i64)))], [(0, (.row Sg.t15 true))], 1, 52, ⟨0, []⟩⟩
def Sg.o_laws_markWishS_0 : Fw.StSh := ⟨[(0, (.row 0)), (2, (.d (.int .i64))), (5, (.d (.int .i64)))], [(0, (.row Sg.t15 true))], 1, 52, ⟨0, []⟩⟩
def Sg.r_laws_markWishS_0 : Fw.StSh := ⟨[], [], 1, 52, ⟨0, []⟩⟩
noncomputable def Sg.p_laws_markWishS_0 (K : Nat) : Fw.LSpec := { g := 64, b := 1, lv := 6, l0 := 1, li := 0, head := Sg.h_laws_markWishS_0, post := Sg.o_laws_markWishS_0, retn := Sg.r_laws_markWishS_0, ex := 0, L := R.L_laws_markWishS_0 K }
noncomputable def Sg.f_laws_markWishS : Fw.PFn := Fw.PFn.get Tryz.f64
noncomputable def Sg.i_laws_markWishS : List (Nat × Fw.PFn) := []
noncomputable def Sg.s_laws_markWishS (K : Nat) : Fw.Sig := { ins := [.mut false (.sl Sg.t15), .val false (.int .i64)], outs := [⟨false, (.int .i64), false⟩], F := fun x => R.laws_markWishS K x.1 x.2.1 }
noncomputable def Sg.c_laws_markWishS (K : Nat) : Fw.Cfg := { tab := Sg.tab, eqs := Sg.eqs, sig := [(65, Sg.s_laws_markText K), (86, Sg.s_laws_markEditS K)], inl := [], lo := Sg.p_laws_markWishS_0 K :: [], K := K, jo := [], opn := Sg.opn }
def Sg.h_laws_markWishSS_0 : Fw.StSh := ⟨[(0, (.row 0)), (1, (.row 0)), (2, (.d (.int .i64))), (5, (.d (.int .i64))), (6, (.d (.int .i64)))], [(0, (.row (.sl Sg.t15) true))], 1, 20, ⟨0, []⟩⟩
def Sg.o_laws_markWishSS_0 : Fw.StSh := ⟨[(0, (.row 0)), (2, (.d (.int .i64))), (5, (.d (.int .i64)))], [(0, (.row (.sl Sg.t15) true))], 1, 20, ⟨0, []⟩⟩
def Sg.r_laws_markWishSS_0 : Fw.StSh := ⟨[], [], 1, 20, ⟨0, []⟩⟩
noncomputable def Sg.p_laws_markWishSS_0 (K : Nat) : Fw.LSpec := { g := 19, b := 1, lv := 6, l0 := 1, li := 0, head := Sg.h_laws_markWishSS_0, post := Sg.o_laws_markWishSS_0, retn := Sg.r_laws_markWishSS_0, ex := 0, L := R.L_laws_markWishSS_0 K }
noncomputable def Sg.f_laws_markWishSS : Fw.PFn := Fw.PFn.get Tryz.f19
noncomputable def Sg.i_laws_markWishSS : List (Nat × Fw.PFn) := []
noncomputable def Sg.s_laws_markWishSS (K : Nat) : Fw.Sig := { ins := [.mut false (.sl (.sl Sg.t15)), .val false (.int .i64)], outs := [⟨false, (.int .i64), false⟩], F := fun x => R.laws_markWishSS K x.1 x.2.1 }
noncomputable def Sg.c_laws_markWishSS (K : Nat) : Fw.Cfg := { tab := Sg.tab, eqs := Sg.eqs, sig := [(64, Sg.s_laws_markWishS K)], inl := [], lo := Sg.p_laws_markWishSS_0 K :: [], K := K, jo := [], opn := Sg.opn }
def Sg.h_laws_markStringS_0 : Fw.StSh := ⟨[(0, (.row 0)), (1, (.row 0)), (2, (.d (.int .i64))), (5, (.d (.int .i64))), (6, (.d (.int .i64)))], [(0, (.row .str true))], 1, 21, ⟨0, []⟩⟩
def Sg.o_laws_markStringS_0 : Fw.StSh := ⟨[(0, (.row 0)), (2, (.d (.int .i64))), (5, (.d (.int .i64)))], [(0, (.row .str true))], 1, 21, ⟨0, []⟩⟩
def Sg.r_laws_markStringS_0 : Fw.StSh := ⟨[], [], 1, 21, ⟨0, []⟩⟩
noncomputable def Sg.p_laws_markStringS_0 (K : Nat) : Fw.LSpec := { g := 20, b := 1, lv := 6, l0 := 1, li := 0, head := Sg.h_laws_markStringS_0, post := Sg.o_laws_markStringS_0, retn := Sg.r_laws_markStringS_0, ex := 0, L := R.L_laws_markStringS_0 K }
noncomputable def Sg.f_laws_markStringS : Fw.PFn := Fw.PFn.get Tryz.f20
noncomputable def Sg.i_laws_markStringS : List (Nat × Fw.PFn) := []
noncomputable def Sg.s_laws_markStringS (K : Nat) : Fw.Sig := { ins := [.mut false (.sl .str), .val false (.int .i64)], outs := [⟨false, (.int .i64), false⟩], F := fun x => R.laws_markStringS K x.1 x.2.1 }
noncomputable def Sg.c_laws_markStringS (K : Nat) : Fw.Cfg := { tab := Sg.tab, eqs := Sg.eqs, sig := [(65, Sg.s_laws_markText K)], inl := [], lo := Sg.p_laws_markStringS_0 K :: [], K := K, jo := [], opn := Sg.opn }
def Sg.h_laws_markClientS_0 : Fw.StSh := ⟨[(0, (.row 0)), (1, (.row 0)), (2, (.d (.int .i64))), (5, (.d (.int .i64))), (6, (.d (.int .i64)))], [(0, (.row Sg.t26 true))], 1, 77, ⟨0, []⟩⟩
def Sg.o_laws_markClientS_0 : Fw.StSh := ⟨[(0, (.row 0)), (2, (.d (.int .i64))), (5, (.d (.int .i64)))], [(0, (.row Sg.t26 true))], 1, 77, ⟨0, []⟩⟩
def Sg.r_laws_markClientS_0 : Fw.StSh := ⟨[], [], 1, 77, ⟨0, []⟩⟩
noncomputable def Sg.p_laws_markClientS_0 (K : Nat) : Fw.LSpec := { g := 66, b := 1, lv := 6, l0 := 1, li := 0, head := Sg.h_laws_markClientS_0, post := Sg.o_laws_markClientS_0, retn := Sg.r_laws_markClientS_0, ex := 0, L := R.L_laws_markClientS_0 K }
noncomputable def Sg.f_laws_markClientS : Fw.PFn := Fw.PFn.get Tryz.f66
noncomputable def Sg.i_laws_markClientS : List (Nat × Fw.PFn) := []
noncomputable def Sg.s_laws_markClientS (K : Nat) : Fw.Sig := { ins := [.mut false (.sl Sg.t26), .val false (.int .i64)], outs := [⟨false, (.int .i64), false⟩], F := fun x => R.laws_markClientS K x.1 x.2.1 }
noncomputable def Sg.c_laws_markClientS (K : Nat) : Fw.Cfg := { tab := Sg.tab, eqs := Sg.eqs, sig := [(87, Sg.s_laws_markEntryS K), (64, Sg.s_laws_markWishS K)], inl := [], lo := Sg.p_laws_markClientS_0 K :: [], K := K, jo := [], opn := Sg.opn }
def Sg.h_laws_markEventS_0 : Fw.StSh := ⟨[(0, (.row 0)), (1, (.row 0)), (2, (.d (.int .i64))), (5, (.d (.int .i64))), (6, (.d (.int .i64)))], [(0, (.row Sg.t0 true))], 1, 37, ⟨0, []⟩⟩
def Sg.o_laws_markEventS_0 : Fw.StSh := ⟨[(0, (.row 0)), (2, (.d (.int .i64))), (5, (.d (.int .i64)))], [(0, (.row Sg.t0 true))], 1, 37, ⟨0, []⟩⟩
def Sg.r_laws_markEventS_0 : Fw.StSh := ⟨[], [], 1, 37, ⟨0, []⟩⟩
noncomputable def Sg.p_laws_markEventS_0 (K : Nat) : Fw.LSpec := { g := 130, b := 1, lv := 6, l0 := 1, li := 0, head := Sg.h_laws_markEventS_0, post := Sg.o_laws_markEventS_0, retn := Sg.r_laws_markEventS_0, ex := 0, L := R.L_laws_markEventS_0 K }
noncomputable def Sg.f_laws_markEventS : Fw.PFn := Fw.PFn.get Tryz.f130
noncomputable def Sg.i_laws_markEventS : List (Nat × Fw.PFn) := []
noncomputable def Sg.s_laws_markEventS (K : Nat) : Fw.Sig := { ins := [.mut false (.sl Sg.t0), .val false (.int .i64)], outs := [⟨false, (.int .i64), false⟩], F := fun x => R.laws_markEventS K x.1 x.2.1 }
noncomputable def Sg.c_laws_markEventS (K : Nat) : Fw.Cfg := { tab := Sg.tab, eqs := Sg.eqs, sig := [], inl := [], lo := Sg.p_laws_markEventS_0 K :: [], K := K, jo := [], opn := Sg.opn }
def Sg.h_laws_markWatchS_0 : Fw.StSh := ⟨[(0, (.row 0)), (1, (.row 0)), (2, (.d (.int .i64))), (5, (.d (.int .i64))), (6, (.d (.int .i64)))], [(0, (.row Sg.t11 true))], 1, 36, ⟨0, []⟩⟩
def Sg.o_laws_markWatchS_0 : Fw.StSh := ⟨[(0, (.row 0)), (2, (.d (.int .i64))), (5, (.d (.int .i64)))], [(0, (.row Sg.t11 true))], 1, 36, ⟨0, []⟩⟩
def Sg.r_laws_markWatchS_0 : Fw.StSh := ⟨[], [], 1, 36, ⟨0, []⟩⟩
noncomputable def Sg.p_laws_markWatchS_0 (K : Nat) : Fw.LSpec := { g := 67, b := 1, lv := 6, l0 := 1, li := 0, head := Sg.h_laws_markWatchS_0, post := Sg.o_laws_markWatchS_0, retn := Sg.r_laws_markWatchS_0, ex := 0, L := R.L_laws_markWatchS_0 K }
noncomputable def Sg.f_laws_markWatchS : Fw.PFn := Fw.PFn.get Tryz.f67
noncomputable def Sg.i_laws_markWatchS : List (Nat × Fw.PFn) := []
noncomputable def Sg.s_laws_markWatchS (K : Nat) : Fw.Sig := { ins := [.mut false (.sl Sg.t11), .val false (.int .i64)], outs := [⟨false, (.int .i64), false⟩], F := fun x => R.laws_markWatchS K x.1 x.2.1 }
noncomputable def Sg.c_laws_markWatchS (K : Nat) : Fw.Cfg := { tab := Sg.tab, eqs := Sg.eqs, sig := [(65, Sg.s_laws_markText K), (130, Sg.s_laws_markEventS K)], inl := [], lo := Sg.p_laws_markWatchS_0 K :: [], K := K, jo := [], opn := Sg.opn }
def Sg.h_laws_markMomentS_0 : Fw.StSh := ⟨[(0, (.row 0)), (1, (.row 0)), (2, (.d (.int .i64))), (5, (.d (.int .i64))), (6, (.d (.int .i64)))], [(0, (.row Sg.t27 true))], 1, 117, ⟨0, []⟩⟩
def Sg.o_laws_markMomentS_0 : Fw.StSh := ⟨[(0, (.row 0)), (2, (.d (.int .i64))), (5, (.d (.int .i64)))], [(0, (.row Sg.t27 true))], 1, 117, ⟨0, []⟩⟩
def Sg.r_laws_markMomentS_0 : Fw.StSh := ⟨[], [], 1, 117, ⟨0, []⟩⟩
noncomputable def Sg.p_laws_markMomentS_0 (K : Nat) : Fw.LSpec := { g := 68, b := 1, lv := 6, l0 := 1, li := 0, head := Sg.h_laws_markMomentS_0, post := Sg.o_laws_markMomentS_0, retn := Sg.r_laws_markMomentS_0, ex := 0, L := R.L_laws_markMomentS_0 K }
noncomputable def Sg.f_laws_markMomentS : Fw.PFn := Fw.PFn.get Tryz.f68
noncomputable def Sg.i_laws_markMomentS : List (Nat × Fw.PFn) := []
noncomputable def Sg.s_laws_markMomentS (K : Nat) : Fw.Sig := { ins := [.mut false (.sl Sg.t27), .val false (.int .i64)], outs := [⟨false, (.int .i64), false⟩], F := fun x => R.laws_markMomentS K x.1 x.2.1 }
noncomputable def Sg.c_laws_markMomentS (K : Nat) : Fw.Cfg := { tab := Sg.tab, eqs := Sg.eqs, sig := [(65, Sg.s_laws_markText K), (87, Sg.s_laws_markEntryS K), (86, Sg.s_laws_markEditS K), (20, Sg.s_laws_markStringS K)], inl := [], lo := Sg.p_laws_markMomentS_0 K :: [], K := K, jo := [], opn := Sg.opn }
noncomputable def Sg.f_laws_markWorld : Fw.PFn := Fw.PFn.get Tryz.f21
noncomputable def Sg.i_laws_markWorld : List (Nat × Fw.PFn) := []
noncomputable def Sg.s_laws_markWorld (K : Nat) : Fw.Sig := { ins := [.mut true Sg.t31, .val false (.int .i64)], outs := [⟨false, (.int .i64), false⟩], F := fun x => R.laws_markWorld K x.1 x.2.1 }
noncomputable def Sg.c_laws_markWorld (K : Nat) : Fw.Cfg := { tab := Sg.tab, eqs := Sg.eqs, sig := [(18, Sg.s_laws_markBase K), (66, Sg.s_laws_markClientS K), (67, Sg.s_laws_markWatchS K), (68, Sg.s_laws_markMomentS K)], inl := [], lo := [], K := K, jo := [], opn := Sg.opn }
def Sg.h_laws_heldIntS_0 : Fw.StSh := ⟨[(0, (.d (.sl (.int .i64)))), (1, (.d (.int .i64))), (4, (.d (.int .i64))), (5, (.d (.int .i64)))], [], 0, 21, ⟨0, []⟩⟩
def Sg.o_laws_heldIntS_0 : Fw.StSh := ⟨[(1, (.d (.int .i64))), (4, (.d (.int .i64)))], [], 0, 21, ⟨0, []⟩⟩
def Sg.r_laws_heldIntS_0 : Fw.StSh := ⟨[(4, (.d (.int .i64)))], [], 0, 21, ⟨0, []⟩⟩
noncomputable def Sg.p_laws_heldIntS_0 (K : Nat) : Fw.LSpec := { g := 162, b := 0, lv := 6, l0 := 0, li := 0, head := Sg.h_laws_heldIntS_0, post := Sg.o_laws_heldIntS_0, retn := Sg.r_laws_heldIntS_0, ex := 0, L := R.L_laws_heldIntS_0 K }
noncomputable def Sg.f_laws_heldIntS : Fw.PFn := Fw.PFn.get Tryz.f162
noncomputable def Sg.i_laws_heldIntS : List (Nat × Fw.PFn) := []
noncomputable def Sg.s_laws_heldIntS (K : Nat) : Fw.Sig := { ins := [.val false (.sl (.int .i64)), .val false (.int .i64)], outs := [⟨false, (.int .i64), false⟩], F := fun x => R.laws_heldIntS K x.1 x.2.1 }
noncomputable def Sg.c_laws_heldIntS (K : Nat) : Fw.Cfg := { tab := Sg.tab, eqs := Sg.eqs, sig := [], inl := [], lo := Sg.p_laws_heldIntS_0 K :: [], K := K, jo := [], opn := Sg.opn }
def Sg.h_laws_heldEntryS_0 : Fw.StSh := ⟨[(0, (.d (.sl (.pair .str (.int .i64))))), (1, (.d (.int .i64))), (4, (.d (.int .i64))), (5, (.d (.int .i64)))], [], 0, 32, ⟨0, []⟩⟩
def Sg.o_laws_heldEntryS_0 : Fw.StSh := ⟨[(1, (.d (.int .i64))), (4, (.d (.int .i64)))], [], 0, 32, ⟨0, []⟩⟩
def Sg.r_laws_heldEntryS_0 : Fw.StSh := ⟨[(4, (.d (.int .i64)))], [], 0, 32, ⟨0, []⟩⟩
noncomputable def Sg.p_laws_heldEntryS_0 (K : Nat) : Fw.LSpec := { g := 91, b := 0, lv := 6, l0 := 0, li := 0, head := Sg.h_laws_heldEntryS_0, post := Sg.o_laws_heldEntryS_0, retn := Sg.r_laws_heldEntryS_0, ex := 0, L := R.L_laws_heldEntryS_0 K }
noncomputable def Sg.f_laws_heldEntryS : Fw.PFn := Fw.PFn.get Tryz.f91
noncomputable def Sg.i_laws_heldEntryS : List (Nat × Fw.PFn) := []
noncomputable def Sg.s_laws_heldEntryS (K : Nat) : Fw.Sig := { ins := [.val false (.sl (.pair .str (.int .i64))), .val false (.int .i64)], outs := [⟨false, (.int .i64), false⟩], F := fun x => R.laws_heldEntryS K x.1 x.2.1 }
noncomputable def Sg.c_laws_heldEntryS (K : Nat) : Fw.Cfg := { tab := Sg.tab, eqs := Sg.eqs, sig := [(65, Sg.s_laws_markText K)], inl := [], lo := Sg.p_laws_heldEntryS_0 K :: [], K := K, jo := ⟨91, 0, 6, 0, 4, none⟩ :: [], opn := Sg.opn }
def Sg.h_laws_heldCommitS_0 : Fw.StSh := ⟨[(0, (.d (.sl Sg.t3))), (1, (.d (.int .i64))), (4, (.d (.int .i64))), (5, (.d (.int .i64)))], [], 0, 31, ⟨0, []⟩⟩
def Sg.o_laws_heldCommitS_0 : Fw.StSh := ⟨[(1, (.d (.int .i64))), (4, (.d (.int .i64)))], [], 0, 31, ⟨0, []⟩⟩
def Sg.r_laws_heldCommitS_0 : Fw.StSh := ⟨[(4, (.d (.int .i64)))], [], 0, 31, ⟨0, []⟩⟩
noncomputable def Sg.p_laws_heldCommitS_0 (K : Nat) : Fw.LSpec := { g := 88, b := 0, lv := 6, l0 := 0, li := 0, head := Sg.h_laws_heldCommitS_0, post := Sg.o_laws_heldCommitS_0, retn := Sg.r_laws_heldCommitS_0, ex := 0, L := R.L_laws_heldCommitS_0 K }
noncomputable def Sg.f_laws_heldCommitS : Fw.PFn := Fw.PFn.get Tryz.f88
noncomputable def Sg.i_laws_heldCommitS : List (Nat × Fw.PFn) := []
noncomputable def Sg.s_laws_heldCommitS (K : Nat) : Fw.Sig := { ins := [.val false (.sl Sg.t3), .val false (.int .i64)], outs := [⟨false, (.int .i64), false⟩], F := fun x => R.laws_heldCommitS K x.1 x.2.1 }
noncomputable def Sg.c_laws_heldCommitS (K : Nat) : Fw.Cfg := { tab := Sg.tab, eqs := Sg.eqs, sig := [(162, Sg.s_laws_heldIntS K), (91, Sg.s_laws_heldEntryS K)], inl := [], lo := Sg.p_laws_heldCommitS_0 K :: [], K := K, jo := [], opn := Sg.opn }
def Sg.h_laws_heldRefS_0 : Fw.StSh := ⟨[(0, (.d (.sl Sg.t5))), (1, (.d (.int .i64))), (4, (.d (.int .i64))), (5, (.d (.int .i64)))], [], 0, 52, ⟨0, []⟩⟩
def Sg.o_laws_heldRefS_0 : Fw.StSh := ⟨[(1, (.d (.int .i64))), (4, (.d (.int .i64)))], [], 0, 52, ⟨0, []⟩⟩
def Sg.r_laws_heldRefS_0 : Fw.StSh := ⟨[(4, (.d (.int .i64)))], [], 0, 52, ⟨0, []⟩⟩
noncomputable def Sg.p_laws_heldRefS_0 (K : Nat) : Fw.LSpec := { g := 89, b := 0, lv := 6, l0 := 0, li := 0, head := Sg.h_laws_heldRefS_0, post := Sg.o_laws_heldRefS_0, retn := Sg.r_laws_heldRefS_0, ex := 0, L := R.L_laws_heldRefS_0 K }
noncomputable def Sg.f_laws_heldRefS : Fw.PFn := Fw.PFn.get Tryz.f89
noncomputable def Sg.i_laws_heldRefS : List (Nat × Fw.PFn) := []
noncomputable def Sg.s_laws_heldRefS (K : Nat) : Fw.Sig := { ins := [.val false (.sl Sg.t5), .val false (.int .i64)], outs := [⟨false, (.int .i64), false⟩], F := fun x => R.laws_heldRefS K x.1 x.2.1 }
noncomputable def Sg.c_laws_heldRefS (K : Nat) : Fw.Cfg := { tab := Sg.tab, eqs := Sg.eqs, sig := [(65, Sg.s_laws_markText K)], inl := [], lo := Sg.p_laws_heldRefS_0 K :: [], K := K, jo := ⟨89, 0, 6, 0, 4, none⟩ :: [], opn := Sg.opn }
noncomputable def Sg.f_laws_heldBase : Fw.PFn := Fw.PFn.get Tryz.f36
noncomputable def Sg.i_laws_heldBase : List (Nat × Fw.PFn) := []
noncomputable def Sg.s_laws_heldBase (K : Nat) : Fw.Sig := { ins := [.val true Sg.t20, .val false (.int .i64)], outs := [⟨false, (.int .i64), false⟩], F := fun x => R.laws_heldBase K x.1 x.2.1 }
noncomputable def Sg.c_laws_heldBase (K : Nat) : Fw.Cfg := { tab := Sg.tab, eqs := Sg.eqs, sig := [(88, Sg.s_laws_heldCommitS K), (89, Sg.s_laws_heldRefS K)], inl := [], lo := [], K := K, jo := [], opn := Sg.opn }
def Sg.h_laws_heldEditS_0 : Fw.StSh := ⟨[(0, (.d (.sl (.pair .str (.pair (.int .i64) .bool))))), (1, (.d (.int .i64))), (4, (.d (.int .i64))), (5, (.d (.int .i64)))], [], 0, 43, ⟨0, []⟩⟩
def Sg.o_laws_heldEditS_0 : Fw.StSh := ⟨[(1, (.d (.int .i64))), (4, (.d (.int .i64)))], [], 0, 43, ⟨0, []⟩⟩
def Sg.r_laws_heldEditS_0 : Fw.StSh := ⟨[(4, (.d (.int .i64)))], [], 0, 43, ⟨0, []⟩⟩
noncomputable def Sg.p_laws_heldEditS_0 (K : Nat) : Fw.LSpec := { g := 133, b := 0, lv := 6, l0 := 0, li := 0, head := Sg.h_laws_heldEditS_0, post := Sg.o_laws_heldEditS_0, retn := Sg.r_laws_heldEditS_0, ex := 0, L := R.L_laws_heldEditS_0 K }
noncomputable def Sg.f_laws_heldEditS : Fw.PFn := Fw.PFn.get Tryz.f133
noncomputable def Sg.i_laws_heldEditS : List (Nat × Fw.PFn) := []
noncomputable def Sg.s_laws_heldEditS (K : Nat) : Fw.Sig := { ins := [.val false (.sl (.pair .str (.pair (.int .i64) .bool))), .val false (.int .i64)], outs := [⟨false, (.int .i64), false⟩], F := fun x => R.laws_heldEditS K x.1 x.2.1 }
noncomputable def Sg.c_laws_heldEditS (K : Nat) : Fw.Cfg := { tab := Sg.tab, eqs := Sg.eqs, sig := [(65, Sg.s_laws_markText K)], inl := [], lo := Sg.p_laws_heldEditS_0 K :: [], K := K, jo := ⟨133, 0, 6, 0, 4, none⟩ :: [], opn := Sg.opn }
def Sg.h_laws_heldWishS_0 : Fw.StSh := ⟨[(0, (.d (.sl Sg.t15))), (1, (.d (.int .i64))), (4, (.d (.int .i64))), (5, (.d (.int .i64)))], [], 0, 61, ⟨0, []⟩⟩
def Sg.o_laws_heldWishS_0 : Fw.StSh := ⟨[(1, (.d (.int .i64))), (4, (.d (.int .i64)))], [], 0, 61, ⟨0, []⟩⟩
def Sg.r_laws_heldWishS_0 : Fw.StSh := ⟨[(4, (.d (.int .i64)))], [], 0, 61, ⟨0, []⟩⟩
noncomputable def Sg.p_laws_heldWishS_0 (K : Nat) : Fw.LSpec := { g := 131, b := 0, lv := 6, l0 := 0, li := 0, head := Sg.h_laws_heldWishS_0, post := Sg.o_laws_heldWishS_0, retn := Sg.r_laws_heldWishS_0, ex := 0, L := R.L_laws_heldWishS_0 K }
noncomputable def Sg.f_laws_heldWishS : Fw.PFn := Fw.PFn.get Tryz.f131
noncomputable def Sg.i_laws_heldWishS : List (Nat × Fw.PFn) := []
noncomputable def Sg.s_laws_heldWishS (K : Nat) : Fw.Sig := { ins := [.val false (.sl Sg.t15), .val false (.int .i64)], outs := [⟨false, (.int .i64), false⟩], F := fun x => R.laws_heldWishS K x.1 x.2.1 }
noncomputable def Sg.c_laws_heldWishS (K : Nat) : Fw.Cfg := { tab := Sg.tab, eqs := Sg.eqs, sig := [(65, Sg.s_laws_markText K), (133, Sg.s_laws_heldEditS K)], inl := [], lo := Sg.p_laws_heldWishS_0 K :: [], K := K, jo := ⟨131, 0, 6, 0, 7, none⟩ :: ⟨131, 0, 6, 0, 10, none⟩ :: ⟨131, 0, 6, 0, 13, none⟩ :: [], opn := Sg.opn }
def Sg.h_laws_heldClientS_0 : Fw.StSh := ⟨[(0, (.d (.sl Sg.t26))), (1, (.d (.int .i64))), (4, (.d (.int .i64))), (5, (.d (.int .i64)))], [], 0, 94, ⟨0, []⟩⟩
def Sg.o_laws_heldClientS_0 : Fw.StSh := ⟨[(1, (.d (.int .i64))), (4, (.d (.int .i64)))], [], 0, 94, ⟨0, []⟩⟩
def Sg.r_laws_heldClientS_0 : Fw.StSh := ⟨[(4, (.d (.int .i64)))], [], 0, 94, ⟨0, []⟩⟩
noncomputable def Sg.p_laws_heldClientS_0 (K : Nat) : Fw.LSpec := { g := 69, b := 0, lv := 6, l0 := 0, li := 0, head := Sg.h_laws_heldClientS_0, post := Sg.o_laws_heldClientS_0, retn := Sg.r_laws_heldClientS_0, ex := 0, L := R.L_laws_heldClientS_0 K }
noncomputable def Sg.f_laws_heldClientS : Fw.PFn := Fw.PFn.get Tryz.f69
noncomputable def Sg.i_laws_heldClientS : List (Nat × Fw.PFn) := []
noncomputable def Sg.s_laws_heldClientS (K : Nat) : Fw.Sig := { ins := [.val false (.sl Sg.t26), .val false (.int .i64)], outs := [⟨false, (.int .i64), false⟩], F := fun x => R.laws_heldClientS K x.1 x.2.1 }
noncomputable def Sg.c_laws_heldClientS (K : Nat) : Fw.Cfg := { tab := Sg.tab, eqs := Sg.eqs, sig := [(91, Sg.s_laws_heldEntryS K), (131, Sg.s_laws_heldWishS K)], inl := [], lo := Sg.p_laws_heldClientS_0 K :: [], K := K, jo := [], opn := Sg.opn }
def Sg.h_laws_heldEventS_0 : Fw.StSh := ⟨[(0, (.d (.sl Sg.t0))), (1, (.d (.int .i64))), (4, (.d (.int .i64))), (5, (.d (.int .i64)))], [], 0, 42, ⟨0, []⟩⟩
def Sg.o_laws_heldEventS_0 : Fw.StSh := ⟨[(1, (.d (.int .i64))), (4, (.d (.int .i64)))], [], 0, 42, ⟨0, []⟩⟩
def Sg.r_laws_heldEventS_0 : Fw.StSh := ⟨[(4, (.d (.int .i64)))], [], 0, 42, ⟨0, []⟩⟩
noncomputable def Sg.p_laws_heldEventS_0 (K : Nat) : Fw.LSpec := { g := 132, b := 0, lv := 6, l0 := 0, li := 0, head := Sg.h_laws_heldEventS_0, post := Sg.o_laws_heldEventS_0, retn := Sg.r_laws_heldEventS_0, ex := 0, L := R.L_laws_heldEventS_0 K }
noncomputable def Sg.f_laws_heldEventS : Fw.PFn := Fw.PFn.get Tryz.f132
noncomputable def Sg.i_laws_heldEventS : List (Nat × Fw.PFn) := []
noncomputable def Sg.s_laws_heldEventS (K : Nat) : Fw.Sig := { ins := [.val false (.sl Sg.t0), .val false (.int .i64)], outs := [⟨false, (.int .i64), false⟩], F := fun x => R.laws_heldEventS K x.1 x.2.1 }
noncomputable def Sg.c_laws_heldEventS (K : Nat) : Fw.Cfg := { tab := Sg.tab, eqs := Sg.eqs, sig := [], inl := [], lo := Sg.p_laws_heldEventS_0 K :: [], K := K, jo := [], opn := Sg.opn }
def Sg.h_laws_heldWatchS_0 : Fw.StSh := ⟨[(0, (.d (.sl Sg.t11))), (1, (.d (.int .i64))), (4, (.d (.int .i64))), (5, (.d (.int .i64)))], [], 0, 41, ⟨0, []⟩⟩
def Sg.o_laws_heldWatchS_0 : Fw.StSh := ⟨[(1, (.d (.int .i64))), (4, (.d (.int .i64)))], [], 0, 41, ⟨0, []⟩⟩
def Sg.r_laws_heldWatchS_0 : Fw.StSh := ⟨[(4, (.d (.int .i64)))], [], 0, 41, ⟨0, []⟩⟩
noncomputable def Sg.p_laws_heldWatchS_0 (K : Nat) : Fw.LSpec := { g := 70, b := 0, lv := 6, l0 := 0, li := 0, head := Sg.h_laws_heldWatchS_0, post := Sg.o_laws_heldWatchS_0, retn := Sg.r_laws_heldWatchS_0, ex := 0, L := R.L_laws_heldWatchS_0 K }
noncomputable def Sg.f_laws_heldWatchS : Fw.PFn := Fw.PFn.get Tryz.f70
noncomputable def Sg.i_laws_heldWatchS : List (Nat × Fw.PFn) := []
noncomputable def Sg.s_laws_heldWatchS (K : Nat) : Fw.Sig := { ins := [.val false (.sl Sg.t11), .val false (.int .i64)], outs := [⟨false, (.int .i64), false⟩], F := fun x => R.laws_heldWatchS K x.1 x.2.1 }
noncomputable def Sg.c_laws_heldWatchS (K : Nat) : Fw.Cfg := { tab := Sg.tab, eqs := Sg.eqs, sig := [(65, Sg.s_laws_markText K), (132, Sg.s_laws_heldEventS K)], inl := [], lo := Sg.p_laws_heldWatchS_0 K :: [], K := K, jo := ⟨70, 0, 6, 0, 4, none⟩ :: [], opn := Sg.opn }
def Sg.h_laws_heldStringS_0 : Fw.StSh := ⟨[(0, (.d (.sl .str))), (1, (.d (.int .i64))), (4, (.d (.int .i64))), (5, (.d (.int .i64)))], [], 0, 22, ⟨0, []⟩⟩
def Sg.o_laws_heldStringS_0 : Fw.StSh := ⟨[(1, (.d (.int .i64))), (4, (.d (.int .i64)))], [], 0, 22, ⟨0, []⟩⟩
def Sg.r_laws_heldStringS_0 : Fw.StSh := ⟨[(4, (.d (.int .i64)))], [], 0, 22, ⟨0, []⟩⟩
noncomputable def Sg.p_laws_heldStringS_0 (K : Nat) : Fw.LSpec := { g := 90, b := 0, lv := 6, l0 := 0, li := 0, head := Sg.h_laws_heldStringS_0, post := Sg.o_laws_heldStringS_0, retn := Sg.r_laws_heldStringS_0, ex := 0, L := R.L_laws_heldStringS_0 K }
noncomputable def Sg.f_laws_heldStringS : Fw.PFn := Fw.PFn.get Tryz.f90
noncomputable def Sg.i_laws_heldStringS : List (Nat × Fw.PFn) := []
noncomputable def Sg.s_laws_heldStringS (K : Nat) : Fw.Sig := { ins := [.val false (.sl .str), .val false (.int .i64)], outs := [⟨false, (.int .i64), false⟩], F := fun x => R.laws_heldStringS K x.1 x.2.1 }
noncomputable def Sg.c_laws_heldStringS (K : Nat) : Fw.Cfg := { tab := Sg.tab, eqs := Sg.eqs, sig := [(65, Sg.s_laws_markText K)], inl := [], lo := Sg.p_laws_heldStringS_0 K :: [], K := K, jo := ⟨90, 0, 6, 0, 4, none⟩ :: [], opn := Sg.opn }
def Sg.h_laws_heldMomentS_0 : Fw.StSh := ⟨[(0, (.d (.sl Sg.t27))), (1, (.d (.int .i64))), (4, (.d (.int .i64))), (5, (.d (.int .i64)))], [], 0, 142, ⟨0, []⟩⟩
def Sg.o_laws_heldMomentS_0 : Fw.StSh := ⟨[(1, (.d (.int .i64))), (4, (.d (.int .i64)))], [], 0, 142, ⟨0, []⟩⟩
def Sg.r_laws_heldMomentS_0 : Fw.StSh := ⟨[(4, (.d (.int .i64)))], [], 0, 142, ⟨0, []⟩⟩
noncomputable def Sg.p_laws_heldMomentS_0 (K : Nat) : Fw.LSpec := { g := 71, b := 0, lv := 6, l0 := 0, li := 0, head := Sg.h_laws_heldMomentS_0, post := Sg.o_laws_heldMomentS_0, retn := Sg.r_laws_heldMomentS_0, ex := 0, L := R.L_laws_heldMomentS_0 K }
noncomputable def Sg.f_laws_heldMomentS : Fw.PFn := Fw.PFn.get Tryz.f71
noncomputable def Sg.i_laws_heldMomentS : List (Nat × Fw.PFn) := []
noncomputable def Sg.s_laws_heldMomentS (K : Nat) : Fw.Sig := { ins := [.val false (.sl Sg.t27), .val false (.int .i64)], outs := [⟨false, (.int .i64), false⟩], F := fun x => R.laws_heldMomentS K x.1 x.2.1 }
noncomputable def Sg.c_laws_heldMomentS (K : Nat) : Fw.Cfg := { tab := Sg.tab, eqs := Sg.eqs, sig := [(65, Sg.s_laws_markText K), (91, Sg.s_laws_heldEntryS K), (133, Sg.s_laws_heldEditS K), (90, Sg.s_laws_heldStringS K)], inl := [], lo := Sg.p_laws_heldMomentS_0 K :: [], K := K, jo := ⟨71, 0, 6, 0, 19, none⟩ :: ⟨71, 0, 6, 0, 22, none⟩ :: [], opn := Sg.opn }
noncomputable def Sg.f_laws_heldWorld : Fw.PFn := Fw.PFn.get Tryz.f22
noncomputable def Sg.i_laws_heldWorld : List (Nat × Fw.PFn) := []
noncomputable def Sg.s_laws_heldWorld (K : Nat) : Fw.Sig := { ins := [.val true Sg.t31, .val false (.int .i64)], outs := [⟨false, (.int .i64), false⟩], F := fun x => R.laws_heldWorld K x.1 x.2.1 }
noncomputable def Sg.c_laws_heldWorld (K : Nat) : Fw.Cfg := { tab := Sg.tab, eqs := Sg.eqs, sig := [(36, Sg.s_laws_heldBase K), (69, Sg.s_laws_heldClientS K), (70, Sg.s_laws_heldWatchS K), (71, Sg.s_laws_heldMomentS K)], inl := [], lo := [], K := K, jo := [], opn := Sg.opn }
noncomputable def Sg.f_laws_FnExactNewWorld : Fw.PFn := Fw.PFn.get Tryz.f3
noncomputable def Sg.i_laws_FnExactNewWorld : List (Nat × Fw.PFn) := []
noncomputable def Sg.s_laws_FnExactNewWorld (K : Nat) : Fw.Sig := { ins := [.val true Sg.t20, .val false (.sl (.sl Sg.t15)), .val false (.sl .str)], outs := [⟨false, .bool, false⟩], F := fun x => R.laws_FnExactNewWorld K x.1 x.2.1 x.2.2.1 }
noncomputable def Sg.c_laws_FnExactNewWorld (K : Nat) : Fw.Cfg := { tab := Sg.tab, eqs := Sg.eqs, sig := [(6, Sg.s_laws_szBase K), (7, Sg.s_laws_szWishSS K), (8, Sg.s_laws_szStringS K), (10, Sg.s_laws_toBase K), (11, Sg.s_laws_toWishSS K), (12, Sg.s_laws_toStringS K), (9, Sg.s_spec_NewWorld K), (13, Sg.s_impl_NewWorld K), (15, Sg.s_laws_eqBase K), (17, Sg.s_laws_eqStringS K), (14, Sg.s_laws_eqWorld K), (16, Sg.s_laws_eqWishSS K), (18, Sg.s_laws_markBase K), (19, Sg.s_laws_markWishSS K), (20, Sg.s_laws_markStringS K), (21, Sg.s_laws_markWorld K), (22, Sg.s_laws_heldWorld K)], inl := [], lo := [], K := K, jo := ⟨3, 0, 6, 0, 18, none⟩ :: [], opn := Sg.opn }
theorem fun_laws_szIntS : Tryz.prog.funcs[163]? = some Tryz.f163 := by kernel_rfl
theorem call_laws_szIntS : Fw.Callable Tryz.prog 163 := Fw.callable_of fun_laws_szIntS (by kernel_rfl) (by kernel_rfl)
theorem pf_laws_szIntS : Fw.PFn.of Tryz.f163 = some Sg.f_laws_szIntS := Fw.PFn.of_get (by kernel_rfl)
theorem ok_laws_szIntS (K : Nat) : Fw.Ok Tryz.prog 163 (Sg.s_laws_szIntS K) := Fw.funP_ok (c := Sg.c_laws_szIntS K) (pi := Sg.i_laws_szIntS) (depth := 6) (Fw.cfgP_ok (pi := Sg.i_laws_szIntS) Sg.tabOK Sg.eqsOK Sg.mixOK trivial trivial trivial pf_laws_szIntS trivial rfl) trivial pf_laws_szIntS fun_laws_szIntS call_laws_szIntS (fun x => by kernel_rfl)
theorem fun_laws_szEntry : Tryz.prog.funcs[134]? = some Tryz.f134 := by kernel_rfl
theorem call_laws_szEntry : Fw.Callable Tryz.prog 134 := Fw.callable_of fun_laws_szEntry (by kernel_rfl) (by kernel_rfl)
theorem pf_laws_szEntry : Fw.PFn.of Tryz.f134 = some Sg.f_laws_szEntry := Fw.PFn.of_get (by kernel_rfl)
theorem ok_laws_szEntry (K : Nat) : Fw.Ok Tryz.prog 134 (Sg.s_laws_szEntry K) := Fw.funP_ok (c := Sg.c_laws_szEntry K) (pi := Sg.i_laws_szEntry) (depth := 6) (Fw.cfgP_ok (pi := Sg.i_laws_szEntry) Sg.tabOK Sg.eqsOK Sg.mixOK trivial trivial trivial pf_laws_szEntry trivial rfl) trivial pf_laws_szEntry fun_laws_szEntry call_laws_szEntry (fun x => by kernel_rfl)
theorem fun_laws_szEntryS : Tryz.prog.funcs[72]? = some Tryz.f72 := by kernel_rfl
theorem call_laws_szEntryS : Fw.Callable Tryz.prog 72 := Fw.callable_of fun_laws_szEntryS (by kernel_rfl) (by kernel_rfl)
theorem pf_laws_szEntryS : Fw.PFn.of Tryz.f72 = some Sg.f_laws_szEntryS := Fw.PFn.of_get (by kernel_rfl)
theorem l_laws_szEntryS_0 (K : Nat) : Fw.LoopP (Sg.c_laws_szEntryS K) Sg.i_laws_szEntryS Sg.f_laws_szEntryS (Sg.p_laws_szEntryS_0 K) := ⟨fun _ => by kernel_rfl, fun n p => by kernel_rfl⟩
theorem ok_laws_szEntryS (K : Nat) : Fw.Ok Tryz.prog 72 (Sg.s_laws_szEntryS K) := Fw.funP_ok (c := Sg.c_laws_szEntryS K) (pi := Sg.i_laws_szEntryS) (depth := 6) (Fw.cfgP_ok (pi := Sg.i_laws_szEntryS) Sg.tabOK Sg.eqsOK Sg.mixOK ⟨ok_laws_szEntry K, trivial⟩ trivial trivial pf_laws_szEntryS ⟨⟨_, rfl, l_laws_szEntryS_0 K⟩, trivial⟩ rfl) trivial pf_laws_szEntryS fun_laws_szEntryS call_laws_szEntryS (fun x => by kernel_rfl)
theorem fun_laws_szCommit : Tryz.prog.funcs[92]? = some Tryz.f92 := by kernel_rfl
theorem call_laws_szCommit : Fw.Callable Tryz.prog 92 := Fw.callable_of fun_laws_szCommit (by kernel_rfl) (by kernel_rfl)
theorem pf_laws_szCommit : Fw.PFn.of Tryz.f92 = some Sg.f_laws_szCommit := Fw.PFn.of_get (by kernel_rfl)
theorem ok_laws_szCommit (K : Nat) : Fw.Ok Tryz.prog 92 (Sg.s_laws_szCommit K) := Fw.funP_ok (c := Sg.c_laws_szCommit K) (pi := Sg.i_laws_szCommit) (depth := 6) (Fw.cfgP_ok (pi := Sg.i_laws_szCommit) Sg.tabOK Sg.eqsOK Sg.mixOK ⟨ok_laws_szIntS K, ok_laws_szEntryS K, trivial⟩ trivial trivial pf_laws_szCommit trivial rfl) trivial pf_laws_szCommit fun_laws_szCommit call_laws_szCommit (fun x => by kernel_rfl)
theorem fun_laws_szCommitS : Tryz.prog.funcs[38]? = some Tryz.f38 := by kernel_rfl
theorem call_laws_szCommitS : Fw.Callable Tryz.prog 38 := Fw.callable_of fun_laws_szCommitS (by kernel_rfl) (by kernel_rfl)
theorem pf_laws_szCommitS : Fw.PFn.of Tryz.f38 = some Sg.f_laws_szCommitS := Fw.PFn.of_get (by kernel_rfl)
theorem l_laws_szCommitS_0 (K : Nat) : Fw.LoopP (Sg.c_laws_szCommitS K) Sg.i_laws_szCommitS Sg.f_laws_szCommitS (Sg.p_laws_szCommitS_0 K) := ⟨fun _ => by kernel_rfl, fun n p => by kernel_rfl⟩
theorem ok_laws_szCommitS (K : Nat) : Fw.Ok Tryz.prog 38 (Sg.s_laws_szCommitS K) := Fw.funP_ok (c := Sg.c_laws_szCommitS K) (pi := Sg.i_laws_szCommitS) (depth := 6) (Fw.cfgP_ok (pi := Sg.i_laws_szCommitS) Sg.tabOK Sg.eqsOK Sg.mixOK ⟨ok_laws_szCommit K, trivial⟩ trivial trivial pf_laws_szCommitS ⟨⟨_, rfl, l_laws_szCommitS_0 K⟩, trivial⟩ rfl) trivial pf_laws_szCommitS fun_laws_szCommitS call_laws_szCommitS (fun x => by kernel_rfl)
theorem fun_laws_szRef : Tryz.prog.funcs[93]? = some Tryz.f93 := by kernel_rfl
theorem call_laws_szRef : Fw.Callable Tryz.prog 93 := Fw.callable_of fun_laws_szRef (by kernel_rfl) (by kernel_rfl)
theorem pf_laws_szRef : Fw.PFn.of Tryz.f93 = some Sg.f_laws_szRef := Fw.PFn.of_get (by kernel_rfl)
theorem ok_laws_szRef (K : Nat) : Fw.Ok Tryz.prog 93 (Sg.s_laws_szRef K) := Fw.funP_ok (c := Sg.c_laws_szRef K) (pi := Sg.i_laws_szRef) (depth := 6) (Fw.cfgP_ok (pi := Sg.i_laws_szRef) Sg.tabOK Sg.eqsOK Sg.mixOK trivial trivial trivial pf_laws_szRef trivial rfl) trivial pf_laws_szRef fun_laws_szRef call_laws_szRef (fun x => by kernel_rfl)
theorem fun_laws_szRefS : Tryz.prog.funcs[39]? = some Tryz.f39 := by kernel_rfl
theorem call_laws_szRefS : Fw.Callable Tryz.prog 39 := Fw.callable_of fun_laws_szRefS (by kernel_rfl) (by kernel_rfl)
theorem pf_laws_szRefS : Fw.PFn.of Tryz.f39 = some Sg.f_laws_szRefS := Fw.PFn.of_get (by kernel_rfl)
theorem l_laws_szRefS_0 (K : Nat) : Fw.LoopP (Sg.c_laws_szRefS K) Sg.i_laws_szRefS Sg.f_laws_szRefS (Sg.p_laws_szRefS_0 K) := ⟨fun _ => by kernel_rfl, fun n p => by kernel_rfl⟩
theorem ok_laws_szRefS (K : Nat) : Fw.Ok Tryz.prog 39 (Sg.s_laws_szRefS K) := Fw.funP_ok (c := Sg.c_laws_szRefS K) (pi := Sg.i_laws_szRefS) (depth := 6) (Fw.cfgP_ok (pi := Sg.i_laws_szRefS) Sg.tabOK Sg.eqsOK Sg.mixOK ⟨ok_laws_szRef K, trivial⟩ trivial trivial pf_laws_szRefS ⟨⟨_, rfl, l_laws_szRefS_0 K⟩, trivial⟩ rfl) trivial pf_laws_szRefS fun_laws_szRefS call_laws_szRefS (fun x => by kernel_rfl)
theorem fun_laws_szBase : Tryz.prog.funcs[6]? = some Tryz.f6 := by kernel_rfl
theorem call_laws_szBase : Fw.Callable Tryz.prog 6 := Fw.callable_of fun_laws_szBase (by kernel_rfl) (by kernel_rfl)
theorem pf_laws_szBase : Fw.PFn.of Tryz.f6 = some Sg.f_laws_szBase := Fw.PFn.of_get (by kernel_rfl)
theorem ok_laws_szBase (K : Nat) : Fw.Ok Tryz.prog 6 (Sg.s_laws_szBase K) := Fw.funP_ok (c := Sg.c_laws_szBase K) (pi := Sg.i_laws_szBase) (depth := 6) (Fw.cfgP_ok (pi := Sg.i_laws_szBase) Sg.tabOK Sg.eqsOK Sg.mixOK ⟨ok_laws_szCommitS K, ok_laws_szRefS K, trivial⟩ trivial trivial pf_laws_szBase trivial rfl) trivial pf_laws_szBase fun_laws_szBase call_laws_szBase (fun x => by kernel_rfl)
theorem fun_laws_szEdit : Tryz.prog.funcs[140]? = some Tryz.f140 := by kernel_rfl
theorem call_laws_szEdit : Fw.Callable Tryz.prog 140 := Fw.callable_of fun_laws_szEdit (by kernel_rfl) (by kernel_rfl)
theorem pf_laws_szEdit : Fw.PFn.of Tryz.f140 = some Sg.f_laws_szEdit := Fw.PFn.of_get (by kernel_rfl)
theorem ok_laws_szEdit (K : Nat) : Fw.Ok Tryz.prog 140 (Sg.s_laws_szEdit K) := Fw.funP_ok (c := Sg.c_laws_szEdit K) (pi := Sg.i_laws_szEdit) (depth := 6) (Fw.cfgP_ok (pi := Sg.i_laws_szEdit) Sg.tabOK Sg.eqsOK Sg.mixOK trivial trivial trivial pf_laws_szEdit trivial rfl) trivial pf_laws_szEdit fun_laws_szEdit call_laws_szEdit (fun x => by kernel_rfl)
theorem fun_laws_szEditS : Tryz.prog.funcs[77]? = some Tryz.f77 := by kernel_rfl
theorem call_laws_szEditS : Fw.Callable Tryz.prog 77 := Fw.callable_of fun_laws_szEditS (by kernel_rfl) (by kernel_rfl)
theorem pf_laws_szEditS : Fw.PFn.of Tryz.f77 = some Sg.f_laws_szEditS := Fw.PFn.of_get (by kernel_rfl)
theorem l_laws_szEditS_0 (K : Nat) : Fw.LoopP (Sg.c_laws_szEditS K) Sg.i_laws_szEditS Sg.f_laws_szEditS (Sg.p_laws_szEditS_0 K) := ⟨fun _ => by kernel_rfl, fun n p => by kernel_rfl⟩
theorem ok_laws_szEditS (K : Nat) : Fw.Ok Tryz.prog 77 (Sg.s_laws_szEditS K) := Fw.funP_ok (c := Sg.c_laws_szEditS K) (pi := Sg.i_laws_szEditS) (depth := 6) (Fw.cfgP_ok (pi := Sg.i_laws_szEditS) Sg.tabOK Sg.eqsOK Sg.mixOK ⟨ok_laws_szEdit K, trivial⟩ trivial trivial pf_laws_szEditS ⟨⟨_, rfl, l_laws_szEditS_0 K⟩, trivial⟩ rfl) trivial pf_laws_szEditS fun_laws_szEditS call_laws_szEditS (fun x => by kernel_rfl)
theorem fun_laws_szWish : Tryz.prog.funcs[94]? = some Tryz.f94 := by kernel_rfl
theorem call_laws_szWish : Fw.Callable Tryz.prog 94 := Fw.callable_of fun_laws_szWish (by kernel_rfl) (by kernel_rfl)
theorem pf_laws_szWish : Fw.PFn.of Tryz.f94 = some Sg.f_laws_szWish := Fw.PFn.of_get (by kernel_rfl)
theorem ok_laws_szWish (K : Nat) : Fw.Ok Tryz.prog 94 (Sg.s_laws_szWish K) := Fw.funP_ok (c := Sg.c_laws_szWish K) (pi := Sg.i_laws_szWish) (depth := 6) (Fw.cfgP_ok (pi := Sg.i_laws_szWish) Sg.tabOK Sg.eqsOK Sg.mixOK ⟨ok_laws_szEditS K, trivial⟩ trivial trivial pf_laws_szWish trivial rfl) trivial pf_laws_szWish fun_laws_szWish call_laws_szWish (fun x => by kernel_rfl)
theorem fun_laws_szWishS : Tryz.prog.funcs[40]? = some Tryz.f40 := by kernel_rfl
theorem call_laws_szWishS : Fw.Callable Tryz.prog 40 := Fw.callable_of fun_laws_szWishS (by kernel_rfl) (by kernel_rfl)
theorem pf_laws_szWishS : Fw.PFn.of Tryz.f40 = some Sg.f_laws_szWishS := Fw.PFn.of_get (by kernel_rfl)
theorem l_laws_szWishS_0 (K : Nat) : Fw.LoopP (Sg.c_laws_szWishS K) Sg.i_laws_szWishS Sg.f_laws_szWishS (Sg.p_laws_szWishS_0 K) := ⟨fun _ => by kernel_rfl, fun n p => by kernel_rfl⟩
theorem ok_laws_szWishS (K : Nat) : Fw.Ok Tryz.prog 40 (Sg.s_laws_szWishS K) := Fw.funP_ok (c := Sg.c_laws_szWishS K) (pi := Sg.i_laws_szWishS) (depth := 6) (Fw.cfgP_ok (pi := Sg.i_laws_szWishS) Sg.tabOK Sg.eqsOK Sg.mixOK ⟨ok_laws_szWish K, trivial⟩ trivial trivial pf_laws_szWishS ⟨⟨_, rfl, l_laws_szWishS_0 K⟩, trivial⟩ rfl) trivial pf_laws_szWishS fun_laws_szWishS call_laws_szWishS (fun x => by kernel_rfl)
theorem fun_laws_szWishSS : Tryz.prog.funcs[7]? = some Tryz.f7 := by kernel_rfl
theorem call_laws_szWishSS : Fw.Callable Tryz.prog 7 := Fw.callable_of fun_laws_szWishSS (by kernel_rfl) (by kernel_rfl)
theorem pf_laws_szWishSS : Fw.PFn.of Tryz.f7 = some Sg.f_laws_szWishSS := Fw.PFn.of_get (by kernel_rfl)
theorem l_laws_szWishSS_0 (K : Nat) : Fw.LoopP (Sg.c_laws_szWishSS K) Sg.i_laws_szWishSS Sg.f_laws_szWishSS (Sg.p_laws_szWishSS_0 K) := ⟨fun _ => by kernel_rfl, fun n p => by kernel_rfl⟩
theorem ok_laws_szWishSS (K : Nat) : Fw.Ok Tryz.prog 7 (Sg.s_laws_szWishSS K) := Fw.funP_ok (c := Sg.c_laws_szWishSS K) (pi := Sg.i_laws_szWishSS) (depth := 6) (Fw.cfgP_ok (pi := Sg.i_laws_szWishSS) Sg.tabOK Sg.eqsOK Sg.mixOK ⟨ok_laws_szWishS K, trivial⟩ trivial trivial pf_laws_szWishSS ⟨⟨_, rfl, l_laws_szWishSS_0 K⟩, trivial⟩ rfl) trivial pf_laws_szWishSS fun_laws_szWishSS call_laws_szWishSS (fun x => by kernel_rfl)
theorem fun_laws_szStringS : Tryz.prog.funcs[8]? = some Tryz.f8 := by kernel_rfl
theorem call_laws_szStringS : Fw.Callable Tryz.prog 8 := Fw.callable_of fun_laws_szStringS (by kernel_rfl) (by kernel_rfl)
theorem pf_laws_szStringS : Fw.PFn.of Tryz.f8 = some Sg.f_laws_szStringS := Fw.PFn.of_get (by kernel_rfl)
theorem l_laws_szStringS_0 (K : Nat) : Fw.LoopP (Sg.c_laws_szStringS K) Sg.i_laws_szStringS Sg.f_laws_szStringS (Sg.p_laws_szStringS_0 K) := ⟨fun _ => by kernel_rfl, fun n p => by kernel_rfl⟩
theorem ok_laws_szStringS (K : Nat) : Fw.Ok Tryz.prog 8 (Sg.s_laws_szStringS K) := Fw.funP_ok (c := Sg.c_laws_szStringS K) (pi := Sg.i_laws_szStringS) (depth := 6) (Fw.cfgP_ok (pi := Sg.i_laws_szStringS) Sg.tabOK Sg.eqsOK Sg.mixOK trivial trivial trivial pf_laws_szStringS ⟨⟨_, rfl, l_laws_szStringS_0 K⟩, trivial⟩ rfl) trivial pf_laws_szStringS fun_laws_szStringS call_laws_szStringS (fun x => by kernel_rfl)
theorem fun_laws_toIntS : Tryz.prog.funcs[167]? = some Tryz.f167 := by kernel_rfl
theorem call_laws_toIntS : Fw.Callable Tryz.prog 167 := Fw.callable_of fun_laws_toIntS (by kernel_rfl) (by kernel_rfl)
theorem pf_laws_toIntS : Fw.PFn.of Tryz.f167 = some Sg.f_laws_toIntS := Fw.PFn.of_get (by kernel_rfl)
theorem l_laws_toIntS_0 (K : Nat) : Fw.LoopP (Sg.c_laws_toIntS K) Sg.i_laws_toIntS Sg.f_laws_toIntS (Sg.p_laws_toIntS_0 K) := ⟨fun _ => by kernel_rfl, fun n p => by kernel_rfl⟩
theorem ok_laws_toIntS (K : Nat) : Fw.Ok Tryz.prog 167 (Sg.s_laws_toIntS K) := Fw.funP_ok (c := Sg.c_laws_toIntS K) (pi := Sg.i_laws_toIntS) (depth := 6) (Fw.cfgP_ok (pi := Sg.i_laws_toIntS) Sg.tabOK Sg.eqsOK Sg.mixOK trivial trivial trivial pf_laws_toIntS ⟨⟨_, rfl, l_laws_toIntS_0 K⟩, trivial⟩ rfl) trivial pf_laws_toIntS fun_laws_toIntS call_laws_toIntS (fun x => by kernel_rfl)
theorem fun_laws_toEntry : Tryz.prog.funcs[137]? = some Tryz.f137 := by kernel_rfl
theorem call_laws_toEntry : Fw.Callable Tryz.prog 137 := Fw.callable_of fun_laws_toEntry (by kernel_rfl) (by kernel_rfl)
theorem pf_laws_toEntry : Fw.PFn.of Tryz.f137 = some Sg.f_laws_toEntry := Fw.PFn.of_get (by kernel_rfl)
theorem ok_laws_toEntry (K : Nat) : Fw.Ok Tryz.prog 137 (Sg.s_laws_toEntry K) := Fw.funP_ok (c := Sg.c_laws_toEntry K) (pi := Sg.i_laws_toEntry) (depth := 6) (Fw.cfgP_ok (pi := Sg.i_laws_toEntry) Sg.tabOK Sg.eqsOK Sg.mixOK trivial trivial trivial pf_laws_toEntry trivial rfl) trivial pf_laws_toEntry fun_laws_toEntry call_laws_toEntry (fun x => by kernel_rfl)
theorem fun_laws_toEntryS : Tryz.prog.funcs[74]? = some Tryz.f74 := by kernel_rfl
theorem call_laws_toEntryS : Fw.Callable Tryz.prog 74 := Fw.callable_of fun_laws_toEntryS (by kernel_rfl) (by kernel_rfl)
theorem pf_laws_toEntryS : Fw.PFn.of Tryz.f74 = some Sg.f_laws_toEntryS := Fw.PFn.of_get (by kernel_rfl)
theorem l_laws_toEntryS_0 (K : Nat) : Fw.LoopP (Sg.c_laws_toEntryS K) Sg.i_laws_toEntryS Sg.f_laws_toEntryS (Sg.p_laws_toEntryS_0 K) := ⟨fun _ => by kernel_rfl, fun n p => by kernel_rfl⟩
theorem ok_laws_toEntryS (K : Nat) : Fw.Ok Tryz.prog 74 (Sg.s_laws_toEntryS K) := Fw.funP_ok (c := Sg.c_laws_toEntryS K) (pi := Sg.i_laws_toEntryS) (depth := 6) (Fw.cfgP_ok (pi := Sg.i_laws_toEntryS) Sg.tabOK Sg.eqsOK Sg.mixOK ⟨ok_laws_toEntry K, trivial⟩ trivial trivial pf_laws_toEntryS ⟨⟨_, rfl, l_laws_toEntryS_0 K⟩, trivial⟩ rfl) trivial pf_laws_toEntryS fun_laws_toEntryS call_laws_toEntryS (fun x => by kernel_rfl)
theorem fun_laws_toCommit : Tryz.prog.funcs[105]? = some Tryz.f105 := by kernel_rfl
theorem call_laws_toCommit : Fw.Callable Tryz.prog 105 := Fw.callable_of fun_laws_toCommit (by kernel_rfl) (by kernel_rfl)
theorem pf_laws_toCommit : Fw.PFn.of Tryz.f105 = some Sg.f_laws_toCommit := Fw.PFn.of_get (by kernel_rfl)
theorem ok_laws_toCommit (K : Nat) : Fw.Ok Tryz.prog 105 (Sg.s_laws_toCommit K) := Fw.funP_ok (c := Sg.c_laws_toCommit K) (pi := Sg.i_laws_toCommit) (depth := 6) (Fw.cfgP_ok (pi := Sg.i_laws_toCommit) Sg.tabOK Sg.eqsOK Sg.mixOK ⟨ok_laws_toIntS K, ok_laws_toEntryS K, trivial⟩ trivial trivial pf_laws_toCommit trivial rfl) trivial pf_laws_toCommit fun_laws_toCommit call_laws_toCommit (fun x => by kernel_rfl)
theorem fun_laws_toCommitS : Tryz.prog.funcs[46]? = some Tryz.f46 := by kernel_rfl
theorem call_laws_toCommitS : Fw.Callable Tryz.prog 46 := Fw.callable_of fun_laws_toCommitS (by kernel_rfl) (by kernel_rfl)
theorem pf_laws_toCommitS : Fw.PFn.of Tryz.f46 = some Sg.f_laws_toCommitS := Fw.PFn.of_get (by kernel_rfl)
theorem l_laws_toCommitS_0 (K : Nat) : Fw.LoopP (Sg.c_laws_toCommitS K) Sg.i_laws_toCommitS Sg.f_laws_toCommitS (Sg.p_laws_toCommitS_0 K) := ⟨fun _ => by kernel_rfl, fun n p => by kernel_rfl⟩
theorem ok_laws_toCommitS (K : Nat) : Fw.Ok Tryz.prog 46 (Sg.s_laws_toCommitS K) := Fw.funP_ok (c := Sg.c_laws_toCommitS K) (pi := Sg.i_laws_toCommitS) (depth := 6) (Fw.cfgP_ok (pi := Sg.i_laws_toCommitS) Sg.tabOK Sg.eqsOK Sg.mixOK ⟨ok_laws_toCommit K, trivial⟩ trivial trivial pf_laws_toCommitS ⟨⟨_, rfl, l_laws_toCommitS_0 K⟩, trivial⟩ rfl) trivial pf_laws_toCommitS fun_laws_toCommitS call_laws_toCommitS (fun x => by kernel_rfl)
theorem fun_laws_toRef : Tryz.prog.funcs[106]? = some Tryz.f106 := by kernel_rfl
theorem call_laws_toRef : Fw.Callable Tryz.prog 106 := Fw.callable_of fun_laws_toRef (by kernel_rfl) (by kernel_rfl)
theorem pf_laws_toRef : Fw.PFn.of Tryz.f106 = some Sg.f_laws_toRef := Fw.PFn.of_get (by kernel_rfl)
theorem ok_laws_toRef (K : Nat) : Fw.Ok Tryz.prog 106 (Sg.s_laws_toRef K) := Fw.funP_ok (c := Sg.c_laws_toRef K) (pi := Sg.i_laws_toRef) (depth := 6) (Fw.cfgP_ok (pi := Sg.i_laws_toRef) Sg.tabOK Sg.eqsOK Sg.mixOK trivial trivial trivial pf_laws_toRef trivial rfl) trivial pf_laws_toRef fun_laws_toRef call_laws_toRef (fun x => by kernel_rfl)
theorem fun_laws_toRefS : Tryz.prog.funcs[47]? = some Tryz.f47 := by kernel_rfl
theorem call_laws_toRefS : Fw.Callable Tryz.prog 47 := Fw.callable_of fun_laws_toRefS (by kernel_rfl) (by kernel_rfl)
theorem pf_laws_toRefS : Fw.PFn.of Tryz.f47 = some Sg.f_laws_toRefS := Fw.PFn.of_get (by kernel_rfl)
theorem l_laws_toRefS_0 (K : Nat) : Fw.LoopP (Sg.c_laws_toRefS K) Sg.i_laws_toRefS Sg.f_laws_toRefS (Sg.p_laws_toRefS_0 K) := ⟨fun _ => by kernel_rfl, fun n p => by kernel_rfl⟩
theorem ok_laws_toRefS (K : Nat) : Fw.Ok Tryz.prog 47 (Sg.s_laws_toRefS K) := Fw.funP_ok (c := Sg.c_laws_toRefS K) (pi := Sg.i_laws_toRefS) (depth := 6) (Fw.cfgP_ok (pi := Sg.i_laws_toRefS) Sg.tabOK Sg.eqsOK Sg.mixOK ⟨ok_laws_toRef K, trivial⟩ trivial trivial pf_laws_toRefS ⟨⟨_, rfl, l_laws_toRefS_0 K⟩, trivial⟩ rfl) trivial pf_laws_toRefS fun_laws_toRefS call_laws_toRefS (fun x => by kernel_rfl)
theorem fun_laws_toBase : Tryz.prog.funcs[10]? = some Tryz.f10 := by kernel_rfl
theorem call_laws_toBase : Fw.Callable Tryz.prog 10 := Fw.callable_of fun_laws_toBase (by kernel_rfl) (by kernel_rfl)
theorem pf_laws_toBase : Fw.PFn.of Tryz.f10 = some Sg.f_laws_toBase := Fw.PFn.of_get (by kernel_rfl)
theorem ok_laws_toBase (K : Nat) : Fw.Ok Tryz.prog 10 (Sg.s_laws_toBase K) := Fw.funP_ok (c := Sg.c_laws_toBase K) (pi := Sg.i_laws_toBase) (depth := 6) (Fw.cfgP_ok (pi := Sg.i_laws_toBase) Sg.tabOK Sg.eqsOK Sg.mixOK ⟨ok_laws_toCommitS K, ok_laws_toRefS K, trivial⟩ trivial trivial pf_laws_toBase trivial rfl) trivial pf_laws_toBase fun_laws_toBase call_laws_toBase (fun x => by kernel_rfl)
theorem fun_laws_toEdit : Tryz.prog.funcs[150]? = some Tryz.f150 := by kernel_rfl
theorem call_laws_toEdit : Fw.Callable Tryz.prog 150 := Fw.callable_of fun_laws_toEdit (by kernel_rfl) (by kernel_rfl)
theorem pf_laws_toEdit : Fw.PFn.of Tryz.f150 = some Sg.f_laws_toEdit := Fw.PFn.of_get (by kernel_rfl)
theorem ok_laws_toEdit (K : Nat) : Fw.Ok Tryz.prog 150 (Sg.s_laws_toEdit K) := Fw.funP_ok (c := Sg.c_laws_toEdit K) (pi := Sg.i_laws_toEdit) (depth := 6) (Fw.cfgP_ok (pi := Sg.i_laws_toEdit) Sg.tabOK Sg.eqsOK Sg.mixOK trivial trivial trivial pf_laws_toEdit trivial rfl) trivial pf_laws_toEdit fun_laws_toEdit call_laws_toEdit (fun x => by kernel_rfl)
theorem fun_laws_toEditS : Tryz.prog.funcs[82]? = some Tryz.f82 := by kernel_rfl
theorem call_laws_toEditS : Fw.Callable Tryz.prog 82 := Fw.callable_of fun_laws_toEditS (by kernel_rfl) (by kernel_rfl)
theorem pf_laws_toEditS : Fw.PFn.of Tryz.f82 = some Sg.f_laws_toEditS := Fw.PFn.of_get (by kernel_rfl)
theorem l_laws_toEditS_0 (K : Nat) : Fw.LoopP (Sg.c_laws_toEditS K) Sg.i_laws_toEditS Sg.f_laws_toEditS (Sg.p_laws_toEditS_0 K) := ⟨fun _ => by kernel_rfl, fun n p => by kernel_rfl⟩
theorem ok_laws_toEditS (K : Nat) : Fw.Ok Tryz.prog 82 (Sg.s_laws_toEditS K) := Fw.funP_ok (c := Sg.c_laws_toEditS K) (pi := Sg.i_laws_toEditS) (depth := 6) (Fw.cfgP_ok (pi := Sg.i_laws_toEditS) Sg.tabOK Sg.eqsOK Sg.mixOK ⟨ok_laws_toEdit K, trivial⟩ trivial trivial pf_laws_toEditS ⟨⟨_, rfl, l_laws_toEditS_0 K⟩, trivial⟩ rfl) trivial pf_laws_toEditS fun_laws_toEditS call_laws_toEditS (fun x => by kernel_rfl)
theorem fun_laws_toWish : Tryz.prog.funcs[107]? = some Tryz.f107 := by kernel_rfl
theorem call_laws_toWish : Fw.Callable Tryz.prog 107 := Fw.callable_of fun_laws_toWish (by kernel_rfl) (by kernel_rfl)
theorem pf_laws_toWish : Fw.PFn.of Tryz.f107 = some Sg.f_laws_toWish := Fw.PFn.of_get (by kernel_rfl)
theorem ok_laws_toWish (K : Nat) : Fw.Ok Tryz.prog 107 (Sg.s_laws_toWish K) := Fw.funP_ok (c := Sg.c_laws_toWish K) (pi := Sg.i_laws_toWish) (depth := 6) (Fw.cfgP_ok (pi := Sg.i_laws_toWish) Sg.tabOK Sg.eqsOK Sg.mixOK ⟨ok_laws_toEditS K, trivial⟩ trivial trivial pf_laws_toWish trivial rfl) trivial pf_laws_toWish fun_laws_toWish call_laws_toWish (fun x => by kernel_rfl)
theorem fun_laws_toWishS : Tryz.prog.funcs[48]? = some Tryz.f48 := by kernel_rfl
theorem call_laws_toWishS : Fw.Callable Tryz.prog 48 := Fw.callable_of fun_laws_toWishS (by kernel_rfl) (by kernel_rfl)
theorem pf_laws_toWishS : Fw.PFn.of Tryz.f48 = some Sg.f_laws_toWishS := Fw.PFn.of_get (by kernel_rfl)
theorem l_laws_toWishS_0 (K : Nat) : Fw.LoopP (Sg.c_laws_toWishS K) Sg.i_laws_toWishS Sg.f_laws_toWishS (Sg.p_laws_toWishS_0 K) := ⟨fun _ => by kernel_rfl, fun n p => by kernel_rfl⟩
theorem ok_laws_toWishS (K : Nat) : Fw.Ok Tryz.prog 48 (Sg.s_laws_toWishS K) := Fw.funP_ok (c := Sg.c_laws_toWishS K) (pi := Sg.i_laws_toWishS) (depth := 6) (Fw.cfgP_ok (pi := Sg.i_laws_toWishS) Sg.tabOK Sg.eqsOK Sg.mixOK ⟨ok_laws_toWish K, trivial⟩ trivial trivial pf_laws_toWishS ⟨⟨_, rfl, l_laws_toWishS_0 K⟩, trivial⟩ rfl) trivial pf_laws_toWishS fun_laws_toWishS call_laws_toWishS (fun x => by kernel_rfl)
theorem fun_laws_toWishSS : Tryz.prog.funcs[11]? = some Tryz.f11 := by kernel_rfl
theorem call_laws_toWishSS : Fw.Callable Tryz.prog 11 := Fw.callable_of fun_laws_toWishSS (by kernel_rfl) (by kernel_rfl)
theorem pf_laws_toWishSS : Fw.PFn.of Tryz.f11 = some Sg.f_laws_toWishSS := Fw.PFn.of_get (by kernel_rfl)
theorem l_laws_toWishSS_0 (K : Nat) : Fw.LoopP (Sg.c_laws_toWishSS K) Sg.i_laws_toWishSS Sg.f_laws_toWishSS (Sg.p_laws_toWishSS_0 K) := ⟨fun _ => by kernel_rfl, fun n p => by kernel_rfl⟩
theorem ok_laws_toWishSS (K : Nat) : Fw.Ok Tryz.prog 11 (Sg.s_laws_toWishSS K) := Fw.funP_ok (c := Sg.c_laws_toWishSS K) (pi := Sg.i_laws_toWishSS) (depth := 6) (Fw.cfgP_ok (pi := Sg.i_laws_toWishSS) Sg.tabOK Sg.eqsOK Sg.mixOK ⟨ok_laws_toWishS K, trivial⟩ trivial trivial pf_laws_toWishSS ⟨⟨_, rfl, l_laws_toWishSS_0 K⟩, trivial⟩ rfl) trivial pf_laws_toWishSS fun_laws_toWishSS call_laws_toWishSS (fun x => by kernel_rfl)
theorem fun_laws_toStringS : Tryz.prog.funcs[12]? = some Tryz.f12 := by kernel_rfl
theorem call_laws_toStringS : Fw.Callable Tryz.prog 12 := Fw.callable_of fun_laws_toStringS (by kernel_rfl) (by kernel_rfl)
theorem pf_laws_toStringS : Fw.PFn.of Tryz.f12 = some Sg.f_laws_toStringS := Fw.PFn.of_get (by kernel_rfl)
theorem l_laws_toStringS_0 (K : Nat) : Fw.LoopP (Sg.c_laws_toStringS K) Sg.i_laws_toStringS Sg.f_laws_toStringS (Sg.p_laws_toStringS_0 K) := ⟨fun _ => by kernel_rfl, fun n p => by kernel_rfl⟩
theorem ok_laws_toStringS (K : Nat) : Fw.Ok Tryz.prog 12 (Sg.s_laws_toStringS K) := Fw.funP_ok (c := Sg.c_laws_toStringS K) (pi := Sg.i_laws_toStringS) (depth := 6) (Fw.cfgP_ok (pi := Sg.i_laws_toStringS) Sg.tabOK Sg.eqsOK Sg.mixOK trivial trivial trivial pf_laws_toStringS ⟨⟨_, rfl, l_laws_toStringS_0 K⟩, trivial⟩ rfl) trivial pf_laws_toStringS fun_laws_toStringS call_laws_toStringS (fun x => by kernel_rfl)
theorem fun_spec_l01In : Tryz.prog.funcs[135]? = some Tryz.f135 := by kernel_rfl
theorem call_spec_l01In : Fw.Callable Tryz.prog 135 := Fw.callable_of fun_spec_l01In (by kernel_rfl) (by kernel_rfl)
theorem pf_spec_l01In : Fw.PFn.of Tryz.f135 = some Sg.f_spec_l01In := Fw.PFn.of_get (by kernel_rfl)
theorem ok_spec_l01In (K : Nat) : Fw.Ok Tryz.prog 135 (Sg.s_spec_l01In K) := Fw.funP_ok (c := Sg.c_spec_l01In K) (pi := Sg.i_spec_l01In) (depth := 6) (Fw.cfgP_ok (pi := Sg.i_spec_l01In) Sg.tabOK Sg.eqsOK Sg.mixOK trivial trivial trivial pf_spec_l01In trivial rfl) trivial pf_spec_l01In fun_spec_l01In call_spec_l01In (fun x => by kernel_rfl)
theorem fun_spec_l00Letter : Tryz.prog.funcs[98]? = some Tryz.f98 := by kernel_rfl
theorem call_spec_l00Letter : Fw.Callable Tryz.prog 98 := Fw.callable_of fun_spec_l00Letter (by kernel_rfl) (by kernel_rfl)
theorem pf_spec_l00Letter : Fw.PFn.of Tryz.f98 = some Sg.f_spec_l00Letter := Fw.PFn.of_get (by kernel_rfl)
theorem ok_spec_l00Letter (K : Nat) : Fw.Ok Tryz.prog 98 (Sg.s_spec_l00Letter K) := Fw.funP_ok (c := Sg.c_spec_l00Letter K) (pi := Sg.i_spec_l00Letter) (depth := 6) (Fw.cfgP_ok (pi := Sg.i_spec_l00Letter) Sg.tabOK Sg.eqsOK Sg.mixOK trivial trivial trivial pf_spec_l00Letter trivial rfl) trivial pf_spec_l00Letter fun_spec_l00Letter call_spec_l00Letter (fun x => by kernel_rfl)
theorem fun_spec_l00Digit : Tryz.prog.funcs[99]? = some Tryz.f99 := by kernel_rfl
theorem call_spec_l00Digit : Fw.Callable Tryz.prog 99 := Fw.callable_of fun_spec_l00Digit (by kernel_rfl) (by kernel_rfl)
theorem pf_spec_l00Digit : Fw.PFn.of Tryz.f99 = some Sg.f_spec_l00Digit := Fw.PFn.of_get (by kernel_rfl)
theorem ok_spec_l00Digit (K : Nat) : Fw.Ok Tryz.prog 99 (Sg.s_spec_l00Digit K) := Fw.funP_ok (c := Sg.c_spec_l00Digit K) (pi := Sg.i_spec_l00Digit) (depth := 6) (Fw.cfgP_ok (pi := Sg.i_spec_l00Digit) Sg.tabOK Sg.eqsOK Sg.mixOK trivial trivial trivial pf_spec_l00Digit trivial rfl) trivial pf_spec_l00Digit fun_spec_l00Digit call_spec_l00Digit (fun x => by kernel_rfl)
theorem fun_spec_l00Word : Tryz.prog.funcs[43]? = some Tryz.f43 := by kernel_rfl
theorem call_spec_l00Word : Fw.Callable Tryz.prog 43 := Fw.callable_of fun_spec_l00Word (by kernel_rfl) (by kernel_rfl)
theorem pf_spec_l00Word : Fw.PFn.of Tryz.f43 = some Sg.f_spec_l00Word := Fw.PFn.of_get (by kernel_rfl)
theorem l_spec_l00Word_0 (K : Nat) : Fw.LoopP (Sg.c_spec_l00Word K) Sg.i_spec_l00Word Sg.f_spec_l00Word (Sg.p_spec_l00Word_0 K) := ⟨fun _ => by kernel_rfl, fun n p => by kernel_rfl⟩
theorem ok_spec_l00Word (K : Nat) : Fw.Ok Tryz.prog 43 (Sg.s_spec_l00Word K) := Fw.funP_ok (c := Sg.c_spec_l00Word K) (pi := Sg.i_spec_l00Word) (depth := 6) (Fw.cfgP_ok (pi := Sg.i_spec_l00Word) Sg.tabOK Sg.eqsOK Sg.mixOK ⟨ok_spec_l00Letter K, ok_spec_l00Digit K, trivial⟩ trivial trivial pf_spec_l00Word ⟨⟨_, rfl, l_spec_l00Word_0 K⟩, trivial⟩ rfl) trivial pf_spec_l00Word fun_spec_l00Word call_spec_l00Word (fun x => by kernel_rfl)
theorem fun_spec_l01OK : Tryz.prog.funcs[205]? = some Tryz.f205 := by kernel_rfl
theorem call_spec_l01OK : Fw.Callable Tryz.prog 205 := Fw.callable_of fun_spec_l01OK (by kernel_rfl) (by kernel_rfl)
theorem pf_spec_l01OK : Fw.PFn.of Tryz.f205 = some Sg.f_spec_l01OK := Fw.PFn.of_get (by kernel_rfl)
theorem l_spec_l01OK_0 (K : Nat) : Fw.LoopP (Sg.c_spec_l01OK K) Sg.i_spec_l01OK Sg.f_spec_l01OK (Sg.p_spec_l01OK_0 K) := ⟨fun _ => by kernel_rfl, fun n p => by kernel_rfl⟩
theorem ok_spec_l01OK (K : Nat) : Fw.Ok Tryz.prog 205 (Sg.s_spec_l01OK K) := Fw.funP_ok (c := Sg.c_spec_l01OK K) (pi := Sg.i_spec_l01OK) (depth := 6) (Fw.cfgP_ok (pi := Sg.i_spec_l01OK) Sg.tabOK Sg.eqsOK Sg.mixOK ⟨ok_spec_l01In K, ok_spec_l00Word K, trivial⟩ trivial trivial pf_spec_l01OK ⟨⟨_, rfl, l_spec_l01OK_0 K⟩, trivial⟩ rfl) trivial pf_spec_l01OK fun_spec_l01OK call_spec_l01OK (fun x => by kernel_rfl)
theorem fun_spec_l03Commit : Tryz.prog.funcs[164]? = some Tryz.f164 := by kernel_rfl
theorem call_spec_l03Commit : Fw.Callable Tryz.prog 164 := Fw.callable_of fun_spec_l03Commit (by kernel_rfl) (by kernel_rfl)
theorem pf_spec_l03Commit : Fw.PFn.of Tryz.f164 = some Sg.f_spec_l03Commit := Fw.PFn.of_get (by kernel_rfl)
theorem l_spec_l03Commit_0 (K : Nat) : Fw.LoopP (Sg.c_spec_l03Commit K) Sg.i_spec_l03Commit Sg.f_spec_l03Commit (Sg.p_spec_l03Commit_0 K) := ⟨fun _ => by kernel_rfl, fun n p => by kernel_rfl⟩
theorem ok_spec_l03Commit (K : Nat) : Fw.Ok Tryz.prog 164 (Sg.s_spec_l03Commit K) := Fw.funP_ok (c := Sg.c_spec_l03Commit K) (pi := Sg.i_spec_l03Commit) (depth := 6) (Fw.cfgP_ok (pi := Sg.i_spec_l03Commit) Sg.tabOK Sg.eqsOK Sg.mixOK ⟨ok_spec_l01In K, ok_spec_l01OK K, trivial⟩ trivial trivial pf_spec_l03Commit ⟨⟨_, rfl, l_spec_l03Commit_0 K⟩, trivial⟩ rfl) trivial pf_spec_l03Commit fun_spec_l03Commit call_spec_l03Commit (fun x => by kernel_rfl)
theorem fun_spec_l03OK : Tryz.prog.funcs[95]? = some Tryz.f95 := by kernel_rfl
theorem call_spec_l03OK : Fw.Callable Tryz.prog 95 := Fw.callable_of fun_spec_l03OK (by kernel_rfl) (by kernel_rfl)
theorem pf_spec_l03OK : Fw.PFn.of Tryz.f95 = some Sg.f_spec_l03OK := Fw.PFn.of_get (by kernel_rfl)
theorem l_spec_l03OK_0 (K : Nat) : Fw.LoopP (Sg.c_spec_l03OK K) Sg.i_spec_l03OK Sg.f_spec_l03OK (Sg.p_spec_l03OK_0 K) := ⟨fun _ => by kernel_rfl, fun n p => by kernel_rfl⟩
theorem ok_spec_l03OK (K : Nat) : Fw.Ok Tryz.prog 95 (Sg.s_spec_l03OK K) := Fw.funP_ok (c := Sg.c_spec_l03OK K) (pi := Sg.i_spec_l03OK) (depth := 6) (Fw.cfgP_ok (pi := Sg.i_spec_l03OK) Sg.tabOK Sg.eqsOK Sg.mixOK ⟨ok_spec_l01In K, ok_spec_l03Commit K, trivial⟩ trivial trivial pf_spec_l03OK ⟨⟨_, rfl, l_spec_l03OK_0 K⟩, trivial⟩ rfl) trivial pf_spec_l03OK fun_spec_l03OK call_spec_l03OK (fun x => by kernel_rfl)
theorem fun_spec_l04At : Tryz.prog.funcs[165]? = some Tryz.f165 := by kernel_rfl
theorem call_spec_l04At : Fw.Callable Tryz.prog 165 := Fw.callable_of fun_spec_l04At (by kernel_rfl) (by kernel_rfl)
theorem pf_spec_l04At : Fw.PFn.of Tryz.f165 = some Sg.f_spec_l04At := Fw.PFn.of_get (by kernel_rfl)
theorem l_spec_l04At_0 (K : Nat) : Fw.LoopP (Sg.c_spec_l04At K) Sg.i_spec_l04At Sg.f_spec_l04At (Sg.p_spec_l04At_0 K) := ⟨fun _ => by kernel_rfl, fun n p => by kernel_rfl⟩
theorem ok_spec_l04At (K : Nat) : Fw.Ok Tryz.prog 165 (Sg.s_spec_l04At K) := Fw.funP_ok (c := Sg.c_spec_l04At K) (pi := Sg.i_spec_l04At) (depth := 6) (Fw.cfgP_ok (pi := Sg.i_spec_l04At) Sg.tabOK Sg.eqsOK Sg.mixOK trivial trivial trivial pf_spec_l04At ⟨⟨_, rfl, l_spec_l04At_0 K⟩, trivial⟩ rfl) trivial pf_spec_l04At fun_spec_l04At call_spec_l04At (fun x => by kernel_rfl)
theorem fun_spec_l04OK : Tryz.prog.funcs[96]? = some Tryz.f96 := by kernel_rfl
theorem call_spec_l04OK : Fw.Callable Tryz.prog 96 := Fw.callable_of fun_spec_l04OK (by kernel_rfl) (by kernel_rfl)
theorem pf_spec_l04OK : Fw.PFn.of Tryz.f96 = some Sg.f_spec_l04OK := Fw.PFn.of_get (by kernel_rfl)
theorem l_spec_l04OK_0 (K : Nat) : Fw.LoopP (Sg.c_spec_l04OK K) Sg.i_spec_l04OK Sg.f_spec_l04OK (Sg.p_spec_l04OK_0 K) := ⟨fun _ => by kernel_rfl, fun n p => by kernel_rfl⟩
theorem ok_spec_l04OK (K : Nat) : Fw.Ok Tryz.prog 96 (Sg.s_spec_l04OK K) := Fw.funP_ok (c := Sg.c_spec_l04OK K) (pi := Sg.i_spec_l04OK) (depth := 6) (Fw.cfgP_ok (pi := Sg.i_spec_l04OK) Sg.tabOK Sg.eqsOK Sg.mixOK ⟨ok_spec_l01In K, ok_spec_l00Word K, ok_spec_l04At K, trivial⟩ trivial trivial pf_spec_l04OK ⟨⟨_, rfl, l_spec_l04OK_0 K⟩, trivial⟩ rfl) trivial pf_spec_l04OK fun_spec_l04OK call_spec_l04OK (fun x => by kernel_rfl)
theorem fun_spec_l05OK : Tryz.prog.funcs[41]? = some Tryz.f41 := by kernel_rfl
theorem call_spec_l05OK : Fw.Callable Tryz.prog 41 := Fw.callable_of fun_spec_l05OK (by kernel_rfl) (by kernel_rfl)
theorem pf_spec_l05OK : Fw.PFn.of Tryz.f41 = some Sg.f_spec_l05OK := Fw.PFn.of_get (by kernel_rfl)
theorem l_spec_l05OK_0 (K : Nat) : Fw.LoopP (Sg.c_spec_l05OK K) Sg.i_spec_l05OK Sg.f_spec_l05OK (Sg.p_spec_l05OK_0 K) := ⟨fun _ => by kernel_rfl, fun n p => by kernel_rfl⟩
theorem ok_spec_l05OK (K : Nat) : Fw.Ok Tryz.prog 41 (Sg.s_spec_l05OK K) := Fw.funP_ok (c := Sg.c_spec_l05OK K) (pi := Sg.i_spec_l05OK) (depth := 6) (Fw.cfgP_ok (pi := Sg.i_spec_l05OK) Sg.tabOK Sg.eqsOK Sg.mixOK ⟨ok_spec_l03OK K, ok_spec_l04OK K, trivial⟩ trivial trivial pf_spec_l05OK ⟨⟨_, rfl, l_spec_l05OK_0 K⟩, trivial⟩ rfl) trivial pf_spec_l05OK fun_spec_l05OK call_spec_l05OK (fun x => by kernel_rfl)
theorem fun_spec_l01Edits : Tryz.prog.funcs[141]? = some Tryz.f141 := by kernel_rfl
theorem call_spec_l01Edits : Fw.Callable Tryz.prog 141 := Fw.callable_of fun_spec_l01Edits (by kernel_rfl) (by kernel_rfl)
theorem pf_spec_l01Edits : Fw.PFn.of Tryz.f141 = some Sg.f_spec_l01Edits := Fw.PFn.of_get (by kernel_rfl)
theorem l_spec_l01Edits_0 (K : Nat) : Fw.LoopP (Sg.c_spec_l01Edits K) Sg.i_spec_l01Edits Sg.f_spec_l01Edits (Sg.p_spec_l01Edits_0 K) := ⟨fun _ => by kernel_rfl, fun n p => by kernel_rfl⟩
theorem ok_spec_l01Edits (K : Nat) : Fw.Ok Tryz.prog 141 (Sg.s_spec_l01Edits K) := Fw.funP_ok (c := Sg.c_spec_l01Edits K) (pi := Sg.i_spec_l01Edits) (depth := 6) (Fw.cfgP_ok (pi := Sg.i_spec_l01Edits) Sg.tabOK Sg.eqsOK Sg.mixOK ⟨ok_spec_l01In K, ok_spec_l00Word K, trivial⟩ trivial trivial pf_spec_l01Edits ⟨⟨_, rfl, l_spec_l01Edits_0 K⟩, trivial⟩ rfl) trivial pf_spec_l01Edits fun_spec_l01Edits call_spec_l01Edits (fun x => by kernel_rfl)
theorem fun_spec_l07Wish : Tryz.prog.funcs[97]? = some Tryz.f97 := by kernel_rfl
theorem call_spec_l07Wish : Fw.Callable Tryz.prog 97 := Fw.callable_of fun_spec_l07Wish (by kernel_rfl) (by kernel_rfl)
theorem pf_spec_l07Wish : Fw.PFn.of Tryz.f97 = some Sg.f_spec_l07Wish := Fw.PFn.of_get (by kernel_rfl)
theorem ok_spec_l07Wish (K : Nat) : Fw.Ok Tryz.prog 97 (Sg.s_spec_l07Wish K) := Fw.funP_ok (c := Sg.c_spec_l07Wish K) (pi := Sg.i_spec_l07Wish) (depth := 6) (Fw.cfgP_ok (pi := Sg.i_spec_l07Wish) Sg.tabOK Sg.eqsOK Sg.mixOK ⟨ok_spec_l01In K, ok_spec_l00Word K, ok_spec_l01Edits K, trivial⟩ trivial trivial pf_spec_l07Wish trivial rfl) trivial pf_spec_l07Wish fun_spec_l07Wish call_spec_l07Wish (fun x => by kernel_rfl)
theorem fun_spec_l07Wishes : Tryz.prog.funcs[42]? = some Tryz.f42 := by kernel_rfl
theorem call_spec_l07Wishes : Fw.Callable Tryz.prog 42 := Fw.callable_of fun_spec_l07Wishes (by kernel_rfl) (by kernel_rfl)
theorem pf_spec_l07Wishes : Fw.PFn.of Tryz.f42 = some Sg.f_spec_l07Wishes := Fw.PFn.of_get (by kernel_rfl)
theorem l_spec_l07Wishes_0 (K : Nat) : Fw.LoopP (Sg.c_spec_l07Wishes K) Sg.i_spec_l07Wishes Sg.f_spec_l07Wishes (Sg.p_spec_l07Wishes_0 K) := ⟨fun _ => by kernel_rfl, fun n p => by kernel_rfl⟩
theorem ok_spec_l07Wishes (K : Nat) : Fw.Ok Tryz.prog 42 (Sg.s_spec_l07Wishes K) := Fw.funP_ok (c := Sg.c_spec_l07Wishes K) (pi := Sg.i_spec_l07Wishes) (depth := 6) (Fw.cfgP_ok (pi := Sg.i_spec_l07Wishes) Sg.tabOK Sg.eqsOK Sg.mixOK ⟨ok_spec_l07Wish K, trivial⟩ trivial trivial pf_spec_l07Wishes ⟨⟨_, rfl, l_spec_l07Wishes_0 K⟩, trivial⟩ rfl) trivial pf_spec_l07Wishes fun_spec_l07Wishes call_spec_l07Wishes (fun x => by kernel_rfl)
theorem fun_spec_l07CopyWishes : Tryz.prog.funcs[166]? = some Tryz.f166 := by kernel_rfl
theorem call_spec_l07CopyWishes : Fw.Callable Tryz.prog 166 := Fw.callable_of fun_spec_l07CopyWishes (by kernel_rfl) (by kernel_rfl)
theorem pf_spec_l07CopyWishes : Fw.PFn.of Tryz.f166 = some Sg.f_spec_l07CopyWishes := Fw.PFn.of_get (by kernel_rfl)
theorem l_spec_l07CopyWishes_0 (K : Nat) : Fw.LoopP (Sg.c_spec_l07CopyWishes K) Sg.i_spec_l07CopyWishes Sg.f_spec_l07CopyWishes (Sg.p_spec_l07CopyWishes_0 K) := ⟨fun _ => by kernel_rfl, fun n p => by kernel_rfl⟩
theorem ok_spec_l07CopyWishes (K : Nat) : Fw.Ok Tryz.prog 166 (Sg.s_spec_l07CopyWishes K) := Fw.funP_ok (c := Sg.c_spec_l07CopyWishes K) (pi := Sg.i_spec_l07CopyWishes) (depth := 6) (Fw.cfgP_ok (pi := Sg.i_spec_l07CopyWishes) Sg.tabOK Sg.eqsOK Sg.mixOK trivial trivial trivial pf_spec_l07CopyWishes ⟨⟨_, rfl, l_spec_l07CopyWishes_0 K⟩, trivial⟩ rfl) trivial pf_spec_l07CopyWishes fun_spec_l07CopyWishes call_spec_l07CopyWishes (fun x => by kernel_rfl)
theorem fun_spec_l07New : Tryz.prog.funcs[103]? = some Tryz.f103 := by kernel_rfl
theorem call_spec_l07New : Fw.Callable Tryz.prog 103 := Fw.callable_of fun_spec_l07New (by kernel_rfl) (by kernel_rfl)
theorem pf_spec_l07New : Fw.PFn.of Tryz.f103 = some Sg.f_spec_l07New := Fw.PFn.of_get (by kernel_rfl)
theorem ok_spec_l07New (K : Nat) : Fw.Ok Tryz.prog 103 (Sg.s_spec_l07New K) := Fw.funP_ok (c := Sg.c_spec_l07New K) (pi := Sg.i_spec_l07New) (depth := 6) (Fw.cfgP_ok (pi := Sg.i_spec_l07New) Sg.tabOK Sg.eqsOK Sg.mixOK ⟨ok_spec_l07CopyWishes K, trivial⟩ trivial trivial pf_spec_l07New trivial rfl) trivial pf_spec_l07New fun_spec_l07New call_spec_l07New (fun x => by kernel_rfl)
theorem fun_spec_l06New : Tryz.prog.funcs[104]? = some Tryz.f104 := by kernel_rfl
theorem call_spec_l06New : Fw.Callable Tryz.prog 104 := Fw.callable_of fun_spec_l06New (by kernel_rfl) (by kernel_rfl)
theorem pf_spec_l06New : Fw.PFn.of Tryz.f104 = some Sg.f_spec_l06New := Fw.PFn.of_get (by kernel_rfl)
theorem ok_spec_l06New (K : Nat) : Fw.Ok Tryz.prog 104 (Sg.s_spec_l06New K) := Fw.funP_ok (c := Sg.c_spec_l06New K) (pi := Sg.i_spec_l06New) (depth := 6) (Fw.cfgP_ok (pi := Sg.i_spec_l06New) Sg.tabOK Sg.eqsOK Sg.mixOK ⟨ok_spec_l04At K, trivial⟩ trivial trivial pf_spec_l06New trivial rfl) trivial pf_spec_l06New fun_spec_l06New call_spec_l06New (fun x => by kernel_rfl)
theorem fun_spec_l08New : Tryz.prog.funcs[45]? = some Tryz.f45 := by kernel_rfl
theorem call_spec_l08New : Fw.Callable Tryz.prog 45 := Fw.callable_of fun_spec_l08New (by kernel_rfl) (by kernel_rfl)
theorem pf_spec_l08New : Fw.PFn.of Tryz.f45 = some Sg.f_spec_l08New := Fw.PFn.of_get (by kernel_rfl)
theorem l_spec_l08New_40 (K : Nat) : Fw.LoopP (Sg.c_spec_l08New K) Sg.i_spec_l08New Sg.f_spec_l08New (Sg.p_spec_l08New_40 K) := ⟨fun _ => by kernel_rfl, fun n p => by kernel_rfl⟩
theorem l_spec_l08New_41 (K : Nat) : Fw.LoopP (Sg.c_spec_l08New K) Sg.i_spec_l08New Sg.f_spec_l08New (Sg.p_spec_l08New_41 K) := ⟨fun _ => by kernel_rfl, fun n p => by kernel_rfl⟩
theorem ok_spec_l08New (K : Nat) : Fw.Ok Tryz.prog 45 (Sg.s_spec_l08New K) := Fw.funP_ok (c := Sg.c_spec_l08New K) (pi := Sg.i_spec_l08New) (depth := 6) (Fw.cfgP_ok (pi := Sg.i_spec_l08New) Sg.tabOK Sg.eqsOK Sg.mixOK ⟨ok_spec_l07New K, ok_spec_l06New K, trivial⟩ trivial trivial pf_spec_l08New ⟨⟨_, rfl, l_spec_l08New_40 K⟩, ⟨_, rfl, l_spec_l08New_41 K⟩, trivial⟩ rfl) trivial pf_spec_l08New fun_spec_l08New call_spec_l08New (fun x => by kernel_rfl)
theorem fun_spec_l03Own : Tryz.prog.funcs[200]? = some Tryz.f200 := by kernel_rfl
theorem call_spec_l03Own : Fw.Callable Tryz.prog 200 := Fw.callable_of fun_spec_l03Own (by kernel_rfl) (by kernel_rfl)
theorem pf_spec_l03Own : Fw.PFn.of Tryz.f200 = some Sg.f_spec_l03Own := Fw.PFn.of_get (by kernel_rfl)
theorem ok_spec_l03Own (K : Nat) : Fw.Ok Tryz.prog 200 (Sg.s_spec_l03Own K) := Fw.funP_ok (c := Sg.c_spec_l03Own K) (pi := Sg.i_spec_l03Own) (depth := 6) (Fw.cfgP_ok (pi := Sg.i_spec_l03Own) Sg.tabOK Sg.eqsOK Sg.mixOK trivial trivial trivial pf_spec_l03Own trivial rfl) trivial pf_spec_l03Own fun_spec_l03Own call_spec_l03Own (fun x => by kernel_rfl)
theorem fun_spec_l03Copy : Tryz.prog.funcs[149]? = some Tryz.f149 := by kernel_rfl
theorem call_spec_l03Copy : Fw.Callable Tryz.prog 149 := Fw.callable_of fun_spec_l03Copy (by kernel_rfl) (by kernel_rfl)
theorem pf_spec_l03Copy : Fw.PFn.of Tryz.f149 = some Sg.f_spec_l03Copy := Fw.PFn.of_get (by kernel_rfl)
theorem l_spec_l03Copy_0 (K : Nat) : Fw.LoopP (Sg.c_spec_l03Copy K) Sg.i_spec_l03Copy Sg.f_spec_l03Copy (Sg.p_spec_l03Copy_0 K) := ⟨fun _ => by kernel_rfl, fun n p => by kernel_rfl⟩
theorem ok_spec_l03Copy (K : Nat) : Fw.Ok Tryz.prog 149 (Sg.s_spec_l03Copy K) := Fw.funP_ok (c := Sg.c_spec_l03Copy K) (pi := Sg.i_spec_l03Copy) (depth := 6) (Fw.cfgP_ok (pi := Sg.i_spec_l03Copy) Sg.tabOK Sg.eqsOK Sg.mixOK ⟨ok_spec_l03Own K, trivial⟩ trivial trivial pf_spec_l03Copy ⟨⟨_, rfl, l_spec_l03Copy_0 K⟩, trivial⟩ rfl) trivial pf_spec_l03Copy fun_spec_l03Copy call_spec_l03Copy (fun x => by kernel_rfl)
theorem fun_spec_l05Own : Tryz.prog.funcs[80]? = some Tryz.f80 := by kernel_rfl
theorem call_spec_l05Own : Fw.Callable Tryz.prog 80 := Fw.callable_of fun_spec_l05Own (by kernel_rfl) (by kernel_rfl)
theorem pf_spec_l05Own : Fw.PFn.of Tryz.f80 = some Sg.f_spec_l05Own := Fw.PFn.of_get (by kernel_rfl)
theorem ok_spec_l05Own (K : Nat) : Fw.Ok Tryz.prog 80 (Sg.s_spec_l05Own K) := Fw.funP_ok (c := Sg.c_spec_l05Own K) (pi := Sg.i_spec_l05Own) (depth := 6) (Fw.cfgP_ok (pi := Sg.i_spec_l05Own) Sg.tabOK Sg.eqsOK Sg.mixOK ⟨ok_spec_l03Copy K, trivial⟩ trivial trivial pf_spec_l05Own trivial rfl) trivial pf_spec_l05Own fun_spec_l05Own call_spec_l05Own (fun x => by kernel_rfl)
theorem fun_spec_l07Own : Tryz.prog.funcs[100]? = some Tryz.f100 := by kernel_rfl
theorem call_spec_l07Own : Fw.Callable Tryz.prog 100 := Fw.callable_of fun_spec_l07Own (by kernel_rfl) (by kernel_rfl)
theorem pf_spec_l07Own : Fw.PFn.of Tryz.f100 = some Sg.f_spec_l07Own := Fw.PFn.of_get (by kernel_rfl)
theorem ok_spec_l07Own (K : Nat) : Fw.Ok Tryz.prog 100 (Sg.s_spec_l07Own K) := Fw.funP_ok (c := Sg.c_spec_l07Own K) (pi := Sg.i_spec_l07Own) (depth := 6) (Fw.cfgP_ok (pi := Sg.i_spec_l07Own) Sg.tabOK Sg.eqsOK Sg.mixOK ⟨ok_spec_l07CopyWishes K, trivial⟩ trivial trivial pf_spec_l07Own trivial rfl) trivial pf_spec_l07Own fun_spec_l07Own call_spec_l07Own (fun x => by kernel_rfl)
theorem fun_spec_l06Own : Tryz.prog.funcs[101]? = some Tryz.f101 := by kernel_rfl
theorem call_spec_l06Own : Fw.Callable Tryz.prog 101 := Fw.callable_of fun_spec_l06Own (by kernel_rfl) (by kernel_rfl)
theorem pf_spec_l06Own : Fw.PFn.of Tryz.f101 = some Sg.f_spec_l06Own := Fw.PFn.of_get (by kernel_rfl)
theorem ok_spec_l06Own (K : Nat) : Fw.Ok Tryz.prog 101 (Sg.s_spec_l06Own K) := Fw.funP_ok (c := Sg.c_spec_l06Own K) (pi := Sg.i_spec_l06Own) (depth := 6) (Fw.cfgP_ok (pi := Sg.i_spec_l06Own) Sg.tabOK Sg.eqsOK Sg.mixOK trivial trivial trivial pf_spec_l06Own trivial rfl) trivial pf_spec_l06Own fun_spec_l06Own call_spec_l06Own (fun x => by kernel_rfl)
theorem fun_spec_l05OwnResult : Tryz.prog.funcs[81]? = some Tryz.f81 := by kernel_rfl
theorem call_spec_l05OwnResult : Fw.Callable Tryz.prog 81 := Fw.callable_of fun_spec_l05OwnResult (by kernel_rfl) (by kernel_rfl)
theorem pf_spec_l05OwnResult : Fw.PFn.of Tryz.f81 = some Sg.f_spec_l05OwnResult := Fw.PFn.of_get (by kernel_rfl)
theorem ok_spec_l05OwnResult (K : Nat) : Fw.Ok Tryz.prog 81 (Sg.s_spec_l05OwnResult K) := Fw.funP_ok (c := Sg.c_spec_l05OwnResult K) (pi := Sg.i_spec_l05OwnResult) (depth := 6) (Fw.cfgP_ok (pi := Sg.i_spec_l05OwnResult) Sg.tabOK Sg.eqsOK Sg.mixOK trivial trivial trivial pf_spec_l05OwnResult trivial rfl) trivial pf_spec_l05OwnResult fun_spec_l05OwnResult call_spec_l05OwnResult (fun x => by kernel_rfl)
theorem fun_spec_l07OwnMoment : Tryz.prog.funcs[102]? = some Tryz.f102 := by kernel_rfl
theorem call_spec_l07OwnMoment : Fw.Callable Tryz.prog 102 := Fw.callable_of fun_spec_l07OwnMoment (by kernel_rfl) (by kernel_rfl)
theorem pf_spec_l07OwnMoment : Fw.PFn.of Tryz.f102 = some Sg.f_spec_l07OwnMoment := Fw.PFn.of_get (by kernel_rfl)
theorem ok_spec_l07OwnMoment (K : Nat) : Fw.Ok Tryz.prog 102 (Sg.s_spec_l07OwnMoment K) := Fw.funP_ok (c := Sg.c_spec_l07OwnMoment K) (pi := Sg.i_spec_l07OwnMoment) (depth := 6) (Fw.cfgP_ok (pi := Sg.i_spec_l07OwnMoment) Sg.tabOK Sg.eqsOK Sg.mixOK ⟨ok_spec_l05OwnResult K, trivial⟩ trivial trivial pf_spec_l07OwnMoment trivial rfl) trivial pf_spec_l07OwnMoment fun_spec_l07OwnMoment call_spec_l07OwnMoment (fun x => by kernel_rfl)
theorem fun_spec_l08Own : Tryz.prog.funcs[44]? = some Tryz.f44 := by kernel_rfl
theorem call_spec_l08Own : Fw.Callable Tryz.prog 44 := Fw.callable_of fun_spec_l08Own (by kernel_rfl) (by kernel_rfl)
theorem pf_spec_l08Own : Fw.PFn.of Tryz.f44 = some Sg.f_spec_l08Own := Fw.PFn.of_get (by kernel_rfl)
theorem l_spec_l08Own_0 (K : Nat) : Fw.LoopP (Sg.c_spec_l08Own K) Sg.i_spec_l08Own Sg.f_spec_l08Own (Sg.p_spec_l08Own_0 K) := ⟨fun _ => by kernel_rfl, fun n p => by kernel_rfl⟩
theorem l_spec_l08Own_1 (K : Nat) : Fw.LoopP (Sg.c_spec_l08Own K) Sg.i_spec_l08Own Sg.f_spec_l08Own (Sg.p_spec_l08Own_1 K) := ⟨fun _ => by kernel_rfl, fun n p => by kernel_rfl⟩
theorem l_spec_l08Own_2 (K : Nat) : Fw.LoopP (Sg.c_spec_l08Own K) Sg.i_spec_l08Own Sg.f_spec_l08Own (Sg.p_spec_l08Own_2 K) := ⟨fun _ => by kernel_rfl, fun n p => by kernel_rfl⟩
theorem ok_spec_l08Own (K : Nat) : Fw.Ok Tryz.prog 44 (Sg.s_spec_l08Own K) := Fw.funP_ok (c := Sg.c_spec_l08Own K) (pi := Sg.i_spec_l08Own) (depth := 6) (Fw.cfgP_ok (pi := Sg.i_spec_l08Own) Sg.tabOK Sg.eqsOK Sg.mixOK ⟨ok_spec_l05Own K, ok_spec_l07Own K, ok_spec_l06Own K, ok_spec_l07OwnMoment K, trivial⟩ trivial trivial pf_spec_l08Own ⟨⟨_, rfl, l_spec_l08Own_0 K⟩, ⟨_, rfl, l_spec_l08Own_1 K⟩, ⟨_, rfl, l_spec_l08Own_2 K⟩, trivial⟩ rfl) trivial pf_spec_l08Own fun_spec_l08Own call_spec_l08Own (fun x => by kernel_rfl)
theorem fun_spec_NewWorld : Tryz.prog.funcs[9]? = some Tryz.f9 := by kernel_rfl
theorem call_spec_NewWorld : Fw.Callable Tryz.prog 9 := Fw.callable_of fun_spec_NewWorld (by kernel_rfl) (by kernel_rfl)
theorem pf_spec_NewWorld : Fw.PFn.of Tryz.f9 = some Sg.f_spec_NewWorld := Fw.PFn.of_get (by kernel_rfl)
theorem l_spec_NewWorld_0 (K : Nat) : Fw.LoopP (Sg.c_spec_NewWorld K) Sg.i_spec_NewWorld Sg.f_spec_NewWorld (Sg.p_spec_NewWorld_0 K) := ⟨fun _ => by kernel_rfl, fun n p => by kernel_rfl⟩
theorem l_spec_NewWorld_1 (K : Nat) : Fw.LoopP (Sg.c_spec_NewWorld K) Sg.i_spec_NewWorld Sg.f_spec_NewWorld (Sg.p_spec_NewWorld_1 K) := ⟨fun _ => by kernel_rfl, fun n p => by kernel_rfl⟩
theorem ok_spec_NewWorld (K : Nat) : Fw.Ok Tryz.prog 9 (Sg.s_spec_NewWorld K) := Fw.funP_ok (c := Sg.c_spec_NewWorld K) (pi := Sg.i_spec_NewWorld) (depth := 6) (Fw.cfgP_ok (pi := Sg.i_spec_NewWorld) Sg.tabOK Sg.eqsOK Sg.mixOK ⟨ok_spec_l00Word K, ok_spec_l05OK K, ok_spec_l07Wishes K, ok_spec_l08New K, ok_spec_l08Own K, trivial⟩ trivial trivial pf_spec_NewWorld ⟨⟨_, rfl, l_spec_NewWorld_0 K⟩, ⟨_, rfl, l_spec_NewWorld_1 K⟩, trivial⟩ rfl) trivial pf_spec_NewWorld fun_spec_NewWorld call_spec_NewWorld (fun x => by kernel_rfl)
theorem fun_impl_isList_simpl_Wish : Tryz.prog.funcs[49]? = some Tryz.f49 := by kernel_rfl
theorem call_impl_isList_simpl_Wish : Fw.Callable Tryz.prog 49 := Fw.callable_of fun_impl_isList_simpl_Wish (by kernel_rfl) (by kernel_rfl)
theorem pf_impl_isList_simpl_Wish : Fw.PFn.of Tryz.f49 = some Sg.f_impl_isList_simpl_Wish := Fw.PFn.of_get (by kernel_rfl)
theorem ok_impl_isList_simpl_Wish (K : Nat) : Fw.Ok Tryz.prog 49 (Sg.s_impl_isList_simpl_Wish K) := Fw.funP_ok (c := Sg.c_impl_isList_simpl_Wish K) (pi := Sg.i_impl_isList_simpl_Wish) (depth := 6) (Fw.cfgP_ok (pi := Sg.i_impl_isList_simpl_Wish) Sg.tabOK Sg.eqsOK Sg.mixOK trivial trivial trivial pf_impl_isList_simpl_Wish trivial rfl) trivial pf_impl_isList_simpl_Wish fun_impl_isList_simpl_Wish call_impl_isList_simpl_Wish (fun x => by kernel_rfl)
theorem fun_impl_isList_string : Tryz.prog.funcs[50]? = some Tryz.f50 := by kernel_rfl
theorem call_impl_isList_string : Fw.Callable Tryz.prog 50 := Fw.callable_of fun_impl_isList_string (by kernel_rfl) (by kernel_rfl)
theorem pf_impl_isList_string : Fw.PFn.of Tryz.f50 = some Sg.f_impl_isList_string := Fw.PFn.of_get (by kernel_rfl)
theorem ok_impl_isList_string (K : Nat) : Fw.Ok Tryz.prog 50 (Sg.s_impl_isList_string K) := Fw.funP_ok (c := Sg.c_impl_isList_string K) (pi := Sg.i_impl_isList_string) (depth := 6) (Fw.cfgP_ok (pi := Sg.i_impl_isList_string) Sg.tabOK Sg.eqsOK Sg.mixOK trivial trivial trivial pf_impl_isList_string trivial rfl) trivial pf_impl_isList_string fun_impl_isList_string call_impl_isList_string (fun x => by kernel_rfl)
theorem fun_impl_isList_impl_Commit : Tryz.prog.funcs[168]? = some Tryz.f168 := by kernel_rfl
theorem call_impl_isList_impl_Commit : Fw.Callable Tryz.prog 168 := Fw.callable_of fun_impl_isList_impl_Commit (by kernel_rfl) (by kernel_rfl)
theorem pf_impl_isList_impl_Commit : Fw.PFn.of Tryz.f168 = some Sg.f_impl_isList_impl_Commit := Fw.PFn.of_get (by kernel_rfl)
theorem ok_impl_isList_impl_Commit (K : Nat) : Fw.Ok Tryz.prog 168 (Sg.s_impl_isList_impl_Commit K) := Fw.funP_ok (c := Sg.c_impl_isList_impl_Commit K) (pi := Sg.i_impl_isList_impl_Commit) (depth := 6) (Fw.cfgP_ok (pi := Sg.i_impl_isList_impl_Commit) Sg.tabOK Sg.eqsOK Sg.mixOK trivial trivial trivial pf_impl_isList_impl_Commit trivial rfl) trivial pf_impl_isList_impl_Commit fun_impl_isList_impl_Commit call_impl_isList_impl_Commit (fun x => by kernel_rfl)
theorem fun_impl_within : Tryz.prog.funcs[118]? = some Tryz.f118 := by kernel_rfl
theorem call_impl_within : Fw.Callable Tryz.prog 118 := Fw.callable_of fun_impl_within (by kernel_rfl) (by kernel_rfl)
theorem pf_impl_within : Fw.PFn.of Tryz.f118 = some Sg.f_impl_within := Fw.PFn.of_get (by kernel_rfl)
theorem ok_impl_within (K : Nat) : Fw.Ok Tryz.prog 118 (Sg.s_impl_within K) := Fw.funP_ok (c := Sg.c_impl_within K) (pi := Sg.i_impl_within) (depth := 6) (Fw.cfgP_ok (pi := Sg.i_impl_within) Sg.tabOK Sg.eqsOK Sg.mixOK trivial trivial trivial pf_impl_within trivial rfl) trivial pf_impl_within fun_impl_within call_impl_within (fun x => by kernel_rfl)
theorem fun_impl_isLetter : Tryz.prog.funcs[119]? = some Tryz.f119 := by kernel_rfl
theorem call_impl_isLetter : Fw.Callable Tryz.prog 119 := Fw.callable_of fun_impl_isLetter (by kernel_rfl) (by kernel_rfl)
theorem pf_impl_isLetter : Fw.PFn.of Tryz.f119 = some Sg.f_impl_isLetter := Fw.PFn.of_get (by kernel_rfl)
theorem ok_impl_isLetter (K : Nat) : Fw.Ok Tryz.prog 119 (Sg.s_impl_isLetter K) := Fw.funP_ok (c := Sg.c_impl_isLetter K) (pi := Sg.i_impl_isLetter) (depth := 6) (Fw.cfgP_ok (pi := Sg.i_impl_isLetter) Sg.tabOK Sg.eqsOK Sg.mixOK trivial trivial trivial pf_impl_isLetter trivial rfl) trivial pf_impl_isLetter fun_impl_isLetter call_impl_isLetter (fun x => by kernel_rfl)
theorem fun_impl_areAll_byte_1 : Tryz.prog.funcs[180]? = some Tryz.f180 := by kernel_rfl
theorem call_impl_areAll_byte_1 : Fw.Callable Tryz.prog 180 := Fw.callable_of fun_impl_areAll_byte_1 (by kernel_rfl) (by kernel_rfl)
theorem pf_impl_areAll_byte_1 : Fw.PFn.of Tryz.f180 = some Sg.f_impl_areAll_byte_1 := Fw.PFn.of_get (by kernel_rfl)
theorem fun_slices_IndexFunc_byte : Tryz.prog.funcs[209]? = some Tryz.f209 := by kernel_rfl
theorem call_slices_IndexFunc_byte : Fw.Callable Tryz.prog 209 := Fw.callable_of fun_slices_IndexFunc_byte (by kernel_rfl) (by kernel_rfl)
theorem pf_slices_IndexFunc_byte : Fw.PFn.of Tryz.f209 = some Sg.f_slices_IndexFunc_byte := Fw.PFn.of_get (by kernel_rfl)
theorem fun_slices_ContainsFunc_byte : Tryz.prog.funcs[179]? = some Tryz.f179 := by kernel_rfl
theorem call_slices_ContainsFunc_byte : Fw.Callable Tryz.prog 179 := Fw.callable_of fun_slices_ContainsFunc_byte (by kernel_rfl) (by kernel_rfl)
theorem pf_slices_ContainsFunc_byte : Fw.PFn.of Tryz.f179 = some Sg.f_slices_ContainsFunc_byte := Fw.PFn.of_get (by kernel_rfl)
theorem fun_impl_areAll_byte : Tryz.prog.funcs[120]? = some Tryz.f120 := by kernel_rfl
theorem call_impl_areAll_byte : Fw.Callable Tryz.prog 120 := Fw.callable_of fun_impl_areAll_byte (by kernel_rfl) (by kernel_rfl)
theorem pf_impl_areAll_byte : Fw.PFn.of Tryz.f120 = some Sg.f_impl_areAll_byte := Fw.PFn.of_get (by kernel_rfl)
theorem fun_impl_isDigit : Tryz.prog.funcs[122]? = some Tryz.f122 := by kernel_rfl
theorem call_impl_isDigit : Fw.Callable Tryz.prog 122 := Fw.callable_of fun_impl_isDigit (by kernel_rfl) (by kernel_rfl)
theorem pf_impl_isDigit : Fw.PFn.of Tryz.f122 = some Sg.f_impl_isDigit := Fw.PFn.of_get (by kernel_rfl)
theorem ok_impl_isDigit (K : Nat) : Fw.Ok Tryz.prog 122 (Sg.s_impl_isDigit K) := Fw.funP_ok (c := Sg.c_impl_isDigit K) (pi := Sg.i_impl_isDigit) (depth := 6) (Fw.cfgP_ok (pi := Sg.i_impl_isDigit) Sg.tabOK Sg.eqsOK Sg.mixOK trivial trivial trivial pf_impl_isDigit trivial rfl) trivial pf_impl_isDigit fun_impl_isDigit call_impl_isDigit (fun x => by kernel_rfl)
theorem fun_impl_NameOK_1 : Tryz.prog.funcs[121]? = some Tryz.f121 := by kernel_rfl
theorem call_impl_NameOK_1 : Fw.Callable Tryz.prog 121 := Fw.callable_of fun_impl_NameOK_1 (by kernel_rfl) (by kernel_rfl)
theorem pf_impl_NameOK_1 : Fw.PFn.of Tryz.f121 = some Sg.f_impl_NameOK_1 := Fw.PFn.of_get (by kernel_rfl)
theorem ok_impl_NameOK_1 (K : Nat) : Fw.Ok Tryz.prog 121 (Sg.s_impl_NameOK_1 K) := Fw.funP_ok (c := Sg.c_impl_NameOK_1 K) (pi := Sg.i_impl_NameOK_1) (depth := 6) (Fw.cfgP_ok (pi := Sg.i_impl_NameOK_1) Sg.tabOK Sg.eqsOK Sg.mixOK ⟨ok_impl_isLetter K, ok_impl_isDigit K, trivial⟩ trivial trivial pf_impl_NameOK_1 trivial rfl) trivial pf_impl_NameOK_1 fun_impl_NameOK_1 call_impl_NameOK_1 (fun x => by kernel_rfl)
theorem l_impl_areAll_byte__impl_NameOK_1_0 (K : Nat) : Fw.LoopP (Sg.c_impl_areAll_byte__impl_NameOK_1 K) Sg.i_impl_areAll_byte__impl_NameOK_1 Sg.f_slices_IndexFunc_byte (Sg.p_impl_areAll_byte__impl_NameOK_1_0 K) := ⟨fun _ => by kernel_rfl, fun n p => by kernel_rfl⟩
theorem ok_impl_areAll_byte__impl_NameOK_1 (K : Nat) : Fw.Ok Tryz.prog 120 (Sg.s_impl_areAll_byte__impl_NameOK_1 K) := Fw.funP_ok (c := Sg.c_impl_areAll_byte__impl_NameOK_1 K) (pi := Sg.i_impl_areAll_byte__impl_NameOK_1) (depth := 6) (Fw.cfgP_ok (pi := Sg.i_impl_areAll_byte__impl_NameOK_1) Sg.tabOK Sg.eqsOK Sg.mixOK ⟨ok_impl_NameOK_1 K, trivial⟩ ⟨⟨fun_impl_areAll_byte_1, call_impl_areAll_byte_1⟩, ⟨fun_slices_IndexFunc_byte, call_slices_IndexFunc_byte⟩, ⟨fun_slices_ContainsFunc_byte, call_slices_ContainsFunc_byte⟩, trivial⟩ ⟨⟨rfl, pf_impl_areAll_byte_1⟩, ⟨rfl, pf_slices_IndexFunc_byte⟩, ⟨rfl, pf_slices_ContainsFunc_byte⟩, trivial⟩ pf_impl_areAll_byte ⟨⟨_, rfl, l_impl_areAll_byte__impl_NameOK_1_0 K⟩, trivial⟩ rfl) ⟨⟨rfl, pf_impl_areAll_byte_1⟩, ⟨rfl, pf_slices_IndexFunc_byte⟩, ⟨rfl, pf_slices_ContainsFunc_byte⟩, trivial⟩ pf_impl_areAll_byte fun_impl_areAll_byte call_impl_areAll_byte (fun x => by kernel_rfl)
theorem fun_impl_NameOK : Tryz.prog.funcs[54]? = some Tryz.f54 := by kernel_rfl
theorem call_impl_NameOK : Fw.Callable Tryz.prog 54 := Fw.callable_of fun_impl_NameOK (by kernel_rfl) (by kernel_rfl)
theorem pf_impl_NameOK : Fw.PFn.of Tryz.f54 = some Sg.f_impl_NameOK := Fw.PFn.of_get (by kernel_rfl)
theorem ok_impl_NameOK (K : Nat) : Fw.Ok Tryz.prog 54 (Sg.s_impl_NameOK K) := Fw.funP_ok (c := Sg.c_impl_NameOK K) (pi := Sg.i_impl_NameOK) (depth := 6) (Fw.cfgP_ok (pi := Sg.i_impl_NameOK) Sg.tabOK Sg.eqsOK Sg.mixOK ⟨ok_impl_within K, ok_impl_isLetter K, ok_impl_NameOK_1 K, ok_impl_areAll_byte__impl_NameOK_1 K, trivial⟩ ⟨⟨fun_impl_areAll_byte_1, call_impl_areAll_byte_1⟩, ⟨fun_slices_IndexFunc_byte, call_slices_IndexFunc_byte⟩, ⟨fun_slices_ContainsFunc_byte, call_slices_ContainsFunc_byte⟩, ⟨fun_impl_areAll_byte, call_impl_areAll_byte⟩, trivial⟩ ⟨⟨rfl, pf_impl_areAll_byte_1⟩, ⟨rfl, pf_slices_IndexFunc_byte⟩, ⟨rfl, pf_slices_ContainsFunc_byte⟩, ⟨rfl, pf_impl_areAll_byte⟩, trivial⟩ pf_impl_NameOK trivial rfl) ⟨⟨rfl, pf_impl_areAll_byte_1⟩, ⟨rfl, pf_slices_IndexFunc_byte⟩, ⟨rfl, pf_slices_ContainsFunc_byte⟩, ⟨rfl, pf_impl_areAll_byte⟩, trivial⟩ pf_impl_NameOK fun_impl_NameOK call_impl_NameOK (fun x => by kernel_rfl)
theorem fun_impl_isValue : Tryz.prog.funcs[201]? = some Tryz.f201 := by kernel_rfl
theorem call_impl_isValue : Fw.Callable Tryz.prog 201 := Fw.callable_of fun_impl_isValue (by kernel_rfl) (by kernel_rfl)
theorem pf_impl_isValue : Fw.PFn.of Tryz.f201 = some Sg.f_impl_isValue := Fw.PFn.of_get (by kernel_rfl)
theorem ok_impl_isValue (K : Nat) : Fw.Ok Tryz.prog 201 (Sg.s_impl_isValue K) := Fw.funP_ok (c := Sg.c_impl_isValue K) (pi := Sg.i_impl_isValue) (depth := 6) (Fw.cfgP_ok (pi := Sg.i_impl_isValue) Sg.tabOK Sg.eqsOK Sg.mixOK ⟨ok_impl_within K, trivial⟩ trivial trivial pf_impl_isValue trivial rfl) trivial pf_impl_isValue fun_impl_isValue call_impl_isValue (fun x => by kernel_rfl)
theorem fun_impl_MapOK : Tryz.prog.funcs[220]? = some Tryz.f220 := by kernel_rfl
theorem call_impl_MapOK : Fw.Callable Tryz.prog 220 := Fw.callable_of fun_impl_MapOK (by kernel_rfl) (by kernel_rfl)
theorem pf_impl_MapOK : Fw.PFn.of Tryz.f220 = some Sg.f_impl_MapOK := Fw.PFn.of_get (by kernel_rfl)
theorem l_impl_MapOK_0 (K : Nat) : Fw.LoopP (Sg.c_impl_MapOK K) Sg.i_impl_MapOK Sg.f_impl_MapOK (Sg.p_impl_MapOK_0 K) := ⟨fun _ => by kernel_rfl, fun n p => by kernel_rfl⟩
theorem ok_impl_MapOK (K : Nat) : Fw.Ok Tryz.prog 220 (Sg.s_impl_MapOK K) := Fw.funP_ok (c := Sg.c_impl_MapOK K) (pi := Sg.i_impl_MapOK) (depth := 6) (Fw.cfgP_ok (pi := Sg.i_impl_MapOK) Sg.tabOK Sg.eqsOK Sg.mixOK ⟨ok_impl_NameOK K, ok_impl_isValue K, trivial⟩ trivial trivial pf_impl_MapOK ⟨⟨_, rfl, l_impl_MapOK_0 K⟩, trivial⟩ rfl) trivial pf_impl_MapOK fun_impl_MapOK call_impl_MapOK (fun x => by kernel_rfl)
theorem fun_impl_Commit_isAt_1 : Tryz.prog.funcs[222]? = some Tryz.f222 := by kernel_rfl
theorem call_impl_Commit_isAt_1 : Fw.Callable Tryz.prog 222 := Fw.callable_of fun_impl_Commit_isAt_1 (by kernel_rfl) (by kernel_rfl)
theorem pf_impl_Commit_isAt_1 : Fw.PFn.of Tryz.f222 = some Sg.f_impl_Commit_isAt_1 := Fw.PFn.of_get (by kernel_rfl)
theorem fun_impl_areAll_int_1 : Tryz.prog.funcs[234]? = some Tryz.f234 := by kernel_rfl
theorem call_impl_areAll_int_1 : Fw.Callable Tryz.prog 234 := Fw.callable_of fun_impl_areAll_int_1 (by kernel_rfl) (by kernel_rfl)
theorem pf_impl_areAll_int_1 : Fw.PFn.of Tryz.f234 = some Sg.f_impl_areAll_int_1 := Fw.PFn.of_get (by kernel_rfl)
theorem fun_slices_IndexFunc_int : Tryz.prog.funcs[238]? = some Tryz.f238 := by kernel_rfl
theorem call_slices_IndexFunc_int : Fw.Callable Tryz.prog 238 := Fw.callable_of fun_slices_IndexFunc_int (by kernel_rfl) (by kernel_rfl)
theorem pf_slices_IndexFunc_int : Fw.PFn.of Tryz.f238 = some Sg.f_slices_IndexFunc_int := Fw.PFn.of_get (by kernel_rfl)
theorem fun_slices_ContainsFunc_int : Tryz.prog.funcs[233]? = some Tryz.f233 := by kernel_rfl
theorem call_slices_ContainsFunc_int : Fw.Callable Tryz.prog 233 := Fw.callable_of fun_slices_ContainsFunc_int (by kernel_rfl) (by kernel_rfl)
theorem pf_slices_ContainsFunc_int : Fw.PFn.of Tryz.f233 = some Sg.f_slices_ContainsFunc_int := Fw.PFn.of_get (by kernel_rfl)
theorem fun_impl_areAll_int : Tryz.prog.funcs[221]? = some Tryz.f221 := by kernel_rfl
theorem call_impl_areAll_int : Fw.Callable Tryz.prog 221 := Fw.callable_of fun_impl_areAll_int (by kernel_rfl) (by kernel_rfl)
theorem pf_impl_areAll_int : Fw.PFn.of Tryz.f221 = some Sg.f_impl_areAll_int := Fw.PFn.of_get (by kernel_rfl)
theorem l_impl_areAll_int__impl_Commit_isAt_1_0 (K : Nat) : Fw.LoopP (Sg.c_impl_areAll_int__impl_Commit_isAt_1 K) Sg.i_impl_areAll_int__impl_Commit_isAt_1 Sg.f_slices_IndexFunc_int (Sg.p_impl_areAll_int__impl_Commit_isAt_1_0 K) := ⟨fun _ => by kernel_rfl, fun n p => by kernel_rfl⟩
theorem ok_impl_areAll_int__impl_Commit_isAt_1 (K : Nat) : Fw.Ok Tryz.prog 221 (Sg.s_impl_areAll_int__impl_Commit_isAt_1 K) := Fw.funP_ok (c := Sg.c_impl_areAll_int__impl_Commit_isAt_1 K) (pi := Sg.i_impl_areAll_int__impl_Commit_isAt_1) (depth := 6) (Fw.cfgP_ok (pi := Sg.i_impl_areAll_int__impl_Commit_isAt_1) Sg.tabOK Sg.eqsOK Sg.mixOK ⟨ok_impl_within K, trivial⟩ ⟨⟨fun_impl_Commit_isAt_1, call_impl_Commit_isAt_1⟩, ⟨fun_impl_areAll_int_1, call_impl_areAll_int_1⟩, ⟨fun_slices_IndexFunc_int, call_slices_IndexFunc_int⟩, ⟨fun_slices_ContainsFunc_int, call_slices_ContainsFunc_int⟩, trivial⟩ ⟨⟨rfl, pf_impl_Commit_isAt_1⟩, ⟨rfl, pf_impl_areAll_int_1⟩, ⟨rfl, pf_slices_IndexFunc_int⟩, ⟨rfl, pf_slices_ContainsFunc_int⟩, trivial⟩ pf_impl_areAll_int ⟨⟨_, rfl, l_impl_areAll_int__impl_Commit_isAt_1_0 K⟩, trivial⟩ rfl) ⟨⟨rfl, pf_impl_Commit_isAt_1⟩, ⟨rfl, pf_impl_areAll_int_1⟩, ⟨rfl, pf_slices_IndexFunc_int⟩, ⟨rfl, pf_slices_ContainsFunc_int⟩, trivial⟩ pf_impl_areAll_int fun_impl_areAll_int call_impl_areAll_int (fun x => by kernel_rfl)
theorem fun_impl_Commit_isAt : Tryz.prog.funcs[206]? = some Tryz.f206 := by kernel_rfl
theorem call_impl_Commit_isAt : Fw.Callable Tryz.prog 206 := Fw.callable_of fun_impl_Commit_isAt (by kernel_rfl) (by kernel_rfl)
theorem pf_impl_Commit_isAt : Fw.PFn.of Tryz.f206 = some Sg.f_impl_Commit_isAt := Fw.PFn.of_get (by kernel_rfl)
theorem ok_impl_Commit_isAt (K : Nat) : Fw.Ok Tryz.prog 206 (Sg.s_impl_Commit_isAt K) := Fw.funP_ok (c := Sg.c_impl_Commit_isAt K) (pi := Sg.i_impl_Commit_isAt) (depth := 6) (Fw.cfgP_ok (pi := Sg.i_impl_Commit_isAt) Sg.tabOK Sg.eqsOK Sg.mixOK ⟨ok_impl_within K, ok_impl_MapOK K, ok_impl_areAll_int__impl_Commit_isAt_1 K, trivial⟩ ⟨⟨fun_impl_Commit_isAt_1, call_impl_Commit_isAt_1⟩, ⟨fun_impl_areAll_int_1, call_impl_areAll_int_1⟩, ⟨fun_slices_IndexFunc_int, call_slices_IndexFunc_int⟩, ⟨fun_slices_ContainsFunc_int, call_slices_ContainsFunc_int⟩, ⟨fun_impl_areAll_int, call_impl_areAll_int⟩, trivial⟩ ⟨⟨rfl, pf_impl_Commit_isAt_1⟩, ⟨rfl, pf_impl_areAll_int_1⟩, ⟨rfl, pf_slices_IndexFunc_int⟩, ⟨rfl, pf_slices_ContainsFunc_int⟩, ⟨rfl, pf_impl_areAll_int⟩, trivial⟩ pf_impl_Commit_isAt trivial rfl) ⟨⟨rfl, pf_impl_Commit_isAt_1⟩, ⟨rfl, pf_impl_areAll_int_1⟩, ⟨rfl, pf_slices_IndexFunc_int⟩, ⟨rfl, pf_slices_ContainsFunc_int⟩, ⟨rfl, pf_impl_areAll_int⟩, trivial⟩ pf_impl_Commit_isAt fun_impl_Commit_isAt call_impl_Commit_isAt (fun x => by kernel_rfl)
theorem fun_impl_areCommits : Tryz.prog.funcs[169]? = some Tryz.f169 := by kernel_rfl
theorem call_impl_areCommits : Fw.Callable Tryz.prog 169 := Fw.callable_of fun_impl_areCommits (by kernel_rfl) (by kernel_rfl)
theorem pf_impl_areCommits : Fw.PFn.of Tryz.f169 = some Sg.f_impl_areCommits := Fw.PFn.of_get (by kernel_rfl)
theorem l_impl_areCommits_0 (K : Nat) : Fw.LoopP (Sg.c_impl_areCommits K) Sg.i_impl_areCommits Sg.f_impl_areCommits (Sg.p_impl_areCommits_0 K) := ⟨fun _ => by kernel_rfl, fun n p => by kernel_rfl⟩
theorem ok_impl_areCommits (K : Nat) : Fw.Ok Tryz.prog 169 (Sg.s_impl_areCommits K) := Fw.funP_ok (c := Sg.c_impl_areCommits K) (pi := Sg.i_impl_areCommits) (depth := 6) (Fw.cfgP_ok (pi := Sg.i_impl_areCommits) Sg.tabOK Sg.eqsOK Sg.mixOK ⟨ok_impl_Commit_isAt K, trivial⟩ trivial trivial pf_impl_areCommits ⟨⟨_, rfl, l_impl_areCommits_0 K⟩, trivial⟩ rfl) trivial pf_impl_areCommits fun_impl_areCommits call_impl_areCommits (fun x => by kernel_rfl)
theorem fun_impl_StoreOK : Tryz.prog.funcs[108]? = some Tryz.f108 := by kernel_rfl
theorem call_impl_StoreOK : Fw.Callable Tryz.prog 108 := Fw.callable_of fun_impl_StoreOK (by kernel_rfl) (by kernel_rfl)
theorem pf_impl_StoreOK : Fw.PFn.of Tryz.f108 = some Sg.f_impl_StoreOK := Fw.PFn.of_get (by kernel_rfl)
theorem ok_impl_StoreOK (K : Nat) : Fw.Ok Tryz.prog 108 (Sg.s_impl_StoreOK K) := Fw.funP_ok (c := Sg.c_impl_StoreOK K) (pi := Sg.i_impl_StoreOK) (depth := 6) (Fw.cfgP_ok (pi := Sg.i_impl_StoreOK) Sg.tabOK Sg.eqsOK Sg.mixOK ⟨ok_impl_isList_impl_Commit K, ok_impl_areCommits K, trivial⟩ trivial trivial pf_impl_StoreOK trivial rfl) trivial pf_impl_StoreOK fun_impl_StoreOK call_impl_StoreOK (fun x => by kernel_rfl)
theorem fun_impl_areAll_impl_Ref_1 : Tryz.prog.funcs[172]? = some Tryz.f172 := by kernel_rfl
theorem call_impl_areAll_impl_Ref_1 : Fw.Callable Tryz.prog 172 := Fw.callable_of fun_impl_areAll_impl_Ref_1 (by kernel_rfl) (by kernel_rfl)
theorem pf_impl_areAll_impl_Ref_1 : Fw.PFn.of Tryz.f172 = some Sg.f_impl_areAll_impl_Ref_1 := Fw.PFn.of_get (by kernel_rfl)
theorem fun_slices_IndexFunc_impl_Ref : Tryz.prog.funcs[181]? = some Tryz.f181 := by kernel_rfl
theorem call_slices_IndexFunc_impl_Ref : Fw.Callable Tryz.prog 181 := Fw.callable_of fun_slices_IndexFunc_impl_Ref (by kernel_rfl) (by kernel_rfl)
theorem pf_slices_IndexFunc_impl_Ref : Fw.PFn.of Tryz.f181 = some Sg.f_slices_IndexFunc_impl_Ref := Fw.PFn.of_get (by kernel_rfl)
theorem fun_slices_ContainsFunc_impl_Ref : Tryz.prog.funcs[171]? = some Tryz.f171 := by kernel_rfl
theorem call_slices_ContainsFunc_impl_Ref : Fw.Callable Tryz.prog 171 := Fw.callable_of fun_slices_ContainsFunc_impl_Ref (by kernel_rfl) (by kernel_rfl)
theorem pf_slices_ContainsFunc_impl_Ref : Fw.PFn.of Tryz.f171 = some Sg.f_slices_ContainsFunc_impl_Ref := Fw.PFn.of_get (by kernel_rfl)
theorem fun_impl_areAll_impl_Ref : Tryz.prog.funcs[110]? = some Tryz.f110 := by kernel_rfl
theorem call_impl_areAll_impl_Ref : Fw.Callable Tryz.prog 110 := Fw.callable_of fun_impl_areAll_impl_Ref (by kernel_rfl) (by kernel_rfl)
theorem pf_impl_areAll_impl_Ref : Fw.PFn.of Tryz.f110 = some Sg.f_impl_areAll_impl_Ref := Fw.PFn.of_get (by kernel_rfl)
theorem fun_impl_isHead : Tryz.prog.funcs[151]? = some Tryz.f151 := by kernel_rfl
theorem call_impl_isHead : Fw.Callable Tryz.prog 151 := Fw.callable_of fun_impl_isHead (by kernel_rfl) (by kernel_rfl)
theorem pf_impl_isHead : Fw.PFn.of Tryz.f151 = some Sg.f_impl_isHead := Fw.PFn.of_get (by kernel_rfl)
theorem ok_impl_isHead (K : Nat) : Fw.Ok Tryz.prog 151 (Sg.s_impl_isHead K) := Fw.funP_ok (c := Sg.c_impl_isHead K) (pi := Sg.i_impl_isHead) (depth := 6) (Fw.cfgP_ok (pi := Sg.i_impl_isHead) Sg.tabOK Sg.eqsOK Sg.mixOK ⟨ok_impl_within K, trivial⟩ trivial trivial pf_impl_isHead trivial rfl) trivial pf_impl_isHead fun_impl_isHead call_impl_isHead (fun x => by kernel_rfl)
theorem fun_impl_isRef : Tryz.prog.funcs[170]? = some Tryz.f170 := by kernel_rfl
theorem call_impl_isRef : Fw.Callable Tryz.prog 170 := Fw.callable_of fun_impl_isRef (by kernel_rfl) (by kernel_rfl)
theorem pf_impl_isRef : Fw.PFn.of Tryz.f170 = some Sg.f_impl_isRef := Fw.PFn.of_get (by kernel_rfl)
theorem ok_impl_isRef (K : Nat) : Fw.Ok Tryz.prog 170 (Sg.s_impl_isRef K) := Fw.funP_ok (c := Sg.c_impl_isRef K) (pi := Sg.i_impl_isRef) (depth := 6) (Fw.cfgP_ok (pi := Sg.i_impl_isRef) Sg.tabOK Sg.eqsOK Sg.mixOK ⟨ok_impl_within K, ok_impl_NameOK K, ok_impl_isHead K, trivial⟩ trivial trivial pf_impl_isRef trivial rfl) trivial pf_impl_isRef fun_impl_isRef call_impl_isRef (fun x => by kernel_rfl)
theorem fun_impl_place_1 : Tryz.prog.funcs[182]? = some Tryz.f182 := by kernel_rfl
theorem call_impl_place_1 : Fw.Callable Tryz.prog 182 := Fw.callable_of fun_impl_place_1 (by kernel_rfl) (by kernel_rfl)
theorem pf_impl_place_1 : Fw.PFn.of Tryz.f182 = some Sg.f_impl_place_1 := Fw.PFn.of_get (by kernel_rfl)
theorem l_slices_IndexFunc_impl_Ref__impl_place_1_0 (K : Nat) : Fw.LoopP (Sg.c_slices_IndexFunc_impl_Ref__impl_place_1 K) Sg.i_slices_IndexFunc_impl_Ref__impl_place_1 Sg.f_slices_IndexFunc_impl_Ref (Sg.p_slices_IndexFunc_impl_Ref__impl_place_1_0 K) := ⟨fun _ => by kernel_rfl, fun n p => by kernel_rfl⟩
theorem ok_slices_IndexFunc_impl_Ref__impl_place_1 (K : Nat) : Fw.Ok Tryz.prog 181 (Sg.s_slices_IndexFunc_impl_Ref__impl_place_1 K) := Fw.funP_ok (c := Sg.c_slices_IndexFunc_impl_Ref__impl_place_1 K) (pi := Sg.i_slices_IndexFunc_impl_Ref__impl_place_1) (depth := 6) (Fw.cfgP_ok (pi := Sg.i_slices_IndexFunc_impl_Ref__impl_place_1) Sg.tabOK Sg.eqsOK Sg.mixOK trivial ⟨⟨fun_impl_place_1, call_impl_place_1⟩, trivial⟩ ⟨⟨rfl, pf_impl_place_1⟩, trivial⟩ pf_slices_IndexFunc_impl_Ref ⟨⟨_, rfl, l_slices_IndexFunc_impl_Ref__impl_place_1_0 K⟩, trivial⟩ rfl) ⟨⟨rfl, pf_impl_place_1⟩, trivial⟩ pf_slices_IndexFunc_impl_Ref fun_slices_IndexFunc_impl_Ref call_slices_IndexFunc_impl_Ref (fun x => by kernel_rfl)
theorem fun_impl_place : Tryz.prog.funcs[123]? = some Tryz.f123 := by kernel_rfl
theorem call_impl_place : Fw.Callable Tryz.prog 123 := Fw.callable_of fun_impl_place (by kernel_rfl) (by kernel_rfl)
theorem pf_impl_place : Fw.PFn.of Tryz.f123 = some Sg.f_impl_place := Fw.PFn.of_get (by kernel_rfl)
theorem ok_impl_place (K : Nat) : Fw.Ok Tryz.prog 123 (Sg.s_impl_place K) := Fw.funP_ok (c := Sg.c_impl_place K) (pi := Sg.i_impl_place) (depth := 6) (Fw.cfgP_ok (pi := Sg.i_impl_place) Sg.tabOK Sg.eqsOK Sg.mixOK ⟨ok_slices_IndexFunc_impl_Ref__impl_place_1 K, trivial⟩ ⟨⟨fun_slices_IndexFunc_impl_Ref, call_slices_IndexFunc_impl_Ref⟩, ⟨fun_impl_place_1, call_impl_place_1⟩, trivial⟩ ⟨⟨rfl, pf_slices_IndexFunc_impl_Ref⟩, ⟨rfl, pf_impl_place_1⟩, trivial⟩ pf_impl_place trivial rfl) ⟨⟨rfl, pf_slices_IndexFunc_impl_Ref⟩, ⟨rfl, pf_impl_place_1⟩, trivial⟩ pf_impl_place fun_impl_place call_impl_place (fun x => by kernel_rfl)
theorem l_impl_areAll_impl_Ref__impl_isRef_0 (K : Nat) : Fw.LoopP (Sg.c_impl_areAll_impl_Ref__impl_isRef K) Sg.i_impl_areAll_impl_Ref__impl_isRef Sg.f_slices_IndexFunc_impl_Ref (Sg.p_impl_areAll_impl_Ref__impl_isRef_0 K) := ⟨fun _ => by kernel_rfl, fun n p => by kernel_rfl⟩
theorem ok_impl_areAll_impl_Ref__impl_isRef (K : Nat) : Fw.Ok Tryz.prog 110 (Sg.s_impl_areAll_impl_Ref__impl_isRef K) := Fw.funP_ok (c := Sg.c_impl_areAll_impl_Ref__impl_isRef K) (pi := Sg.i_impl_areAll_impl_Ref__impl_isRef) (depth := 6) (Fw.cfgP_ok (pi := Sg.i_impl_areAll_impl_Ref__impl_isRef) Sg.tabOK Sg.eqsOK Sg.mixOK ⟨ok_impl_isRef K, trivial⟩ ⟨⟨fun_impl_areAll_impl_Ref_1, call_impl_areAll_impl_Ref_1⟩, ⟨fun_slices_IndexFunc_impl_Ref, call_slices_IndexFunc_impl_Ref⟩, ⟨fun_slices_ContainsFunc_impl_Ref, call_slices_ContainsFunc_impl_Ref⟩, trivial⟩ ⟨⟨rfl, pf_impl_areAll_impl_Ref_1⟩, ⟨rfl, pf_slices_IndexFunc_impl_Ref⟩, ⟨rfl, pf_slices_ContainsFunc_impl_Ref⟩, trivial⟩ pf_impl_areAll_impl_Ref ⟨⟨_, rfl, l_impl_areAll_impl_Ref__impl_isRef_0 K⟩, trivial⟩ rfl) ⟨⟨rfl, pf_impl_areAll_impl_Ref_1⟩, ⟨rfl, pf_slices_IndexFunc_impl_Ref⟩, ⟨rfl, pf_slices_ContainsFunc_impl_Ref⟩, trivial⟩ pf_impl_areAll_impl_Ref fun_impl_areAll_impl_Ref call_impl_areAll_impl_Ref (fun x => by kernel_rfl)
theorem fun_impl_RefsOK : Tryz.prog.funcs[109]? = some Tryz.f109 := by kernel_rfl
theorem call_impl_RefsOK : Fw.Callable Tryz.prog 109 := Fw.callable_of fun_impl_RefsOK (by kernel_rfl) (by kernel_rfl)
theorem pf_impl_RefsOK : Fw.PFn.of Tryz.f109 = some Sg.f_impl_RefsOK := Fw.PFn.of_get (by kernel_rfl)
theorem l_impl_RefsOK_0 (K : Nat) : Fw.LoopP (Sg.c_impl_RefsOK K) Sg.i_impl_RefsOK Sg.f_impl_RefsOK (Sg.p_impl_RefsOK_0 K) := ⟨fun _ => by kernel_rfl, fun n p => by kernel_rfl⟩
theorem ok_impl_RefsOK (K : Nat) : Fw.Ok Tryz.prog 109 (Sg.s_impl_RefsOK K) := Fw.funP_ok (c := Sg.c_impl_RefsOK K) (pi := Sg.i_impl_RefsOK) (depth := 6) (Fw.cfgP_ok (pi := Sg.i_impl_RefsOK) Sg.tabOK Sg.eqsOK Sg.mixOK ⟨ok_impl_isRef K, ok_impl_place K, ok_impl_areAll_impl_Ref__impl_isRef K, trivial⟩ ⟨⟨fun_impl_areAll_impl_Ref_1, call_impl_areAll_impl_Ref_1⟩, ⟨fun_slices_IndexFunc_impl_Ref, call_slices_IndexFunc_impl_Ref⟩, ⟨fun_slices_ContainsFunc_impl_Ref, call_slices_ContainsFunc_impl_Ref⟩, ⟨fun_impl_areAll_impl_Ref, call_impl_areAll_impl_Ref⟩, trivial⟩ ⟨⟨rfl, pf_impl_areAll_impl_Ref_1⟩, ⟨rfl, pf_slices_IndexFunc_impl_Ref⟩, ⟨rfl, pf_slices_ContainsFunc_impl_Ref⟩, ⟨rfl, pf_impl_areAll_impl_Ref⟩, trivial⟩ pf_impl_RefsOK ⟨⟨_, rfl, l_impl_RefsOK_0 K⟩, trivial⟩ rfl) ⟨⟨rfl, pf_impl_areAll_impl_Ref_1⟩, ⟨rfl, pf_slices_IndexFunc_impl_Ref⟩, ⟨rfl, pf_slices_ContainsFunc_impl_Ref⟩, ⟨rfl, pf_impl_areAll_impl_Ref⟩, trivial⟩ pf_impl_RefsOK fun_impl_RefsOK call_impl_RefsOK (fun x => by kernel_rfl)
theorem fun_impl_BaseOK_1 : Tryz.prog.funcs[111]? = some Tryz.f111 := by kernel_rfl
theorem call_impl_BaseOK_1 : Fw.Callable Tryz.prog 111 := Fw.callable_of fun_impl_BaseOK_1 (by kernel_rfl) (by kernel_rfl)
theorem pf_impl_BaseOK_1 : Fw.PFn.of Tryz.f111 = some Sg.f_impl_BaseOK_1 := Fw.PFn.of_get (by kernel_rfl)
theorem l_impl_areAll_impl_Ref__impl_BaseOK_1_0 (K : Nat) : Fw.LoopP (Sg.c_impl_areAll_impl_Ref__impl_BaseOK_1 K) Sg.i_impl_areAll_impl_Ref__impl_BaseOK_1 Sg.f_slices_IndexFunc_impl_Ref (Sg.p_impl_areAll_impl_Ref__impl_BaseOK_1_0 K) := ⟨fun _ => by kernel_rfl, fun n p => by kernel_rfl⟩
theorem ok_impl_areAll_impl_Ref__impl_BaseOK_1 (K : Nat) : Fw.Ok Tryz.prog 110 (Sg.s_impl_areAll_impl_Ref__impl_BaseOK_1 K) := Fw.funP_ok (c := Sg.c_impl_areAll_impl_Ref__impl_BaseOK_1 K) (pi := Sg.i_impl_areAll_impl_Ref__impl_BaseOK_1) (depth := 6) (Fw.cfgP_ok (pi := Sg.i_impl_areAll_impl_Ref__impl_BaseOK_1) Sg.tabOK Sg.eqsOK Sg.mixOK trivial ⟨⟨fun_impl_areAll_impl_Ref_1, call_impl_areAll_impl_Ref_1⟩, ⟨fun_slices_IndexFunc_impl_Ref, call_slices_IndexFunc_impl_Ref⟩, ⟨fun_slices_ContainsFunc_impl_Ref, call_slices_ContainsFunc_impl_Ref⟩, ⟨fun_impl_BaseOK_1, call_impl_BaseOK_1⟩, trivial⟩ ⟨⟨rfl, pf_impl_areAll_impl_Ref_1⟩, ⟨rfl, pf_slices_IndexFunc_impl_Ref⟩, ⟨rfl, pf_slices_ContainsFunc_impl_Ref⟩, ⟨rfl, pf_impl_BaseOK_1⟩, trivial⟩ pf_impl_areAll_impl_Ref ⟨⟨_, rfl, l_impl_areAll_impl_Ref__impl_BaseOK_1_0 K⟩, trivial⟩ rfl) ⟨⟨rfl, pf_impl_areAll_impl_Ref_1⟩, ⟨rfl, pf_slices_IndexFunc_impl_Ref⟩, ⟨rfl, pf_slices_ContainsFunc_impl_Ref⟩, ⟨rfl, pf_impl_BaseOK_1⟩, trivial⟩ pf_impl_areAll_impl_Ref fun_impl_areAll_impl_Ref call_impl_areAll_impl_Ref (fun x => by kernel_rfl)
theorem fun_impl_BaseOK : Tryz.prog.funcs[51]? = some Tryz.f51 := by kernel_rfl
theorem call_impl_BaseOK : Fw.Callable Tryz.prog 51 := Fw.callable_of fun_impl_BaseOK (by kernel_rfl) (by kernel_rfl)
end Go.Proofs
