/- The functions' contracts, printed by a program of the prover's own. -/
import Derived.Test.YtjblmapbompclaaGreatAR
import Derived.Test.YtjblmapbompclaaGreatProg
import Derived.Test.YtjblmapbompclaaGreatMd
import Derived.Test.YtjblmapbompclaaGreatMe
set_option linter.all false
namespace Go.Proofs
open Go Fw
set_option maxRecDepth 100000
def Sg.eqs : List Nat := [108, 189, 195, 198, 205, 217, 226, 251, 304]
def Sg.tab : List (Nat × Fw.TyI) := [
(1, .one),
(2, .leaf (.int .i64)),
(3, .leaf (.int .i64)),
(4, .leaf .bool),
(5, .leaf (.int .u8)),
(6, .leaf (.int .u8)),
(7, .struct (.pair (.int .i64) (.pair (.int .i64) (.pair .bool (.int .u8)))) [(0, 2), (1, 3), (2, 4), (3, 6)]),
(8, .struct (.pair (.int .i64) (.pair (.int .i64) (.pair .bool (.int .u8)))) [(0, 2), (1, 3), (2, 4), (3, 6)]),
(9, .leaf .str),
(10, .leaf .str),
(11, .leaf .str),
(12, .leaf (.int .u64)),
(13, .struct (.pair .str (.int .u64)) [(0, 9), (1, 12)]),
(14, .struct (.pair .str (.int .u64)) [(0, 9), (1, 12)]),
(21, .leaf (.int .i32)),
(22, .slice 186 (.pair (.sl (.int .i64)) (.sl (.pair .str (.int .i64)))) 0),
(23, .slice 189 (.pair .str (.pair (.int .i64) (.pair (.int .i64) .bool))) 0),
(24, .struct (.pair (.sl (.pair (.sl (.int .i64)) (.sl (.pair .str (.int .i64))))) (.sl (.pair .str (.pair (.int .i64) (.pair (.int .i64) .bool))))) [(0, 22), (1, 23)]),
(25, .struct (.pair (.sl (.pair (.sl (.int .i64)) (.sl (.pair .str (.int .i64))))) (.sl (.pair .str (.pair (.int .i64) (.pair (.int .i64) .bool))))) [(0, 22), (1, 23)]),
(26, .slice 192 (.pair (.int .i64) (.pair .str (.pair .str (.pair .str (.sl (.pair .str (.pair (.int .i64) .bool))))))) 0),
(27, .slice 195 (.pair .str (.int .i64)) 0),
(28, .struct (.pair (.sl (.pair (.int .i64) (.pair .str (.pair .str (.pair .str (.sl (.pair .str (.pair (.int .i64) .bool)))))))) (.pair (.int .i64) (.pair (.int .i64) (.pair (.int .i64) (.pair (.int .i64) (.pair (.int .i64) (.pair (.int .i64) (.pair (.int .i64) (.sl (.pair .str (.int .i64))))))))))) [(0, 26), (1, 3), (2, 3), (3, 3), (4, 3), (5, 3), (6, 3), (7, 3), (8, 27)]),
(29, .struct (.pair (.sl (.pair (.int .i64) (.pair .str (.pair .str (.pair .str (.sl (.pair .str (.pair (.int .i64) .bool)))))))) (.pair (.int .i64) (.pair (.int .i64) (.pair (.int .i64) (.pair (.int .i64) (.pair (.int .i64) (.pair (.int .i64) (.pair (.int .i64) (.sl (.pair .str (.int .i64))))))))))) [(0, 26), (1, 3), (2, 3), (3, 3), (4, 3), (5, 3), (6, 3), (7, 3), (8, 27)]),
(30, .one),
(31, .one),
(32, .one),
(33, .slice 201 (.pair (.sl (.int .i64)) (.sl (.pair .str (.int .i64)))) 0),
(34, .slice 198 (.pair .str (.pair (.int .i64) (.pair (.int .i64) .bool))) 0),
(35, .struct (.pair (.sl (.pair (.sl (.int .i64)) (.sl (.pair .str (.int .i64))))) (.sl (.pair .str (.pair (.int .i64) (.pair (.int .i64) .bool))))) [(0, 33), (1, 34)]),
(36, .struct (.pair (.sl (.pair (.sl (.int .i64)) (.sl (.pair .str (.int .i64))))) (.sl (.pair .str (.pair (.int .i64) (.pair (.int .i64) .bool))))) [(0, 33), (1, 34)]),
(37, .one),
(38, .slice 179 (.pair (.int .i64) (.pair .str (.pair .str (.pair .str (.sl (.pair .str (.pair (.int .i64) .bool))))))) 0),
(39, .slice 205 (.pair .str (.int .i64)) 0),
(40, .struct (.pair (.sl (.pair (.int .i64) (.pair .str (.pair .str (.pair .str (.sl (.pair .str (.pair (.int .i64) .bool)))))))) (.pair (.int .i64) (.pair (.int .i64) (.pair (.int .i64) (.pair (.int .i64) (.pair (.int .i64) (.pair (.int .i64) (.pair (.int .i64) (.sl (.pair .str (.int .i64))))))))))) [(0, 38), (1, 3), (2, 3), (3, 3), (4, 3), (5, 3), (6, 3), (7, 3), (8, 39)]),
(41, .struct (.pair (.sl (.pair (.int .i64) (.pair .str (.pair .str (.pair .str (.sl (.pair .str (.pair (.int .i64) .bool)))))))) (.pair (.int .i64) (.pair (.int .i64) (.pair (.int .i64) (.pair (.int .i64) (.pair (.int .i64) (.pair (.int .i64) (.pair (.int .i64) (.sl (.pair .str (.int .i64))))))))))) [(0, 38), (1, 3), (2, 3), (3, 3), (4, 3), (5, 3), (6, 3), (7, 3), (8, 39)]),
(42, .one),
(43, .one),
(44, .one),
(45, .one),
(46, .slice 217 (.pair .str (.pair (.int .i64) .bool)) 0),
(47, .struct (.pair (.int .i64) (.pair (.int .i64) (.pair .str (.pair .str (.sl (.pair .str (.pair (.int .i64) .bool))))))) [(0, 3), (1, 3), (2, 9), (3, 9), (4, 46)]),
(48, .struct (.pair (.int .i64) (.pair (.int .i64) (.pair .str (.pair .str (.sl (.pair .str (.pair (.int .i64) .bool))))))) [(0, 3), (1, 3), (2, 9), (3, 9), (4, 46)]),
(49, .one),
(50, .slice 9 .str 0),
(51, .struct (.pair (.int .i64) (.pair (.int .i64) (.pair (.int .i64) (.pair (.sl .str) (.sl (.pair .str (.int .i64))))))) [(0, 3), (1, 3), (2, 3), (3, 50), (4, 39)]),
(52, .struct (.pair (.int .i64) (.pair (.int .i64) (.pair (.int .i64) (.pair (.sl .str) (.sl (.pair .str (.int .i64))))))) [(0, 3), (1, 3), (2, 3), (3, 50), (4, 39)]),
(54, .one),
(55, .slice 226 (.pair .str (.pair (.int .i64) .bool)) 0),
(56, .struct (.pair (.int .i64) (.pair (.int .i64) (.pair .str (.pair .str (.sl (.pair .str (.pair (.int .i64) .bool))))))) [(0, 3), (1, 3), (2, 9), (3, 9), (4, 55)]),
(57, .struct (.pair (.int .i64) (.pair (.int .i64) (.pair .str (.pair .str (.sl (.pair .str (.pair (.int .i64) .bool))))))) [(0, 3), (1, 3), (2, 9), (3, 9), (4, 55)]),
(58, .one),
(59, .one),
(60, .one),
(61, .one),
(62, .one),
(63, .one),
(64, .one),
(65, .slice 48 (.pair (.int .i64) (.pair (.int .i64) (.pair .str (.pair .str (.sl (.pair .str (.pair (.int .i64) .bool))))))) 0),
(66, .one),
(67, .slice 52 (.pair (.int .i64) (.pair (.int .i64) (.pair (.int .i64) (.pair (.sl .str) (.sl (.pair .str (.int .i64))))))) 0),
(69, .one),
(70, .slice 57 (.pair (.int .i64) (.pair (.int .i64) (.pair .str (.pair .str (.sl (.pair .str (.pair (.int .i64) .bool))))))) 0),
(71, .one),
(72, .one),
(73, .one),
(74, .one),
(75, .one),
(76, .one),
(77, .slice 29 (.pair (.sl (.pair (.int .i64) (.pair .str (.pair .str (.pair .str (.sl (.pair .str (.pair (.int .i64) .bool)))))))) (.pair (.int .i64) (.pair (.int .i64) (.pair (.int .i64) (.pair (.int .i64) (.pair (.int .i64) (.pair (.int .i64) (.pair (.int .i64) (.sl (.pair .str (.int .i64))))))))))) 0),
(78, .slice 244 (.pair .str (.pair (.int .i64) (.sl (.pair (.int .i64) (.pair (.int .i64) .bool))))) 0),
(79, .slice 165 (.pair (.int .i64) (.pair (.int .i64) (.pair (.int .i64) (.pair (.pair (.int .i64) (.pair (.int .i64) (.pair .str (.pair .str (.sl (.pair .str (.pair (.int .i64) .bool))))))) (.pair (.int .i64) (.pair (.int .i64) (.pair (.int .i64) (.pair (.sl .str) (.sl (.pair .str (.int .i64))))))))))) 0),
(80, .struct (.pair (.pair (.sl (.pair (.sl (.int .i64)) (.sl (.pair .str (.int .i64))))) (.sl (.pair .str (.pair (.int .i64) (.pair (.int .i64) .bool))))) (.pair (.sl (.pair (.sl (.pair (.int .i64) (.pair .str (.pair .str (.pair .str (.sl (.pair .str (.pair (.int .i64) .bool)))))))) (.pair (.int .i64) (.pair (.int .i64) (.pair (.int .i64) (.pair (.int .i64) (.pair (.int .i64) (.pair (.int .i64) (.pair (.int .i64) (.sl (.pair .str (.int .i64)))))))))))) (.pair (.sl (.pair .str (.pair (.int .i64) (.sl (.pair (.int .i64) (.pair (.int .i64) .bool)))))) (.pair (.sl (.pair (.int .i64) (.pair (.int .i64) (.pair (.int .i64) (.pair (.pair (.int .i64) (.pair (.int .i64) (.pair .str (.pair .str (.sl (.pair .str (.pair (.int .i64) .bool))))))) (.pair (.int .i64) (.pair (.int .i64) (.pair (.int .i64) (.pair (.sl .str) (.sl (.pair .str (.int .i64)))))))))))) (.int .i64))))) [(0, 25), (2, 77), (3, 78), (4, 79), (5, 3)]),
(81, .struct (.pair (.pair (.sl (.pair (.sl (.int .i64)) (.sl (.pair .str (.int .i64))))) (.sl (.pair .str (.pair (.int .i64) (.pair (.int .i64) .bool))))) (.pair (.sl (.pair (.sl (.pair (.int .i64) (.pair .str (.pair .str (.pair .str (.sl (.pair .str (.pair (.int .i64) .bool)))))))) (.pair (.int .i64) (.pair (.int .i64) (.pair (.int .i64) (.pair (.int .i64) (.pair (.int .i64) (.pair (.int .i64) (.pair (.int .i64) (.sl (.pair .str (.int .i64)))))))))))) (.pair (.sl (.pair .str (.pair (.int .i64) (.sl (.pair (.int .i64) (.pair (.int .i64) .bool)))))) (.pair (.sl (.pair (.int .i64) (.pair (.int .i64) (.pair (.int .i64) (.pair (.pair (.int .i64) (.pair (.int .i64) (.pair .str (.pair .str (.sl (.pair .str (.pair (.int .i64) .bool))))))) (.pair (.int .i64) (.pair (.int .i64) (.pair (.int .i64) (.pair (.sl .str) (.sl (.pair .str (.int .i64)))))))))))) (.int .i64))))) [(0, 25), (2, 77), (3, 78), (4, 79), (5, 3)]),
(82, .one),
(83, .one),
(84, .slice 41 (.pair (.sl (.pair (.int .i64) (.pair .str (.pair .str (.pair .str (.sl (.pair .str (.pair (.int .i64) .bool)))))))) (.pair (.int .i64) (.pair (.int .i64) (.pair (.int .i64) (.pair (.int .i64) (.pair (.int .i64) (.pair (.int .i64) (.pair (.int .i64) (.sl (.pair .str (.int .i64))))))))))) 0),
(85, .slice 156 (.pair .str (.pair (.int .i64) (.sl (.pair (.int .i64) (.pair (.int .i64) .bool))))) 0),
(86, .slice 151 (.pair (.int .i64) (.pair (.int .i64) (.pair (.int .i64) (.pair (.pair (.int .i64) (.pair (.int .i64) (.pair .str (.pair .str (.sl (.pair .str (.pair (.int .i64) .bool))))))) (.pair (.int .i64) (.pair (.int .i64) (.pair (.int .i64) (.pair (.sl .str) (.sl (.pair .str (.int .i64))))))))))) 0),
(87, .struct (.pair (.pair (.sl (.pair (.sl (.int .i64)) (.sl (.pair .str (.int .i64))))) (.sl (.pair .str (.pair (.int .i64) (.pair (.int .i64) .bool))))) (.pair (.sl (.pair (.sl (.pair (.int .i64) (.pair .str (.pair .str (.pair .str (.sl (.pair .str (.pair (.int .i64) .bool)))))))) (.pair (.int .i64) (.pair (.int .i64) (.pair (.int .i64) (.pair (.int .i64) (.pair (.int .i64) (.pair (.int .i64) (.pair (.int .i64) (.sl (.pair .str (.int .i64)))))))))))) (.pair (.sl (.pair .str (.pair (.int .i64) (.sl (.pair (.int .i64) (.pair (.int .i64) .bool)))))) (.pair (.sl (.pair (.int .i64) (.pair (.int .i64) (.pair (.int .i64) (.pair (.pair (.int .i64) (.pair (.int .i64) (.pair .str (.pair .str (.sl (.pair .str (.pair (.int .i64) .bool))))))) (.pair (.int .i64) (.pair (.int .i64) (.pair (.int .i64) (.pair (.sl .str) (.sl (.pair .str (.int .i64)))))))))))) (.int .i64))))) [(0, 36), (2, 84), (3, 85), (4, 86), (5, 3)]),
(88, .struct (.pair (.pair (.sl (.pair (.sl (.int .i64)) (.sl (.pair .str (.int .i64))))) (.sl (.pair .str (.pair (.int .i64) (.pair (.int .i64) .bool))))) (.pair (.sl (.pair (.sl (.pair (.int .i64) (.pair .str (.pair .str (.pair .str (.sl (.pair .str (.pair (.int .i64) .bool)))))))) (.pair (.int .i64) (.pair (.int .i64) (.pair (.int .i64) (.pair (.int .i64) (.pair (.int .i64) (.pair (.int .i64) (.pair (.int .i64) (.sl (.pair .str (.int .i64)))))))))))) (.pair (.sl (.pair .str (.pair (.int .i64) (.sl (.pair (.int .i64) (.pair (.int .i64) .bool)))))) (.pair (.sl (.pair (.int .i64) (.pair (.int .i64) (.pair (.int .i64) (.pair (.pair (.int .i64) (.pair (.int .i64) (.pair .str (.pair .str (.sl (.pair .str (.pair (.int .i64) .bool))))))) (.pair (.int .i64) (.pair (.int .i64) (.pair (.int .i64) (.pair (.sl .str) (.sl (.pair .str (.int .i64)))))))))))) (.int .i64))))) [(0, 36), (2, 84), (3, 85), (4, 86), (5, 3)]),
(89, .one),
(90, .one),
(91, .one),
(92, .one),
(93, .one),
(94, .one),
(95, .one),
(96, .one),
(97, .one),
(99, .one),
(101, .one),
(102, .one),
(103, .one),
(105, .one),
(106, .one),
(107, .struct (.pair (.int .i64) (.pair (.int .i64) (.pair (.int .i64) (.pair (.int .i64) (.pair (.int .i64) (.int .i64)))))) [(0, 3), (1, 3), (2, 3), (3, 3), (4, 3), (5, 3)]),
(108, .struct (.pair (.int .i64) (.pair (.int .i64) (.pair (.int .i64) (.pair (.int .i64) (.pair (.int .i64) (.int .i64)))))) [(0, 3), (1, 3), (2, 3), (3, 3), (4, 3), (5, 3)]),
(110, .one),
(111, .one),
(112, .one),
(113, .one),
(114, .one),
(115, .one),
(116, .one),
(117, .one),
(118, .one),
(119, .one),
(120, .one),
(121, .one),
(122, .one),
(123, .one),
(124, .one),
(125, .one),
(126, .one),
(128, .one),
(129, .one),
(130, .one),
(131, .one),
(132, .one),
(133, .one),
(134, .one),
(135, .one),
(136, .one),
(137, .one),
(138, .one),
(139, .one),
(140, .one),
(141, .one),
(142, .one),
(143, .one),
(144, .one),
(145, .one),
(146, .one),
(147, .one),
(148, .one),
(149, .one),
(150, .struct (.pair (.int .i64) (.pair (.int .i64) (.pair (.int .i64) (.pair (.pair (.int .i64) (.pair (.int .i64) (.pair .str (.pair .str (.sl (.pair .str (.pair (.int .i64) .bool))))))) (.pair (.int .i64) (.pair (.int .i64) (.pair (.int .i64) (.pair (.sl .str) (.sl (.pair .str (.int .i64))))))))))) [(0, 3), (1, 3), (2, 3), (3, 57), (8, 52)]),
(151, .struct (.pair (.int .i64) (.pair (.int .i64) (.pair (.int .i64) (.pair (.pair (.int .i64) (.pair (.int .i64) (.pair .str (.pair .str (.sl (.pair .str (.pair (.int .i64) .bool))))))) (.pair (.int .i64) (.pair (.int .i64) (.pair (.int .i64) (.pair (.sl .str) (.sl (.pair .str (.int .i64))))))))))) [(0, 3), (1, 3), (2, 3), (3, 57), (8, 52)]),
(152, .one),
(153, .one),
(154, .slice 251 (.pair (.int .i64) (.pair (.int .i64) .bool)) 0),
(155, .struct (.pair .str (.pair (.int .i64) (.sl (.pair (.int .i64) (.pair (.int .i64) .bool))))) [(0, 9), (1, 3), (2, 154)]),
(156, .struct (.pair .str (.pair (.int .i64) (.sl (.pair (.int .i64) (.pair (.int .i64) .bool))))) [(0, 9), (1, 3), (2, 154)]),
(157, .one),
(158, .one),
(159, .one),
(160, .one),
(161, .one),
(162, .struct (.pair (.int .i64) (.pair (.int .i64) (.pair (.int .i64) (.pair (.sl .str) (.sl (.pair .str (.int .i64))))))) [(0, 3), (1, 3), (2, 3), (3, 50), (4, 27)]),
(163, .struct (.pair (.int .i64) (.pair (.int .i64) (.pair (.int .i64) (.pair (.sl .str) (.sl (.pair .str (.int .i64))))))) [(0, 3), (1, 3), (2, 3), (3, 50), (4, 27)]),
(164, .struct (.pair (.int .i64) (.pair (.int .i64) (.pair (.int .i64) (.pair (.pair (.int .i64) (.pair (.int .i64) (.pair .str (.pair .str (.sl (.pair .str (.pair (.int .i64) .bool))))))) (.pair (.int .i64) (.pair (.int .i64) (.pair (.int .i64) (.pair (.sl .str) (.sl (.pair .str (.int .i64))))))))))) [(0, 3), (1, 3), (2, 3), (3, 48), (8, 163)]),
(165, .struct (.pair (.int .i64) (.pair (.int .i64) (.pair (.int .i64) (.pair (.pair (.int .i64) (.pair (.int .i64) (.pair .str (.pair .str (.sl (.pair .str (.pair (.int .i64) .bool))))))) (.pair (.int .i64) (.pair (.int .i64) (.pair (.int .i64) (.pair (.sl .str) (.sl (.pair .str (.int .i64))))))))))) [(0, 3), (1, 3), (2, 3), (3, 48), (8, 163)]),
(167, .one),
(168, .one),
(169, .one),
(170, .one),
(171, .one),
(172, .one),
(173, .one),
(174, .slice 3 (.int .i64) 0),
(175, .one),
(176, .one),
(177, .one),
(178, .struct (.pair (.int .i64) (.pair .str (.pair .str (.pair .str (.sl (.pair .str (.pair (.int .i64) .bool))))))) [(0, 3), (1, 9), (2, 9), (3, 9), (4, 55)]),
(179, .struct (.pair (.int .i64) (.pair .str (.pair .str (.pair .str (.sl (.pair .str (.pair (.int .i64) .bool))))))) [(0, 3), (1, 9), (2, 9), (3, 9), (4, 55)]),
(180, .one),
(181, .one),
(182, .one),
(183, .one),
(184, .one),
(185, .struct (.pair (.sl (.int .i64)) (.sl (.pair .str (.int .i64)))) [(0, 174), (1, 27)]),
(186, .struct (.pair (.sl (.int .i64)) (.sl (.pair .str (.int .i64)))) [(0, 174), (1, 27)]),
(187, .one),
(188, .struct (.pair .str (.pair (.int .i64) (.pair (.int .i64) .bool))) [(0, 9), (1, 3), (2, 3), (3, 4)]),
(189, .struct (.pair .str (.pair (.int .i64) (.pair (.int .i64) .bool))) [(0, 9), (1, 3), (2, 3), (3, 4)]),
(190, .one),
(191, .struct (.pair (.int .i64) (.pair .str (.pair .str (.pair .str (.sl (.pair .str (.pair (.int .i64) .bool))))))) [(0, 3), (1, 9), (2, 9), (3, 9), (4, 46)]),
(192, .struct (.pair (.int .i64) (.pair .str (.pair .str (.pair .str (.sl (.pair .str (.pair (.int .i64) .bool))))))) [(0, 3), (1, 9), (2, 9), (3, 9), (4, 46)]),
(193, .one),
(194, .struct (.pair .str (.int .i64)) [(0, 9), (1, 3)]),
(195, .struct (.pair .str (.int .i64)) [(0, 9), (1, 3)]),
(196, .one),
(197, .one),
(198, .struct (.pair .str (.pair (.int .i64) (.pair (.int .i64) .bool))) [(0, 9), (1, 3), (2, 3), (3, 4)]),
(199, .one),
(200, .struct (.pair (.sl (.int .i64)) (.sl (.pair .str (.int .i64)))) [(0, 174), (1, 39)]),
(201, .struct (.pair (.sl (.int .i64)) (.sl (.pair .str (.int .i64)))) [(0, 174), (1, 39)]),
(202, .one),
(203, .one),
(204, .one),
(205, .struct (.pair .str (.int .i64)) [(0, 9), (1, 3)]),
(206, .one),
(207, .one),
(208, .one),
(209, .one),
(210, .one),
(211, .one),
(212, .one),
(213, .one),
(214, .one),
(215, .one),
(216, .struct (.pair .str (.pair (.int .i64) .bool)) [(0, 9), (1, 3), (2, 4)]),
(217, .struct (.pair .str (.pair (.int .i64) .bool)) [(0, 9), (1, 3), (2, 4)]),
(218, .one),
(219, .one),
(221, .one),
(222, .one),
(223, .one),
(224, .one),
(225, .one),
(226, .struct (.pair .str (.pair (.int .i64) .bool)) [(0, 9), (1, 3), (2, 4)]),
(227, .one),
(228, .one),
(230, .one),
(231, .one),
(232, .one),
(233, .one),
(234, .one),
(235, .one),
(236, .one),
(237, .one),
(238, .one),
(239, .one),
(240, .slice 5 (.int .u8) 0),
(241, .one),
(242, .slice 304 (.pair (.int .i64) (.pair (.int .i64) .bool)) 0),
(243, .struct (.pair .str (.pair (.int .i64) (.sl (.pair (.int .i64) (.pair (.int .i64) .bool))))) [(0, 9), (1, 3), (2, 242)]),
(244, .struct (.pair .str (.pair (.int .i64) (.sl (.pair (.int .i64) (.pair (.int .i64) .bool))))) [(0, 9), (1, 3), (2, 242)]),
(245, .one),
(246, .one),
(247, .one),
(248, .one),
(249, .one),
(250, .struct (.pair (.int .i64) (.pair (.int .i64) .bool)) [(0, 3), (1, 3), (2, 4)]),
(251, .struct (.pair (.int .i64) (.pair (.int .i64) .bool)) [(0, 3), (1, 3), (2, 4)]),
(252, .one),
(253, .one),
(254, .one),
(255, .one),
(256, .one),
(257, .one),
(258, .one),
(259, .one),
(260, .one),
(262, .one),
(263, .one),
(264, .one),
(265, .struct (.pair .bool (.pair (.sl (.pair .str (.int .i64))) (.pair (.sl (.int .i64)) (.pair (.sl .str) (.int .i64))))) [(0, 4), (1, 39), (2, 174), (3, 50), (4, 3)]),
(266, .struct (.pair .bool (.pair (.sl (.pair .str (.int .i64))) (.pair (.sl (.int .i64)) (.pair (.sl .str) (.int .i64))))) [(0, 4), (1, 39), (2, 174), (3, 50), (4, 3)]),
(267, .one),
(268, .one),
(269, .one),
(270, .one),
(271, .one),
(273, .one),
(274, .one),
(275, .one),
(276, .one),
(277, .one),
(278, .one),
(279, .one),
(280, .one),
(281, .one),
(282, .one),
(283, .one),
(284, .one),
(285, .one),
(286, .one),
(287, .one),
(288, .one),
(289, .one),
(290, .one),
(291, .one),
(292, .one),
(293, .one),
(294, .one),
(296, .one),
(297, .one),
(298, .one),
(299, .one),
(301, .one),
(302, .leaf (.int .u64)),
(303, .one),
(304, .struct (.pair (.int .i64) (.pair (.int .i64) .bool)) [(0, 3), (1, 3), (2, 4)]),
(305, .one),
(306, .one),
(307, .one),
(308, .one),
(310, .one),
(311, .one),
(312, .slice 4 .bool 0),
(313, .one),
(314, .one),
(315, .one),
(316, .one),
(318, .one),
(319, .one),
(320, .one),
(321, .one),
(322, .map 226),
(323, .one),
(324, .one),
(325, .one),
(326, .one),
(327, .one),
(328, .one),
(329, .one),
(330, .one),
(331, .leaf (.int .i64)),
(333, .one),
(334, .one),
(335, .one),
(336, .one),
(337, .one),
(338, .leaf (.int .u32)),
(339, .one),
(340, .leaf (.int .u64)),
(341, .leaf (.int .u64)),
(342, .one),
(343, .one),
(344, .one),
(346, .one),
(348, .one),
(354, .one),
(355, .leaf (.int .u8)),
(356, .leaf (.int .u8)),
(357, .one),
(359, .leaf (.int .i32)),
(360, .leaf (.int .i32)),
(363, .one),
(364, .one)]
def Sg.ptrs : List (Nat × Fw.Ty) := []
theorem Sg.tabOK : Fw.chkAll Tryz.prog Sg.tab = true := by kernel_rfl
theorem Sg.eqsOK : Fw.eqFacts Tryz.prog Sg.tab Sg.eqs = true := by kernel_rfl
theorem Sg.mixOK : Tryz.prog.follows .mixedOrders = true := by kernel_rfl
instance Sg.glob : Fw.GInv := ⟨fun _ => True, fun _ => False, fun _ _ _ h => h⟩
abbrev Sg.t0 : Fw.Ty := (.pair (.int .i64) (.pair (.int .i64) .bool))
abbrev Sg.t1 : Fw.Ty := (.pair (.sl .str) (.sl (.pair .str (.int .i64))))
abbrev Sg.t2 : Fw.Ty := (.pair (.int .i64) (.sl (.pair .str (.int .i64))))
abbrev Sg.t3 : Fw.Ty := (.pair (.sl (.int .i64)) (.sl (.pair .str (.int .i64))))
abbrev Sg.t4 : Fw.Ty := (.pair (.sl (.int .i64)) (.pair (.sl .str) (.int .i64)))
abbrev Sg.t5 : Fw.Ty := (.pair .str (.sl (.pair .str (.pair (.int .i64) .bool))))
abbrev Sg.t6 : Fw.Ty := (.pair .str Sg.t0)
abbrev Sg.t7 : Fw.Ty := (.pair (.int .i64) Sg.t1)
abbrev Sg.t8 : Fw.Ty := (.pair .str Sg.t5)
abbrev Sg.t9 : Fw.Ty := (.pair (.int .i64) Sg.t2)
abbrev Sg.t10 : Fw.Ty := (.pair .str Sg.t8)
abbrev Sg.t11 : Fw.Ty := (.pair (.int .i64) Sg.t7)
abbrev Sg.t12 : Fw.Ty := (.pair (.int .i64) Sg.t9)
abbrev Sg.t13 : Fw.Ty := (.pair (.int .i64) Sg.t8)
abbrev Sg.t14 : Fw.Ty := (.pair (.sl (.pair .str (.int .i64))) Sg.t4)
abbrev Sg.t15 : Fw.Ty := (.pair (.int .i64) Sg.t10)
abbrev Sg.t16 : Fw.Ty := (.pair (.int .i64) Sg.t11)
abbrev Sg.t17 : Fw.Ty := (.pair .bool Sg.t14)
abbrev Sg.t18 : Fw.Ty := (.pair (.int .i64) Sg.t12)
abbrev Sg.t19 : Fw.Ty := (.pair (.int .i64) Sg.t13)
abbrev Sg.t20 : Fw.Ty := (.pair (.int .i64) Sg.t18)
abbrev Sg.t21 : Fw.Ty := (.pair (.sl Sg.t3) (.sl Sg.t6))
abbrev Sg.t22 : Fw.Ty := (.pair (.int .i64) Sg.t20)
abbrev Sg.t23 : Fw.Ty := (.pair (.int .i64) Sg.t22)
abbrev Sg.t24 : Fw.Ty := (.pair (.sl Sg.t15) Sg.t23)
def Sg.opn : List Nat := [29, 30, 31, 40, 41, 53, 96, 97, 98, 99, 100, 189]
noncomputable def Sg.f_laws_szIntS : Fw.PFn := Fw.PFn.get Tryz.f217
noncomputable def Sg.i_laws_szIntS : List (Nat × Fw.PFn) := []
noncomputable def Sg.s_laws_szIntS (K : Nat) : Fw.Sig := { ins := [.val false (.sl (.int .i64)), .val false (.int .i64)], outs := [⟨false, (.int .i64), false⟩], F := fun x => R.laws_szIntS K x.1 x.2.1 }
noncomputable def Sg.c_laws_szIntS (K : Nat) : Fw.Cfg := { tab := Sg.tab, eqs := Sg.eqs, sig := [], inl := [], lo := [], K := K, jo := [], opn := Sg.opn }
noncomputable def Sg.f_laws_szEntry : Fw.PFn := Fw.PFn.get Tryz.f143
noncomputable def Sg.i_laws_szEntry : List (Nat × Fw.PFn) := []
noncomputable def Sg.s_laws_szEntry (K : Nat) : Fw.Sig := { ins := [.val true (.pair .str (.int .i64)), .val false (.int .i64)], outs := [⟨false, (.int .i64), false⟩], F := fun x => R.laws_szEntry K x.1 x.2.1 }
noncomputable def Sg.c_laws_szEntry (K : Nat) : Fw.Cfg := { tab := Sg.tab, eqs := Sg.eqs, sig := [], inl := [], lo := [], K := K, jo := [], opn := Sg.opn }
def Sg.h_laws_szEntryS_0 : Fw.StSh := ⟨[(0, (.d (.sl (.pair .str (.int .i64))))), (1, (.d (.int .i64))), (4, (.d (.int .i64))), (5, (.d (.int .i64)))], [], 0, 27, ⟨0, []⟩⟩
def Sg.o_laws_szEntryS_0 : Fw.StSh := ⟨[(1, (.d (.int .i64))), (4, (.d (.int .i64)))], [], 0, 27, ⟨0, []⟩⟩
def Sg.r_laws_szEntryS_0 : Fw.StSh := ⟨[(4, (.d (.int .i64)))], [], 0, 27, ⟨0, []⟩⟩
noncomputable def Sg.p_laws_szEntryS_0 (K : Nat) : Fw.LSpec := { g := 72, b := 0, lv := 6, l0 := 0, li := 0, head := Sg.h_laws_szEntryS_0, post := Sg.o_laws_szEntryS_0, retn := Sg.r_laws_szEntryS_0, ex := 0, L := R.L_laws_szEntryS_0 K }
noncomputable def Sg.f_laws_szEntryS : Fw.PFn := Fw.PFn.get Tryz.f72
noncomputable def Sg.i_laws_szEntryS : List (Nat × Fw.PFn) := []
noncomputable def Sg.s_laws_szEntryS (K : Nat) : Fw.Sig := { ins := [.val false (.sl (.pair .str (.int .i64))), .val false (.int .i64)], outs := [⟨false, (.int .i64), false⟩], F := fun x => R.laws_szEntryS K x.1 x.2.1 }
noncomputable def Sg.c_laws_szEntryS (K : Nat) : Fw.Cfg := { tab := Sg.tab, eqs := Sg.eqs, sig := [(143, Sg.s_laws_szEntry K)], inl := [], lo := Sg.p_laws_szEntryS_0 K :: [], K := K, jo := [], opn := Sg.opn }
noncomputable def Sg.f_laws_szCommit : Fw.PFn := Fw.PFn.get Tryz.f140
noncomputable def Sg.i_laws_szCommit : List (Nat × Fw.PFn) := []
noncomputable def Sg.s_laws_szCommit (K : Nat) : Fw.Sig := { ins := [.val true Sg.t3, .val false (.int .i64)], outs := [⟨false, (.int .i64), false⟩], F := fun x => R.laws_szCommit K x.1 x.2.1 }
noncomputable def Sg.c_laws_szCommit (K : Nat) : Fw.Cfg := { tab := Sg.tab, eqs := Sg.eqs, sig := [(217, Sg.s_laws_szIntS K), (72, Sg.s_laws_szEntryS K)], inl := [], lo := [], K := K, jo := [], opn := Sg.opn }
def Sg.h_laws_szCommitS_0 : Fw.StSh := ⟨[(0, (.d (.sl Sg.t3))), (1, (.d (.int .i64))), (4, (.d (.int .i64))), (5, (.d (.int .i64)))], [], 0, 27, ⟨0, []⟩⟩
def Sg.o_laws_szCommitS_0 : Fw.StSh := ⟨[(1, (.d (.int .i64))), (4, (.d (.int .i64)))], [], 0, 27, ⟨0, []⟩⟩
def Sg.r_laws_szCommitS_0 : Fw.StSh := ⟨[(4, (.d (.int .i64)))], [], 0, 27, ⟨0, []⟩⟩
noncomputable def Sg.p_laws_szCommitS_0 (K : Nat) : Fw.LSpec := { g := 69, b := 0, lv := 6, l0 := 0, li := 0, head := Sg.h_laws_szCommitS_0, post := Sg.o_laws_szCommitS_0, retn := Sg.r_laws_szCommitS_0, ex := 0, L := R.L_laws_szCommitS_0 K }
noncomputable def Sg.f_laws_szCommitS : Fw.PFn := Fw.PFn.get Tryz.f69
noncomputable def Sg.i_laws_szCommitS : List (Nat × Fw.PFn) := []
noncomputable def Sg.s_laws_szCommitS (K : Nat) : Fw.Sig := { ins := [.val false (.sl Sg.t3), .val false (.int .i64)], outs := [⟨false, (.int .i64), false⟩], F := fun x => R.laws_szCommitS K x.1 x.2.1 }
noncomputable def Sg.c_laws_szCommitS (K : Nat) : Fw.Cfg := { tab := Sg.tab, eqs := Sg.eqs, sig := [(140, Sg.s_laws_szCommit K)], inl := [], lo := Sg.p_laws_szCommitS_0 K :: [], K := K, jo := [], opn := Sg.opn }
noncomputable def Sg.f_laws_szRef : Fw.PFn := Fw.PFn.get Tryz.f141
noncomputable def Sg.i_laws_szRef : List (Nat × Fw.PFn) := []
noncomputable def Sg.s_laws_szRef (K : Nat) : Fw.Sig := { ins := [.val true Sg.t6, .val false (.int .i64)], outs := [⟨false, (.int .i64), false⟩], F := fun x => R.laws_szRef K x.1 x.2.1 }
noncomputable def Sg.c_laws_szRef (K : Nat) : Fw.Cfg := { tab := Sg.tab, eqs := Sg.eqs, sig := [], inl := [], lo := [], K := K, jo := [], opn := Sg.opn }
def Sg.h_laws_szRefS_0 : Fw.StSh := ⟨[(0, (.d (.sl Sg.t6))), (1, (.d (.int .i64))), (4, (.d (.int .i64))), (5, (.d (.int .i64)))], [], 0, 27, ⟨0, []⟩⟩
def Sg.o_laws_szRefS_0 : Fw.StSh := ⟨[(1, (.d (.int .i64))), (4, (.d (.int .i64)))], [], 0, 27, ⟨0, []⟩⟩
def Sg.r_laws_szRefS_0 : Fw.StSh := ⟨[(4, (.d (.int .i64)))], [], 0, 27, ⟨0, []⟩⟩
noncomputable def Sg.p_laws_szRefS_0 (K : Nat) : Fw.LSpec := { g := 70, b := 0, lv := 6, l0 := 0, li := 0, head := Sg.h_laws_szRefS_0, post := Sg.o_laws_szRefS_0, retn := Sg.r_laws_szRefS_0, ex := 0, L := R.L_laws_szRefS_0 K }
noncomputable def Sg.f_laws_szRefS : Fw.PFn := Fw.PFn.get Tryz.f70
noncomputable def Sg.i_laws_szRefS : List (Nat × Fw.PFn) := []
noncomputable def Sg.s_laws_szRefS (K : Nat) : Fw.Sig := { ins := [.val false (.sl Sg.t6), .val false (.int .i64)], outs := [⟨false, (.int .i64), false⟩], F := fun x => R.laws_szRefS K x.1 x.2.1 }
noncomputable def Sg.c_laws_szRefS (K : Nat) : Fw.Cfg := { tab := Sg.tab, eqs := Sg.eqs, sig := [(141, Sg.s_laws_szRef K)], inl := [], lo := Sg.p_laws_szRefS_0 K :: [], K := K, jo := [], opn := Sg.opn }
noncomputable def Sg.f_laws_szBase : Fw.PFn := Fw.PFn.get Tryz.f15
noncomputable def Sg.i_laws_szBase : List (Nat × Fw.PFn) := []
noncomputable def Sg.s_laws_szBase (K : Nat) : Fw.Sig := { ins := [.val true Sg.t21, .val false (.int .i64)], outs := [⟨false, (.int .i64), false⟩], F := fun x => R.laws_szBase K x.1 x.2.1 }
noncomputable def Sg.c_laws_szBase (K : Nat) : Fw.Cfg := { tab := Sg.tab, eqs := Sg.eqs, sig := [(69, Sg.s_laws_szCommitS K), (70, Sg.s_laws_szRefS K)], inl := [], lo := [], K := K, jo := [], opn := Sg.opn }
noncomputable def Sg.f_laws_szEdit : Fw.PFn := Fw.PFn.get Tryz.f163
noncomputable def Sg.i_laws_szEdit : List (Nat × Fw.PFn) := []
noncomputable def Sg.s_laws_szEdit (K : Nat) : Fw.Sig := { ins := [.val true (.pair .str (.pair (.int .i64) .bool)), .val false (.int .i64)], outs := [⟨false, (.int .i64), false⟩], F := fun x => R.laws_szEdit K x.1 x.2.1 }
noncomputable def Sg.c_laws_szEdit (K : Nat) : Fw.Cfg := { tab := Sg.tab, eqs := Sg.eqs, sig := [], inl := [], lo := [], K := K, jo := [], opn := Sg.opn }
def Sg.h_laws_szEditS_0 : Fw.StSh := ⟨[(0, (.d (.sl (.pair .str (.pair (.int .i64) .bool))))), (1, (.d (.int .i64))), (4, (.d (.int .i64))), (5, (.d (.int .i64)))], [], 0, 27, ⟨0, []⟩⟩
def Sg.o_laws_szEditS_0 : Fw.StSh := ⟨[(1, (.d (.int .i64))), (4, (.d (.int .i64)))], [], 0, 27, ⟨0, []⟩⟩
def Sg.r_laws_szEditS_0 : Fw.StSh := ⟨[(4, (.d (.int .i64)))], [], 0, 27, ⟨0, []⟩⟩
noncomputable def Sg.p_laws_szEditS_0 (K : Nat) : Fw.LSpec := { g := 85, b := 0, lv := 6, l0 := 0, li := 0, head := Sg.h_laws_szEditS_0, post := Sg.o_laws_szEditS_0, retn := Sg.r_laws_szEditS_0, ex := 0, L := R.L_laws_szEditS_0 K }
noncomputable def Sg.f_laws_szEditS : Fw.PFn := Fw.PFn.get Tryz.f85
noncomputable def Sg.i_laws_szEditS : List (Nat × Fw.PFn) := []
noncomputable def Sg.s_laws_szEditS (K : Nat) : Fw.Sig := { ins := [.val false (.sl (.pair .str (.pair (.int .i64) .bool))), .val false (.int .i64)], outs := [⟨false, (.int .i64), false⟩], F := fun x => R.laws_szEditS K x.1 x.2.1 }
noncomputable def Sg.c_laws_szEditS (K : Nat) : Fw.Cfg := { tab := Sg.tab, eqs := Sg.eqs, sig := [(163, Sg.s_laws_szEdit K)], inl := [], lo := Sg.p_laws_szEditS_0 K :: [], K := K, jo := [], opn := Sg.opn }
noncomputable def Sg.f_laws_szWish : Fw.PFn := Fw.PFn.get Tryz.f142
noncomputable def Sg.i_laws_szWish : List (Nat × Fw.PFn) := []
noncomputable def Sg.s_laws_szWish (K : Nat) : Fw.Sig := { ins := [.val true Sg.t15, .val false (.int .i64)], outs := [⟨false, (.int .i64), false⟩], F := fun x => R.laws_szWish K x.1 x.2.1 }
noncomputable def Sg.c_laws_szWish (K : Nat) : Fw.Cfg := { tab := Sg.tab, eqs := Sg.eqs, sig := [(85, Sg.s_laws_szEditS K)], inl := [], lo := [], K := K, jo := [], opn := Sg.opn }
def Sg.h_laws_szWishS_0 : Fw.StSh := ⟨[(0, (.d (.sl Sg.t15))), (1, (.d (.int .i64))), (4, (.d (.int .i64))), (5, (.d (.int .i64)))], [], 0, 27, ⟨0, []⟩⟩
def Sg.o_laws_szWishS_0 : Fw.StSh := ⟨[(1, (.d (.int .i64))), (4, (.d (.int .i64)))], [], 0, 27, ⟨0, []⟩⟩
def Sg.r_laws_szWishS_0 : Fw.StSh := ⟨[(4, (.d (.int .i64)))], [], 0, 27, ⟨0, []⟩⟩
noncomputable def Sg.p_laws_szWishS_0 (K : Nat) : Fw.LSpec := { g := 71, b := 0, lv := 6, l0 := 0, li := 0, head := Sg.h_laws_szWishS_0, post := Sg.o_laws_szWishS_0, retn := Sg.r_laws_szWishS_0, ex := 0, L := R.L_laws_szWishS_0 K }
noncomputable def Sg.f_laws_szWishS : Fw.PFn := Fw.PFn.get Tryz.f71
noncomputable def Sg.i_laws_szWishS : List (Nat × Fw.PFn) := []
noncomputable def Sg.s_laws_szWishS (K : Nat) : Fw.Sig := { ins := [.val false (.sl Sg.t15), .val false (.int .i64)], outs := [⟨false, (.int .i64), false⟩], F := fun x => R.laws_szWishS K x.1 x.2.1 }
noncomputable def Sg.c_laws_szWishS (K : Nat) : Fw.Cfg := { tab := Sg.tab, eqs := Sg.eqs, sig := [(142, Sg.s_laws_szWish K)], inl := [], lo := Sg.p_laws_szWishS_0 K :: [], K := K, jo := [], opn := Sg.opn }
noncomputable def Sg.f_laws_szClient : Fw.PFn := Fw.PFn.get Tryz.f16
noncomputable def Sg.i_laws_szClient : List (Nat × Fw.PFn) := []
noncomputable def Sg.s_laws_szClient (K : Nat) : Fw.Sig := { ins := [.val true Sg.t24, .val false (.int .i64)], outs := [⟨false, (.int .i64), false⟩], F := fun x => R.laws_szClient K x.1 x.2.1 }
noncomputable def Sg.c_laws_szClient (K : Nat) : Fw.Cfg := { tab := Sg.tab, eqs := Sg.eqs, sig := [(72, Sg.s_laws_szEntryS K), (71, Sg.s_laws_szWishS K)], inl := [], lo := [], K := K, jo := [], opn := Sg.opn }
def Sg.h_laws_toIntS_0 : Fw.StSh := ⟨[(0, (.d (.sl (.int .i64)))), (2, (.row 0)), (3, (.row 1)), (4, (.d (.int .i64)))], [(0, (.row (.int .i64) true)), (1, (.row (.int .i64) true))], 2, 22, ⟨0, []⟩⟩
def Sg.o_laws_toIntS_0 : Fw.StSh := ⟨[(2, (.row 0)), (3, (.row 1))], [(0, (.row (.int .i64) true)), (1, (.row (.int .i64) true))], 2, 22, ⟨0, []⟩⟩
def Sg.r_laws_toIntS_0 : Fw.StSh := ⟨[], [], 2, 22, ⟨0, []⟩⟩
noncomputable def Sg.p_laws_toIntS_0 (K : Nat) : Fw.LSpec := { g := 224, b := 0, lv := 6, l0 := 0, li := 0, head := Sg.h_laws_toIntS_0, post := Sg.o_laws_toIntS_0, retn := Sg.r_laws_toIntS_0, ex := 0, L := R.L_laws_toIntS_0 K }
noncomputable def Sg.f_laws_toIntS : Fw.PFn := Fw.PFn.get Tryz.f224
noncomputable def Sg.i_laws_toIntS : List (Nat × Fw.PFn) := []
noncomputable def Sg.s_laws_toIntS (K : Nat) : Fw.Sig := { ins := [.val false (.sl (.int .i64))], outs := [⟨false, (.sl (.int .i64)), true⟩], F := fun x => R.laws_toIntS K x.1 }
noncomputable def Sg.c_laws_toIntS (K : Nat) : Fw.Cfg := { tab := Sg.tab, eqs := Sg.eqs, sig := [], inl := [], lo := Sg.p_laws_toIntS_0 K :: [], K := K, jo := [], opn := Sg.opn }
noncomputable def Sg.f_laws_toEntry : Fw.PFn := Fw.PFn.get Tryz.f151
noncomputable def Sg.i_laws_toEntry : List (Nat × Fw.PFn) := []
noncomputable def Sg.s_laws_toEntry (K : Nat) : Fw.Sig := { ins := [.val true (.pair .str (.int .i64))], outs := [⟨true, (.pair .str (.int .i64)), false⟩], F := fun x => R.laws_toEntry K x.1 }
noncomputable def Sg.c_laws_toEntry (K : Nat) : Fw.Cfg := { tab := Sg.tab, eqs := Sg.eqs, sig := [], inl := [], lo := [], K := K, jo := [], opn := Sg.opn }
def Sg.h_laws_toEntryS_0 : Fw.StSh := ⟨[(0, (.d (.sl (.pair .str (.int .i64))))), (2, (.row 0)), (3, (.row 1)), (4, (.d (.int .i64)))], [(0, (.row (.pair .str (.int .i64)) true)), (1, (.row (.pair .str (.int .i64)) true))], 2, 23, ⟨0, []⟩⟩
def Sg.o_laws_toEntryS_0 : Fw.StSh := ⟨[(2, (.row 0)), (3, (.row 1))], [(0, (.row (.pair .str (.int .i64)) true)), (1, (.row (.pair .str (.int .i64)) true))], 2, 23, ⟨0, []⟩⟩
def Sg.r_laws_toEntryS_0 : Fw.StSh := ⟨[], [], 2, 23, ⟨0, []⟩⟩
noncomputable def Sg.p_laws_toEntryS_0 (K : Nat) : Fw.LSpec := { g := 78, b := 0, lv := 6, l0 := 0, li := 0, head := Sg.h_laws_toEntryS_0, post := Sg.o_laws_toEntryS_0, retn := Sg.r_laws_toEntryS_0, ex := 0, L := R.L_laws_toEntryS_0 K }
noncomputable def Sg.f_laws_toEntryS : Fw.PFn := Fw.PFn.get Tryz.f78
noncomputable def Sg.i_laws_toEntryS : List (Nat × Fw.PFn) := []
noncomputable def Sg.s_laws_toEntryS (K : Nat) : Fw.Sig := { ins := [.val false (.sl (.pair .str (.int .i64)))], outs := [⟨false, (.sl (.pair .str (.int .i64))), true⟩], F := fun x => R.laws_toEntryS K x.1 }
noncomputable def Sg.c_laws_toEntryS (K : Nat) : Fw.Cfg := { tab := Sg.tab, eqs := Sg.eqs, sig := [(151, Sg.s_laws_toEntry K)], inl := [], lo := Sg.p_laws_toEntryS_0 K :: [], K := K, jo := [], opn := Sg.opn }
noncomputable def Sg.f_laws_toCommit : Fw.PFn := Fw.PFn.get Tryz.f148
noncomputable def Sg.i_laws_toCommit : List (Nat × Fw.PFn) := []
noncomputable def Sg.s_laws_toCommit (K : Nat) : Fw.Sig := { ins := [.val true Sg.t3], outs := [⟨true, Sg.t3, true⟩], F := fun x => R.laws_toCommit K x.1 }
noncomputable def Sg.c_laws_toCommit (K : Nat) : Fw.Cfg := { tab := Sg.tab, eqs := Sg.eqs, sig := [(224, Sg.s_laws_toIntS K), (78, Sg.s_laws_toEntryS K)], inl := [], lo := [], K := K, jo := [], opn := Sg.opn }
def Sg.h_laws_toCommitS_0 : Fw.StSh := ⟨[(0, (.d (.sl Sg.t3))), (2, (.row 0)), (3, (.row 1)), (4, (.d (.int .i64)))], [(0, (.row Sg.t3 true)), (1, (.row Sg.t3 true))], 2, 23, ⟨0, []⟩⟩
def Sg.o_laws_toCommitS_0 : Fw.StSh := ⟨[(2, (.row 0)), (3, (.row 1))], [(0, (.row Sg.t3 true)), (1, (.row Sg.t3 true))], 2, 23, ⟨0, []⟩⟩
def Sg.r_laws_toCommitS_0 : Fw.StSh := ⟨[], [], 2, 23, ⟨0, []⟩⟩
noncomputable def Sg.p_laws_toCommitS_0 (K : Nat) : Fw.LSpec := { g := 75, b := 0, lv := 6, l0 := 0, li := 0, head := Sg.h_laws_toCommitS_0, post := Sg.o_laws_toCommitS_0, retn := Sg.r_laws_toCommitS_0, ex := 0, L := R.L_laws_toCommitS_0 K }
noncomputable def Sg.f_laws_toCommitS : Fw.PFn := Fw.PFn.get Tryz.f75
noncomputable def Sg.i_laws_toCommitS : List (Nat × Fw.PFn) := []
noncomputable def Sg.s_laws_toCommitS (K : Nat) : Fw.Sig := { ins := [.val false (.sl Sg.t3)], outs := [⟨false, (.sl Sg.t3), true⟩], F := fun x => R.laws_toCommitS K x.1 }
noncomputable def Sg.c_laws_toCommitS (K : Nat) : Fw.Cfg := { tab := Sg.tab, eqs := Sg.eqs, sig := [(148, Sg.s_laws_toCommit K)], inl := [], lo := Sg.p_laws_toCommitS_0 K :: [], K := K, jo := [], opn := Sg.opn }
noncomputable def Sg.f_laws_toRef : Fw.PFn := Fw.PFn.get Tryz.f149
noncomputable def Sg.i_laws_toRef : List (Nat × Fw.PFn) := []
noncomputable def Sg.s_laws_toRef (K : Nat) : Fw.Sig := { ins := [.val true Sg.t6], outs := [⟨true, Sg.t6, false⟩], F := fun x => R.laws_toRef K x.1 }
noncomputable def Sg.c_laws_toRef (K : Nat) : Fw.Cfg := { tab := Sg.tab, eqs := Sg.eqs, sig := [], inl := [], lo := [], K := K, jo := [], opn := Sg.opn }
def Sg.h_laws_toRefS_0 : Fw.StSh := ⟨[(0, (.d (.sl Sg.t6))), (2, (.row 0)), (3, (.row 1)), (4, (.d (.int .i64)))], [(0, (.row Sg.t6 true)), (1, (.row Sg.t6 true))], 2, 23, ⟨0, []⟩⟩
def Sg.o_laws_toRefS_0 : Fw.StSh := ⟨[(2, (.row 0)), (3, (.row 1))], [(0, (.row Sg.t6 true)), (1, (.row Sg.t6 true))], 2, 23, ⟨0, []⟩⟩
def Sg.r_laws_toRefS_0 : Fw.StSh := ⟨[], [], 2, 23, ⟨0, []⟩⟩
noncomputable def Sg.p_laws_toRefS_0 (K : Nat) : Fw.LSpec := { g := 76, b := 0, lv := 6, l0 := 0, li := 0, head := Sg.h_laws_toRefS_0, post := Sg.o_laws_toRefS_0, retn := Sg.r_laws_toRefS_0, ex := 0, L := R.L_laws_toRefS_0 K }
noncomputable def Sg.f_laws_toRefS : Fw.PFn := Fw.PFn.get Tryz.f76
noncomputable def Sg.i_laws_toRefS : List (Nat × Fw.PFn) := []
noncomputable def Sg.s_laws_toRefS (K : Nat) : Fw.Sig := { ins := [.val false (.sl Sg.t6)], outs := [⟨false, (.sl Sg.t6), true⟩], F := fun x => R.laws_toRefS K x.1 }
noncomputable def Sg.c_laws_toRefS (K : Nat) : Fw.Cfg := { tab := Sg.tab, eqs := Sg.eqs, sig := [(149, Sg.s_laws_toRef K)], inl := [], lo := Sg.p_laws_toRefS_0 K :: [], K := K, jo := [], opn := Sg.opn }
noncomputable def Sg.f_laws_toBase : Fw.PFn := Fw.PFn.get Tryz.f18
noncomputable def Sg.i_laws_toBase : List (Nat × Fw.PFn) := []
noncomputable def Sg.s_laws_toBase (K : Nat) : Fw.Sig := { ins := [.val true Sg.t21], outs := [⟨true, Sg.t21, true⟩], F := fun x => R.laws_toBase K x.1 }
noncomputable def Sg.c_laws_toBase (K : Nat) : Fw.Cfg := { tab := Sg.tab, eqs := Sg.eqs, sig := [(75, Sg.s_laws_toCommitS K), (76, Sg.s_laws_toRefS K)], inl := [], lo := [], K := K, jo := [], opn := Sg.opn }
noncomputable def Sg.f_laws_toEdit : Fw.PFn := Fw.PFn.get Tryz.f174
noncomputable def Sg.i_laws_toEdit : List (Nat × Fw.PFn) := []
noncomputable def Sg.s_laws_toEdit (K : Nat) : Fw.Sig := { ins := [.val true (.pair .str (.pair (.int .i64) .bool))], outs := [⟨true, (.pair .str (.pair (.int .i64) .bool)), false⟩], F := fun x => R.laws_toEdit K x.1 }
noncomputable def Sg.c_laws_toEdit (K : Nat) : Fw.Cfg := { tab := Sg.tab, eqs := Sg.eqs, sig := [], inl := [], lo := [], K := K, jo := [], opn := Sg.opn }
def Sg.h_laws_toEditS_0 : Fw.StSh := ⟨[(0, (.d (.sl (.pair .str (.pair (.int .i64) .bool))))), (2, (.row 0)), (3, (.row 1)), (4, (.d (.int .i64)))], [(0, (.row (.pair .str (.pair (.int .i64) .bool)) true)), (1, (.row (.pair .str (.pair (.int .i64) .bool)) true))], 2, 23, ⟨0, []⟩⟩
def Sg.o_laws_toEditS_0 : Fw.StSh := ⟨[(2, (.row 0)), (3, (.row 1))], [(0, (.row (.pair .str (.pair (.int .i64) .bool)) true)), (1, (.row (.pair .str (.pair (.int .i64) .bool)) true))], 2, 23, ⟨0, []⟩⟩
def Sg.r_laws_toEditS_0 : Fw.StSh := ⟨[], [], 2, 23, ⟨0, []⟩⟩
noncomputable def Sg.p_laws_toEditS_0 (K : Nat) : Fw.LSpec := { g := 90, b := 0, lv := 6, l0 := 0, li := 0, head := Sg.h_laws_toEditS_0, post := Sg.o_laws_toEditS_0, retn := Sg.r_laws_toEditS_0, ex := 0, L := R.L_laws_toEditS_0 K }
noncomputable def Sg.f_laws_toEditS : Fw.PFn := Fw.PFn.get Tryz.f90
noncomputable def Sg.i_laws_toEditS : List (Nat × Fw.PFn) := []
noncomputable def Sg.s_laws_toEditS (K : Nat) : Fw.Sig := { ins := [.val false (.sl (.pair .str (.pair (.int .i64) .bool)))], outs := [⟨false, (.sl (.pair .str (.pair (.int .i64) .bool))), true⟩], F := fun x => R.laws_toEditS K x.1 }
noncomputable def Sg.c_laws_toEditS (K : Nat) : Fw.Cfg := { tab := Sg.tab, eqs := Sg.eqs, sig := [(174, Sg.s_laws_toEdit K)], inl := [], lo := Sg.p_laws_toEditS_0 K :: [], K := K, jo := [], opn := Sg.opn }
noncomputable def Sg.f_laws_toWish : Fw.PFn := Fw.PFn.get Tryz.f150
noncomputable def Sg.i_laws_toWish : List (Nat × Fw.PFn) := []
noncomputable def Sg.s_laws_toWish (K : Nat) : Fw.Sig := { ins := [.val true Sg.t15], outs := [⟨true, Sg.t15, true⟩], F := fun x => R.laws_toWish K x.1 }
noncomputable def Sg.c_laws_toWish (K : Nat) : Fw.Cfg := { tab := Sg.tab, eqs := Sg.eqs, sig := [(90, Sg.s_laws_toEditS K)], inl := [], lo := [], K := K, jo := [], opn := Sg.opn }
def Sg.h_laws_toWishS_0 : Fw.StSh := ⟨[(0, (.d (.sl Sg.t15))), (2, (.row 0)), (3, (.row 1)), (4, (.d (.int .i64)))], [(0, (.row Sg.t15 true)), (1, (.row Sg.t15 true))], 2, 23, ⟨0, []⟩⟩
def Sg.o_laws_toWishS_0 : Fw.StSh := ⟨[(2, (.row 0)), (3, (.row 1))], [(0, (.row Sg.t15 true)), (1, (.row Sg.t15 true))], 2, 23, ⟨0, []⟩⟩
def Sg.r_laws_toWishS_0 : Fw.StSh := ⟨[], [], 2, 23, ⟨0, []⟩⟩
noncomputable def Sg.p_laws_toWishS_0 (K : Nat) : Fw.LSpec := { g := 77, b := 0, lv := 6, l0 := 0, li := 0, head := Sg.h_laws_toWishS_0, post := Sg.o_laws_toWishS_0, retn := Sg.r_laws_toWishS_0, ex := 0, L := R.L_laws_toWishS_0 K }
noncomputable def Sg.f_laws_toWishS : Fw.PFn := Fw.PFn.get Tryz.f77
noncomputable def Sg.i_laws_toWishS : List (Nat × Fw.PFn) := []
noncomputable def Sg.s_laws_toWishS (K : Nat) : Fw.Sig := { ins := [.val false (.sl Sg.t15)], outs := [⟨false, (.sl Sg.t15), true⟩], F := fun x => R.laws_toWishS K x.1 }
noncomputable def Sg.c_laws_toWishS (K : Nat) : Fw.Cfg := { tab := Sg.tab, eqs := Sg.eqs, sig := [(150, Sg.s_laws_toWish K)], inl := [], lo := Sg.p_laws_toWishS_0 K :: [], K := K, jo := [], opn := Sg.opn }
noncomputable def Sg.f_laws_toClient : Fw.PFn := Fw.PFn.get Tryz.f19
noncomputable def Sg.i_laws_toClient : List (Nat × Fw.PFn) := []
noncomputable def Sg.s_laws_toClient (K : Nat) : Fw.Sig := { ins := [.val true Sg.t24], outs := [⟨true, Sg.t24, true⟩], F := fun x => R.laws_toClient K x.1 }
noncomputable def Sg.c_laws_toClient (K : Nat) : Fw.Cfg := { tab := Sg.tab, eqs := Sg.eqs, sig := [(78, Sg.s_laws_toEntryS K), (77, Sg.s_laws_toWishS K)], inl := [], lo := [], K := K, jo := [], opn := Sg.opn }
noncomputable def Sg.f_spec_l01In : Fw.PFn := Fw.PFn.get Tryz.f135
noncomputable def Sg.i_spec_l01In : List (Nat × Fw.PFn) := []
noncomputable def Sg.s_spec_l01In (K : Nat) : Fw.Sig := { ins := [.val false (.int .i64), .val false (.int .i64), .val false (.int .i64)], outs := [⟨false, .bool, false⟩], F := fun x => R.spec_l01In K x.1 x.2.1 x.2.2.1 }
noncomputable def Sg.c_spec_l01In (K : Nat) : Fw.Cfg := { tab := Sg.tab, eqs := Sg.eqs, sig := [], inl := [], lo := [], K := K, jo := [], opn := Sg.opn }
noncomputable def Sg.f_spec_l00Letter : Fw.PFn := Fw.PFn.get Tryz.f238
noncomputable def Sg.i_spec_l00Letter : List (Nat × Fw.PFn) := []
noncomputable def Sg.s_spec_l00Letter (K : Nat) : Fw.Sig := { ins := [.val false (.int .u8)], outs := [⟨false, .bool, false⟩], F := fun x => R.spec_l00Letter K x.1 }
noncomputable def Sg.c_spec_l00Letter (K : Nat) : Fw.Cfg := { tab := Sg.tab, eqs := Sg.eqs, sig := [], inl := [], lo := [], K := K, jo := [], opn := Sg.opn }
noncomputable def Sg.f_spec_l00Digit : Fw.PFn := Fw.PFn.get Tryz.f239
noncomputable def Sg.i_spec_l00Digit : List (Nat × Fw.PFn) := []
noncomputable def Sg.s_spec_l00Digit (K : Nat) : Fw.Sig := { ins := [.val false (.int .u8)], outs := [⟨false, .bool, false⟩], F := fun x => R.spec_l00Digit K x.1 }
noncomputable def Sg.c_spec_l00Digit (K : Nat) : Fw.Cfg := { tab := Sg.tab, eqs := Sg.eqs, sig := [], inl := [], lo := [], K := K, jo := [], opn := Sg.opn }
def Sg.h_spec_l00Word_0 : Fw.StSh := ⟨[(0, (.d .str)), (2, (.d .bool)), (3, (.d (.int .i64)))], [], 0, 36, ⟨0, []⟩⟩
def Sg.o_spec_l00Word_0 : Fw.StSh := ⟨[(2, (.d .bool))], [], 0, 36, ⟨0, []⟩⟩
def Sg.r_spec_l00Word_0 : Fw.StSh := ⟨[(2, (.d .bool))], [], 0, 36, ⟨0, []⟩⟩
noncomputable def Sg.p_spec_l00Word_0 (K : Nat) : Fw.LSpec := { g := 164, b := 0, lv := 6, l0 := 0, li := 0, head := Sg.h_spec_l00Word_0, post := Sg.o_spec_l00Word_0, retn := Sg.r_spec_l00Word_0, ex := 0, L := R.L_spec_l00Word_0 K }
noncomputable def Sg.f_spec_l00Word : Fw.PFn := Fw.PFn.get Tryz.f164
noncomputable def Sg.i_spec_l00Word : List (Nat × Fw.PFn) := []
noncomputable def Sg.s_spec_l00Word (K : Nat) : Fw.Sig := { ins := [.val false .str], outs := [⟨false, .bool, false⟩], F := fun x => R.spec_l00Word K x.1 }
noncomputable def Sg.c_spec_l00Word (K : Nat) : Fw.Cfg := { tab := Sg.tab, eqs := Sg.eqs, sig := [(238, Sg.s_spec_l00Letter K), (239, Sg.s_spec_l00Digit K)], inl := [], lo := Sg.p_spec_l00Word_0 K :: [], K := K, jo := [], opn := Sg.opn }
def Sg.h_spec_l01OK_0 : Fw.StSh := ⟨[(0, (.d (.sl (.pair .str (.int .i64))))), (2, (.d .bool)), (3, (.d (.int .i64)))], [], 0, 47, ⟨0, []⟩⟩
def Sg.o_spec_l01OK_0 : Fw.StSh := ⟨[(2, (.d .bool))], [], 0, 47, ⟨0, []⟩⟩
def Sg.r_spec_l01OK_0 : Fw.StSh := ⟨[(2, (.d .bool))], [], 0, 47, ⟨0, []⟩⟩
noncomputable def Sg.p_spec_l01OK_0 (K : Nat) : Fw.LSpec := { g := 259, b := 0, lv := 6, l0 := 0, li := 0, head := Sg.h_spec_l01OK_0, post := Sg.o_spec_l01OK_0, retn := Sg.r_spec_l01OK_0, ex := 0, L := R.L_spec_l01OK_0 K }
noncomputable def Sg.f_spec_l01OK : Fw.PFn := Fw.PFn.get Tryz.f259
noncomputable def Sg.i_spec_l01OK : List (Nat × Fw.PFn) := []
noncomputable def Sg.s_spec_l01OK (K : Nat) : Fw.Sig := { ins := [.val false (.sl (.pair .str (.int .i64)))], outs := [⟨false, .bool, false⟩], F := fun x => R.spec_l01OK K x.1 }
noncomputable def Sg.c_spec_l01OK (K : Nat) : Fw.Cfg := { tab := Sg.tab, eqs := Sg.eqs, sig := [(135, Sg.s_spec_l01In K), (164, Sg.s_spec_l00Word K)], inl := [], lo := Sg.p_spec_l01OK_0 K :: [], K := K, jo := ⟨259, 0, 6, 0, 6, none⟩ :: [], opn := Sg.opn }
def Sg.h_spec_l03Commit_0 : Fw.StSh := ⟨[(0, (.d (.sl Sg.t3))), (3, (.ref 0 0)), (4, (.d .bool)), (5, (.d (.int .i64))), (6, (.d (.int .i64)))], [(0, (.box [(.d (.sl (.int .i64))), (.d (.sl (.pair .str (.int .i64))))]))], 1, 56, ⟨0, []⟩⟩
def Sg.o_spec_l03Commit_0 : Fw.StSh := ⟨[(4, (.d .bool))], [], 1, 56, ⟨0, []⟩⟩
def Sg.r_spec_l03Commit_0 : Fw.StSh := ⟨[(4, (.d .bool))], [], 1, 56, ⟨0, []⟩⟩
noncomputable def Sg.p_spec_l03Commit_0 (K : Nat) : Fw.LSpec := { g := 218, b := 0, lv := 6, l0 := 0, li := 0, head := Sg.h_spec_l03Commit_0, post := Sg.o_spec_l03Commit_0, retn := Sg.r_spec_l03Commit_0, ex := 0, L := R.L_spec_l03Commit_0 K }
noncomputable def Sg.f_spec_l03Commit : Fw.PFn := Fw.PFn.get Tryz.f218
noncomputable def Sg.i_spec_l03Commit : List (Nat × Fw.PFn) := []
noncomputable def Sg.s_spec_l03Commit (K : Nat) : Fw.Sig := { ins := [.val false (.sl Sg.t3), .val true Sg.t3], outs := [⟨false, .bool, false⟩], F := fun x => R.spec_l03Commit K x.1 x.2.1 }
noncomputable def Sg.c_spec_l03Commit (K : Nat) : Fw.Cfg := { tab := Sg.tab, eqs := Sg.eqs, sig := [(135, Sg.s_spec_l01In K), (259, Sg.s_spec_l01OK K)], inl := [], lo := Sg.p_spec_l03Commit_0 K :: [], K := K, jo := ⟨218, 0, 6, 0, 7, none⟩ :: [], opn := Sg.opn }
def Sg.h_spec_l03OK_0 : Fw.StSh := ⟨[(0, (.d (.sl Sg.t3))), (2, (.d .bool)), (3, (.d (.int .i64)))], [], 0, 23, ⟨0, []⟩⟩
def Sg.o_spec_l03OK_0 : Fw.StSh := ⟨[(2, (.d .bool))], [], 0, 23, ⟨0, []⟩⟩
def Sg.r_spec_l03OK_0 : Fw.StSh := ⟨[(2, (.d .bool))], [], 0, 23, ⟨0, []⟩⟩
noncomputable def Sg.p_spec_l03OK_0 (K : Nat) : Fw.LSpec := { g := 144, b := 0, lv := 6, l0 := 0, li := 0, head := Sg.h_spec_l03OK_0, post := Sg.o_spec_l03OK_0, retn := Sg.r_spec_l03OK_0, ex := 0, L := R.L_spec_l03OK_0 K }
noncomputable def Sg.f_spec_l03OK : Fw.PFn := Fw.PFn.get Tryz.f144
noncomputable def Sg.i_spec_l03OK : List (Nat × Fw.PFn) := []
noncomputable def Sg.s_spec_l03OK (K : Nat) : Fw.Sig := { ins := [.val false (.sl Sg.t3)], outs := [⟨false, .bool, false⟩], F := fun x => R.spec_l03OK K x.1 }
noncomputable def Sg.c_spec_l03OK (K : Nat) : Fw.Cfg := { tab := Sg.tab, eqs := Sg.eqs, sig := [(135, Sg.s_spec_l01In K), (218, Sg.s_spec_l03Commit K)], inl := [], lo := Sg.p_spec_l03OK_0 K :: [], K := K, jo := ⟨144, 0, 6, 0, 6, none⟩ :: [], opn := Sg.opn }
def Sg.h_spec_l04At_0 : Fw.StSh := ⟨[(0, (.d (.sl Sg.t6))), (1, (.d .str)), (4, (.d (.int .i64))), (5, (.d (.int .i64)))], [], 0, 20, ⟨0, []⟩⟩
def Sg.o_spec_l04At_0 : Fw.StSh := ⟨[(4, (.d (.int .i64)))], [], 0, 20, ⟨0, []⟩⟩
def Sg.r_spec_l04At_0 : Fw.StSh := ⟨[(4, (.d (.int .i64)))], [], 0, 20, ⟨0, []⟩⟩
noncomputable def Sg.p_spec_l04At_0 (K : Nat) : Fw.LSpec := { g := 219, b := 0, lv := 6, l0 := 0, li := 0, head := Sg.h_spec_l04At_0, post := Sg.o_spec_l04At_0, retn := Sg.r_spec_l04At_0, ex := 0, L := R.L_spec_l04At_0 K }
noncomputable def Sg.f_spec_l04At : Fw.PFn := Fw.PFn.get Tryz.f219
noncomputable def Sg.i_spec_l04At : List (Nat × Fw.PFn) := []
noncomputable def Sg.s_spec_l04At (K : Nat) : Fw.Sig := { ins := [.val false (.sl Sg.t6), .val false .str], outs := [⟨false, (.int .i64), false⟩], F := fun x => R.spec_l04At K x.1 x.2.1 }
noncomputable def Sg.c_spec_l04At (K : Nat) : Fw.Cfg := { tab := Sg.tab, eqs := Sg.eqs, sig := [], inl := [], lo := Sg.p_spec_l04At_0 K :: [], K := K, jo := [], opn := Sg.opn }
def Sg.h_spec_l04OK_0 : Fw.StSh := ⟨[(0, (.d (.sl Sg.t6))), (2, (.d .bool)), (3, (.d (.int .i64)))], [], 0, 56, ⟨0, []⟩⟩
def Sg.o_spec_l04OK_0 : Fw.StSh := ⟨[(2, (.d .bool))], [], 0, 56, ⟨0, []⟩⟩
def Sg.r_spec_l04OK_0 : Fw.StSh := ⟨[(2, (.d .bool))], [], 1, 56, ⟨0, []⟩⟩
noncomputable def Sg.p_spec_l04OK_0 (K : Nat) : Fw.LSpec := { g := 145, b := 0, lv := 6, l0 := 0, li := 0, head := Sg.h_spec_l04OK_0, post := Sg.o_spec_l04OK_0, retn := Sg.r_spec_l04OK_0, ex := 0, L := R.L_spec_l04OK_0 K }
noncomputable def Sg.f_spec_l04OK : Fw.PFn := Fw.PFn.get Tryz.f145
noncomputable def Sg.i_spec_l04OK : List (Nat × Fw.PFn) := []
noncomputable def Sg.s_spec_l04OK (K : Nat) : Fw.Sig := { ins := [.val false (.sl Sg.t6)], outs := [⟨false, .bool, false⟩], F := fun x => R.spec_l04OK K x.1 }
noncomputable def Sg.c_spec_l04OK (K : Nat) : Fw.Cfg := { tab := Sg.tab, eqs := Sg.eqs, sig := [(135, Sg.s_spec_l01In K), (164, Sg.s_spec_l00Word K), (219, Sg.s_spec_l04At K)], inl := [], lo := Sg.p_spec_l04OK_0 K :: [], K := K, jo := [], opn := Sg.opn }
def Sg.h_spec_l05OK_0 : Fw.StSh := ⟨[(1, (.ref 0 0)), (2, (.d .bool)), (3, (.d (.int .i64)))], [(0, (.box [(.d (.sl Sg.t3)), (.d (.sl Sg.t6))]))], 1, 31, ⟨0, []⟩⟩
def Sg.o_spec_l05OK_0 : Fw.StSh := ⟨[(2, (.d .bool))], [], 1, 31, ⟨0, []⟩⟩
def Sg.r_spec_l05OK_0 : Fw.StSh := ⟨[(2, (.d .bool))], [], 1, 31, ⟨0, []⟩⟩
noncomputable def Sg.p_spec_l05OK_0 (K : Nat) : Fw.LSpec := { g := 73, b := 0, lv := 6, l0 := 0, li := 0, head := Sg.h_spec_l05OK_0, post := Sg.o_spec_l05OK_0, retn := Sg.r_spec_l05OK_0, ex := 0, L := R.L_spec_l05OK_0 K }
noncomputable def Sg.f_spec_l05OK : Fw.PFn := Fw.PFn.get Tryz.f73
noncomputable def Sg.i_spec_l05OK : List (Nat × Fw.PFn) := []
noncomputable def Sg.s_spec_l05OK (K : Nat) : Fw.Sig := { ins := [.val true Sg.t21], outs := [⟨false, .bool, false⟩], F := fun x => R.spec_l05OK K x.1 }
noncomputable def Sg.c_spec_l05OK (K : Nat) : Fw.Cfg := { tab := Sg.tab, eqs := Sg.eqs, sig := [(144, Sg.s_spec_l03OK K), (145, Sg.s_spec_l04OK K)], inl := [], lo := Sg.p_spec_l05OK_0 K :: [], K := K, jo := ⟨73, 0, 6, 0, 6, none⟩ :: [], opn := Sg.opn }
def Sg.h_spec_l01Edits_0 : Fw.StSh := ⟨[(0, (.d (.sl (.pair .str (.pair (.int .i64) .bool))))), (2, (.d .bool)), (3, (.d (.int .i64)))], [], 0, 52, ⟨0, []⟩⟩
def Sg.o_spec_l01Edits_0 : Fw.StSh := ⟨[(2, (.d .bool))], [], 0, 52, ⟨0, []⟩⟩
def Sg.r_spec_l01Edits_0 : Fw.StSh := ⟨[(2, (.d .bool))], [], 1, 52, ⟨0, []⟩⟩
noncomputable def Sg.p_spec_l01Edits_0 (K : Nat) : Fw.LSpec := { g := 165, b := 0, lv := 6, l0 := 0, li := 0, head := Sg.h_spec_l01Edits_0, post := Sg.o_spec_l01Edits_0, retn := Sg.r_spec_l01Edits_0, ex := 0, L := R.L_spec_l01Edits_0 K }
noncomputable def Sg.f_spec_l01Edits : Fw.PFn := Fw.PFn.get Tryz.f165
noncomputable def Sg.i_spec_l01Edits : List (Nat × Fw.PFn) := []
noncomputable def Sg.s_spec_l01Edits (K : Nat) : Fw.Sig := { ins := [.val false (.sl (.pair .str (.pair (.int .i64) .bool)))], outs := [⟨false, .bool, false⟩], F := fun x => R.spec_l01Edits K x.1 }
noncomputable def Sg.c_spec_l01Edits (K : Nat) : Fw.Cfg := { tab := Sg.tab, eqs := Sg.eqs, sig := [(135, Sg.s_spec_l01In K), (164, Sg.s_spec_l00Word K)], inl := [], lo := Sg.p_spec_l01Edits_0 K :: [], K := K, jo := ⟨165, 0, 6, 0, 7, none⟩ :: [], opn := Sg.opn }
noncomputable def Sg.f_spec_l07Wish : Fw.PFn := Fw.PFn.get Tryz.f220
noncomputable def Sg.i_spec_l07Wish : List (Nat × Fw.PFn) := []
noncomputable def Sg.s_spec_l07Wish (K : Nat) : Fw.Sig := { ins := [.val true Sg.t15], outs := [⟨false, .bool, false⟩], F := fun x => R.spec_l07Wish K x.1 }
noncomputable def Sg.c_spec_l07Wish (K : Nat) : Fw.Cfg := { tab := Sg.tab, eqs := Sg.eqs, sig := [(135, Sg.s_spec_l01In K), (164, Sg.s_spec_l00Word K), (165, Sg.s_spec_l01Edits K)], inl := [], lo := [], K := K, jo := [], opn := Sg.opn }
def Sg.h_spec_l07Wishes_0 : Fw.StSh := ⟨[(0, (.d (.sl Sg.t15))), (2, (.d .bool)), (3, (.d (.int .i64)))], [], 0, 19, ⟨0, []⟩⟩
def Sg.o_spec_l07Wishes_0 : Fw.StSh := ⟨[(2, (.d .bool))], [], 0, 19, ⟨0, []⟩⟩
def Sg.r_spec_l07Wishes_0 : Fw.StSh := ⟨[(2, (.d .bool))], [], 0, 19, ⟨0, []⟩⟩
noncomputable def Sg.p_spec_l07Wishes_0 (K : Nat) : Fw.LSpec := { g := 146, b := 0, lv := 6, l0 := 0, li := 0, head := Sg.h_spec_l07Wishes_0, post := Sg.o_spec_l07Wishes_0, retn := Sg.r_spec_l07Wishes_0, ex := 0, L := R.L_spec_l07Wishes_0 K }
noncomputable def Sg.f_spec_l07Wishes : Fw.PFn := Fw.PFn.get Tryz.f146
noncomputable def Sg.i_spec_l07Wishes : List (Nat × Fw.PFn) := []
noncomputable def Sg.s_spec_l07Wishes (K : Nat) : Fw.Sig := { ins := [.val false (.sl Sg.t15)], outs := [⟨false, .bool, false⟩], F := fun x => R.spec_l07Wishes K x.1 }
noncomputable def Sg.c_spec_l07Wishes (K : Nat) : Fw.Cfg := { tab := Sg.tab, eqs := Sg.eqs, sig := [(220, Sg.s_spec_l07Wish K)], inl := [], lo := Sg.p_spec_l07Wishes_0 K :: [], K := K, jo := [], opn := Sg.opn }
def Sg.h_spec_l03Reach_1 : Fw.StSh := ⟨[(0, (.d (.sl Sg.t3))), (4, (.row 0)), (5, (.row 1)), (6, (.d (.int .i64))), (7, (.d (.int .i64))), (16, (.d (.int .i64))), (17, (.d .bool)), (20, (.row 1)), (21, (.d (.int .i64))), (22, (.eref 1 0)), (23, (.d .bool)), (24, (.d .bool))], [(0, (.row .bool true)), (1, (.row .bool true))], 2, 48, ⟨0, []⟩⟩
def Sg.o_spec_l03Reach_1 : Fw.StSh := ⟨[(0, (.d (.sl Sg.t3))), (4, (.row 0)), (5, (.row 1)), (6, (.d (.int .i64))), (7, (.d (.int .i64))), (16, (.d (.int .i64))), (17, (.d .bool)), (20, (.row 1)), (21, (.d (.int .i64))), (22, (.eref 1 0)), (23, (.d .bool)), (24, (.d .bool)), (25, (.d (.int .i64))), (26, (.d (.sl Sg.t3))), (27, (.d (.int .i64))), (28, (.d (.int .i64))), (29, (.dref Sg.t3 0)), (30, (.dref Sg.t3 0)), (31, (.d (.sl (.int .i64)))), (32, (.d (.int .i64))), (33, (.d .bool))], [(0, (.row .bool true)), (1, (.row .bool true))], 2, 48, ⟨0, []⟩⟩
def Sg.r_spec_l03Reach_1 : Fw.StSh := ⟨[], [], 2, 48, ⟨0, []⟩⟩
noncomputable def Sg.p_spec_l03Reach_1 (K : Nat) : Fw.LSpec := { g := 305, b := 0, lv := 6, l0 := 0, li := 1, head := Sg.h_spec_l03Reach_1, post := Sg.o_spec_l03Reach_1, retn := Sg.r_spec_l03Reach_1, ex := 2, L := R.L_spec_l03Reach_1 K }
def Sg.h_spec_l03Reach_0 : Fw.StSh := ⟨[(0, (.d (.sl Sg.t3))), (4, (.row 0)), (5, (.row 1)), (6, (.d (.int .i64)))], [(0, (.row .bool true)), (1, (.row .bool true))], 2, 48, ⟨0, []⟩⟩
def Sg.o_spec_l03Reach_0 : Fw.StSh := ⟨[(4, (.row 0)), (5, (.row 1))], [(0, (.row .bool true)), (1, (.row .bool true))], 2, 48, ⟨0, []⟩⟩
def Sg.r_spec_l03Reach_0 : Fw.StSh := ⟨[], [], 2, 48, ⟨0, []⟩⟩
noncomputable def Sg.p_spec_l03Reach_0 (K : Nat) : Fw.LSpec := { g := 305, b := 0, lv := 6, l0 := 0, li := 0, head := Sg.h_spec_l03Reach_0, post := Sg.o_spec_l03Reach_0, retn := Sg.r_spec_l03Reach_0, ex := 0, L := R.L_spec_l03Reach_0 K }
noncomputable def Sg.f_spec_l03Reach : Fw.PFn := Fw.PFn.get Tryz.f305
noncomputable def Sg.i_spec_l03Reach : List (Nat × Fw.PFn) := []
noncomputable def Sg.s_spec_l03Reach (K : Nat) : Fw.Sig := { ins := [.val false (.sl Sg.t3), .val false (.int .i64)], outs := [⟨false, (.sl .bool), true⟩], F := fun x => R.spec_l03Reach K x.1 x.2.1 }
noncomputable def Sg.c_spec_l03Reach (K : Nat) : Fw.Cfg := { tab := Sg.tab, eqs := Sg.eqs, sig := [], inl := [], lo := Sg.p_spec_l03Reach_1 K :: Sg.p_spec_l03Reach_0 K :: [], K := K, jo := [], opn := Sg.opn }
def Sg.h_spec_l03Base_0 : Fw.StSh := ⟨[(6, (.d (.int .i64))), (7, (.row 0)), (8, (.row 1)), (9, (.d (.int .i64)))], [(0, (.row .bool true)), (1, (.row .bool true))], 2, 34, ⟨0, []⟩⟩
def Sg.o_spec_l03Base_0 : Fw.StSh := ⟨[(6, (.d (.int .i64))), (9, (.d (.int .i64)))], [], 2, 34, ⟨0, []⟩⟩
def Sg.r_spec_l03Base_0 : Fw.StSh := ⟨[], [], 2, 34, ⟨0, []⟩⟩
noncomputable def Sg.p_spec_l03Base_0 (K : Nat) : Fw.LSpec := { g := 286, b := 0, lv := 6, l0 := 0, li := 0, head := Sg.h_spec_l03Base_0, post := Sg.o_spec_l03Base_0, retn := Sg.r_spec_l03Base_0, ex := 0, L := R.L_spec_l03Base_0 K }
noncomputable def Sg.f_spec_l03Base : Fw.PFn := Fw.PFn.get Tryz.f286
noncomputable def Sg.i_spec_l03Base : List (Nat × Fw.PFn) := []
noncomputable def Sg.s_spec_l03Base (K : Nat) : Fw.Sig := { ins := [.val false (.sl Sg.t3), .val false (.int .i64), .val false (.int .i64)], outs := [⟨false, (.int .i64), false⟩], F := fun x => R.spec_l03Base K x.1 x.2.1 x.2.2.1 }
noncomputable def Sg.c_spec_l03Base (K : Nat) : Fw.Cfg := { tab := Sg.tab, eqs := Sg.eqs, sig := [(305, Sg.s_spec_l03Reach K)], inl := [], lo := Sg.p_spec_l03Base_0 K :: [], K := K, jo := [], opn := Sg.opn }
noncomputable def Sg.f_spec_l05Fail : Fw.PFn := Fw.PFn.get Tryz.f166
noncomputable def Sg.i_spec_l05Fail : List (Nat × Fw.PFn) := []
noncomputable def Sg.s_spec_l05Fail (K : Nat) : Fw.Sig := { ins := [.val false (.int .i64), .val false (.sl .str)], outs := [⟨true, Sg.t16, false⟩], F := fun x => R.spec_l05Fail K x.1 x.2.1 }
noncomputable def Sg.c_spec_l05Fail (K : Nat) : Fw.Cfg := { tab := Sg.tab, eqs := Sg.eqs, sig := [], inl := [], lo := [], K := K, jo := [], opn := Sg.opn }
def Sg.h_spec_l01Diff_0 : Fw.StSh := ⟨[(0, (.d (.sl (.pair .str (.int .i64))))), (1, (.d (.sl (.pair .str (.int .i64))))), (4, (.row 0)), (5, (.row 1)), (6, (.d (.int .i64))), (7, (.d (.int .i64)))], [(0, (.row (.pair .str (.pair (.int .i64) .bool)) true)), (1, (.row (.pair .str (.pair (.int .i64) .bool)) true))], 2, 118, ⟨0, []⟩⟩
def Sg.o_spec_l01Diff_0 : Fw.StSh := ⟨[(4, (.row 0)), (5, (.row 1))], [(0, (.row (.pair .str (.pair (.int .i64) .bool)) true)), (1, (.row (.pair .str (.pair (.int .i64) .bool)) true))], 2, 118, ⟨0, []⟩⟩
def Sg.r_spec_l01Diff_0 : Fw.StSh := ⟨[], [], 2, 118, ⟨0, []⟩⟩
noncomputable def Sg.p_spec_l01Diff_0 (K : Nat) : Fw.LSpec := { g := 303, b := 0, lv := 6, l0 := 0, li := 0, head := Sg.h_spec_l01Diff_0, post := Sg.o_spec_l01Diff_0, retn := Sg.r_spec_l01Diff_0, ex := 0, L := R.L_spec_l01Diff_0 K }
noncomputable def Sg.f_spec_l01Diff : Fw.PFn := Fw.PFn.get Tryz.f303
noncomputable def Sg.i_spec_l01Diff : List (Nat × Fw.PFn) := []
noncomputable def Sg.s_spec_l01Diff (K : Nat) : Fw.Sig := { ins := [.val false (.sl (.pair .str (.int .i64))), .val false (.sl (.pair .str (.int .i64)))], outs := [⟨false, (.sl (.pair .str (.pair (.int .i64) .bool))), false⟩], F := fun x => R.spec_l01Diff K x.1 x.2.1 }
noncomputable def Sg.c_spec_l01Diff (K : Nat) : Fw.Cfg := { tab := Sg.tab, eqs := Sg.eqs, sig := [], inl := [], lo := Sg.p_spec_l01Diff_0 K :: [], K := K, jo := ⟨303, 0, 6, 0, 9, none⟩ :: ⟨303, 0, 6, 0, 12, none⟩ :: ⟨303, 0, 6, 0, 13, none⟩ :: ⟨303, 0, 6, 0, 5, none⟩ :: ⟨303, 0, 6, 0, 6, none⟩ :: [], opn := Sg.opn }
def Sg.h_spec_l02Find_0 : Fw.StSh := ⟨[(0, (.d (.sl (.pair .str (.pair (.int .i64) .bool))))), (1, (.d .str)), (4, (.ref 0 0)), (5, (.d .bool)), (6, (.d (.int .i64)))], [(0, (.box [(.d .str), (.d (.int .i64)), (.d .bool)]))], 1, 25, ⟨0, []⟩⟩
def Sg.o_spec_l02Find_0 : Fw.StSh := ⟨[(4, (.ref 0 0)), (5, (.d .bool))], [(0, (.box [(.d .str), (.d (.int .i64)), (.d .bool)]))], 1, 25, ⟨0, []⟩⟩
def Sg.r_spec_l02Find_0 : Fw.StSh := ⟨[(4, (.ref 0 0)), (5, (.d .bool))], [(0, (.box [(.d .str), (.d (.int .i64)), (.d .bool)]))], 1, 25, ⟨0, []⟩⟩
noncomputable def Sg.p_spec_l02Find_0 (K : Nat) : Fw.LSpec := { g := 304, b := 0, lv := 6, l0 := 0, li := 0, head := Sg.h_spec_l02Find_0, post := Sg.o_spec_l02Find_0, retn := Sg.r_spec_l02Find_0, ex := 0, L := R.L_spec_l02Find_0 K }
noncomputable def Sg.f_spec_l02Find : Fw.PFn := Fw.PFn.get Tryz.f304
noncomputable def Sg.i_spec_l02Find : List (Nat × Fw.PFn) := []
noncomputable def Sg.s_spec_l02Find (K : Nat) : Fw.Sig := { ins := [.val false (.sl (.pair .str (.pair (.int .i64) .bool))), .val false .str], outs := [⟨true, (.pair .str (.pair (.int .i64) .bool)), false⟩, ⟨false, .bool, false⟩], F := fun x => R.spec_l02Find K x.1 x.2.1 }
noncomputable def Sg.c_spec_l02Find (K : Nat) : Fw.Cfg := { tab := Sg.tab, eqs := Sg.eqs, sig := [], inl := [], lo := Sg.p_spec_l02Find_0 K :: [], K := K, jo := [], opn := Sg.opn }
def Sg.h_spec_l01Remove_0 : Fw.StSh := ⟨[(0, (.d (.sl (.pair .str (.int .i64))))), (1, (.d .str)), (4, (.row 0)), (5, (.row 1)), (6, (.d (.int .i64)))], [(0, (.row (.pair .str (.int .i64)) true)), (1, (.row (.pair .str (.int .i64)) true))], 2, 29, ⟨0, []⟩⟩
def Sg.o_spec_l01Remove_0 : Fw.StSh := ⟨[(4, (.row 0)), (5, (.row 1))], [(0, (.row (.pair .str (.int .i64)) true)), (1, (.row (.pair .str (.int .i64)) true))], 2, 29, ⟨0, []⟩⟩
def Sg.r_spec_l01Remove_0 : Fw.StSh := ⟨[], [], 2, 29, ⟨0, []⟩⟩
noncomputable def Sg.p_spec_l01Remove_0 (K : Nat) : Fw.LSpec := { g := 301, b := 0, lv := 6, l0 := 0, li := 0, head := Sg.h_spec_l01Remove_0, post := Sg.o_spec_l01Remove_0, retn := Sg.r_spec_l01Remove_0, ex := 0, L := R.L_spec_l01Remove_0 K }
noncomputable def Sg.f_spec_l01Remove : Fw.PFn := Fw.PFn.get Tryz.f301
noncomputable def Sg.i_spec_l01Remove : List (Nat × Fw.PFn) := []
noncomputable def Sg.s_spec_l01Remove (K : Nat) : Fw.Sig := { ins := [.val false (.sl (.pair .str (.int .i64))), .val false .str], outs := [⟨false, (.sl (.pair .str (.int .i64))), true⟩], F := fun x => R.spec_l01Remove K x.1 x.2.1 }
noncomputable def Sg.c_spec_l01Remove (K : Nat) : Fw.Cfg := { tab := Sg.tab, eqs := Sg.eqs, sig := [], inl := [], lo := Sg.p_spec_l01Remove_0 K :: [], K := K, jo := [], opn := Sg.opn }
def Sg.h_spec_l01Put_0 : Fw.StSh := ⟨[(0, (.d (.sl (.pair .str (.int .i64))))), (1, (.d .str)), (2, (.d (.int .i64))), (6, (.row 0)), (7, (.row 1)), (8, (.d .bool)), (9, (.d (.int .i64)))], [(0, (.row (.pair .str (.int .i64)) true)), (1, (.row (.pair .str (.int .i64)) true))], 2, 57, ⟨0, []⟩⟩
def Sg.o_spec_l01Put_0 : Fw.StSh := ⟨[(1, (.d .str)), (2, (.d (.int .i64))), (6, (.row 0)), (7, (.row 1)), (8, (.d .bool))], [(0, (.row (.pair .str (.int .i64)) true)), (1, (.row (.pair .str (.int .i64)) true))], 2, 57, ⟨0, []⟩⟩
def Sg.r_spec_l01Put_0 : Fw.StSh := ⟨[], [], 2, 57, ⟨0, []⟩⟩
noncomputable def Sg.p_spec_l01Put_0 (K : Nat) : Fw.LSpec := { g := 302, b := 0, lv := 6, l0 := 0, li := 0, head := Sg.h_spec_l01Put_0, post := Sg.o_spec_l01Put_0, retn := Sg.r_spec_l01Put_0, ex := 0, L := R.L_spec_l01Put_0 K }
noncomputable def Sg.f_spec_l01Put : Fw.PFn := Fw.PFn.get Tryz.f302
noncomputable def Sg.i_spec_l01Put : List (Nat × Fw.PFn) := []
noncomputable def Sg.s_spec_l01Put (K : Nat) : Fw.Sig := { ins := [.val false (.sl (.pair .str (.int .i64))), .val false .str, .val false (.int .i64)], outs := [⟨false, (.sl (.pair .str (.int .i64))), true⟩], F := fun x => R.spec_l01Put K x.1 x.2.1 x.2.2.1 }
noncomputable def Sg.c_spec_l01Put (K : Nat) : Fw.Cfg := { tab := Sg.tab, eqs := Sg.eqs, sig := [], inl := [], lo := Sg.p_spec_l01Put_0 K :: [], K := K, jo := [], opn := Sg.opn }
def Sg.h_spec_l01Apply_0 : Fw.StSh := ⟨[(0, (.row 1)), (1, (.d (.sl (.pair .str (.pair (.int .i64) .bool))))), (4, (.row 0)), (5, (.d (.int .i64)))], [(1, (.row (.pair .str (.int .i64)) true)), (0, (.row (.pair .str (.int .i64)) true))], 2, 40, ⟨0, []⟩⟩
def Sg.o_spec_l01Apply_0 : Fw.StSh := ⟨[(0, (.row 1)), (4, (.row 0))], [(1, (.row (.pair .str (.int .i64)) true)), (0, (.row (.pair .str (.int .i64)) true))], 2, 40, ⟨0, []⟩⟩
def Sg.r_spec_l01Apply_0 : Fw.StSh := ⟨[], [], 2, 40, ⟨0, []⟩⟩
noncomputable def Sg.p_spec_l01Apply_0 (K : Nat) : Fw.LSpec := { g := 283, b := 0, lv := 6, l0 := 0, li := 0, head := Sg.h_spec_l01Apply_0, post := Sg.o_spec_l01Apply_0, retn := Sg.r_spec_l01Apply_0, ex := 0, L := R.L_spec_l01Apply_0 K }
noncomputable def Sg.f_spec_l01Apply : Fw.PFn := Fw.PFn.get Tryz.f283
noncomputable def Sg.i_spec_l01Apply : List (Nat × Fw.PFn) := []
noncomputable def Sg.s_spec_l01Apply (K : Nat) : Fw.Sig := { ins := [.val false (.sl (.pair .str (.int .i64))), .val false (.sl (.pair .str (.pair (.int .i64) .bool)))], outs := [⟨false, (.sl (.pair .str (.int .i64))), true⟩], F := fun x => R.spec_l01Apply K x.1 x.2.1 }
noncomputable def Sg.c_spec_l01Apply (K : Nat) : Fw.Cfg := { tab := Sg.tab, eqs := Sg.eqs, sig := [(301, Sg.s_spec_l01Remove K), (302, Sg.s_spec_l01Put K)], inl := [], lo := Sg.p_spec_l01Apply_0 K :: [], K := K, jo := ⟨283, 0, 6, 0, 7, none⟩ :: [], opn := Sg.opn }
def Sg.h_spec_l02Merge_0 : Fw.StSh := ⟨[(1, (.d (.sl (.pair .str (.int .i64))))), (6, (.row 0)), (7, (.row 1)), (8, (.d (.sl (.pair .str (.pair (.int .i64) .bool))))), (9, (.d (.sl (.pair .str (.pair (.int .i64) .bool))))), (10, (.row 2)), (11, (.row 3)), (12, (.d (.int .i64)))], [(0, (.row (.pair .str (.int .i64)) true)), (1, (.row .str true)), (2, (.row .str true)), (3, (.row (.pair .str (.pair (.int .i64) .bool)) true))], 4, 66, ⟨0, []⟩⟩
def Sg.o_spec_l02Merge_0 : Fw.StSh := ⟨[(1, (.d (.sl (.pair .str (.int .i64))))), (6, (.row 0)), (7, (.row 1)), (10, (.row 2)), (11, (.row 3))], [(0, (.row (.pair .str (.int .i64)) true)), (1, (.row .str true)), (2, (.row .str true)), (3, (.row (.pair .str (.pair (.int .i64) .bool)) true))], 4, 66, ⟨0, []⟩⟩
def Sg.r_spec_l02Merge_0 : Fw.StSh := ⟨[], [], 4, 66, ⟨0, []⟩⟩
noncomputable def Sg.p_spec_l02Merge_0 (K : Nat) : Fw.LSpec := { g := 285, b := 0, lv := 6, l0 := 0, li := 0, head := Sg.h_spec_l02Merge_0, post := Sg.o_spec_l02Merge_0, retn := Sg.r_spec_l02Merge_0, ex := 0, L := R.L_spec_l02Merge_0 K }
noncomputable def Sg.f_spec_l02Merge : Fw.PFn := Fw.PFn.get Tryz.f285
noncomputable def Sg.i_spec_l02Merge : List (Nat × Fw.PFn) := []
noncomputable def Sg.s_spec_l02Merge (K : Nat) : Fw.Sig := { ins := [.val false (.sl (.pair .str (.int .i64))), .val false (.sl (.pair .str (.int .i64))), .val false (.sl (.pair .str (.int .i64)))], outs := [⟨false, (.sl (.pair .str (.int .i64))), true⟩, ⟨false, (.sl .str), true⟩], F := fun x => R.spec_l02Merge K x.1 x.2.1 x.2.2.1 }
noncomputable def Sg.c_spec_l02Merge (K : Nat) : Fw.Cfg := { tab := Sg.tab, eqs := Sg.eqs, sig := [(303, Sg.s_spec_l01Diff K), (304, Sg.s_spec_l02Find K), (283, Sg.s_spec_l01Apply K)], inl := [], lo := Sg.p_spec_l02Merge_0 K :: [], K := K, jo := ⟨285, 0, 6, 0, 11, none⟩ :: [], opn := Sg.opn }
noncomputable def Sg.f_spec_l02Told : Fw.PFn := Fw.PFn.get Tryz.f284
noncomputable def Sg.i_spec_l02Told : List (Nat × Fw.PFn) := []
noncomputable def Sg.s_spec_l02Told (K : Nat) : Fw.Sig := { ins := [.val false (.sl (.pair .str (.int .i64))), .val false (.sl .str)], outs := [⟨false, (.sl (.pair .str (.int .i64))), false⟩, ⟨false, (.sl .str), false⟩, ⟨false, (.int .i64), false⟩], F := fun x => R.spec_l02Told K x.1 x.2.1 }
noncomputable def Sg.c_spec_l02Told (K : Nat) : Fw.Cfg := { tab := Sg.tab, eqs := Sg.eqs, sig := [], inl := [], lo := [], K := K, jo := [], opn := Sg.opn }
noncomputable def Sg.f_spec_l05Join : Fw.PFn := Fw.PFn.get Tryz.f243
noncomputable def Sg.i_spec_l05Join : List (Nat × Fw.PFn) := []
noncomputable def Sg.s_spec_l05Join (K : Nat) : Fw.Sig := { ins := [.val false (.sl Sg.t3), .val false (.int .i64), .val false (.int .i64)], outs := [⟨false, .bool, false⟩, ⟨false, (.sl (.pair .str (.int .i64))), false⟩, ⟨true, Sg.t16, false⟩], F := fun x => R.spec_l05Join K x.1 x.2.1 x.2.2.1 }
noncomputable def Sg.c_spec_l05Join (K : Nat) : Fw.Cfg := { tab := Sg.tab, eqs := Sg.eqs, sig := [(286, Sg.s_spec_l03Base K), (166, Sg.s_spec_l05Fail K), (285, Sg.s_spec_l02Merge K), (284, Sg.s_spec_l02Told K)], inl := [], lo := [], K := K, jo := ⟨243, 0, 6, 0, 6, none⟩ :: [], opn := Sg.opn }
def Sg.h_spec_l01Same_0 : Fw.StSh := ⟨[(0, (.d (.sl (.pair .str (.int .i64))))), (1, (.d (.sl (.pair .str (.int .i64))))), (4, (.d .bool)), (5, (.d (.int .i64)))], [], 0, 26, ⟨0, []⟩⟩
def Sg.o_spec_l01Same_0 : Fw.StSh := ⟨[(4, (.d .bool))], [], 0, 26, ⟨0, []⟩⟩
def Sg.r_spec_l01Same_0 : Fw.StSh := ⟨[(4, (.d .bool))], [], 0, 26, ⟨0, []⟩⟩
noncomputable def Sg.p_spec_l01Same_0 (K : Nat) : Fw.LSpec := { g := 223, b := 0, lv := 6, l0 := 0, li := 0, head := Sg.h_spec_l01Same_0, post := Sg.o_spec_l01Same_0, retn := Sg.r_spec_l01Same_0, ex := 0, L := R.L_spec_l01Same_0 K }
noncomputable def Sg.f_spec_l01Same : Fw.PFn := Fw.PFn.get Tryz.f223
noncomputable def Sg.i_spec_l01Same : List (Nat × Fw.PFn) := []
noncomputable def Sg.s_spec_l01Same (K : Nat) : Fw.Sig := { ins := [.val false (.sl (.pair .str (.int .i64))), .val false (.sl (.pair .str (.int .i64)))], outs := [⟨false, .bool, false⟩], F := fun x => R.spec_l01Same K x.1 x.2.1 }
noncomputable def Sg.c_spec_l01Same (K : Nat) : Fw.Cfg := { tab := Sg.tab, eqs := Sg.eqs, sig := [], inl := [], lo := Sg.p_spec_l01Same_0 K :: [], K := K, jo := ⟨223, 0, 6, 0, 6, none⟩ :: [], opn := Sg.opn }
noncomputable def Sg.f_spec_l05Plan : Fw.PFn := Fw.PFn.get Tryz.f241
noncomputable def Sg.i_spec_l05Plan : List (Nat × Fw.PFn) := []
noncomputable def Sg.s_spec_l05Plan (K : Nat) : Fw.Sig := { ins := [.val false (.sl Sg.t3), .val false (.int .i64), .val false (.int .i64), .val false (.sl (.pair .str (.pair (.int .i64) .bool)))], outs := [⟨false, (.sl (.pair .str (.int .i64))), false⟩, ⟨true, Sg.t16, false⟩], F := fun x => R.spec_l05Plan K x.1 x.2.1 x.2.2.1 x.2.2.2.1 }
noncomputable def Sg.c_spec_l05Plan (K : Nat) : Fw.Cfg := { tab := Sg.tab, eqs := Sg.eqs, sig := [(166, Sg.s_spec_l05Fail K), (283, Sg.s_spec_l01Apply K), (285, Sg.s_spec_l02Merge K), (284, Sg.s_spec_l02Told K), (223, Sg.s_spec_l01Same K)], inl := [], lo := [], K := K, jo := ⟨241, 0, 6, 0, 4, none⟩ :: [], opn := Sg.opn }
noncomputable def Sg.f_spec_l07Plan : Fw.PFn := Fw.PFn.get Tryz.f221
noncomputable def Sg.i_spec_l07Plan : List (Nat × Fw.PFn) := []
noncomputable def Sg.s_spec_l07Plan (K : Nat) : Fw.Sig := { ins := [.val false (.sl Sg.t3), .val true Sg.t15, .val false (.int .i64), .val false (.int .i64)], outs := [⟨false, .bool, false⟩, ⟨false, (.sl (.pair .str (.int .i64))), false⟩, ⟨true, Sg.t16, false⟩], F := fun x => R.spec_l07Plan K x.1 x.2.1 x.2.2.1 x.2.2.2.1 }
noncomputable def Sg.c_spec_l07Plan (K : Nat) : Fw.Cfg := { tab := Sg.tab, eqs := Sg.eqs, sig := [(243, Sg.s_spec_l05Join K), (241, Sg.s_spec_l05Plan K)], inl := [], lo := [], K := K, jo := ⟨221, 0, 6, 0, 4, none⟩ :: [], opn := Sg.opn }
noncomputable def Sg.f_spec_l07Fast : Fw.PFn := Fw.PFn.get Tryz.f222
noncomputable def Sg.i_spec_l07Fast : List (Nat × Fw.PFn) := []
noncomputable def Sg.s_spec_l07Fast (K : Nat) : Fw.Sig := { ins := [.val true Sg.t24], outs := [⟨false, .bool, false⟩], F := fun x => R.spec_l07Fast K x.1 }
noncomputable def Sg.c_spec_l07Fast (K : Nat) : Fw.Cfg := { tab := Sg.tab, eqs := Sg.eqs, sig := [], inl := [], lo := [], K := K, jo := [], opn := Sg.opn }
noncomputable def Sg.f_spec_l07Phase : Fw.PFn := Fw.PFn.get Tryz.f147
noncomputable def Sg.i_spec_l07Phase : List (Nat × Fw.PFn) := []
noncomputable def Sg.s_spec_l07Phase (K : Nat) : Fw.Sig := { ins := [.val true Sg.t21, .val true Sg.t24], outs := [⟨false, .bool, false⟩], F := fun x => R.spec_l07Phase K x.1 x.2.1 }
noncomputable def Sg.c_spec_l07Phase (K : Nat) : Fw.Cfg := { tab := Sg.tab, eqs := Sg.eqs, sig := [(135, Sg.s_spec_l01In K), (223, Sg.s_spec_l01Same K), (221, Sg.s_spec_l07Plan K), (222, Sg.s_spec_l07Fast K)], inl := [], lo := [], K := K, jo := [], opn := Sg.opn }
noncomputable def Sg.f_spec_l07OK : Fw.PFn := Fw.PFn.get Tryz.f74
noncomputable def Sg.i_spec_l07OK : List (Nat × Fw.PFn) := []
noncomputable def Sg.s_spec_l07OK (K : Nat) : Fw.Sig := { ins := [.val true Sg.t21, .val true Sg.t24], outs := [⟨false, .bool, false⟩], F := fun x => R.spec_l07OK K x.1 x.2.1 }
noncomputable def Sg.c_spec_l07OK (K : Nat) : Fw.Cfg := { tab := Sg.tab, eqs := Sg.eqs, sig := [(135, Sg.s_spec_l01In K), (146, Sg.s_spec_l07Wishes K), (147, Sg.s_spec_l07Phase K)], inl := [], lo := [], K := K, jo := [], opn := Sg.opn }
noncomputable def Sg.f_spec_ClientOK : Fw.PFn := Fw.PFn.get Tryz.f17
noncomputable def Sg.i_spec_ClientOK : List (Nat × Fw.PFn) := []
noncomputable def Sg.s_spec_ClientOK (K : Nat) : Fw.Sig := { ins := [.val true Sg.t21, .val true Sg.t24], outs := [⟨false, .bool, false⟩], F := fun x => R.spec_ClientOK K x.1 x.2.1 }
noncomputable def Sg.c_spec_ClientOK (K : Nat) : Fw.Cfg := { tab := Sg.tab, eqs := Sg.eqs, sig := [(73, Sg.s_spec_l05OK K), (74, Sg.s_spec_l07OK K)], inl := [], lo := [], K := K, jo := [], opn := Sg.opn }
noncomputable def Sg.f_impl_isList_impl_Commit : Fw.PFn := Fw.PFn.get Tryz.f225
noncomputable def Sg.i_impl_isList_impl_Commit : List (Nat × Fw.PFn) := []
noncomputable def Sg.s_impl_isList_impl_Commit (K : Nat) : Fw.Sig := { ins := [.val false (.sl Sg.t3)], outs := [⟨false, .bool, false⟩], F := fun x => R.impl_isList_impl_Commit K x.1 }
noncomputable def Sg.c_impl_isList_impl_Commit (K : Nat) : Fw.Cfg := { tab := Sg.tab, eqs := Sg.eqs, sig := [], inl := [], lo := [], K := K, jo := [], opn := Sg.opn }
noncomputable def Sg.f_impl_within : Fw.PFn := Fw.PFn.get Tryz.f113
noncomputable def Sg.i_impl_within : List (Nat × Fw.PFn) := []
noncomputable def Sg.s_impl_within (K : Nat) : Fw.Sig := { ins := [.val false (.int .i64), .val false (.int .i64), .val false (.int .i64)], outs := [⟨false, .bool, false⟩], F := fun x => R.impl_within K x.1 x.2.1 x.2.2.1 }
noncomputable def Sg.c_impl_within (K : Nat) : Fw.Cfg := { tab := Sg.tab, eqs := Sg.eqs, sig := [], inl := [], lo := [], K := K, jo := [], opn := Sg.opn }
noncomputable def Sg.f_impl_isLetter : Fw.PFn := Fw.PFn.get Tryz.f247
noncomputable def Sg.i_impl_isLetter : List (Nat × Fw.PFn) := []
noncomputable def Sg.s_impl_isLetter (K : Nat) : Fw.Sig := { ins := [.val false (.int .u8)], outs := [⟨false, .bool, false⟩], F := fun x => R.impl_isLetter K x.1 }
noncomputable def Sg.c_impl_isLetter (K : Nat) : Fw.Cfg := { tab := Sg.tab, eqs := Sg.eqs, sig := [], inl := [], lo := [], K := K, jo := [], opn := Sg.opn }
noncomputable def Sg.f_impl_areAll_byte_1 : Fw.PFn := Fw.PFn.get Tryz.f288
noncomputable def Sg.f_slices_IndexFunc_byte : Fw.PFn := Fw.PFn.get Tryz.f306
noncomputable def Sg.f_slices_ContainsFunc_byte : Fw.PFn := Fw.PFn.get Tryz.f287
noncomputable def Sg.f_impl_areAll_byte : Fw.PFn := Fw.PFn.get Tryz.f248
noncomputable def Sg.f_impl_isDigit : Fw.PFn := Fw.PFn.get Tryz.f250
noncomputable def Sg.i_impl_isDigit : List (Nat × Fw.PFn) := []
noncomputable def Sg.s_impl_isDigit (K : Nat) : Fw.Sig := { ins := [.val false (.int .u8)], outs := [⟨false, .bool, false⟩], F := fun x => R.impl_isDigit K x.1 }
noncomputable def Sg.c_impl_isDigit (K : Nat) : Fw.Cfg := { tab := Sg.tab, eqs := Sg.eqs, sig := [], inl := [], lo := [], K := K, jo := [], opn := Sg.opn }
noncomputable def Sg.f_impl_NameOK_1 : Fw.PFn := Fw.PFn.get Tryz.f249
noncomputable def Sg.i_impl_NameOK_1 : List (Nat × Fw.PFn) := []
noncomputable def Sg.s_impl_NameOK_1 (K : Nat) : Fw.Sig := { ins := [.val false (.int .u8)], outs := [⟨false, .bool, false⟩], F := fun x => R.impl_NameOK_1 K x.1 }
noncomputable def Sg.c_impl_NameOK_1 (K : Nat) : Fw.Cfg := { tab := Sg.tab, eqs := Sg.eqs, sig := [(247, Sg.s_impl_isLetter K), (250, Sg.s_impl_isDigit K)], inl := [], lo := [], K := K, jo := [], opn := Sg.opn }
def Sg.h_impl_areAll_byte__impl_NameOK_1_0 : Fw.StSh := ⟨[(0, (.d (.sl (.int .u8)))), (1, (.fn 249 [])), (3, (.ref 0 0)), (4, (.d .bool)), (5, (.d (.sl (.int .u8)))), (6, (.fn 288 [(.ref 0 0)])), (9, (.d (.sl (.int .u8)))), (10, (.fn 288 [(.ref 0 0)])), (13, (.d .bool)), (14, (.d (.sl (.int .u8)))), (15, (.fn 288 [(.ref 0 0)])), (18, (.d (.sl (.int .u8)))), (19, (.fn 288 [(.ref 0 0)])), (22, (.d (.int .i64))), (25, (.d (.int .i64))), (26, (.d (.int .i64)))], [(0, (.box [(.fn 249 [])]))], 1, 37, ⟨0, []⟩⟩
def Sg.o_impl_areAll_byte__impl_NameOK_1_0 : Fw.StSh := ⟨[(0, (.d (.sl (.int .u8)))), (1, (.fn 249 [])), (3, (.ref 0 0)), (4, (.d .bool)), (5, (.d (.sl (.int .u8)))), (6, (.fn 288 [(.ref 0 0)])), (9, (.d (.sl (.int .u8)))), (10, (.fn 288 [(.ref 0 0)])), (13, (.d .bool)), (14, (.d (.sl (.int .u8)))), (15, (.fn 288 [(.ref 0 0)])), (22, (.d (.int .i64)))], [(0, (.box [(.fn 249 [])]))], 1, 37, ⟨0, []⟩⟩
def Sg.r_impl_areAll_byte__impl_NameOK_1_0 : Fw.StSh := ⟨[(0, (.d (.sl (.int .u8)))), (1, (.fn 249 [])), (3, (.ref 0 0)), (4, (.d .bool)), (5, (.d (.sl (.int .u8)))), (6, (.fn 288 [(.ref 0 0)])), (9, (.d (.sl (.int .u8)))), (10, (.fn 288 [(.ref 0 0)])), (13, (.d .bool)), (14, (.d (.sl (.int .u8)))), (15, (.fn 288 [(.ref 0 0)])), (22, (.d (.int .i64)))], [(0, (.box [(.fn 249 [])]))], 1, 45, ⟨0, []⟩⟩
noncomputable def Sg.p_impl_areAll_byte__impl_NameOK_1_0 (K : Nat) : Fw.LSpec := { g := 306, b := 18, lv := 4, l0 := 1, li := 0, head := Sg.h_impl_areAll_byte__impl_NameOK_1_0, post := Sg.o_impl_areAll_byte__impl_NameOK_1_0, retn := Sg.r_impl_areAll_byte__impl_NameOK_1_0, ex := 0, L := R.L_impl_areAll_byte__impl_NameOK_1_0 K }
noncomputable def Sg.i_impl_areAll_byte__impl_NameOK_1 : List (Nat × Fw.PFn) := [(288, Sg.f_impl_areAll_byte_1), (306, Sg.f_slices_IndexFunc_byte), (287, Sg.f_slices_ContainsFunc_byte)]
noncomputable def Sg.s_impl_areAll_byte__impl_NameOK_1 (K : Nat) : Fw.Sig := { ins := [.val false (.sl (.int .u8)), .fn 249 []], outs := [⟨false, .bool, false⟩], F := fun x => R.impl_areAll_byte__impl_NameOK_1 K x.1 }
noncomputable def Sg.c_impl_areAll_byte__impl_NameOK_1 (K : Nat) : Fw.Cfg := { tab := Sg.tab, eqs := Sg.eqs, sig := [(249, Sg.s_impl_NameOK_1 K)], inl := [(288, Tryz.f288), (306, Tryz.f306), (287, Tryz.f287)], lo := Sg.p_impl_areAll_byte__impl_NameOK_1_0 K :: [], K := K, jo := [], opn := Sg.opn }
noncomputable def Sg.f_impl_NameOK : Fw.PFn := Fw.PFn.get Tryz.f175
noncomputable def Sg.i_impl_NameOK : List (Nat × Fw.PFn) := [(288, Sg.f_impl_areAll_byte_1), (306, Sg.f_slices_IndexFunc_byte), (287, Sg.f_slices_ContainsFunc_byte), (248, Sg.f_impl_areAll_byte)]
noncomputable def Sg.s_impl_NameOK (K : Nat) : Fw.Sig := { ins := [.val false .str], outs := [⟨false, .bool, false⟩], F := fun x => R.impl_NameOK K x.1 }
noncomputable def Sg.c_impl_NameOK (K : Nat) : Fw.Cfg := { tab := Sg.tab, eqs := Sg.eqs, sig := [(113, Sg.s_impl_within K), (247, Sg.s_impl_isLetter K), (249, Sg.s_impl_NameOK_1 K), (248, Sg.s_impl_areAll_byte__impl_NameOK_1 K)], inl := [(288, Tryz.f288), (306, Tryz.f306), (287, Tryz.f287), (248, Tryz.f248)], lo := [], K := K, jo := [], opn := Sg.opn }
noncomputable def Sg.f_impl_isValue : Fw.PFn := Fw.PFn.get Tryz.f251
noncomputable def Sg.i_impl_isValue : List (Nat × Fw.PFn) := []
noncomputable def Sg.s_impl_isValue (K : Nat) : Fw.Sig := { ins := [.val false (.int .i64)], outs := [⟨false, .bool, false⟩], F := fun x => R.impl_isValue K x.1 }
noncomputable def Sg.c_impl_isValue (K : Nat) : Fw.Cfg := { tab := Sg.tab, eqs := Sg.eqs, sig := [(113, Sg.s_impl_within K)], inl := [], lo := [], K := K, jo := [], opn := Sg.opn }
def Sg.h_impl_MapOK_0 : Fw.StSh := ⟨[(0, (.d (.sl (.pair .str (.int .i64))))), (2, (.d .bool)), (5, (.d (.sl (.pair .str (.int .i64))))), (6, (.d (.int .i64))), (7, (.d (.int .i64)))], [], 0, 41, ⟨0, []⟩⟩
def Sg.o_impl_MapOK_0 : Fw.StSh := ⟨[(0, (.d (.sl (.pair .str (.int .i64))))), (2, (.d .bool))], [], 0, 41, ⟨0, []⟩⟩
def Sg.r_impl_MapOK_0 : Fw.StSh := ⟨[(2, (.d .bool))], [], 1, 41, ⟨0, []⟩⟩
noncomputable def Sg.p_impl_MapOK_0 (K : Nat) : Fw.LSpec := { g := 263, b := 0, lv := 6, l0 := 0, li := 0, head := Sg.h_impl_MapOK_0, post := Sg.o_impl_MapOK_0, retn := Sg.r_impl_MapOK_0, ex := 0, L := R.L_impl_MapOK_0 K }
noncomputable def Sg.f_impl_MapOK : Fw.PFn := Fw.PFn.get Tryz.f263
noncomputable def Sg.i_impl_MapOK : List (Nat × Fw.PFn) := []
noncomputable def Sg.s_impl_MapOK (K : Nat) : Fw.Sig := { ins := [.val false (.sl (.pair .str (.int .i64)))], outs := [⟨false, .bool, false⟩], F := fun x => R.impl_MapOK K x.1 }
noncomputable def Sg.c_impl_MapOK (K : Nat) : Fw.Cfg := { tab := Sg.tab, eqs := Sg.eqs, sig := [(175, Sg.s_impl_NameOK K), (251, Sg.s_impl_isValue K)], inl := [], lo := Sg.p_impl_MapOK_0 K :: [], K := K, jo := ⟨263, 0, 6, 0, 4, none⟩ :: [], opn := Sg.opn }
noncomputable def Sg.f_impl_Commit_isAt_1 : Fw.PFn := Fw.PFn.get Tryz.f296
noncomputable def Sg.f_impl_areAll_int_1 : Fw.PFn := Fw.PFn.get Tryz.f309
noncomputable def Sg.f_slices_IndexFunc_int : Fw.PFn := Fw.PFn.get Tryz.f313
noncomputable def Sg.f_slices_ContainsFunc_int : Fw.PFn := Fw.PFn.get Tryz.f308
noncomputable def Sg.f_impl_areAll_int : Fw.PFn := Fw.PFn.get Tryz.f295
def Sg.h_impl_areAll_int__impl_Commit_isAt_1_0 : Fw.StSh := ⟨[(0, (.d (.sl (.int .i64)))), (1, (.fn 296 [(.dref (.int .i64) 0)])), (3, (.ref 0 0)), (4, (.d .bool)), (5, (.d (.sl (.int .i64)))), (6, (.fn 309 [(.ref 0 0)])), (9, (.d (.sl (.int .i64)))), (10, (.fn 309 [(.ref 0 0)])), (13, (.d .bool)), (14, (.d (.sl (.int .i64)))), (15, (.fn 309 [(.ref 0 0)])), (18, (.d (.sl (.int .i64)))), (19, (.fn 309 [(.ref 0 0)])), (22, (.d (.int .i64))), (25, (.d (.int .i64))), (26, (.d (.int .i64)))], [(0, (.box [(.fn 296 [(.dref (.int .i64) 0)])]))], 1, 37, ⟨0, []⟩⟩
def Sg.o_impl_areAll_int__impl_Commit_isAt_1_0 : Fw.StSh := ⟨[(0, (.d (.sl (.int .i64)))), (1, (.fn 296 [(.dref (.int .i64) 0)])), (3, (.ref 0 0)), (4, (.d .bool)), (5, (.d (.sl (.int .i64)))), (6, (.fn 309 [(.ref 0 0)])), (9, (.d (.sl (.int .i64)))), (10, (.fn 309 [(.ref 0 0)])), (13, (.d .bool)), (14, (.d (.sl (.int .i64)))), (15, (.fn 309 [(.ref 0 0)])), (22, (.d (.int .i64)))], [(0, (.box [(.fn 296 [(.dref (.int .i64) 0)])]))], 1, 37, ⟨0, []⟩⟩
def Sg.r_impl_areAll_int__impl_Commit_isAt_1_0 : Fw.StSh := ⟨[(0, (.d (.sl (.int .i64)))), (1, (.fn 296 [(.dref (.int .i64) 0)])), (3, (.ref 0 0)), (4, (.d .bool)), (5, (.d (.sl (.int .i64)))), (6, (.fn 309 [(.ref 0 0)])), (9, (.d (.sl (.int .i64)))), (10, (.fn 309 [(.ref 0 0)])), (13, (.d .bool)), (14, (.d (.sl (.int .i64)))), (15, (.fn 309 [(.ref 0 0)])), (22, (.d (.int .i64)))], [(0, (.box [(.fn 296 [(.dref (.int .i64) 0)])]))], 1, 53, ⟨0, []⟩⟩
noncomputable def Sg.p_impl_areAll_int__impl_Commit_isAt_1_0 (K : Nat) : Fw.LSpec := { g := 313, b := 18, lv := 4, l0 := 1, li := 0, head := Sg.h_impl_areAll_int__impl_Commit_isAt_1_0, post := Sg.o_impl_areAll_int__impl_Commit_isAt_1_0, retn := Sg.r_impl_areAll_int__impl_Commit_isAt_1_0, ex := 0, L := R.L_impl_areAll_int__impl_Commit_isAt_1_0 K }
noncomputable def Sg.i_impl_areAll_int__impl_Commit_isAt_1 : List (Nat × Fw.PFn) := [(296, Sg.f_impl_Commit_isAt_1), (309, Sg.f_impl_areAll_int_1), (313, Sg.f_slices_IndexFunc_int), (308, Sg.f_slices_ContainsFunc_int)]
noncomputable def Sg.s_impl_areAll_int__impl_Commit_isAt_1 (K : Nat) : Fw.Sig := { ins := [.val false (.sl (.int .i64)), .fn 296 [(.int .i64)]], outs := [⟨false, .bool, false⟩], F := fun x => R.impl_areAll_int__impl_Commit_isAt_1 K x.1 x.2.1.1 }
noncomputable def Sg.c_impl_areAll_int__impl_Commit_isAt_1 (K : Nat) : Fw.Cfg := { tab := Sg.tab, eqs := Sg.eqs, sig := [(113, Sg.s_impl_within K)], inl := [(296, Tryz.f296), (309, Tryz.f309), (313, Tryz.f313), (308, Tryz.f308)], lo := Sg.p_impl_areAll_int__impl_Commit_isAt_1_0 K :: [], K := K, jo := [], opn := Sg.opn }
noncomputable def Sg.f_impl_Commit_isAt : Fw.PFn := Fw.PFn.get Tryz.f276
noncomputable def Sg.i_impl_Commit_isAt : List (Nat × Fw.PFn) := [(296, Sg.f_impl_Commit_isAt_1), (309, Sg.f_impl_areAll_int_1), (313, Sg.f_slices_IndexFunc_int), (308, Sg.f_slices_ContainsFunc_int), (295, Sg.f_impl_areAll_int)]
noncomputable def Sg.s_impl_Commit_isAt (K : Nat) : Fw.Sig := { ins := [.val true Sg.t3, .val false (.int .i64)], outs := [⟨false, .bool, false⟩], F := fun x => R.impl_Commit_isAt K x.1 x.2.1 }
noncomputable def Sg.c_impl_Commit_isAt (K : Nat) : Fw.Cfg := { tab := Sg.tab, eqs := Sg.eqs, sig := [(113, Sg.s_impl_within K), (263, Sg.s_impl_MapOK K), (295, Sg.s_impl_areAll_int__impl_Commit_isAt_1 K)], inl := [(296, Tryz.f296), (309, Tryz.f309), (313, Tryz.f313), (308, Tryz.f308), (295, Tryz.f295)], lo := [], K := K, jo := ⟨276, 0, 6, 0, 2, none⟩ :: [], opn := Sg.opn }
def Sg.h_impl_areCommits_0 : Fw.StSh := ⟨[(0, (.d (.sl Sg.t3))), (2, (.d .bool)), (5, (.d (.sl Sg.t3))), (6, (.d (.int .i64))), (7, (.d (.int .i64)))], [], 0, 21, ⟨0, []⟩⟩
def Sg.o_impl_areCommits_0 : Fw.StSh := ⟨[(0, (.d (.sl Sg.t3))), (2, (.d .bool))], [], 0, 21, ⟨0, []⟩⟩
def Sg.r_impl_areCommits_0 : Fw.StSh := ⟨[(2, (.d .bool))], [], 3, 21, ⟨0, []⟩⟩
noncomputable def Sg.p_impl_areCommits_0 (K : Nat) : Fw.LSpec := { g := 226, b := 0, lv := 6, l0 := 0, li := 0, head := Sg.h_impl_areCommits_0, post := Sg.o_impl_areCommits_0, retn := Sg.r_impl_areCommits_0, ex := 0, L := R.L_impl_areCommits_0 K }
noncomputable def Sg.f_impl_areCommits : Fw.PFn := Fw.PFn.get Tryz.f226
noncomputable def Sg.i_impl_areCommits : List (Nat × Fw.PFn) := []
noncomputable def Sg.s_impl_areCommits (K : Nat) : Fw.Sig := { ins := [.val false (.sl Sg.t3)], outs := [⟨false, .bool, false⟩], F := fun x => R.impl_areCommits K x.1 }
noncomputable def Sg.c_impl_areCommits (K : Nat) : Fw.Cfg := { tab := Sg.tab, eqs := Sg.eqs, sig := [(276, Sg.s_impl_Commit_isAt K)], inl := [], lo := Sg.p_impl_areCommits_0 K :: [], K := K, jo := [], opn := Sg.opn }
noncomputable def Sg.f_impl_StoreOK : Fw.PFn := Fw.PFn.get Tryz.f152
noncomputable def Sg.i_impl_StoreOK : List (Nat × Fw.PFn) := []
noncomputable def Sg.s_impl_StoreOK (K : Nat) : Fw.Sig := { ins := [.val false (.sl Sg.t3)], outs := [⟨false, .bool, false⟩], F := fun x => R.impl_StoreOK K x.1 }
noncomputable def Sg.c_impl_StoreOK (K : Nat) : Fw.Cfg := { tab := Sg.tab, eqs := Sg.eqs, sig := [(225, Sg.s_impl_isList_impl_Commit K), (226, Sg.s_impl_areCommits K)], inl := [], lo := [], K := K, jo := [], opn := Sg.opn }
noncomputable def Sg.f_impl_areAll_impl_Ref_1 : Fw.PFn := Fw.PFn.get Tryz.f229
noncomputable def Sg.f_slices_IndexFunc_impl_Ref : Fw.PFn := Fw.PFn.get Tryz.f268
noncomputable def Sg.f_slices_ContainsFunc_impl_Ref : Fw.PFn := Fw.PFn.get Tryz.f228
noncomputable def Sg.f_impl_areAll_impl_Ref : Fw.PFn := Fw.PFn.get Tryz.f154
noncomputable def Sg.f_impl_isHead : Fw.PFn := Fw.PFn.get Tryz.f176
noncomputable def Sg.i_impl_isHead : List (Nat × Fw.PFn) := []
noncomputable def Sg.s_impl_isHead (K : Nat) : Fw.Sig := { ins := [.val false (.int .i64)], outs := [⟨false, .bool, false⟩], F := fun x => R.impl_isHead K x.1 }
noncomputable def Sg.c_impl_isHead (K : Nat) : Fw.Cfg := { tab := Sg.tab, eqs := Sg.eqs, sig := [(113, Sg.s_impl_within K)], inl := [], lo := [], K := K, jo := [], opn := Sg.opn }
noncomputable def Sg.f_impl_isRef : Fw.PFn := Fw.PFn.get Tryz.f227
noncomputable def Sg.i_impl_isRef : List (Nat × Fw.PFn) := []
noncomputable def Sg.s_impl_isRef (K : Nat) : Fw.Sig := { ins := [.val true Sg.t6], outs := [⟨false, .bool, false⟩], F := fun x => R.impl_isRef K x.1 }
noncomputable def Sg.c_impl_isRef (K : Nat) : Fw.Cfg := { tab := Sg.tab, eqs := Sg.eqs, sig := [(113, Sg.s_impl_within K), (175, Sg.s_impl_NameOK K), (176, Sg.s_impl_isHead K)], inl := [], lo := [], K := K, jo := [], opn := Sg.opn }
noncomputable def Sg.f_impl_place_1 : Fw.PFn := Fw.PFn.get Tryz.f269
def Sg.h_slices_IndexFunc_impl_Ref__impl_place_1_0 : Fw.StSh := ⟨[(0, (.d (.sl Sg.t6))), (1, (.fn 269 [(.dref .str 0)])), (4, (.d (.int .i64))), (7, (.d (.int .i64))), (8, (.d (.int .i64)))], [], 0, 19, ⟨0, []⟩⟩
def Sg.o_slices_IndexFunc_impl_Ref__impl_place_1_0 : Fw.StSh := ⟨[(4, (.d (.int .i64)))], [], 0, 19, ⟨0, []⟩⟩
def Sg.r_slices_IndexFunc_impl_Ref__impl_place_1_0 : Fw.StSh := ⟨[(4, (.d (.int .i64)))], [], 1, 27, ⟨0, []⟩⟩
noncomputable def Sg.p_slices_IndexFunc_impl_Ref__impl_place_1_0 (K : Nat) : Fw.LSpec := { g := 268, b := 0, lv := 6, l0 := 0, li := 0, head := Sg.h_slices_IndexFunc_impl_Ref__impl_place_1_0, post := Sg.o_slices_IndexFunc_impl_Ref__impl_place_1_0, retn := Sg.r_slices_IndexFunc_impl_Ref__impl_place_1_0, ex := 0, L := R.L_slices_IndexFunc_impl_Ref__impl_place_1_0 K }
noncomputable def Sg.i_slices_IndexFunc_impl_Ref__impl_place_1 : List (Nat × Fw.PFn) := [(269, Sg.f_impl_place_1)]
noncomputable def Sg.s_slices_IndexFunc_impl_Ref__impl_place_1 (K : Nat) : Fw.Sig := { ins := [.val false (.sl Sg.t6), .fn 269 [.str]], outs := [⟨false, (.int .i64), false⟩], F := fun x => R.slices_IndexFunc_impl_Ref__impl_place_1 K x.1 x.2.1.1 }
noncomputable def Sg.c_slices_IndexFunc_impl_Ref__impl_place_1 (K : Nat) : Fw.Cfg := { tab := Sg.tab, eqs := Sg.eqs, sig := [], inl := [(269, Tryz.f269)], lo := Sg.p_slices_IndexFunc_impl_Ref__impl_place_1_0 K :: [], K := K, jo := [], opn := Sg.opn }
noncomputable def Sg.f_impl_place : Fw.PFn := Fw.PFn.get Tryz.f207
noncomputable def Sg.i_impl_place : List (Nat × Fw.PFn) := [(268, Sg.f_slices_IndexFunc_impl_Ref), (269, Sg.f_impl_place_1)]
noncomputable def Sg.s_impl_place (K : Nat) : Fw.Sig := { ins := [.val false (.sl Sg.t6), .val false .str], outs := [⟨false, (.int .i64), false⟩], F := fun x => R.impl_place K x.1 x.2.1 }
noncomputable def Sg.c_impl_place (K : Nat) : Fw.Cfg := { tab := Sg.tab, eqs := Sg.eqs, sig := [(268, Sg.s_slices_IndexFunc_impl_Ref__impl_place_1 K)], inl := [(268, Tryz.f268), (269, Tryz.f269)], lo := [], K := K, jo := [], opn := Sg.opn }
def Sg.h_impl_areAll_impl_Ref__impl_isRef_0 : Fw.StSh := ⟨[(0, (.d (.sl Sg.t6))), (1, (.fn 227 [])), (3, (.ref 0 0)), (4, (.d .bool)), (5, (.d (.sl Sg.t6))), (6, (.fn 229 [(.ref 0 0)])), (9, (.d (.sl Sg.t6))), (10, (.fn 229 [(.ref 0 0)])), (13, (.d .bool)), (14, (.d (.sl Sg.t6))), (15, (.fn 229 [(.ref 0 0)])), (18, (.d (.sl Sg.t6))), (19, (.fn 229 [(.ref 0 0)])), (22, (.d (.int .i64))), (25, (.d (.int .i64))), (26, (.d (.int .i64)))], [(0, (.box [(.fn 227 [])]))], 1, 37, ⟨0, []⟩⟩
def Sg.o_impl_areAll_impl_Ref__impl_isRef_0 : Fw.StSh := ⟨[(0, (.d (.sl Sg.t6))), (1, (.fn 227 [])), (3, (.ref 0 0)), (4, (.d .bool)), (5, (.d (.sl Sg.t6))), (6, (.fn 229 [(.ref 0 0)])), (9, (.d (.sl Sg.t6))), (10, (.fn 229 [(.ref 0 0)])), (13, (.d .bool)), (14, (.d (.sl Sg.t6))), (15, (.fn 229 [(.ref 0 0)])), (22, (.d (.int .i64)))], [(0, (.box [(.fn 227 [])]))], 1, 37, ⟨0, []⟩⟩
def Sg.r_impl_areAll_impl_Ref__impl_isRef_0 : Fw.StSh := ⟨[(0, (.d (.sl Sg.t6))), (1, (.fn 227 [])), (3, (.ref 0 0)), (4, (.d .bool)), (5, (.d (.sl Sg.t6))), (6, (.fn 229 [(.ref 0 0)])), (9, (.d (.sl Sg.t6))), (10, (.fn 229 [(.ref 0 0)])), (13, (.d .bool)), (14, (.d (.sl Sg.t6))), (15, (.fn 229 [(.ref 0 0)])), (22, (.d (.int .i64)))], [(0, (.box [(.fn 227 [])]))], 2, 45, ⟨0, []⟩⟩
noncomputable def Sg.p_impl_areAll_impl_Ref__impl_isRef_0 (K : Nat) : Fw.LSpec := { g := 268, b := 18, lv := 4, l0 := 1, li := 0, head := Sg.h_impl_areAll_impl_Ref__impl_isRef_0, post := Sg.o_impl_areAll_impl_Ref__impl_isRef_0, retn := Sg.r_impl_areAll_impl_Ref__impl_isRef_0, ex := 0, L := R.L_impl_areAll_impl_Ref__impl_isRef_0 K }
noncomputable def Sg.i_impl_areAll_impl_Ref__impl_isRef : List (Nat × Fw.PFn) := [(229, Sg.f_impl_areAll_impl_Ref_1), (268, Sg.f_slices_IndexFunc_impl_Ref), (228, Sg.f_slices_ContainsFunc_impl_Ref)]
noncomputable def Sg.s_impl_areAll_impl_Ref__impl_isRef (K : Nat) : Fw.Sig := { ins := [.val false (.sl Sg.t6), .fn 227 []], outs := [⟨false, .bool, false⟩], F := fun x => R.impl_areAll_impl_Ref__impl_isRef K x.1 }
noncomputable def Sg.c_impl_areAll_impl_Ref__impl_isRef (K : Nat) : Fw.Cfg := { tab := Sg.tab, eqs := Sg.eqs, sig := [(227, Sg.s_impl_isRef K)], inl := [(229, Tryz.f229), (268, Tryz.f268), (228, Tryz.f228)], lo := Sg.p_impl_areAll_impl_Ref__impl_isRef_0 K :: [], K := K, jo := [], opn := Sg.opn }
def Sg.h_impl_RefsOK_0 : Fw.StSh := ⟨[(0, (.d (.sl Sg.t6))), (2, (.d .bool)), (13, (.d (.sl Sg.t6))), (14, (.d (.int .i64))), (15, (.d (.int .i64)))], [], 0, 28, ⟨0, []⟩⟩
def Sg.o_impl_RefsOK_0 : Fw.StSh := ⟨[(2, (.d .bool))], [], 0, 28, ⟨0, []⟩⟩
def Sg.r_impl_RefsOK_0 : Fw.StSh := ⟨[(2, (.d .bool))], [], 1, 28, ⟨0, []⟩⟩
noncomputable def Sg.p_impl_RefsOK_0 (K : Nat) : Fw.LSpec := { g := 153, b := 0, lv := 6, l0 := 0, li := 0, head := Sg.h_impl_RefsOK_0, post := Sg.o_impl_RefsOK_0, retn := Sg.r_impl_RefsOK_0, ex := 0, L := R.L_impl_RefsOK_0 K }
noncomputable def Sg.f_impl_RefsOK : Fw.PFn := Fw.PFn.get Tryz.f153
noncomputable def Sg.i_impl_RefsOK : List (Nat × Fw.PFn) := [(229, Sg.f_impl_areAll_impl_Ref_1), (268, Sg.f_slices_IndexFunc_impl_Ref), (228, Sg.f_slices_ContainsFunc_impl_Ref), (154, Sg.f_impl_areAll_impl_Ref)]
noncomputable def Sg.s_impl_RefsOK (K : Nat) : Fw.Sig := { ins := [.val false (.sl Sg.t6)], outs := [⟨false, .bool, false⟩], F := fun x => R.impl_RefsOK K x.1 }
noncomputable def Sg.c_impl_RefsOK (K : Nat) : Fw.Cfg := { tab := Sg.tab, eqs := Sg.eqs, sig := [(227, Sg.s_impl_isRef K), (207, Sg.s_impl_place K), (154, Sg.s_impl_areAll_impl_Ref__impl_isRef K)], inl := [(229, Tryz.f229), (268, Tryz.f268), (228, Tryz.f228), (154, Tryz.f154)], lo := Sg.p_impl_RefsOK_0 K :: [], K := K, jo := ⟨153, 0, 6, 0, 6, none⟩ :: [], opn := Sg.opn }
noncomputable def Sg.f_impl_BaseOK_1 : Fw.PFn := Fw.PFn.get Tryz.f155
def Sg.h_impl_areAll_impl_Ref__impl_BaseOK_1_0 : Fw.StSh := ⟨[(0, (.d (.sl Sg.t6))), (1, (.fn 155 [(.dref Sg.t21 0)])), (3, (.ref 0 0)), (4, (.d .bool)), (5, (.d (.sl Sg.t6))), (6, (.fn 229 [(.ref 0 0)])), (9, (.d (.sl Sg.t6))), (10, (.fn 229 [(.ref 0 0)])), (13, (.d .bool)), (14, (.d (.sl Sg.t6))), (15, (.fn 229 [(.ref 0 0)])), (18, (.d (.sl Sg.t6))), (19, (.fn 229 [(.ref 0 0)])), (22, (.d (.int .i64))), (25, (.d (.int .i64))), (26, (.d (.int .i64)))], [(0, (.box [(.fn 155 [(.dref Sg.t21 0)])]))], 1, 37, ⟨0, []⟩⟩
def Sg.o_impl_areAll_impl_Ref__impl_BaseOK_1_0 : Fw.StSh := ⟨[(0, (.d (.sl Sg.t6))), (1, (.fn 155 [(.dref Sg.t21 0)])), (3, (.ref 0 0)), (4, (.d .bool)), (5, (.d (.sl Sg.t6))), (6, (.fn 229 [(.ref 0 0)])), (9, (.d (.sl Sg.t6))), (10, (.fn 229 [(.ref 0 0)])), (13, (.d .bool)), (14, (.d (.sl Sg.t6))), (15, (.fn 229 [(.ref 0 0)])), (22, (.d (.int .i64)))], [(0, (.box [(.fn 155 [(.dref Sg.t21 0)])]))], 1, 37, ⟨0, []⟩⟩
def Sg.r_impl_areAll_impl_Ref__impl_BaseOK_1_0 : Fw.StSh := ⟨[(0, (.d (.sl Sg.t6))), (1, (.fn 155 [(.dref Sg.t21 0)])), (3, (.ref 0 0)), (4, (.d .bool)), (5, (.d (.sl Sg.t6))), (6, (.fn 229 [(.ref 0 0)])), (9, (.d (.sl Sg.t6))), (10, (.fn 229 [(.ref 0 0)])), (13, (.d .bool)), (14, (.d (.sl Sg.t6))), (15, (.fn 229 [(.ref 0 0)])), (22, (.d (.int .i64)))], [(0, (.box [(.fn 155 [(.dref Sg.t21 0)])]))], 3, 55, ⟨0, []⟩⟩
noncomputable def Sg.p_impl_areAll_impl_Ref__impl_BaseOK_1_0 (K : Nat) : Fw.LSpec := { g := 268, b := 18, lv := 4, l0 := 1, li := 0, head := Sg.h_impl_areAll_impl_Ref__impl_BaseOK_1_0, post := Sg.o_impl_areAll_impl_Ref__impl_BaseOK_1_0, retn := Sg.r_impl_areAll_impl_Ref__impl_BaseOK_1_0, ex := 0, L := R.L_impl_areAll_impl_Ref__impl_BaseOK_1_0 K }
noncomputable def Sg.i_impl_areAll_impl_Ref__impl_BaseOK_1 : List (Nat × Fw.PFn) := [(229, Sg.f_impl_areAll_impl_Ref_1), (268, Sg.f_slices_IndexFunc_impl_Ref), (228, Sg.f_slices_ContainsFunc_impl_Ref), (155, Sg.f_impl_BaseOK_1)]
noncomputable def Sg.s_impl_areAll_impl_Ref__impl_BaseOK_1 (K : Nat) : Fw.Sig := { ins := [.val false (.sl Sg.t6), .fn 155 [Sg.t21]], outs := [⟨false, .bool, false⟩], F := fun x => R.impl_areAll_impl_Ref__impl_BaseOK_1 K x.1 x.2.1.1 }
noncomputable def Sg.c_impl_areAll_impl_Ref__impl_BaseOK_1 (K : Nat) : Fw.Cfg := { tab := Sg.tab, eqs := Sg.eqs, sig := [], inl := [(229, Tryz.f229), (268, Tryz.f268), (228, Tryz.f228), (155, Tryz.f155)], lo := Sg.p_impl_areAll_impl_Ref__impl_BaseOK_1_0 K :: [], K := K, jo := [], opn := Sg.opn }
noncomputable def Sg.f_impl_BaseOK : Fw.PFn := Fw.PFn.get Tryz.f79
noncomputable def Sg.i_impl_BaseOK : List (Nat × Fw.PFn) := [(229, Sg.f_impl_areAll_impl_Ref_1), (268, Sg.f_slices_IndexFunc_impl_Ref), (228, Sg.f_slices_ContainsFunc_impl_Ref), (154, Sg.f_impl_areAll_impl_Ref), (155, Sg.f_impl_BaseOK_1)]
noncomputable def Sg.s_impl_BaseOK (K : Nat) : Fw.Sig := { ins := [.val true Sg.t21], outs := [⟨false, .bool, false⟩], F := fun x => R.impl_BaseOK K x.1 }
noncomputable def Sg.c_impl_BaseOK (K : Nat) : Fw.Cfg := { tab := Sg.tab, eqs := Sg.eqs, sig := [(152, Sg.s_impl_StoreOK K), (153, Sg.s_impl_RefsOK K), (154, Sg.s_impl_areAll_impl_Ref__impl_BaseOK_1 K)], inl := [(229, Tryz.f229), (268, Tryz.f268), (228, Tryz.f228), (154, Tryz.f154), (155, Tryz.f155)], lo := [], K := K, jo := [], opn := Sg.opn }
noncomputable def Sg.f_impl_areAll_impl_Wish_1 : Fw.PFn := Fw.PFn.get Tryz.f231
noncomputable def Sg.f_slices_IndexFunc_impl_Wish : Fw.PFn := Fw.PFn.get Tryz.f277
noncomputable def Sg.f_slices_ContainsFunc_impl_Wish : Fw.PFn := Fw.PFn.get Tryz.f230
noncomputable def Sg.f_impl_areAll_impl_Wish : Fw.PFn := Fw.PFn.get Tryz.f156
noncomputable def Sg.f_impl_hasSource : Fw.PFn := Fw.PFn.get Tryz.f216
noncomputable def Sg.i_impl_hasSource : List (Nat × Fw.PFn) := []
noncomputable def Sg.s_impl_hasSource (K : Nat) : Fw.Sig := { ins := [.val false (.int .i64)], outs := [⟨false, .bool, false⟩], F := fun x => R.impl_hasSource K x.1 }
noncomputable def Sg.c_impl_hasSource (K : Nat) : Fw.Cfg := { tab := Sg.tab, eqs := Sg.eqs, sig := [], inl := [], lo := [], K := K, jo := [], opn := Sg.opn }
noncomputable def Sg.f_slices_Clone_impl_Edit : Fw.PFn := Fw.PFn.get Tryz.f278
noncomputable def Sg.i_slices_Clone_impl_Edit : List (Nat × Fw.PFn) := []
noncomputable def Sg.s_slices_Clone_impl_Edit (K : Nat) : Fw.Sig := { ins := [.val false (.sl (.pair .str (.pair (.int .i64) .bool)))], outs := [⟨false, (.sl (.pair .str (.pair (.int .i64) .bool))), true⟩], F := fun x => R.slices_Clone_impl_Edit K x.1 }
noncomputable def Sg.c_slices_Clone_impl_Edit (K : Nat) : Fw.Cfg := { tab := Sg.tab, eqs := Sg.eqs, sig := [], inl := [], lo := [], K := K, jo := [], opn := Sg.opn }
noncomputable def Sg.f_impl_Wish_op : Fw.PFn := Fw.PFn.get Tryz.f232
noncomputable def Sg.i_impl_Wish_op : List (Nat × Fw.PFn) := []
noncomputable def Sg.s_impl_Wish_op (K : Nat) : Fw.Sig := { ins := [.val true Sg.t15, .val false (.int .i64)], outs := [⟨true, Sg.t19, true⟩], F := fun x => R.impl_Wish_op K x.1 x.2.1 }
noncomputable def Sg.c_impl_Wish_op (K : Nat) : Fw.Cfg := { tab := Sg.tab, eqs := Sg.eqs, sig := [(278, Sg.s_slices_Clone_impl_Edit K)], inl := [], lo := [], K := K, jo := ⟨232, 0, 6, 0, 1, none⟩ :: [], opn := Sg.opn }
def Sg.h_impl_EditsOK_0 : Fw.StSh := ⟨[(0, (.d (.sl (.pair .str (.pair (.int .i64) .bool))))), (2, (.d .bool)), (5, (.d (.sl (.pair .str (.pair (.int .i64) .bool))))), (6, (.d (.int .i64))), (7, (.d (.int .i64)))], [], 0, 50, ⟨0, []⟩⟩
def Sg.o_impl_EditsOK_0 : Fw.StSh := ⟨[(0, (.d (.sl (.pair .str (.pair (.int .i64) .bool))))), (2, (.d .bool))], [], 0, 50, ⟨0, []⟩⟩
def Sg.r_impl_EditsOK_0 : Fw.StSh := ⟨[(2, (.d .bool))], [], 1, 50, ⟨0, []⟩⟩
noncomputable def Sg.p_impl_EditsOK_0 (K : Nat) : Fw.LSpec := { g := 177, b := 0, lv := 6, l0 := 0, li := 0, head := Sg.h_impl_EditsOK_0, post := Sg.o_impl_EditsOK_0, retn := Sg.r_impl_EditsOK_0, ex := 0, L := R.L_impl_EditsOK_0 K }
noncomputable def Sg.f_impl_EditsOK : Fw.PFn := Fw.PFn.get Tryz.f177
noncomputable def Sg.i_impl_EditsOK : List (Nat × Fw.PFn) := []
noncomputable def Sg.s_impl_EditsOK (K : Nat) : Fw.Sig := { ins := [.val false (.sl (.pair .str (.pair (.int .i64) .bool)))], outs := [⟨false, .bool, false⟩], F := fun x => R.impl_EditsOK K x.1 }
noncomputable def Sg.c_impl_EditsOK (K : Nat) : Fw.Cfg := { tab := Sg.tab, eqs := Sg.eqs, sig := [(175, Sg.s_impl_NameOK K), (251, Sg.s_impl_isValue K)], inl := [], lo := Sg.p_impl_EditsOK_0 K :: [], K := K, jo := ⟨177, 0, 6, 0, 4, none⟩ :: [], opn := Sg.opn }
noncomputable def Sg.f_impl_OpOK : Fw.PFn := Fw.PFn.get Tryz.f91
noncomputable def Sg.i_impl_OpOK : List (Nat × Fw.PFn) := []
noncomputable def Sg.s_impl_OpOK (K : Nat) : Fw.Sig := { ins := [.val true Sg.t19], outs := [⟨false, .bool, false⟩], F := fun x => R.impl_OpOK K x.1 }
noncomputable def Sg.c_impl_OpOK (K : Nat) : Fw.Cfg := { tab := Sg.tab, eqs := Sg.eqs, sig := [(113, Sg.s_impl_within K), (175, Sg.s_impl_NameOK K), (176, Sg.s_impl_isHead K), (177, Sg.s_impl_EditsOK K)], inl := [], lo := [], K := K, jo := [], opn := Sg.opn }
noncomputable def Sg.f_impl_WishOK : Fw.PFn := Fw.PFn.get Tryz.f157
noncomputable def Sg.i_impl_WishOK : List (Nat × Fw.PFn) := []
noncomputable def Sg.s_impl_WishOK (K : Nat) : Fw.Sig := { ins := [.val true Sg.t15], outs := [⟨false, .bool, false⟩], F := fun x => R.impl_WishOK K x.1 }
noncomputable def Sg.c_impl_WishOK (K : Nat) : Fw.Cfg := { tab := Sg.tab, eqs := Sg.eqs, sig := [(175, Sg.s_impl_NameOK K), (216, Sg.s_impl_hasSource K), (232, Sg.s_impl_Wish_op K), (91, Sg.s_impl_OpOK K)], inl := [], lo := [], K := K, jo := [], opn := Sg.opn }
noncomputable def Sg.f_impl_Client_isFresh : Fw.PFn := Fw.PFn.get Tryz.f233
noncomputable def Sg.i_impl_Client_isFresh : List (Nat × Fw.PFn) := []
noncomputable def Sg.s_impl_Client_isFresh (K : Nat) : Fw.Sig := { ins := [.val true Sg.t24], outs := [⟨false, .bool, false⟩], F := fun x => R.impl_Client_isFresh K x.1 }
noncomputable def Sg.c_impl_Client_isFresh (K : Nat) : Fw.Cfg := { tab := Sg.tab, eqs := Sg.eqs, sig := [], inl := [], lo := [], K := K, jo := [], opn := Sg.opn }
noncomputable def Sg.f_impl_Client_isDone : Fw.PFn := Fw.PFn.get Tryz.f213
noncomputable def Sg.i_impl_Client_isDone : List (Nat × Fw.PFn) := []
noncomputable def Sg.s_impl_Client_isDone (K : Nat) : Fw.Sig := { ins := [.val true Sg.t24], outs := [⟨false, .bool, false⟩], F := fun x => R.impl_Client_isDone K x.1 }
noncomputable def Sg.c_impl_Client_isDone (K : Nat) : Fw.Cfg := { tab := Sg.tab, eqs := Sg.eqs, sig := [], inl := [], lo := [], K := K, jo := [], opn := Sg.opn }
noncomputable def Sg.f_impl_Client_wish : Fw.PFn := Fw.PFn.get Tryz.f215
noncomputable def Sg.i_impl_Client_wish : List (Nat × Fw.PFn) := []
noncomputable def Sg.s_impl_Client_wish (K : Nat) : Fw.Sig := { ins := [.val true Sg.t24], outs := [⟨true, Sg.t15, false⟩], F := fun x => R.impl_Client_wish K x.1 }
noncomputable def Sg.c_impl_Client_wish (K : Nat) : Fw.Cfg := { tab := Sg.tab, eqs := Sg.eqs, sig := [], inl := [], lo := [], K := K, jo := [], opn := Sg.opn }
noncomputable def Sg.f_slices_Clone_impl_Entry : Fw.PFn := Fw.PFn.get Tryz.f184
noncomputable def Sg.i_slices_Clone_impl_Entry : List (Nat × Fw.PFn) := []
noncomputable def Sg.s_slices_Clone_impl_Entry (K : Nat) : Fw.Sig := { ins := [.val false (.sl (.pair .str (.int .i64)))], outs := [⟨false, (.sl (.pair .str (.int .i64))), true⟩], F := fun x => R.slices_Clone_impl_Entry K x.1 }
noncomputable def Sg.c_slices_Clone_impl_Entry (K : Nat) : Fw.Cfg := { tab := Sg.tab, eqs := Sg.eqs, sig := [], inl := [], lo := [], K := K, jo := [], opn := Sg.opn }
noncomputable def Sg.f_slices_BinarySearchFunc_impl_Entry_string : Fw.PFn := Fw.PFn.get Tryz.f252
noncomputable def Sg.s_strings_Compare (K : Nat) : Fw.Sig := { ins := [.val false .str, .val false .str], outs := [⟨false, (.int .i64), false⟩], F := fun x => R.strings_Compare K x.1 x.2.1 }
noncomputable def Sg.f_impl_find_1 : Fw.PFn := Fw.PFn.get Tryz.f253
noncomputable def Sg.i_impl_find_1 : List (Nat × Fw.PFn) := []
noncomputable def Sg.s_impl_find_1 (K : Nat) : Fw.Sig := { ins := [.val true (.pair .str (.int .i64)), .val false .str], outs := [⟨false, (.int .i64), false⟩], F := fun x => R.impl_find_1 K x.1 x.2.1 }
noncomputable def Sg.c_impl_find_1 (K : Nat) : Fw.Cfg := { tab := Sg.tab, eqs := Sg.eqs, sig := [(254, Sg.s_strings_Compare K)], inl := [], lo := [], K := K, jo := [], opn := Sg.opn }
def Sg.h_slices_BinarySearchFunc_impl_Entry_string__impl_find_1_0 : Fw.StSh := ⟨[(0, (.d (.sl (.pair .str (.int .i64))))), (1, (.d .str)), (2, (.fn 253 [])), (6, (.d (.int .i64))), (7, (.d .bool)), (8, (.d (.int .i64))), (9, (.d (.int .i64))), (10, (.d (.int .i64)))], [], 0, 49, ⟨0, []⟩⟩
def Sg.o_slices_BinarySearchFunc_impl_Entry_string__impl_find_1_0 : Fw.StSh := ⟨[(0, (.d (.sl (.pair .str (.int .i64))))), (1, (.d .str)), (2, (.fn 253 [])), (6, (.d (.int .i64))), (7, (.d .bool)), (8, (.d (.int .i64))), (9, (.d (.int .i64)))], [], 0, 49, ⟨0, []⟩⟩
def Sg.r_slices_BinarySearchFunc_impl_Entry_string__impl_find_1_0 : Fw.StSh := ⟨[], [], 0, 49, ⟨0, []⟩⟩
noncomputable def Sg.p_slices_BinarySearchFunc_impl_Entry_string__impl_find_1_0 (K : Nat) : Fw.LSpec := { g := 252, b := 0, lv := 6, l0 := 0, li := 0, head := Sg.h_slices_BinarySearchFunc_impl_Entry_string__impl_find_1_0, post := Sg.o_slices_BinarySearchFunc_impl_Entry_string__impl_find_1_0, retn := Sg.r_slices_BinarySearchFunc_impl_Entry_string__impl_find_1_0, ex := 0, L := R.L_slices_BinarySearchFunc_impl_Entry_string__impl_find_1_0 K }
noncomputable def Sg.i_slices_BinarySearchFunc_impl_Entry_string__impl_find_1 : List (Nat × Fw.PFn) := []
noncomputable def Sg.s_slices_BinarySearchFunc_impl_Entry_string__impl_find_1 (K : Nat) : Fw.Sig := { ins := [.val false (.sl (.pair .str (.int .i64))), .val false .str, .fn 253 []], outs := [⟨false, (.int .i64), false⟩, ⟨false, .bool, false⟩], F := fun x => R.slices_BinarySearchFunc_impl_Entry_string__impl_find_1 K x.1 x.2.1 }
noncomputable def Sg.c_slices_BinarySearchFunc_impl_Entry_string__impl_find_1 (K : Nat) : Fw.Cfg := { tab := Sg.tab, eqs := Sg.eqs, sig := [(253, Sg.s_impl_find_1 K)], inl := [], lo := Sg.p_slices_BinarySearchFunc_impl_Entry_string__impl_find_1_0 K :: [], K := K, jo := [], opn := Sg.opn }
noncomputable def Sg.f_impl_find : Fw.PFn := Fw.PFn.get Tryz.f183
noncomputable def Sg.i_impl_find : List (Nat × Fw.PFn) := [(252, Sg.f_slices_BinarySearchFunc_impl_Entry_string)]
noncomputable def Sg.s_impl_find (K : Nat) : Fw.Sig := { ins := [.val false (.sl (.pair .str (.int .i64))), .val false .str], outs := [⟨false, (.int .i64), false⟩, ⟨false, .bool, false⟩], F := fun x => R.impl_find K x.1 x.2.1 }
noncomputable def Sg.c_impl_find (K : Nat) : Fw.Cfg := { tab := Sg.tab, eqs := Sg.eqs, sig := [(253, Sg.s_impl_find_1 K), (252, Sg.s_slices_BinarySearchFunc_impl_Entry_string__impl_find_1 K)], inl := [(252, Tryz.f252)], lo := [], K := K, jo := [], opn := Sg.opn }
noncomputable def Sg.s_slices_Delete_impl_Entry (K : Nat) : Fw.Sig := { ins := [.take false (.sl (.pair .str (.int .i64))), .val false (.int .i64), .val false (.int .i64)], outs := [⟨false, (.sl (.pair .str (.int .i64))), true⟩], F := fun x => R.slices_Delete_impl_Entry K x.1 x.2.1 x.2.2.1 }
noncomputable def Sg.s_slices_Insert_impl_Entry (K : Nat) : Fw.Sig := { ins := [.take false (.sl (.pair .str (.int .i64))), .val false (.int .i64), .val false (.sl (.pair .str (.int .i64)))], outs := [⟨false, (.sl (.pair .str (.int .i64))), true⟩], F := fun x => R.slices_Insert_impl_Entry K x.1 x.2.1 x.2.2.1 }
def Sg.h_impl_edited_0 : Fw.StSh := ⟨[(4, (.row 0)), (5, (.row 1)), (12, (.d (.sl (.pair .str (.pair (.int .i64) .bool))))), (13, (.d (.int .i64))), (14, (.d (.int .i64)))], [(0, (.row (.pair .str (.int .i64)) true)), (1, (.row (.pair .str (.int .i64)) true))], 2, 45, ⟨0, []⟩⟩
def Sg.o_impl_edited_0 : Fw.StSh := ⟨[(4, (.row 0)), (5, (.row 1))], [(0, (.row (.pair .str (.int .i64)) true)), (1, (.row (.pair .str (.int .i64)) true))], 2, 45, ⟨0, []⟩⟩
def Sg.r_impl_edited_0 : Fw.StSh := ⟨[], [], 2, 45, ⟨0, []⟩⟩
noncomputable def Sg.p_impl_edited_0 (K : Nat) : Fw.LSpec := { g := 298, b := 0, lv := 6, l0 := 0, li := 0, head := Sg.h_impl_edited_0, post := Sg.o_impl_edited_0, retn := Sg.r_impl_edited_0, ex := 0, L := R.L_impl_edited_0 K }
noncomputable def Sg.f_impl_edited : Fw.PFn := Fw.PFn.get Tryz.f298
noncomputable def Sg.i_impl_edited : List (Nat × Fw.PFn) := []
noncomputable def Sg.s_impl_edited (K : Nat) : Fw.Sig := { ins := [.val false (.sl (.pair .str (.int .i64))), .val false (.sl (.pair .str (.pair (.int .i64) .bool)))], outs := [⟨false, (.sl (.pair .str (.int .i64))), true⟩], F := fun x => R.impl_edited K x.1 x.2.1 }
noncomputable def Sg.c_impl_edited (K : Nat) : Fw.Cfg := { tab := Sg.tab, eqs := Sg.eqs, sig := [(184, Sg.s_slices_Clone_impl_Entry K), (183, Sg.s_impl_find K), (310, Sg.s_slices_Delete_impl_Entry K), (311, Sg.s_slices_Insert_impl_Entry K)], inl := [], lo := Sg.p_impl_edited_0 K :: [], K := K, jo := [], opn := Sg.opn }
noncomputable def Sg.f_impl_limited : Fw.PFn := Fw.PFn.get Tryz.f297
noncomputable def Sg.i_impl_limited : List (Nat × Fw.PFn) := []
noncomputable def Sg.s_impl_limited (K : Nat) : Fw.Sig := { ins := [.val false (.sl (.pair .str (.int .i64)))], outs := [⟨false, (.sl (.pair .str (.int .i64))), false⟩, ⟨false, (.int .i64), false⟩], F := fun x => R.impl_limited K x.1 }
noncomputable def Sg.c_impl_limited (K : Nat) : Fw.Cfg := { tab := Sg.tab, eqs := Sg.eqs, sig := [], inl := [], lo := [], K := K, jo := [], opn := Sg.opn }
noncomputable def Sg.s_slices_SortFunc_impl_Edit (K : Nat) : Fw.Sig := { ins := [.mut false (.sl (.pair .str (.pair (.int .i64) .bool))), .fn 317 []], outs := [], F := fun x => R.slices_SortFunc_impl_Edit K x.1 }
noncomputable def Sg.f_impl_diff_1 : Fw.PFn := Fw.PFn.get Tryz.f317
noncomputable def Sg.i_impl_diff_1 : List (Nat × Fw.PFn) := []
noncomputable def Sg.s_impl_diff_1 (K : Nat) : Fw.Sig := { ins := [.val true (.pair .str (.pair (.int .i64) .bool)), .val true (.pair .str (.pair (.int .i64) .bool))], outs := [⟨false, (.int .i64), false⟩], F := fun x => R.impl_diff_1 K x.1 x.2.1 }
noncomputable def Sg.c_impl_diff_1 (K : Nat) : Fw.Cfg := { tab := Sg.tab, eqs := Sg.eqs, sig := [(254, Sg.s_strings_Compare K)], inl := [], lo := [], K := K, jo := [], opn := Sg.opn }
def Sg.h_impl_diff_0 : Fw.StSh := ⟨[(0, (.d (.sl (.pair .str (.int .i64))))), (1, (.d (.sl (.pair .str (.int .i64))))), (4, (.row 0)), (5, (.row 1)), (14, (.d (.sl (.pair .str (.int .i64))))), (15, (.d (.int .i64))), (16, (.d (.int .i64)))], [(0, (.row (.pair .str (.pair (.int .i64) .bool)) true)), (1, (.row (.pair .str (.pair (.int .i64) .bool)) true))], 2, 73, ⟨0, []⟩⟩
def Sg.o_impl_diff_0 : Fw.StSh := ⟨[(0, (.d (.sl (.pair .str (.int .i64))))), (1, (.d (.sl (.pair .str (.int .i64))))), (4, (.row 0)), (5, (.row 1))], [(0, (.row (.pair .str (.pair (.int .i64) .bool)) true)), (1, (.row (.pair .str (.pair (.int .i64) .bool)) true))], 2, 73, ⟨0, []⟩⟩
def Sg.r_impl_diff_0 : Fw.StSh := ⟨[], [], 2, 73, ⟨0, []⟩⟩
noncomputable def Sg.p_impl_diff_0 (K : Nat) : Fw.LSpec := { g := 312, b := 0, lv := 6, l0 := 0, li := 0, head := Sg.h_impl_diff_0, post := Sg.o_impl_diff_0, retn := Sg.r_impl_diff_0, ex := 0, L := R.L_impl_diff_0 K }
def Sg.h_impl_diff_1 : Fw.StSh := ⟨[(1, (.d (.sl (.pair .str (.int .i64))))), (4, (.row 0)), (5, (.row 1)), (48, (.d (.sl (.pair .str (.int .i64))))), (49, (.d (.int .i64))), (50, (.d (.int .i64)))], [(0, (.row (.pair .str (.pair (.int .i64) .bool)) true)), (1, (.row (.pair .str (.pair (.int .i64) .bool)) true))], 2, 73, ⟨0, []⟩⟩
def Sg.o_impl_diff_1 : Fw.StSh := ⟨[(4, (.row 0)), (5, (.row 1))], [(0, (.row (.pair .str (.pair (.int .i64) .bool)) true)), (1, (.row (.pair .str (.pair (.int .i64) .bool)) true))], 2, 73, ⟨0, []⟩⟩
def Sg.r_impl_diff_1 : Fw.StSh := ⟨[], [], 2, 73, ⟨0, []⟩⟩
noncomputable def Sg.p_impl_diff_1 (K : Nat) : Fw.LSpec := { g := 312, b := 0, lv := 6, l0 := 0, li := 1, head := Sg.h_impl_diff_1, post := Sg.o_impl_diff_1, retn := Sg.r_impl_diff_1, ex := 2, L := R.L_impl_diff_1 K }
noncomputable def Sg.f_impl_diff : Fw.PFn := Fw.PFn.get Tryz.f312
noncomputable def Sg.i_impl_diff : List (Nat × Fw.PFn) := []
noncomputable def Sg.s_impl_diff (K : Nat) : Fw.Sig := { ins := [.val false (.sl (.pair .str (.int .i64))), .val false (.sl (.pair .str (.int .i64)))], outs := [⟨false, (.sl (.pair .str (.pair (.int .i64) .bool))), true⟩], F := fun x => R.impl_diff K x.1 x.2.1 }
noncomputable def Sg.c_impl_diff (K : Nat) : Fw.Cfg := { tab := Sg.tab, eqs := Sg.eqs, sig := [(183, Sg.s_impl_find K), (316, Sg.s_slices_SortFunc_impl_Edit K), (317, Sg.s_impl_diff_1 K)], inl := [], lo := Sg.p_impl_diff_0 K :: Sg.p_impl_diff_1 K :: [], K := K, jo := ⟨312, 0, 6, 0, 6, none⟩ :: [], opn := Sg.opn }
def Sg.h_impl_merge_40 : Fw.StSh := ⟨[(0, (.d (.sl (.pair .str (.int .i64))))), (1, (.d (.sl (.pair .str (.int .i64))))), (2, (.d (.sl (.pair .str (.int .i64))))), (6, (.row 0)), (7, (.row 1)), (8, (.d (.int .i64))), (9, (.row 2)), (23, (.row 3)), (24, (.d (.int .i64))), (25, (.d (.int .i64)))], [(0, (.row (.pair .str (.int .i64)) true)), (1, (.row .str true)), (2, (.mp true (.pair .str (.pair (.int .i64) .bool)))), (3, (.row (.pair .str (.pair (.int .i64) .bool)) true))], 4, 79, ⟨0, []⟩⟩
def Sg.o_impl_merge_40 : Fw.StSh := ⟨[(0, (.d (.sl (.pair .str (.int .i64))))), (1, (.d (.sl (.pair .str (.int .i64))))), (2, (.d (.sl (.pair .str (.int .i64))))), (6, (.row 0)), (7, (.row 1)), (8, (.d (.int .i64))), (9, (.row 2))], [(0, (.row (.pair .str (.int .i64)) true)), (1, (.row .str true)), (2, (.mp true (.pair .str (.pair (.int .i64) .bool))))], 4, 79, ⟨0, []⟩⟩
def Sg.r_impl_merge_40 : Fw.StSh := ⟨[], [], 4, 79, ⟨0, []⟩⟩
noncomputable def Sg.p_impl_merge_40 (K : Nat) : Fw.LSpec := { g := 299, b := 0, lv := 6, l0 := 0, li := 0, head := Sg.h_impl_merge_40, post := Sg.o_impl_merge_40, retn := Sg.r_impl_merge_40, ex := 0, L := R.L_impl_merge_40 K }
def Sg.h_impl_merge_41 : Fw.StSh := ⟨[(1, (.d (.sl (.pair .str (.int .i64))))), (6, (.row 0)), (7, (.row 1)), (8, (.d (.int .i64))), (9, (.row 2)), (12, (.row 4)), (13, (.row 5)), (36, (.row 6)), (37, (.d (.int .i64))), (38, (.d (.int .i64)))], [(0, (.row (.pair .str (.int .i64)) true)), (1, (.row .str true)), (2, (.mp true (.pair .str (.pair (.int .i64) .bool)))), (4, (.row (.pair .str (.pair (.int .i64) .bool)) true)), (5, (.row .str true)), (6, (.row (.pair .str (.pair (.int .i64) .bool)) true))], 7, 79, ⟨0, []⟩⟩
def Sg.o_impl_merge_41 : Fw.StSh := ⟨[(1, (.d (.sl (.pair .str (.int .i64))))), (6, (.row 0)), (7, (.row 1)), (8, (.d (.int .i64))), (12, (.row 4)), (13, (.row 5))], [(0, (.row (.pair .str (.int .i64)) true)), (1, (.row .str true)), (4, (.row (.pair .str (.pair (.int .i64) .bool)) true)), (5, (.row .str true))], 7, 79, ⟨0, []⟩⟩
def Sg.r_impl_merge_41 : Fw.StSh := ⟨[], [], 7, 79, ⟨0, []⟩⟩
noncomputable def Sg.p_impl_merge_41 (K : Nat) : Fw.LSpec := { g := 299, b := 0, lv := 6, l0 := 0, li := 1, head := Sg.h_impl_merge_41, post := Sg.o_impl_merge_41, retn := Sg.r_impl_merge_41, ex := 2, L := R.L_impl_merge_41 K }
noncomputable def Sg.f_impl_merge : Fw.PFn := Fw.PFn.get Tryz.f299
noncomputable def Sg.i_impl_merge : List (Nat × Fw.PFn) := []
noncomputable def Sg.s_impl_merge (K : Nat) : Fw.Sig := { ins := [.val false (.sl (.pair .str (.int .i64))), .val false (.sl (.pair .str (.int .i64))), .val false (.sl (.pair .str (.int .i64)))], outs := [⟨false, (.sl (.pair .str (.int .i64))), false⟩, ⟨false, (.sl .str), true⟩, ⟨false, (.int .i64), false⟩], F := fun x => R.impl_merge K x.1 x.2.1 x.2.2.1 }
noncomputable def Sg.c_impl_merge (K : Nat) : Fw.Cfg := { tab := Sg.tab, eqs := Sg.eqs, sig := [(298, Sg.s_impl_edited K), (297, Sg.s_impl_limited K), (312, Sg.s_impl_diff K)], inl := [], lo := Sg.p_impl_merge_40 K :: Sg.p_impl_merge_41 K :: [], K := K, jo := [], opn := Sg.opn }
def Sg.h_slices_Equal_impl_Entry_0 : Fw.StSh := ⟨[(0, (.d (.sl (.pair .str (.int .i64))))), (1, (.d (.sl (.pair .str (.int .i64))))), (4, (.d .bool)), (12, (.d (.int .i64))), (13, (.d (.int .i64)))], [], 0, 26, ⟨0, []⟩⟩
def Sg.o_slices_Equal_impl_Entry_0 : Fw.StSh := ⟨[(4, (.d .bool))], [], 0, 26, ⟨0, []⟩⟩
def Sg.r_slices_Equal_impl_Entry_0 : Fw.StSh := ⟨[(4, (.d .bool))], [], 0, 26, ⟨0, []⟩⟩
noncomputable def Sg.p_slices_Equal_impl_Entry_0 (K : Nat) : Fw.LSpec := { g := 236, b := 0, lv := 6, l0 := 0, li := 0, head := Sg.h_slices_Equal_impl_Entry_0, post := Sg.o_slices_Equal_impl_Entry_0, retn := Sg.r_slices_Equal_impl_Entry_0, ex := 0, L := R.L_slices_Equal_impl_Entry_0 K }
noncomputable def Sg.f_slices_Equal_impl_Entry : Fw.PFn := Fw.PFn.get Tryz.f236
noncomputable def Sg.i_slices_Equal_impl_Entry : List (Nat × Fw.PFn) := []
noncomputable def Sg.s_slices_Equal_impl_Entry (K : Nat) : Fw.Sig := { ins := [.val false (.sl (.pair .str (.int .i64))), .val false (.sl (.pair .str (.int .i64)))], outs := [⟨false, .bool, false⟩], F := fun x => R.slices_Equal_impl_Entry K x.1 x.2.1 }
noncomputable def Sg.c_slices_Equal_impl_Entry (K : Nat) : Fw.Cfg := { tab := Sg.tab, eqs := Sg.eqs, sig := [], inl := [], lo := Sg.p_slices_Equal_impl_Entry_0 K :: [], K := K, jo := ⟨236, 0, 6, 0, 6, none⟩ :: [], opn := Sg.opn }
noncomputable def Sg.f_impl_planned : Fw.PFn := Fw.PFn.get Tryz.f282
noncomputable def Sg.i_impl_planned : List (Nat × Fw.PFn) := []
noncomputable def Sg.s_impl_planned (K : Nat) : Fw.Sig := { ins := [.val false (.sl (.pair .str (.int .i64))), .val false (.sl .str), .val false (.int .i64), .val false (.sl (.int .i64))], outs := [⟨true, Sg.t17, false⟩], F := fun x => R.impl_planned K x.1 x.2.1 x.2.2.1 x.2.2.2.1 }
noncomputable def Sg.c_impl_planned (K : Nat) : Fw.Cfg := { tab := Sg.tab, eqs := Sg.eqs, sig := [], inl := [], lo := [], K := K, jo := [], opn := Sg.opn }
noncomputable def Sg.f_impl_Base_commitAt : Fw.PFn := Fw.PFn.get Tryz.f279
noncomputable def Sg.i_impl_Base_commitAt : List (Nat × Fw.PFn) := []
noncomputable def Sg.s_impl_Base_commitAt (K : Nat) : Fw.Sig := { ins := [.val true Sg.t21, .val true Sg.t19, .val false (.int .i64)], outs := [⟨true, Sg.t17, false⟩], F := fun x => R.impl_Base_commitAt K x.1 x.2.1 x.2.2.1 }
noncomputable def Sg.c_impl_Base_commitAt (K : Nat) : Fw.Cfg := { tab := Sg.tab, eqs := Sg.eqs, sig := [(298, Sg.s_impl_edited K), (297, Sg.s_impl_limited K), (299, Sg.s_impl_merge K), (236, Sg.s_slices_Equal_impl_Entry K), (282, Sg.s_impl_planned K)], inl := [], lo := [], K := K, jo := [], opn := Sg.opn }
def Sg.h_impl_ancestors_1 : Fw.StSh := ⟨[(0, (.d (.sl Sg.t3))), (4, (.row 0)), (5, (.row 1)), (6, (.d (.int .i64))), (17, (.d (.int .i64))), (18, (.d .bool)), (21, (.row 1)), (22, (.d (.int .i64))), (23, (.eref 1 0)), (24, (.d .bool)), (25, (.d (.sl Sg.t3))), (26, (.d (.int .i64))), (27, (.d (.int .i64))), (28, (.dref Sg.t3 0)), (29, (.dref Sg.t3 0)), (30, (.d (.sl (.int .i64)))), (31, (.d (.int .i64))), (32, (.d (.int .i64)))], [(0, (.row .bool true)), (1, (.row .bool true))], 2, 41, ⟨0, []⟩⟩
def Sg.o_impl_ancestors_1 : Fw.StSh := ⟨[(0, (.d (.sl Sg.t3))), (4, (.row 0)), (5, (.row 1)), (6, (.d (.int .i64))), (17, (.d (.int .i64))), (18, (.d .bool)), (21, (.row 1)), (22, (.d (.int .i64))), (23, (.eref 1 0)), (24, (.d .bool)), (25, (.d (.sl Sg.t3))), (26, (.d (.int .i64))), (27, (.d (.int .i64))), (28, (.dref Sg.t3 0)), (29, (.dref Sg.t3 0)), (30, (.d (.sl (.int .i64)))), (31, (.d (.int .i64))), (32, (.d (.int .i64))), (33, (.d .bool))], [(0, (.row .bool true)), (1, (.row .bool true))], 2, 41, ⟨0, []⟩⟩
def Sg.r_impl_ancestors_1 : Fw.StSh := ⟨[], [], 2, 41, ⟨0, []⟩⟩
noncomputable def Sg.p_impl_ancestors_1 (K : Nat) : Fw.LSpec := { g := 300, b := 0, lv := 6, l0 := 0, li := 1, head := Sg.h_impl_ancestors_1, post := Sg.o_impl_ancestors_1, retn := Sg.r_impl_ancestors_1, ex := 2, L := R.L_impl_ancestors_1 K }
def Sg.h_impl_ancestors_0 : Fw.StSh := ⟨[(0, (.d (.sl Sg.t3))), (4, (.row 0)), (5, (.row 1)), (6, (.d (.int .i64)))], [(0, (.row .bool true)), (1, (.row .bool true))], 2, 41, ⟨0, []⟩⟩
def Sg.o_impl_ancestors_0 : Fw.StSh := ⟨[(4, (.row 0)), (5, (.row 1))], [(0, (.row .bool true)), (1, (.row .bool true))], 2, 41, ⟨0, []⟩⟩
def Sg.r_impl_ancestors_0 : Fw.StSh := ⟨[], [], 2, 41, ⟨0, []⟩⟩
noncomputable def Sg.p_impl_ancestors_0 (K : Nat) : Fw.LSpec := { g := 300, b := 0, lv := 6, l0 := 0, li := 0, head := Sg.h_impl_ancestors_0, post := Sg.o_impl_ancestors_0, retn := Sg.r_impl_ancestors_0, ex := 0, L := R.L_impl_ancestors_0 K }
noncomputable def Sg.f_impl_ancestors : Fw.PFn := Fw.PFn.get Tryz.f300
noncomputable def Sg.i_impl_ancestors : List (Nat × Fw.PFn) := []
noncomputable def Sg.s_impl_ancestors (K : Nat) : Fw.Sig := { ins := [.val false (.sl Sg.t3), .val false (.int .i64)], outs := [⟨false, (.sl .bool), true⟩], F := fun x => R.impl_ancestors K x.1 x.2.1 }
noncomputable def Sg.c_impl_ancestors (K : Nat) : Fw.Cfg := { tab := Sg.tab, eqs := Sg.eqs, sig := [], inl := [], lo := Sg.p_impl_ancestors_1 K :: Sg.p_impl_ancestors_0 K :: [], K := K, jo := [], opn := Sg.opn }
def Sg.h_impl_baseOf_0 : Fw.StSh := ⟨[(6, (.d (.int .i64))), (7, (.row 0)), (8, (.row 1)), (9, (.d (.int .i64)))], [(0, (.row .bool true)), (1, (.row .bool true))], 2, 34, ⟨0, []⟩⟩
def Sg.o_impl_baseOf_0 : Fw.StSh := ⟨[(6, (.d (.int .i64))), (9, (.d (.int .i64)))], [], 2, 34, ⟨0, []⟩⟩
def Sg.r_impl_baseOf_0 : Fw.StSh := ⟨[], [], 2, 34, ⟨0, []⟩⟩
noncomputable def Sg.p_impl_baseOf_0 (K : Nat) : Fw.LSpec := { g := 280, b := 0, lv := 6, l0 := 0, li := 0, head := Sg.h_impl_baseOf_0, post := Sg.o_impl_baseOf_0, retn := Sg.r_impl_baseOf_0, ex := 0, L := R.L_impl_baseOf_0 K }
noncomputable def Sg.f_impl_baseOf : Fw.PFn := Fw.PFn.get Tryz.f280
noncomputable def Sg.i_impl_baseOf : List (Nat × Fw.PFn) := []
noncomputable def Sg.s_impl_baseOf (K : Nat) : Fw.Sig := { ins := [.val false (.sl Sg.t3), .val false (.int .i64), .val false (.int .i64)], outs := [⟨false, (.int .i64), false⟩], F := fun x => R.impl_baseOf K x.1 x.2.1 x.2.2.1 }
noncomputable def Sg.c_impl_baseOf (K : Nat) : Fw.Cfg := { tab := Sg.tab, eqs := Sg.eqs, sig := [(300, Sg.s_impl_ancestors K)], inl := [], lo := Sg.p_impl_baseOf_0 K :: [], K := K, jo := [], opn := Sg.opn }
noncomputable def Sg.f_impl_mergeCommits : Fw.PFn := Fw.PFn.get Tryz.f281
noncomputable def Sg.i_impl_mergeCommits : List (Nat × Fw.PFn) := []
noncomputable def Sg.s_impl_mergeCommits (K : Nat) : Fw.Sig := { ins := [.val false (.sl Sg.t3), .val false (.int .i64), .val false (.int .i64)], outs := [⟨false, (.sl (.pair .str (.int .i64))), false⟩, ⟨false, (.sl .str), true⟩, ⟨false, (.int .i64), false⟩], F := fun x => R.impl_mergeCommits K x.1 x.2.1 x.2.2.1 }
noncomputable def Sg.c_impl_mergeCommits (K : Nat) : Fw.Cfg := { tab := Sg.tab, eqs := Sg.eqs, sig := [(299, Sg.s_impl_merge K), (280, Sg.s_impl_baseOf K)], inl := [], lo := [], K := K, jo := ⟨281, 0, 6, 0, 2, none⟩ :: [], opn := Sg.opn }
noncomputable def Sg.f_impl_Base_planAt : Fw.PFn := Fw.PFn.get Tryz.f234
noncomputable def Sg.i_impl_Base_planAt : List (Nat × Fw.PFn) := []
noncomputable def Sg.s_impl_Base_planAt (K : Nat) : Fw.Sig := { ins := [.val true Sg.t21, .val true Sg.t19, .val false (.int .i64)], outs := [⟨true, Sg.t17, false⟩], F := fun x => R.impl_Base_planAt K x.1 x.2.1 x.2.2.1 }
noncomputable def Sg.c_impl_Base_planAt (K : Nat) : Fw.Cfg := { tab := Sg.tab, eqs := Sg.eqs, sig := [(282, Sg.s_impl_planned K), (279, Sg.s_impl_Base_commitAt K), (280, Sg.s_impl_baseOf K), (281, Sg.s_impl_mergeCommits K)], inl := [], lo := [], K := K, jo := [], opn := Sg.opn }
noncomputable def Sg.f_impl_flag : Fw.PFn := Fw.PFn.get Tryz.f235
noncomputable def Sg.i_impl_flag : List (Nat × Fw.PFn) := []
noncomputable def Sg.s_impl_flag (K : Nat) : Fw.Sig := { ins := [.val false .bool], outs := [⟨false, (.int .i64), false⟩], F := fun x => R.impl_flag K x.1 }
noncomputable def Sg.c_impl_flag (K : Nat) : Fw.Cfg := { tab := Sg.tab, eqs := Sg.eqs, sig := [], inl := [], lo := [], K := K, jo := [], opn := Sg.opn }
def Sg.j_impl_Client_isPossible_0 : Fw.StSh := ⟨[(2, (.ref 0 0)), (4, (.d .bool)), (6, (.ref 6 0))], [(0, (.box [(.d (.sl Sg.t15)), (.d (.int .i64)), (.d (.int .i64)), (.d (.int .i64)), (.d (.int .i64)), (.d (.int .i64)), (.d (.int .i64)), (.d (.int .i64)), (.d (.sl (.pair .str (.int .i64))))])), (6, (.box [(.d .bool), (.d (.sl (.pair .str (.int .i64)))), (.d (.sl (.int .i64))), (.d (.sl .str)), (.d (.int .i64))]))], 7, 131, ⟨0, []⟩⟩
noncomputable def Sg.f_impl_Client_isPossible : Fw.PFn := Fw.PFn.get Tryz.f158
noncomputable def Sg.i_impl_Client_isPossible : List (Nat × Fw.PFn) := []
noncomputable def Sg.s_impl_Client_isPossible (K : Nat) : Fw.Sig := { ins := [.val true Sg.t24, .val true Sg.t21], outs := [⟨false, .bool, false⟩], F := fun x => R.impl_Client_isPossible K x.1 x.2.1 }
noncomputable def Sg.c_impl_Client_isPossible (K : Nat) : Fw.Cfg := { tab := Sg.tab, eqs := Sg.eqs, sig := [(113, Sg.s_impl_within K), (216, Sg.s_impl_hasSource K), (232, Sg.s_impl_Wish_op K), (233, Sg.s_impl_Client_isFresh K), (213, Sg.s_impl_Client_isDone K), (215, Sg.s_impl_Client_wish K), (236, Sg.s_slices_Equal_impl_Entry K), (234, Sg.s_impl_Base_planAt K), (235, Sg.s_impl_flag K)], inl := [], lo := [], K := K, jo := ⟨158, 0, 6, 0, 12, some Sg.j_impl_Client_isPossible_0⟩ :: ⟨158, 0, 6, 0, 13, none⟩ :: [], opn := Sg.opn }
def Sg.h_impl_areAll_impl_Wish__impl_WishOK_0 : Fw.StSh := ⟨[(0, (.d (.sl Sg.t15))), (1, (.fn 157 [])), (3, (.ref 0 0)), (4, (.d .bool)), (5, (.d (.sl Sg.t15))), (6, (.fn 231 [(.ref 0 0)])), (9, (.d (.sl Sg.t15))), (10, (.fn 231 [(.ref 0 0)])), (13, (.d .bool)), (14, (.d (.sl Sg.t15))), (15, (.fn 231 [(.ref 0 0)])), (18, (.d (.sl Sg.t15))), (19, (.fn 231 [(.ref 0 0)])), (22, (.d (.int .i64))), (25, (.d (.int .i64))), (26, (.d (.int .i64)))], [(0, (.box [(.fn 157 [])]))], 1, 37, ⟨0, []⟩⟩
def Sg.o_impl_areAll_impl_Wish__impl_WishOK_0 : Fw.StSh := ⟨[(0, (.d (.sl Sg.t15))), (1, (.fn 157 [])), (3, (.ref 0 0)), (4, (.d .bool)), (5, (.d (.sl Sg.t15))), (6, (.fn 231 [(.ref 0 0)])), (9, (.d (.sl Sg.t15))), (10, (.fn 231 [(.ref 0 0)])), (13, (.d .bool)), (14, (.d (.sl Sg.t15))), (15, (.fn 231 [(.ref 0 0)])), (22, (.d (.int .i64)))], [(0, (.box [(.fn 157 [])]))], 1, 37, ⟨0, []⟩⟩
def Sg.r_impl_areAll_impl_Wish__impl_WishOK_0 : Fw.StSh := ⟨[(0, (.d (.sl Sg.t15))), (1, (.fn 157 [])), (3, (.ref 0 0)), (4, (.d .bool)), (5, (.d (.sl Sg.t15))), (6, (.fn 231 [(.ref 0 0)])), (9, (.d (.sl Sg.t15))), (10, (.fn 231 [(.ref 0 0)])), (13, (.d .bool)), (14, (.d (.sl Sg.t15))), (15, (.fn 231 [(.ref 0 0)])), (22, (.d (.int .i64)))], [(0, (.box [(.fn 157 [])]))], 2, 45, ⟨0, []⟩⟩
noncomputable def Sg.p_impl_areAll_impl_Wish__impl_WishOK_0 (K : Nat) : Fw.LSpec := { g := 277, b := 18, lv := 4, l0 := 1, li := 0, head := Sg.h_impl_areAll_impl_Wish__impl_WishOK_0, post := Sg.o_impl_areAll_impl_Wish__impl_WishOK_0, retn := Sg.r_impl_areAll_impl_Wish__impl_WishOK_0, ex := 0, L := R.L_impl_areAll_impl_Wish__impl_WishOK_0 K }
noncomputable def Sg.i_impl_areAll_impl_Wish__impl_WishOK : List (Nat × Fw.PFn) := [(231, Sg.f_impl_areAll_impl_Wish_1), (277, Sg.f_slices_IndexFunc_impl_Wish), (230, Sg.f_slices_ContainsFunc_impl_Wish)]
noncomputable def Sg.s_impl_areAll_impl_Wish__impl_WishOK (K : Nat) : Fw.Sig := { ins := [.val false (.sl Sg.t15), .fn 157 []], outs := [⟨false, .bool, false⟩], F := fun x => R.impl_areAll_impl_Wish__impl_WishOK K x.1 }
noncomputable def Sg.c_impl_areAll_impl_Wish__impl_WishOK (K : Nat) : Fw.Cfg := { tab := Sg.tab, eqs := Sg.eqs, sig := [(157, Sg.s_impl_WishOK K)], inl := [(231, Tryz.f231), (277, Tryz.f277), (230, Tryz.f230)], lo := Sg.p_impl_areAll_impl_Wish__impl_WishOK_0 K :: [], K := K, jo := [], opn := Sg.opn }
noncomputable def Sg.f_impl_Client_isFor : Fw.PFn := Fw.PFn.get Tryz.f80
noncomputable def Sg.i_impl_Client_isFor : List (Nat × Fw.PFn) := [(231, Sg.f_impl_areAll_impl_Wish_1), (277, Sg.f_slices_IndexFunc_impl_Wish), (230, Sg.f_slices_ContainsFunc_impl_Wish), (156, Sg.f_impl_areAll_impl_Wish)]
noncomputable def Sg.s_impl_Client_isFor (K : Nat) : Fw.Sig := { ins := [.val true Sg.t24, .val true Sg.t21], outs := [⟨false, .bool, false⟩], F := fun x => R.impl_Client_isFor K x.1 x.2.1 }
noncomputable def Sg.c_impl_Client_isFor (K : Nat) : Fw.Cfg := { tab := Sg.tab, eqs := Sg.eqs, sig := [(113, Sg.s_impl_within K), (157, Sg.s_impl_WishOK K), (158, Sg.s_impl_Client_isPossible K), (156, Sg.s_impl_areAll_impl_Wish__impl_WishOK K)], inl := [(231, Tryz.f231), (277, Tryz.f277), (230, Tryz.f230), (156, Tryz.f156)], lo := [], K := K, jo := [], opn := Sg.opn }
noncomputable def Sg.f_impl_ClientOK : Fw.PFn := Fw.PFn.get Tryz.f20
noncomputable def Sg.i_impl_ClientOK : List (Nat × Fw.PFn) := []
noncomputable def Sg.s_impl_ClientOK (K : Nat) : Fw.Sig := { ins := [.val true Sg.t21, .val true Sg.t24], outs := [⟨false, .bool, false⟩], F := fun x => R.impl_ClientOK K x.1 x.2.1 }
noncomputable def Sg.c_impl_ClientOK (K : Nat) : Fw.Cfg := { tab := Sg.tab, eqs := Sg.eqs, sig := [(79, Sg.s_impl_BaseOK K), (80, Sg.s_impl_Client_isFor K)], inl := [], lo := [], K := K, jo := [], opn := Sg.opn }
def Sg.h_laws_eqIntS_0 : Fw.StSh := ⟨[(0, (.d (.sl (.int .i64)))), (1, (.d (.sl (.int .i64)))), (4, (.d .bool)), (5, (.d (.int .i64)))], [], 0, 26, ⟨0, []⟩⟩
def Sg.o_laws_eqIntS_0 : Fw.StSh := ⟨[(4, (.d .bool))], [], 0, 26, ⟨0, []⟩⟩
def Sg.r_laws_eqIntS_0 : Fw.StSh := ⟨[(4, (.d .bool))], [], 0, 26, ⟨0, []⟩⟩
noncomputable def Sg.p_laws_eqIntS_0 (K : Nat) : Fw.LSpec := { g := 237, b := 0, lv := 6, l0 := 0, li := 0, head := Sg.h_laws_eqIntS_0, post := Sg.o_laws_eqIntS_0, retn := Sg.r_laws_eqIntS_0, ex := 0, L := R.L_laws_eqIntS_0 K }
noncomputable def Sg.f_laws_eqIntS : Fw.PFn := Fw.PFn.get Tryz.f237
noncomputable def Sg.i_laws_eqIntS : List (Nat × Fw.PFn) := []
noncomputable def Sg.s_laws_eqIntS (K : Nat) : Fw.Sig := { ins := [.val false (.sl (.int .i64)), .val false (.sl (.int .i64))], outs := [⟨false, .bool, false⟩], F := fun x => R.laws_eqIntS K x.1 x.2.1 }
noncomputable def Sg.c_laws_eqIntS (K : Nat) : Fw.Cfg := { tab := Sg.tab, eqs := Sg.eqs, sig := [], inl := [], lo := Sg.p_laws_eqIntS_0 K :: [], K := K, jo := ⟨237, 0, 6, 0, 6, none⟩ :: [], opn := Sg.opn }
noncomputable def Sg.f_laws_eqEntry : Fw.PFn := Fw.PFn.get Tryz.f162
noncomputable def Sg.i_laws_eqEntry : List (Nat × Fw.PFn) := []
noncomputable def Sg.s_laws_eqEntry (K : Nat) : Fw.Sig := { ins := [.val true (.pair .str (.int .i64)), .val true (.pair .str (.int .i64))], outs := [⟨false, .bool, false⟩], F := fun x => R.laws_eqEntry K x.1 x.2.1 }
noncomputable def Sg.c_laws_eqEntry (K : Nat) : Fw.Cfg := { tab := Sg.tab, eqs := Sg.eqs, sig := [], inl := [], lo := [], K := K, jo := [], opn := Sg.opn }
def Sg.h_laws_eqEntryS_0 : Fw.StSh := ⟨[(0, (.d (.sl (.pair .str (.int .i64))))), (1, (.d (.sl (.pair .str (.int .i64))))), (4, (.d .bool)), (5, (.d (.int .i64)))], [], 0, 27, ⟨0, []⟩⟩
def Sg.o_laws_eqEntryS_0 : Fw.StSh := ⟨[(4, (.d .bool))], [], 0, 27, ⟨0, []⟩⟩
def Sg.r_laws_eqEntryS_0 : Fw.StSh := ⟨[(4, (.d .bool))], [], 0, 27, ⟨0, []⟩⟩
noncomputable def Sg.p_laws_eqEntryS_0 (K : Nat) : Fw.LSpec := { g := 84, b := 0, lv := 6, l0 := 0, li := 0, head := Sg.h_laws_eqEntryS_0, post := Sg.o_laws_eqEntryS_0, retn := Sg.r_laws_eqEntryS_0, ex := 0, L := R.L_laws_eqEntryS_0 K }
noncomputable def Sg.f_laws_eqEntryS : Fw.PFn := Fw.PFn.get Tryz.f84
noncomputable def Sg.i_laws_eqEntryS : List (Nat × Fw.PFn) := []
noncomputable def Sg.s_laws_eqEntryS (K : Nat) : Fw.Sig := { ins := [.val false (.sl (.pair .str (.int .i64))), .val false (.sl (.pair .str (.int .i64)))], outs := [⟨false, .bool, false⟩], F := fun x => R.laws_eqEntryS K x.1 x.2.1 }
noncomputable def Sg.c_laws_eqEntryS (K : Nat) : Fw.Cfg := { tab := Sg.tab, eqs := Sg.eqs, sig := [(162, Sg.s_laws_eqEntry K)], inl := [], lo := Sg.p_laws_eqEntryS_0 K :: [], K := K, jo := ⟨84, 0, 6, 0, 6, none⟩ :: [], opn := Sg.opn }
noncomputable def Sg.f_laws_eqCommit : Fw.PFn := Fw.PFn.get Tryz.f159
noncomputable def Sg.i_laws_eqCommit : List (Nat × Fw.PFn) := []
noncomputable def Sg.s_laws_eqCommit (K : Nat) : Fw.Sig := { ins := [.val true Sg.t3, .val true Sg.t3], outs := [⟨false, .bool, false⟩], F := fun x => R.laws_eqCommit K x.1 x.2.1 }
noncomputable def Sg.c_laws_eqCommit (K : Nat) : Fw.Cfg := { tab := Sg.tab, eqs := Sg.eqs, sig := [(237, Sg.s_laws_eqIntS K), (84, Sg.s_laws_eqEntryS K)], inl := [], lo := [], K := K, jo := [], opn := Sg.opn }
def Sg.h_laws_eqCommitS_0 : Fw.StSh := ⟨[(0, (.d (.sl Sg.t3))), (1, (.d (.sl Sg.t3))), (4, (.d .bool)), (5, (.d (.int .i64)))], [], 0, 27, ⟨0, []⟩⟩
def Sg.o_laws_eqCommitS_0 : Fw.StSh := ⟨[(4, (.d .bool))], [], 0, 27, ⟨0, []⟩⟩
def Sg.r_laws_eqCommitS_0 : Fw.StSh := ⟨[(4, (.d .bool))], [], 0, 27, ⟨0, []⟩⟩
noncomputable def Sg.p_laws_eqCommitS_0 (K : Nat) : Fw.LSpec := { g := 81, b := 0, lv := 6, l0 := 0, li := 0, head := Sg.h_laws_eqCommitS_0, post := Sg.o_laws_eqCommitS_0, retn := Sg.r_laws_eqCommitS_0, ex := 0, L := R.L_laws_eqCommitS_0 K }
noncomputable def Sg.f_laws_eqCommitS : Fw.PFn := Fw.PFn.get Tryz.f81
noncomputable def Sg.i_laws_eqCommitS : List (Nat × Fw.PFn) := []
noncomputable def Sg.s_laws_eqCommitS (K : Nat) : Fw.Sig := { ins := [.val false (.sl Sg.t3), .val false (.sl Sg.t3)], outs := [⟨false, .bool, false⟩], F := fun x => R.laws_eqCommitS K x.1 x.2.1 }
noncomputable def Sg.c_laws_eqCommitS (K : Nat) : Fw.Cfg := { tab := Sg.tab, eqs := Sg.eqs, sig := [(159, Sg.s_laws_eqCommit K)], inl := [], lo := Sg.p_laws_eqCommitS_0 K :: [], K := K, jo := ⟨81, 0, 6, 0, 6, none⟩ :: [], opn := Sg.opn }
noncomputable def Sg.f_laws_eqRef : Fw.PFn := Fw.PFn.get Tryz.f160
noncomputable def Sg.i_laws_eqRef : List (Nat × Fw.PFn) := []
noncomputable def Sg.s_laws_eqRef (K : Nat) : Fw.Sig := { ins := [.val true Sg.t6, .val true Sg.t6], outs := [⟨false, .bool, false⟩], F := fun x => R.laws_eqRef K x.1 x.2.1 }
noncomputable def Sg.c_laws_eqRef (K : Nat) : Fw.Cfg := { tab := Sg.tab, eqs := Sg.eqs, sig := [], inl := [], lo := [], K := K, jo := [], opn := Sg.opn }
def Sg.h_laws_eqRefS_0 : Fw.StSh := ⟨[(0, (.d (.sl Sg.t6))), (1, (.d (.sl Sg.t6))), (4, (.d .bool)), (5, (.d (.int .i64)))], [], 0, 27, ⟨0, []⟩⟩
def Sg.o_laws_eqRefS_0 : Fw.StSh := ⟨[(4, (.d .bool))], [], 0, 27, ⟨0, []⟩⟩
def Sg.r_laws_eqRefS_0 : Fw.StSh := ⟨[(4, (.d .bool))], [], 0, 27, ⟨0, []⟩⟩
noncomputable def Sg.p_laws_eqRefS_0 (K : Nat) : Fw.LSpec := { g := 82, b := 0, lv := 6, l0 := 0, li := 0, head := Sg.h_laws_eqRefS_0, post := Sg.o_laws_eqRefS_0, retn := Sg.r_laws_eqRefS_0, ex := 0, L := R.L_laws_eqRefS_0 K }
noncomputable def Sg.f_laws_eqRefS : Fw.PFn := Fw.PFn.get Tryz.f82
noncomputable def Sg.i_laws_eqRefS : List (Nat × Fw.PFn) := []
noncomputable def Sg.s_laws_eqRefS (K : Nat) : Fw.Sig := { ins := [.val false (.sl Sg.t6), .val false (.sl Sg.t6)], outs := [⟨false, .bool, false⟩], F := fun x => R.laws_eqRefS K x.1 x.2.1 }
noncomputable def Sg.c_laws_eqRefS (K : Nat) : Fw.Cfg := { tab := Sg.tab, eqs := Sg.eqs, sig := [(160, Sg.s_laws_eqRef K)], inl := [], lo := Sg.p_laws_eqRefS_0 K :: [], K := K, jo := ⟨82, 0, 6, 0, 6, none⟩ :: [], opn := Sg.opn }
noncomputable def Sg.f_laws_eqBase : Fw.PFn := Fw.PFn.get Tryz.f21
noncomputable def Sg.i_laws_eqBase : List (Nat × Fw.PFn) := []
noncomputable def Sg.s_laws_eqBase (K : Nat) : Fw.Sig := { ins := [.val true Sg.t21, .val true Sg.t21], outs := [⟨false, .bool, false⟩], F := fun x => R.laws_eqBase K x.1 x.2.1 }
noncomputable def Sg.c_laws_eqBase (K : Nat) : Fw.Cfg := { tab := Sg.tab, eqs := Sg.eqs, sig := [(81, Sg.s_laws_eqCommitS K), (82, Sg.s_laws_eqRefS K)], inl := [], lo := [], K := K, jo := [], opn := Sg.opn }
noncomputable def Sg.f_laws_eqEdit : Fw.PFn := Fw.PFn.get Tryz.f188
noncomputable def Sg.i_laws_eqEdit : List (Nat × Fw.PFn) := []
noncomputable def Sg.s_laws_eqEdit (K : Nat) : Fw.Sig := { ins := [.val true (.pair .str (.pair (.int .i64) .bool)), .val true (.pair .str (.pair (.int .i64) .bool))], outs := [⟨false, .bool, false⟩], F := fun x => R.laws_eqEdit K x.1 x.2.1 }
noncomputable def Sg.c_laws_eqEdit (K : Nat) : Fw.Cfg := { tab := Sg.tab, eqs := Sg.eqs, sig := [], inl := [], lo := [], K := K, jo := [], opn := Sg.opn }
def Sg.h_laws_eqEditS_0 : Fw.StSh := ⟨[(0, (.d (.sl (.pair .str (.pair (.int .i64) .bool))))), (1, (.d (.sl (.pair .str (.pair (.int .i64) .bool))))), (4, (.d .bool)), (5, (.d (.int .i64)))], [], 0, 27, ⟨0, []⟩⟩
def Sg.o_laws_eqEditS_0 : Fw.StSh := ⟨[(4, (.d .bool))], [], 0, 27, ⟨0, []⟩⟩
def Sg.r_laws_eqEditS_0 : Fw.StSh := ⟨[(4, (.d .bool))], [], 0, 27, ⟨0, []⟩⟩
noncomputable def Sg.p_laws_eqEditS_0 (K : Nat) : Fw.LSpec := { g := 95, b := 0, lv := 6, l0 := 0, li := 0, head := Sg.h_laws_eqEditS_0, post := Sg.o_laws_eqEditS_0, retn := Sg.r_laws_eqEditS_0, ex := 0, L := R.L_laws_eqEditS_0 K }
noncomputable def Sg.f_laws_eqEditS : Fw.PFn := Fw.PFn.get Tryz.f95
noncomputable def Sg.i_laws_eqEditS : List (Nat × Fw.PFn) := []
noncomputable def Sg.s_laws_eqEditS (K : Nat) : Fw.Sig := { ins := [.val false (.sl (.pair .str (.pair (.int .i64) .bool))), .val false (.sl (.pair .str (.pair (.int .i64) .bool)))], outs := [⟨false, .bool, false⟩], F := fun x => R.laws_eqEditS K x.1 x.2.1 }
noncomputable def Sg.c_laws_eqEditS (K : Nat) : Fw.Cfg := { tab := Sg.tab, eqs := Sg.eqs, sig := [(188, Sg.s_laws_eqEdit K)], inl := [], lo := Sg.p_laws_eqEditS_0 K :: [], K := K, jo := ⟨95, 0, 6, 0, 6, none⟩ :: [], opn := Sg.opn }
noncomputable def Sg.f_laws_eqWish : Fw.PFn := Fw.PFn.get Tryz.f161
noncomputable def Sg.i_laws_eqWish : List (Nat × Fw.PFn) := []
noncomputable def Sg.s_laws_eqWish (K : Nat) : Fw.Sig := { ins := [.val true Sg.t15, .val true Sg.t15], outs := [⟨false, .bool, false⟩], F := fun x => R.laws_eqWish K x.1 x.2.1 }
noncomputable def Sg.c_laws_eqWish (K : Nat) : Fw.Cfg := { tab := Sg.tab, eqs := Sg.eqs, sig := [(95, Sg.s_laws_eqEditS K)], inl := [], lo := [], K := K, jo := [], opn := Sg.opn }
def Sg.h_laws_eqWishS_0 : Fw.StSh := ⟨[(0, (.d (.sl Sg.t15))), (1, (.d (.sl Sg.t15))), (4, (.d .bool)), (5, (.d (.int .i64)))], [], 0, 27, ⟨0, []⟩⟩
def Sg.o_laws_eqWishS_0 : Fw.StSh := ⟨[(4, (.d .bool))], [], 0, 27, ⟨0, []⟩⟩
def Sg.r_laws_eqWishS_0 : Fw.StSh := ⟨[(4, (.d .bool))], [], 0, 27, ⟨0, []⟩⟩
noncomputable def Sg.p_laws_eqWishS_0 (K : Nat) : Fw.LSpec := { g := 83, b := 0, lv := 6, l0 := 0, li := 0, head := Sg.h_laws_eqWishS_0, post := Sg.o_laws_eqWishS_0, retn := Sg.r_laws_eqWishS_0, ex := 0, L := R.L_laws_eqWishS_0 K }
noncomputable def Sg.f_laws_eqWishS : Fw.PFn := Fw.PFn.get Tryz.f83
noncomputable def Sg.i_laws_eqWishS : List (Nat × Fw.PFn) := []
noncomputable def Sg.s_laws_eqWishS (K : Nat) : Fw.Sig := { ins := [.val false (.sl Sg.t15), .val false (.sl Sg.t15)], outs := [⟨false, .bool, false⟩], F := fun x => R.laws_eqWishS K x.1 x.2.1 }
noncomputable def Sg.c_laws_eqWishS (K : Nat) : Fw.Cfg := { tab := Sg.tab, eqs := Sg.eqs, sig := [(161, Sg.s_laws_eqWish K)], inl := [], lo := Sg.p_laws_eqWishS_0 K :: [], K := K, jo := ⟨83, 0, 6, 0, 6, none⟩ :: [], opn := Sg.opn }
noncomputable def Sg.f_laws_eqClient : Fw.PFn := Fw.PFn.get Tryz.f22
noncomputable def Sg.i_laws_eqClient : List (Nat × Fw.PFn) := []
noncomputable def Sg.s_laws_eqClient (K : Nat) : Fw.Sig := { ins := [.val true Sg.t24, .val true Sg.t24], outs := [⟨false, .bool, false⟩], F := fun x => R.laws_eqClient K x.1 x.2.1 }
noncomputable def Sg.c_laws_eqClient (K : Nat) : Fw.Cfg := { tab := Sg.tab, eqs := Sg.eqs, sig := [(84, Sg.s_laws_eqEntryS K), (83, Sg.s_laws_eqWishS K)], inl := [], lo := [], K := K, jo := [], opn := Sg.opn }
noncomputable def Sg.f_laws_FnExactClientOK : Fw.PFn := Fw.PFn.get Tryz.f3
noncomputable def Sg.i_laws_FnExactClientOK : List (Nat × Fw.PFn) := []
noncomputable def Sg.s_laws_FnExactClientOK (K : Nat) : Fw.Sig := { ins := [.val true Sg.t21, .val true Sg.t24], outs := [⟨false, .bool, false⟩], F := fun x => R.laws_FnExactClientOK K x.1 x.2.1 }
noncomputable def Sg.c_laws_FnExactClientOK (K : Nat) : Fw.Cfg := { tab := Sg.tab, eqs := Sg.eqs, sig := [(15, Sg.s_laws_szBase K), (16, Sg.s_laws_szClient K), (18, Sg.s_laws_toBase K), (19, Sg.s_laws_toClient K), (17, Sg.s_spec_ClientOK K), (20, Sg.s_impl_ClientOK K), (21, Sg.s_laws_eqBase K), (22, Sg.s_laws_eqClient K)], inl := [], lo := [], K := K, jo := ⟨3, 0, 6, 0, 8, none⟩ :: ⟨3, 0, 6, 0, 14, none⟩ :: ⟨3, 0, 6, 0, 16, none⟩ :: [], opn := Sg.opn }
theorem fun_laws_szIntS : Tryz.prog.funcs[217]? = some Tryz.f217 := by kernel_rfl
theorem call_laws_szIntS : Fw.Callable Tryz.prog 217 := Fw.callable_of fun_laws_szIntS (by kernel_rfl) (by kernel_rfl)
theorem pf_laws_szIntS : Fw.PFn.of Tryz.f217 = some Sg.f_laws_szIntS := Fw.PFn.of_get (by kernel_rfl)
theorem ok_laws_szIntS (K : Nat) : Fw.Ok Tryz.prog 217 (Sg.s_laws_szIntS K) := Fw.funP_ok (c := Sg.c_laws_szIntS K) (pi := Sg.i_laws_szIntS) (depth := 6) (Fw.cfgP_ok (pi := Sg.i_laws_szIntS) Sg.tabOK Sg.eqsOK Sg.mixOK trivial trivial trivial pf_laws_szIntS trivial rfl) trivial pf_laws_szIntS fun_laws_szIntS call_laws_szIntS (fun x => by kernel_rfl)
theorem fun_laws_szEntry : Tryz.prog.funcs[143]? = some Tryz.f143 := by kernel_rfl
theorem call_laws_szEntry : Fw.Callable Tryz.prog 143 := Fw.callable_of fun_laws_szEntry (by kernel_rfl) (by kernel_rfl)
theorem pf_laws_szEntry : Fw.PFn.of Tryz.f143 = some Sg.f_laws_szEntry := Fw.PFn.of_get (by kernel_rfl)
theorem ok_laws_szEntry (K : Nat) : Fw.Ok Tryz.prog 143 (Sg.s_laws_szEntry K) := Fw.funP_ok (c := Sg.c_laws_szEntry K) (pi := Sg.i_laws_szEntry) (depth := 6) (Fw.cfgP_ok (pi := Sg.i_laws_szEntry) Sg.tabOK Sg.eqsOK Sg.mixOK trivial trivial trivial pf_laws_szEntry trivial rfl) trivial pf_laws_szEntry fun_laws_szEntry call_laws_szEntry (fun x => by kernel_rfl)
theorem fun_laws_szEntryS : Tryz.prog.funcs[72]? = some Tryz.f72 := by kernel_rfl
theorem call_laws_szEntryS : Fw.Callable Tryz.prog 72 := Fw.callable_of fun_laws_szEntryS (by kernel_rfl) (by kernel_rfl)
theorem pf_laws_szEntryS : Fw.PFn.of Tryz.f72 = some Sg.f_laws_szEntryS := Fw.PFn.of_get (by kernel_rfl)
theorem l_laws_szEntryS_0 (K : Nat) : Fw.LoopP (Sg.c_laws_szEntryS K) Sg.i_laws_szEntryS Sg.f_laws_szEntryS (Sg.p_laws_szEntryS_0 K) := ⟨fun _ => by kernel_rfl, fun n p => by kernel_rfl⟩
theorem ok_laws_szEntryS (K : Nat) : Fw.Ok Tryz.prog 72 (Sg.s_laws_szEntryS K) := Fw.funP_ok (c := Sg.c_laws_szEntryS K) (pi := Sg.i_laws_szEntryS) (depth := 6) (Fw.cfgP_ok (pi := Sg.i_laws_szEntryS) Sg.tabOK Sg.eqsOK Sg.mixOK ⟨ok_laws_szEntry K, trivial⟩ trivial trivial pf_laws_szEntryS ⟨⟨_, rfl, l_laws_szEntryS_0 K⟩, trivial⟩ rfl) trivial pf_laws_szEntryS fun_laws_szEntryS call_laws_szEntryS (fun x => by kernel_rfl)
theorem fun_laws_szCommit : Tryz.prog.funcs[140]? = some Tryz.f140 := by kernel_rfl
theorem call_laws_szCommit : Fw.Callable Tryz.prog 140 := Fw.callable_of fun_laws_szCommit (by kernel_rfl) (by kernel_rfl)
theorem pf_laws_szCommit : Fw.PFn.of Tryz.f140 = some Sg.f_laws_szCommit := Fw.PFn.of_get (by kernel_rfl)
theorem ok_laws_szCommit (K : Nat) : Fw.Ok Tryz.prog 140 (Sg.s_laws_szCommit K) := Fw.funP_ok (c := Sg.c_laws_szCommit K) (pi := Sg.i_laws_szCommit) (depth := 6) (Fw.cfgP_ok (pi := Sg.i_laws_szCommit) Sg.tabOK Sg.eqsOK Sg.mixOK ⟨ok_laws_szIntS K, ok_laws_szEntryS K, trivial⟩ trivial trivial pf_laws_szCommit trivial rfl) trivial pf_laws_szCommit fun_laws_szCommit call_laws_szCommit (fun x => by kernel_rfl)
theorem fun_laws_szCommitS : Tryz.prog.funcs[69]? = some Tryz.f69 := by kernel_rfl
theorem call_laws_szCommitS : Fw.Callable Tryz.prog 69 := Fw.callable_of fun_laws_szCommitS (by kernel_rfl) (by kernel_rfl)
theorem pf_laws_szCommitS : Fw.PFn.of Tryz.f69 = some Sg.f_laws_szCommitS := Fw.PFn.of_get (by kernel_rfl)
theorem l_laws_szCommitS_0 (K : Nat) : Fw.LoopP (Sg.c_laws_szCommitS K) Sg.i_laws_szCommitS Sg.f_laws_szCommitS (Sg.p_laws_szCommitS_0 K) := ⟨fun _ => by kernel_rfl, fun n p => by kernel_rfl⟩
theorem ok_laws_szCommitS (K : Nat) : Fw.Ok Tryz.prog 69 (Sg.s_laws_szCommitS K) := Fw.funP_ok (c := Sg.c_laws_szCommitS K) (pi := Sg.i_laws_szCommitS) (depth := 6) (Fw.cfgP_ok (pi := Sg.i_laws_szCommitS) Sg.tabOK Sg.eqsOK Sg.mixOK ⟨ok_laws_szCommit K, trivial⟩ trivial trivial pf_laws_szCommitS ⟨⟨_, rfl, l_laws_szCommitS_0 K⟩, trivial⟩ rfl) trivial pf_laws_szCommitS fun_laws_szCommitS call_laws_szCommitS (fun x => by kernel_rfl)
theorem fun_laws_szRef : Tryz.prog.funcs[141]? = some Tryz.f141 := by kernel_rfl
theorem call_laws_szRef : Fw.Callable Tryz.prog 141 := Fw.callable_of fun_laws_szRef (by kernel_rfl) (by kernel_rfl)
theorem pf_laws_szRef : Fw.PFn.of Tryz.f141 = some Sg.f_laws_szRef := Fw.PFn.of_get (by kernel_rfl)
theorem ok_laws_szRef (K : Nat) : Fw.Ok Tryz.prog 141 (Sg.s_laws_szRef K) := Fw.funP_ok (c := Sg.c_laws_szRef K) (pi := Sg.i_laws_szRef) (depth := 6) (Fw.cfgP_ok (pi := Sg.i_laws_szRef) Sg.tabOK Sg.eqsOK Sg.mixOK trivial trivial trivial pf_laws_szRef trivial rfl) trivial pf_laws_szRef fun_laws_szRef call_laws_szRef (fun x => by kernel_rfl)
theorem fun_laws_szRefS : Tryz.prog.funcs[70]? = some Tryz.f70 := by kernel_rfl
theorem call_laws_szRefS : Fw.Callable Tryz.prog 70 := Fw.callable_of fun_laws_szRefS (by kernel_rfl) (by kernel_rfl)
theorem pf_laws_szRefS : Fw.PFn.of Tryz.f70 = some Sg.f_laws_szRefS := Fw.PFn.of_get (by kernel_rfl)
theorem l_laws_szRefS_0 (K : Nat) : Fw.LoopP (Sg.c_laws_szRefS K) Sg.i_laws_szRefS Sg.f_laws_szRefS (Sg.p_laws_szRefS_0 K) := ⟨fun _ => by kernel_rfl, fun n p => by kernel_rfl⟩
theorem ok_laws_szRefS (K : Nat) : Fw.Ok Tryz.prog 70 (Sg.s_laws_szRefS K) := Fw.funP_ok (c := Sg.c_laws_szRefS K) (pi := Sg.i_laws_szRefS) (depth := 6) (Fw.cfgP_ok (pi := Sg.i_laws_szRefS) Sg.tabOK Sg.eqsOK Sg.mixOK ⟨ok_laws_szRef K, trivial⟩ trivial trivial pf_laws_szRefS ⟨⟨_, rfl, l_laws_szRefS_0 K⟩, trivial⟩ rfl) trivial pf_laws_szRefS fun_laws_szRefS call_laws_szRefS (fun x => by kernel_rfl)
theorem fun_laws_szBase : Tryz.prog.funcs[15]? = some Tryz.f15 := by kernel_rfl
theorem call_laws_szBase : Fw.Callable Tryz.prog 15 := Fw.callable_of fun_laws_szBase (by kernel_rfl) (by kernel_rfl)
theorem pf_laws_szBase : Fw.PFn.of Tryz.f15 = some Sg.f_laws_szBase := Fw.PFn.of_get (by kernel_rfl)
theorem ok_laws_szBase (K : Nat) : Fw.Ok Tryz.prog 15 (Sg.s_laws_szBase K) := Fw.funP_ok (c := Sg.c_laws_szBase K) (pi := Sg.i_laws_szBase) (depth := 6) (Fw.cfgP_ok (pi := Sg.i_laws_szBase) Sg.tabOK Sg.eqsOK Sg.mixOK ⟨ok_laws_szCommitS K, ok_laws_szRefS K, trivial⟩ trivial trivial pf_laws_szBase trivial rfl) trivial pf_laws_szBase fun_laws_szBase call_laws_szBase (fun x => by kernel_rfl)
theorem fun_laws_szEdit : Tryz.prog.funcs[163]? = some Tryz.f163 := by kernel_rfl
theorem call_laws_szEdit : Fw.Callable Tryz.prog 163 := Fw.callable_of fun_laws_szEdit (by kernel_rfl) (by kernel_rfl)
theorem pf_laws_szEdit : Fw.PFn.of Tryz.f163 = some Sg.f_laws_szEdit := Fw.PFn.of_get (by kernel_rfl)
theorem ok_laws_szEdit (K : Nat) : Fw.Ok Tryz.prog 163 (Sg.s_laws_szEdit K) := Fw.funP_ok (c := Sg.c_laws_szEdit K) (pi := Sg.i_laws_szEdit) (depth := 6) (Fw.cfgP_ok (pi := Sg.i_laws_szEdit) Sg.tabOK Sg.eqsOK Sg.mixOK trivial trivial trivial pf_laws_szEdit trivial rfl) trivial pf_laws_szEdit fun_laws_szEdit call_laws_szEdit (fun x => by kernel_rfl)
theorem fun_laws_szEditS : Tryz.prog.funcs[85]? = some Tryz.f85 := by kernel_rfl
theorem call_laws_szEditS : Fw.Callable Tryz.prog 85 := Fw.callable_of fun_laws_szEditS (by kernel_rfl) (by kernel_rfl)
theorem pf_laws_szEditS : Fw.PFn.of Tryz.f85 = some Sg.f_laws_szEditS := Fw.PFn.of_get (by kernel_rfl)
theorem l_laws_szEditS_0 (K : Nat) : Fw.LoopP (Sg.c_laws_szEditS K) Sg.i_laws_szEditS Sg.f_laws_szEditS (Sg.p_laws_szEditS_0 K) := ⟨fun _ => by kernel_rfl, fun n p => by kernel_rfl⟩
theorem ok_laws_szEditS (K : Nat) : Fw.Ok Tryz.prog 85 (Sg.s_laws_szEditS K) := Fw.funP_ok (c := Sg.c_laws_szEditS K) (pi := Sg.i_laws_szEditS) (depth := 6) (Fw.cfgP_ok (pi := Sg.i_laws_szEditS) Sg.tabOK Sg.eqsOK Sg.mixOK ⟨ok_laws_szEdit K, trivial⟩ trivial trivial pf_laws_szEditS ⟨⟨_, rfl, l_laws_szEditS_0 K⟩, trivial⟩ rfl) trivial pf_laws_szEditS fun_laws_szEditS call_laws_szEditS (fun x => by kernel_rfl)
theorem fun_laws_szWish : Tryz.prog.funcs[142]? = some Tryz.f142 := by kernel_rfl
theorem call_laws_szWish : Fw.Callable Tryz.prog 142 := Fw.callable_of fun_laws_szWish (by kernel_rfl) (by kernel_rfl)
theorem pf_laws_szWish : Fw.PFn.of Tryz.f142 = some Sg.f_laws_szWish := Fw.PFn.of_get (by kernel_rfl)
theorem ok_laws_szWish (K : Nat) : Fw.Ok Tryz.prog 142 (Sg.s_laws_szWish K) := Fw.funP_ok (c := Sg.c_laws_szWish K) (pi := Sg.i_laws_szWish) (depth := 6) (Fw.cfgP_ok (pi := Sg.i_laws_szWish) Sg.tabOK Sg.eqsOK Sg.mixOK ⟨ok_laws_szEditS K, trivial⟩ trivial trivial pf_laws_szWish trivial rfl) trivial pf_laws_szWish fun_laws_szWish call_laws_szWish (fun x => by kernel_rfl)
theorem fun_laws_szWishS : Tryz.prog.funcs[71]? = some Tryz.f71 := by kernel_rfl
theorem call_laws_szWishS : Fw.Callable Tryz.prog 71 := Fw.callable_of fun_laws_szWishS (by kernel_rfl) (by kernel_rfl)
theorem pf_laws_szWishS : Fw.PFn.of Tryz.f71 = some Sg.f_laws_szWishS := Fw.PFn.of_get (by kernel_rfl)
theorem l_laws_szWishS_0 (K : Nat) : Fw.LoopP (Sg.c_laws_szWishS K) Sg.i_laws_szWishS Sg.f_laws_szWishS (Sg.p_laws_szWishS_0 K) := ⟨fun _ => by kernel_rfl, fun n p => by kernel_rfl⟩
theorem ok_laws_szWishS (K : Nat) : Fw.Ok Tryz.prog 71 (Sg.s_laws_szWishS K) := Fw.funP_ok (c := Sg.c_laws_szWishS K) (pi := Sg.i_laws_szWishS) (depth := 6) (Fw.cfgP_ok (pi := Sg.i_laws_szWishS) Sg.tabOK Sg.eqsOK Sg.mixOK ⟨ok_laws_szWish K, trivial⟩ trivial trivial pf_laws_szWishS ⟨⟨_, rfl, l_laws_szWishS_0 K⟩, trivial⟩ rfl) trivial pf_laws_szWishS fun_laws_szWishS call_laws_szWishS (fun x => by kernel_rfl)
theorem fun_laws_szClient : Tryz.prog.funcs[16]? = some Tryz.f16 := by kernel_rfl
theorem call_laws_szClient : Fw.Callable Tryz.prog 16 := Fw.callable_of fun_laws_szClient (by kernel_rfl) (by kernel_rfl)
theorem pf_laws_szClient : Fw.PFn.of Tryz.f16 = some Sg.f_laws_szClient := Fw.PFn.of_get (by kernel_rfl)
theorem ok_laws_szClient (K : Nat) : Fw.Ok Tryz.prog 16 (Sg.s_laws_szClient K) := Fw.funP_ok (c := Sg.c_laws_szClient K) (pi := Sg.i_laws_szClient) (depth := 6) (Fw.cfgP_ok (pi := Sg.i_laws_szClient) Sg.tabOK Sg.eqsOK Sg.mixOK ⟨ok_laws_szEntryS K, ok_laws_szWishS K, trivial⟩ trivial trivial pf_laws_szClient trivial rfl) trivial pf_laws_szClient fun_laws_szClient call_laws_szClient (fun x => by kernel_rfl)
theorem fun_laws_toIntS : Tryz.prog.funcs[224]? = some Tryz.f224 := by kernel_rfl
theorem call_laws_toIntS : Fw.Callable Tryz.prog 224 := Fw.callable_of fun_laws_toIntS (by kernel_rfl) (by kernel_rfl)
theorem pf_laws_toIntS : Fw.PFn.of Tryz.f224 = some Sg.f_laws_toIntS := Fw.PFn.of_get (by kernel_rfl)
theorem l_laws_toIntS_0 (K : Nat) : Fw.LoopP (Sg.c_laws_toIntS K) Sg.i_laws_toIntS Sg.f_laws_toIntS (Sg.p_laws_toIntS_0 K) := ⟨fun _ => by kernel_rfl, fun n p => by kernel_rfl⟩
theorem ok_laws_toIntS (K : Nat) : Fw.Ok Tryz.prog 224 (Sg.s_laws_toIntS K) := Fw.funP_ok (c := Sg.c_laws_toIntS K) (pi := Sg.i_laws_toIntS) (depth := 6) (Fw.cfgP_ok (pi := Sg.i_laws_toIntS) Sg.tabOK Sg.eqsOK Sg.mixOK trivial trivial trivial pf_laws_toIntS ⟨⟨_, rfl, l_laws_toIntS_0 K⟩, trivial⟩ rfl) trivial pf_laws_toIntS fun_laws_toIntS call_laws_toIntS (fun x => by kernel_rfl)
theorem fun_laws_toEntry : Tryz.prog.funcs[151]? = some Tryz.f151 := by kernel_rfl
theorem call_laws_toEntry : Fw.Callable Tryz.prog 151 := Fw.callable_of fun_laws_toEntry (by kernel_rfl) (by kernel_rfl)
theorem pf_laws_toEntry : Fw.PFn.of Tryz.f151 = some Sg.f_laws_toEntry := Fw.PFn.of_get (by kernel_rfl)
theorem ok_laws_toEntry (K : Nat) : Fw.Ok Tryz.prog 151 (Sg.s_laws_toEntry K) := Fw.funP_ok (c := Sg.c_laws_toEntry K) (pi := Sg.i_laws_toEntry) (depth := 6) (Fw.cfgP_ok (pi := Sg.i_laws_toEntry) Sg.tabOK Sg.eqsOK Sg.mixOK trivial trivial trivial pf_laws_toEntry trivial rfl) trivial pf_laws_toEntry fun_laws_toEntry call_laws_toEntry (fun x => by kernel_rfl)
theorem fun_laws_toEntryS : Tryz.prog.funcs[78]? = some Tryz.f78 := by kernel_rfl
theorem call_laws_toEntryS : Fw.Callable Tryz.prog 78 := Fw.callable_of fun_laws_toEntryS (by kernel_rfl) (by kernel_rfl)
theorem pf_laws_toEntryS : Fw.PFn.of Tryz.f78 = some Sg.f_laws_toEntryS := Fw.PFn.of_get (by kernel_rfl)
theorem l_laws_toEntryS_0 (K : Nat) : Fw.LoopP (Sg.c_laws_toEntryS K) Sg.i_laws_toEntryS Sg.f_laws_toEntryS (Sg.p_laws_toEntryS_0 K) := ⟨fun _ => by kernel_rfl, fun n p => by kernel_rfl⟩
theorem ok_laws_toEntryS (K : Nat) : Fw.Ok Tryz.prog 78 (Sg.s_laws_toEntryS K) := Fw.funP_ok (c := Sg.c_laws_toEntryS K) (pi := Sg.i_laws_toEntryS) (depth := 6) (Fw.cfgP_ok (pi := Sg.i_laws_toEntryS) Sg.tabOK Sg.eqsOK Sg.mixOK ⟨ok_laws_toEntry K, trivial⟩ trivial trivial pf_laws_toEntryS ⟨⟨_, rfl, l_laws_toEntryS_0 K⟩, trivial⟩ rfl) trivial pf_laws_toEntryS fun_laws_toEntryS call_laws_toEntryS (fun x => by kernel_rfl)
theorem fun_laws_toCommit : Tryz.prog.funcs[148]? = some Tryz.f148 := by kernel_rfl
theorem call_laws_toCommit : Fw.Callable Tryz.prog 148 := Fw.callable_of fun_laws_toCommit (by kernel_rfl) (by kernel_rfl)
theorem pf_laws_toCommit : Fw.PFn.of Tryz.f148 = some Sg.f_laws_toCommit := Fw.PFn.of_get (by kernel_rfl)
theorem ok_laws_toCommit (K : Nat) : Fw.Ok Tryz.prog 148 (Sg.s_laws_toCommit K) := Fw.funP_ok (c := Sg.c_laws_toCommit K) (pi := Sg.i_laws_toCommit) (depth := 6) (Fw.cfgP_ok (pi := Sg.i_laws_toCommit) Sg.tabOK Sg.eqsOK Sg.mixOK ⟨ok_laws_toIntS K, ok_laws_toEntryS K, trivial⟩ trivial trivial pf_laws_toCommit trivial rfl) trivial pf_laws_toCommit fun_laws_toCommit call_laws_toCommit (fun x => by kernel_rfl)
theorem fun_laws_toCommitS : Tryz.prog.funcs[75]? = some Tryz.f75 := by kernel_rfl
theorem call_laws_toCommitS : Fw.Callable Tryz.prog 75 := Fw.callable_of fun_laws_toCommitS (by kernel_rfl) (by kernel_rfl)
theorem pf_laws_toCommitS : Fw.PFn.of Tryz.f75 = some Sg.f_laws_toCommitS := Fw.PFn.of_get (by kernel_rfl)
theorem l_laws_toCommitS_0 (K : Nat) : Fw.LoopP (Sg.c_laws_toCommitS K) Sg.i_laws_toCommitS Sg.f_laws_toCommitS (Sg.p_laws_toCommitS_0 K) := ⟨fun _ => by kernel_rfl, fun n p => by kernel_rfl⟩
theorem ok_laws_toCommitS (K : Nat) : Fw.Ok Tryz.prog 75 (Sg.s_laws_toCommitS K) := Fw.funP_ok (c := Sg.c_laws_toCommitS K) (pi := Sg.i_laws_toCommitS) (depth := 6) (Fw.cfgP_ok (pi := Sg.i_laws_toCommitS) Sg.tabOK Sg.eqsOK Sg.mixOK ⟨ok_laws_toCommit K, trivial⟩ trivial trivial pf_laws_toCommitS ⟨⟨_, rfl, l_laws_toCommitS_0 K⟩, trivial⟩ rfl) trivial pf_laws_toCommitS fun_laws_toCommitS call_laws_toCommitS (fun x => by kernel_rfl)
theorem fun_laws_toRef : Tryz.prog.funcs[149]? = some Tryz.f149 := by kernel_rfl
theorem call_laws_toRef : Fw.Callable Tryz.prog 149 := Fw.callable_of fun_laws_toRef (by kernel_rfl) (by kernel_rfl)
theorem pf_laws_toRef : Fw.PFn.of Tryz.f149 = some Sg.f_laws_toRef := Fw.PFn.of_get (by kernel_rfl)
theorem ok_laws_toRef (K : Nat) : Fw.Ok Tryz.prog 149 (Sg.s_laws_toRef K) := Fw.funP_ok (c := Sg.c_laws_toRef K) (pi := Sg.i_laws_toRef) (depth := 6) (Fw.cfgP_ok (pi := Sg.i_laws_toRef) Sg.tabOK Sg.eqsOK Sg.mixOK trivial trivial trivial pf_laws_toRef trivial rfl) trivial pf_laws_toRef fun_laws_toRef call_laws_toRef (fun x => by kernel_rfl)
theorem fun_laws_toRefS : Tryz.prog.funcs[76]? = some Tryz.f76 := by kernel_rfl
theorem call_laws_toRefS : Fw.Callable Tryz.prog 76 := Fw.callable_of fun_laws_toRefS (by kernel_rfl) (by kernel_rfl)
theorem pf_laws_toRefS : Fw.PFn.of Tryz.f76 = some Sg.f_laws_toRefS := Fw.PFn.of_get (by kernel_rfl)
theorem l_laws_toRefS_0 (K : Nat) : Fw.LoopP (Sg.c_laws_toRefS K) Sg.i_laws_toRefS Sg.f_laws_toRefS (Sg.p_laws_toRefS_0 K) := ⟨fun _ => by kernel_rfl, fun n p => by kernel_rfl⟩
theorem ok_laws_toRefS (K : Nat) : Fw.Ok Tryz.prog 76 (Sg.s_laws_toRefS K) := Fw.funP_ok (c := Sg.c_laws_toRefS K) (pi := Sg.i_laws_toRefS) (depth := 6) (Fw.cfgP_ok (pi := Sg.i_laws_toRefS) Sg.tabOK Sg.eqsOK Sg.mixOK ⟨ok_laws_toRef K, trivial⟩ trivial trivial pf_laws_toRefS ⟨⟨_, rfl, l_laws_toRefS_0 K⟩, trivial⟩ rfl) trivial pf_laws_toRefS fun_laws_toRefS call_laws_toRefS (fun x => by kernel_rfl)
theorem fun_laws_toBase : Tryz.prog.funcs[18]? = some Tryz.f18 := by kernel_rfl
theorem call_laws_toBase : Fw.Callable Tryz.prog 18 := Fw.callable_of fun_laws_toBase (by kernel_rfl) (by kernel_rfl)
theorem pf_laws_toBase : Fw.PFn.of Tryz.f18 = some Sg.f_laws_toBase := Fw.PFn.of_get (by kernel_rfl)
theorem ok_laws_toBase (K : Nat) : Fw.Ok Tryz.prog 18 (Sg.s_laws_toBase K) := Fw.funP_ok (c := Sg.c_laws_toBase K) (pi := Sg.i_laws_toBase) (depth := 6) (Fw.cfgP_ok (pi := Sg.i_laws_toBase) Sg.tabOK Sg.eqsOK Sg.mixOK ⟨ok_laws_toCommitS K, ok_laws_toRefS K, trivial⟩ trivial trivial pf_laws_toBase trivial rfl) trivial pf_laws_toBase fun_laws_toBase call_laws_toBase (fun x => by kernel_rfl)
theorem fun_laws_toEdit : Tryz.prog.funcs[174]? = some Tryz.f174 := by kernel_rfl
theorem call_laws_toEdit : Fw.Callable Tryz.prog 174 := Fw.callable_of fun_laws_toEdit (by kernel_rfl) (by kernel_rfl)
theorem pf_laws_toEdit : Fw.PFn.of Tryz.f174 = some Sg.f_laws_toEdit := Fw.PFn.of_get (by kernel_rfl)
theorem ok_laws_toEdit (K : Nat) : Fw.Ok Tryz.prog 174 (Sg.s_laws_toEdit K) := Fw.funP_ok (c := Sg.c_laws_toEdit K) (pi := Sg.i_laws_toEdit) (depth := 6) (Fw.cfgP_ok (pi := Sg.i_laws_toEdit) Sg.tabOK Sg.eqsOK Sg.mixOK trivial trivial trivial pf_laws_toEdit trivial rfl) trivial pf_laws_toEdit fun_laws_toEdit call_laws_toEdit (fun x => by kernel_rfl)
theorem fun_laws_toEditS : Tryz.prog.funcs[90]? = some Tryz.f90 := by kernel_rfl
theorem call_laws_toEditS : Fw.Callable Tryz.prog 90 := Fw.callable_of fun_laws_toEditS (by kernel_rfl) (by kernel_rfl)
theorem pf_laws_toEditS : Fw.PFn.of Tryz.f90 = some Sg.f_laws_toEditS := Fw.PFn.of_get (by kernel_rfl)
theorem l_laws_toEditS_0 (K : Nat) : Fw.LoopP (Sg.c_laws_toEditS K) Sg.i_laws_toEditS Sg.f_laws_toEditS (Sg.p_laws_toEditS_0 K) := ⟨fun _ => by kernel_rfl, fun n p => by kernel_rfl⟩
theorem ok_laws_toEditS (K : Nat) : Fw.Ok Tryz.prog 90 (Sg.s_laws_toEditS K) := Fw.funP_ok (c := Sg.c_laws_toEditS K) (pi := Sg.i_laws_toEditS) (depth := 6) (Fw.cfgP_ok (pi := Sg.i_laws_toEditS) Sg.tabOK Sg.eqsOK Sg.mixOK ⟨ok_laws_toEdit K, trivial⟩ trivial trivial pf_laws_toEditS ⟨⟨_, rfl, l_laws_toEditS_0 K⟩, trivial⟩ rfl) trivial pf_laws_toEditS fun_laws_toEditS call_laws_toEditS (fun x => by kernel_rfl)
theorem fun_laws_toWish : Tryz.prog.funcs[150]? = some Tryz.f150 := by kernel_rfl
theorem call_laws_toWish : Fw.Callable Tryz.prog 150 := Fw.callable_of fun_laws_toWish (by kernel_rfl) (by kernel_rfl)
theorem pf_laws_toWish : Fw.PFn.of Tryz.f150 = some Sg.f_laws_toWish := Fw.PFn.of_get (by kernel_rfl)
theorem ok_laws_toWish (K : Nat) : Fw.Ok Tryz.prog 150 (Sg.s_laws_toWish K) := Fw.funP_ok (c := Sg.c_laws_toWish K) (pi := Sg.i_laws_toWish) (depth := 6) (Fw.cfgP_ok (pi := Sg.i_laws_toWish) Sg.tabOK Sg.eqsOK Sg.mixOK ⟨ok_laws_toEditS K, trivial⟩ trivial trivial pf_laws_toWish trivial rfl) trivial pf_laws_toWish fun_laws_toWish call_laws_toWish (fun x => by kernel_rfl)
theorem fun_laws_toWishS : Tryz.prog.funcs[77]? = some Tryz.f77 := by kernel_rfl
theorem call_laws_toWishS : Fw.Callable Tryz.prog 77 := Fw.callable_of fun_laws_toWishS (by kernel_rfl) (by kernel_rfl)
theorem pf_laws_toWishS : Fw.PFn.of Tryz.f77 = some Sg.f_laws_toWishS := Fw.PFn.of_get (by kernel_rfl)
theorem l_laws_toWishS_0 (K : Nat) : Fw.LoopP (Sg.c_laws_toWishS K) Sg.i_laws_toWishS Sg.f_laws_toWishS (Sg.p_laws_toWishS_0 K) := ⟨fun _ => by kernel_rfl, fun n p => by kernel_rfl⟩
theorem ok_laws_toWishS (K : Nat) : Fw.Ok Tryz.prog 77 (Sg.s_laws_toWishS K) := Fw.funP_ok (c := Sg.c_laws_toWishS K) (pi := Sg.i_laws_toWishS) (depth := 6) (Fw.cfgP_ok (pi := Sg.i_laws_toWishS) Sg.tabOK Sg.eqsOK Sg.mixOK ⟨ok_laws_toWish K, trivial⟩ trivial trivial pf_laws_toWishS ⟨⟨_, rfl, l_laws_toWishS_0 K⟩, trivial⟩ rfl) trivial pf_laws_toWishS fun_laws_toWishS call_laws_toWishS (fun x => by kernel_rfl)
theorem fun_laws_toClient : Tryz.prog.funcs[19]? = some Tryz.f19 := by kernel_rfl
theorem call_laws_toClient : Fw.Callable Tryz.prog 19 := Fw.callable_of fun_laws_toClient (by kernel_rfl) (by kernel_rfl)
theorem pf_laws_toClient : Fw.PFn.of Tryz.f19 = some Sg.f_laws_toClient := Fw.PFn.of_get (by kernel_rfl)
theorem ok_laws_toClient (K : Nat) : Fw.Ok Tryz.prog 19 (Sg.s_laws_toClient K) := Fw.funP_ok (c := Sg.c_laws_toClient K) (pi := Sg.i_laws_toClient) (depth := 6) (Fw.cfgP_ok (pi := Sg.i_laws_toClient) Sg.tabOK Sg.eqsOK Sg.mixOK ⟨ok_laws_toEntryS K, ok_laws_toWishS K, trivial⟩ trivial trivial pf_laws_toClient trivial rfl) trivial pf_laws_toClient fun_laws_toClient call_laws_toClient (fun x => by kernel_rfl)
theorem fun_spec_l01In : Tryz.prog.funcs[135]? = some Tryz.f135 := by kernel_rfl
theorem call_spec_l01In : Fw.Callable Tryz.prog 135 := Fw.callable_of fun_spec_l01In (by kernel_rfl) (by kernel_rfl)
theorem pf_spec_l01In : Fw.PFn.of Tryz.f135 = some Sg.f_spec_l01In := Fw.PFn.of_get (by kernel_rfl)
theorem ok_spec_l01In (K : Nat) : Fw.Ok Tryz.prog 135 (Sg.s_spec_l01In K) := Fw.funP_ok (c := Sg.c_spec_l01In K) (pi := Sg.i_spec_l01In) (depth := 6) (Fw.cfgP_ok (pi := Sg.i_spec_l01In) Sg.tabOK Sg.eqsOK Sg.mixOK trivial trivial trivial pf_spec_l01In trivial rfl) trivial pf_spec_l01In fun_spec_l01In call_spec_l01In (fun x => by kernel_rfl)
theorem fun_spec_l00Letter : Tryz.prog.funcs[238]? = some Tryz.f238 := by kernel_rfl
theorem call_spec_l00Letter : Fw.Callable Tryz.prog 238 := Fw.callable_of fun_spec_l00Letter (by kernel_rfl) (by kernel_rfl)
theorem pf_spec_l00Letter : Fw.PFn.of Tryz.f238 = some Sg.f_spec_l00Letter := Fw.PFn.of_get (by kernel_rfl)
theorem ok_spec_l00Letter (K : Nat) : Fw.Ok Tryz.prog 238 (Sg.s_spec_l00Letter K) := Fw.funP_ok (c := Sg.c_spec_l00Letter K) (pi := Sg.i_spec_l00Letter) (depth := 6) (Fw.cfgP_ok (pi := Sg.i_spec_l00Letter) Sg.tabOK Sg.eqsOK Sg.mixOK trivial trivial trivial pf_spec_l00Letter trivial rfl) trivial pf_spec_l00Letter fun_spec_l00Letter call_spec_l00Letter (fun x => by kernel_rfl)
theorem fun_spec_l00Digit : Tryz.prog.funcs[239]? = some Tryz.f239 := by kernel_rfl
theorem call_spec_l00Digit : Fw.Callable Tryz.prog 239 := Fw.callable_of fun_spec_l00Digit (by kernel_rfl) (by kernel_rfl)
theorem pf_spec_l00Digit : Fw.PFn.of Tryz.f239 = some Sg.f_spec_l00Digit := Fw.PFn.of_get (by kernel_rfl)
theorem ok_spec_l00Digit (K : Nat) : Fw.Ok Tryz.prog 239 (Sg.s_spec_l00Digit K) := Fw.funP_ok (c := Sg.c_spec_l00Digit K) (pi := Sg.i_spec_l00Digit) (depth := 6) (Fw.cfgP_ok (pi := Sg.i_spec_l00Digit) Sg.tabOK Sg.eqsOK Sg.mixOK trivial trivial trivial pf_spec_l00Digit trivial rfl) trivial pf_spec_l00Digit fun_spec_l00Digit call_spec_l00Digit (fun x => by kernel_rfl)
theorem fun_spec_l00Word : Tryz.prog.funcs[164]? = some Tryz.f164 := by kernel_rfl
theorem call_spec_l00Word : Fw.Callable Tryz.prog 164 := Fw.callable_of fun_spec_l00Word (by kernel_rfl) (by kernel_rfl)
theorem pf_spec_l00Word : Fw.PFn.of Tryz.f164 = some Sg.f_spec_l00Word := Fw.PFn.of_get (by kernel_rfl)
theorem l_spec_l00Word_0 (K : Nat) : Fw.LoopP (Sg.c_spec_l00Word K) Sg.i_spec_l00Word Sg.f_spec_l00Word (Sg.p_spec_l00Word_0 K) := ⟨fun _ => by kernel_rfl, fun n p => by kernel_rfl⟩
theorem ok_spec_l00Word (K : Nat) : Fw.Ok Tryz.prog 164 (Sg.s_spec_l00Word K) := Fw.funP_ok (c := Sg.c_spec_l00Word K) (pi := Sg.i_spec_l00Word) (depth := 6) (Fw.cfgP_ok (pi := Sg.i_spec_l00Word) Sg.tabOK Sg.eqsOK Sg.mixOK ⟨ok_spec_l00Letter K, ok_spec_l00Digit K, trivial⟩ trivial trivial pf_spec_l00Word ⟨⟨_, rfl, l_spec_l00Word_0 K⟩, trivial⟩ rfl) trivial pf_spec_l00Word fun_spec_l00Word call_spec_l00Word (fun x => by kernel_rfl)
theorem fun_spec_l01OK : Tryz.prog.funcs[259]? = some Tryz.f259 := by kernel_rfl
theorem call_spec_l01OK : Fw.Callable Tryz.prog 259 := Fw.callable_of fun_spec_l01OK (by kernel_rfl) (by kernel_rfl)
theorem pf_spec_l01OK : Fw.PFn.of Tryz.f259 = some Sg.f_spec_l01OK := Fw.PFn.of_get (by kernel_rfl)
theorem l_spec_l01OK_0 (K : Nat) : Fw.LoopP (Sg.c_spec_l01OK K) Sg.i_spec_l01OK Sg.f_spec_l01OK (Sg.p_spec_l01OK_0 K) := ⟨fun _ => by kernel_rfl, fun n p => by kernel_rfl⟩
theorem ok_spec_l01OK (K : Nat) : Fw.Ok Tryz.prog 259 (Sg.s_spec_l01OK K) := Fw.funP_ok (c := Sg.c_spec_l01OK K) (pi := Sg.i_spec_l01OK) (depth := 6) (Fw.cfgP_ok (pi := Sg.i_spec_l01OK) Sg.tabOK Sg.eqsOK Sg.mixOK ⟨ok_spec_l01In K, ok_spec_l00Word K, trivial⟩ trivial trivial pf_spec_l01OK ⟨⟨_, rfl, l_spec_l01OK_0 K⟩, trivial⟩ rfl) trivial pf_spec_l01OK fun_spec_l01OK call_spec_l01OK (fun x => by kernel_rfl)
theorem fun_spec_l03Commit : Tryz.prog.funcs[218]? = some Tryz.f218 := by kernel_rfl
theorem call_spec_l03Commit : Fw.Callable Tryz.prog 218 := Fw.callable_of fun_spec_l03Commit (by kernel_rfl) (by kernel_rfl)
theorem pf_spec_l03Commit : Fw.PFn.of Tryz.f218 = some Sg.f_spec_l03Commit := Fw.PFn.of_get (by kernel_rfl)
theorem l_spec_l03Commit_0 (K : Nat) : Fw.LoopP (Sg.c_spec_l03Commit K) Sg.i_spec_l03Commit Sg.f_spec_l03Commit (Sg.p_spec_l03Commit_0 K) := ⟨fun _ => by kernel_rfl, fun n p => by kernel_rfl⟩
theorem ok_spec_l03Commit (K : Nat) : Fw.Ok Tryz.prog 218 (Sg.s_spec_l03Commit K) := Fw.funP_ok (c := Sg.c_spec_l03Commit K) (pi := Sg.i_spec_l03Commit) (depth := 6) (Fw.cfgP_ok (pi := Sg.i_spec_l03Commit) Sg.tabOK Sg.eqsOK Sg.mixOK ⟨ok_spec_l01In K, ok_spec_l01OK K, trivial⟩ trivial trivial pf_spec_l03Commit ⟨⟨_, rfl, l_spec_l03Commit_0 K⟩, trivial⟩ rfl) trivial pf_spec_l03Commit fun_spec_l03Commit call_spec_l03Commit (fun x => by kernel_rfl)
theorem fun_spec_l03OK : Tryz.prog.funcs[144]? = some Tryz.f144 := by kernel_rfl
theorem call_spec_l03OK : Fw.Callable Tryz.prog 144 := Fw.callable_of fun_spec_l03OK (by kernel_rfl) (by kernel_rfl)
theorem pf_spec_l03OK : Fw.PFn.of Tryz.f144 = some Sg.f_spec_l03OK := Fw.PFn.of_get (by kernel_rfl)
theorem l_spec_l03OK_0 (K : Nat) : Fw.LoopP (Sg.c_spec_l03OK K) Sg.i_spec_l03OK Sg.f_spec_l03OK (Sg.p_spec_l03OK_0 K) := ⟨fun _ => by kernel_rfl, fun n p => by kernel_rfl⟩
theorem ok_spec_l03OK (K : Nat) : Fw.Ok Tryz.prog 144 (Sg.s_spec_l03OK K) := Fw.funP_ok (c := Sg.c_spec_l03OK K) (pi := Sg.i_spec_l03OK) (depth := 6) (Fw.cfgP_ok (pi := Sg.i_spec_l03OK) Sg.tabOK Sg.eqsOK Sg.mixOK ⟨ok_spec_l01In K, ok_spec_l03Commit K, trivial⟩ trivial trivial pf_spec_l03OK ⟨⟨_, rfl, l_spec_l03OK_0 K⟩, trivial⟩ rfl) trivial pf_spec_l03OK fun_spec_l03OK call_spec_l03OK (fun x => by kernel_rfl)
theorem fun_spec_l04At : Tryz.prog.funcs[219]? = some Tryz.f219 := by kernel_rfl
theorem call_spec_l04At : Fw.Callable Tryz.prog 219 := Fw.callable_of fun_spec_l04At (by kernel_rfl) (by kernel_rfl)
theorem pf_spec_l04At : Fw.PFn.of Tryz.f219 = some Sg.f_spec_l04At := Fw.PFn.of_get (by kernel_rfl)
theorem l_spec_l04At_0 (K : Nat) : Fw.LoopP (Sg.c_spec_l04At K) Sg.i_spec_l04At Sg.f_spec_l04At (Sg.p_spec_l04At_0 K) := ⟨fun _ => by kernel_rfl, fun n p => by kernel_rfl⟩
theorem ok_spec_l04At (K : Nat) : Fw.Ok Tryz.prog 219 (Sg.s_spec_l04At K) := Fw.funP_ok (c := Sg.c_spec_l04At K) (pi := Sg.i_spec_l04At) (depth := 6) (Fw.cfgP_ok (pi := Sg.i_spec_l04At) Sg.tabOK Sg.eqsOK Sg.mixOK trivial trivial trivial pf_spec_l04At ⟨⟨_, rfl, l_spec_l04At_0 K⟩, trivial⟩ rfl) trivial pf_spec_l04At fun_spec_l04At call_spec_l04At (fun x => by kernel_rfl)
theorem fun_spec_l04OK : Tryz.prog.funcs[145]? = some Tryz.f145 := by kernel_rfl
theorem call_spec_l04OK : Fw.Callable Tryz.prog 145 := Fw.callable_of fun_spec_l04OK (by kernel_rfl) (by kernel_rfl)
theorem pf_spec_l04OK : Fw.PFn.of Tryz.f145 = some Sg.f_spec_l04OK := Fw.PFn.of_get (by kernel_rfl)
theorem l_spec_l04OK_0 (K : Nat) : Fw.LoopP (Sg.c_spec_l04OK K) Sg.i_spec_l04OK Sg.f_spec_l04OK (Sg.p_spec_l04OK_0 K) := ⟨fun _ => by kernel_rfl, fun n p => by kernel_rfl⟩
theorem ok_spec_l04OK (K : Nat) : Fw.Ok Tryz.prog 145 (Sg.s_spec_l04OK K) := Fw.funP_ok (c := Sg.c_spec_l04OK K) (pi := Sg.i_spec_l04OK) (depth := 6) (Fw.cfgP_ok (pi := Sg.i_spec_l04OK) Sg.tabOK Sg.eqsOK Sg.mixOK ⟨ok_spec_l01In K, ok_spec_l00Word K, ok_spec_l04At K, trivial⟩ trivial trivial pf_spec_l04OK ⟨⟨_, rfl, l_spec_l04OK_0 K⟩, trivial⟩ rfl) trivial pf_spec_l04OK fun_spec_l04OK call_spec_l04OK (fun x => by kernel_rfl)
theorem fun_spec_l05OK : Tryz.prog.funcs[73]? = some Tryz.f73 := by kernel_rfl
theorem call_spec_l05OK : Fw.Callable Tryz.prog 73 := Fw.callable_of fun_spec_l05OK (by kernel_rfl) (by kernel_rfl)
theorem pf_spec_l05OK : Fw.PFn.of Tryz.f73 = some Sg.f_spec_l05OK := Fw.PFn.of_get (by kernel_rfl)
theorem l_spec_l05OK_0 (K : Nat) : Fw.LoopP (Sg.c_spec_l05OK K) Sg.i_spec_l05OK Sg.f_spec_l05OK (Sg.p_spec_l05OK_0 K) := ⟨fun _ => by kernel_rfl, fun n p => by kernel_rfl⟩
theorem ok_spec_l05OK (K : Nat) : Fw.Ok Tryz.prog 73 (Sg.s_spec_l05OK K) := Fw.funP_ok (c := Sg.c_spec_l05OK K) (pi := Sg.i_spec_l05OK) (depth := 6) (Fw.cfgP_ok (pi := Sg.i_spec_l05OK) Sg.tabOK Sg.eqsOK Sg.mixOK ⟨ok_spec_l03OK K, ok_spec_l04OK K, trivial⟩ trivial trivial pf_spec_l05OK ⟨⟨_, rfl, l_spec_l05OK_0 K⟩, trivial⟩ rfl) trivial pf_spec_l05OK fun_spec_l05OK call_spec_l05OK (fun x => by kernel_rfl)
theorem fun_spec_l01Edits : Tryz.prog.funcs[165]? = some Tryz.f165 := by kernel_rfl
theorem call_spec_l01Edits : Fw.Callable Tryz.prog 165 := Fw.callable_of fun_spec_l01Edits (by kernel_rfl) (by kernel_rfl)
theorem pf_spec_l01Edits : Fw.PFn.of Tryz.f165 = some Sg.f_spec_l01Edits := Fw.PFn.of_get (by kernel_rfl)
theorem l_spec_l01Edits_0 (K : Nat) : Fw.LoopP (Sg.c_spec_l01Edits K) Sg.i_spec_l01Edits Sg.f_spec_l01Edits (Sg.p_spec_l01Edits_0 K) := ⟨fun _ => by kernel_rfl, fun n p => by kernel_rfl⟩
theorem ok_spec_l01Edits (K : Nat) : Fw.Ok Tryz.prog 165 (Sg.s_spec_l01Edits K) := Fw.funP_ok (c := Sg.c_spec_l01Edits K) (pi := Sg.i_spec_l01Edits) (depth := 6) (Fw.cfgP_ok (pi := Sg.i_spec_l01Edits) Sg.tabOK Sg.eqsOK Sg.mixOK ⟨ok_spec_l01In K, ok_spec_l00Word K, trivial⟩ trivial trivial pf_spec_l01Edits ⟨⟨_, rfl, l_spec_l01Edits_0 K⟩, trivial⟩ rfl) trivial pf_spec_l01Edits fun_spec_l01Edits call_spec_l01Edits (fun x => by kernel_rfl)
theorem fun_spec_l07Wish : Tryz.prog.funcs[220]? = some Tryz.f220 := by kernel_rfl
theorem call_spec_l07Wish : Fw.Callable Tryz.prog 220 := Fw.callable_of fun_spec_l07Wish (by kernel_rfl) (by kernel_rfl)
theorem pf_spec_l07Wish : Fw.PFn.of Tryz.f220 = some Sg.f_spec_l07Wish := Fw.PFn.of_get (by kernel_rfl)
theorem ok_spec_l07Wish (K : Nat) : Fw.Ok Tryz.prog 220 (Sg.s_spec_l07Wish K) := Fw.funP_ok (c := Sg.c_spec_l07Wish K) (pi := Sg.i_spec_l07Wish) (depth := 6) (Fw.cfgP_ok (pi := Sg.i_spec_l07Wish) Sg.tabOK Sg.eqsOK Sg.mixOK ⟨ok_spec_l01In K, ok_spec_l00Word K, ok_spec_l01Edits K, trivial⟩ trivial trivial pf_spec_l07Wish trivial rfl) trivial pf_spec_l07Wish fun_spec_l07Wish call_spec_l07Wish (fun x => by kernel_rfl)
theorem fun_spec_l07Wishes : Tryz.prog.funcs[146]? = some Tryz.f146 := by kernel_rfl
theorem call_spec_l07Wishes : Fw.Callable Tryz.prog 146 := Fw.callable_of fun_spec_l07Wishes (by kernel_rfl) (by kernel_rfl)
theorem pf_spec_l07Wishes : Fw.PFn.of Tryz.f146 = some Sg.f_spec_l07Wishes := Fw.PFn.of_get (by kernel_rfl)
theorem l_spec_l07Wishes_0 (K : Nat) : Fw.LoopP (Sg.c_spec_l07Wishes K) Sg.i_spec_l07Wishes Sg.f_spec_l07Wishes (Sg.p_spec_l07Wishes_0 K) := ⟨fun _ => by kernel_rfl, fun n p => by kernel_rfl⟩
theorem ok_spec_l07Wishes (K : Nat) : Fw.Ok Tryz.prog 146 (Sg.s_spec_l07Wishes K) := Fw.funP_ok (c := Sg.c_spec_l07Wishes K) (pi := Sg.i_spec_l07Wishes) (depth := 6) (Fw.cfgP_ok (pi := Sg.i_spec_l07Wishes) Sg.tabOK Sg.eqsOK Sg.mixOK ⟨ok_spec_l07Wish K, trivial⟩ trivial trivial pf_spec_l07Wishes ⟨⟨_, rfl, l_spec_l07Wishes_0 K⟩, trivial⟩ rfl) trivial pf_spec_l07Wishes fun_spec_l07Wishes call_spec_l07Wishes (fun x => by kernel_rfl)
theorem fun_spec_l03Reach : Tryz.prog.funcs[305]? = some Tryz.f305 := by kernel_rfl
theorem call_spec_l03Reach : Fw.Callable Tryz.prog 305 := Fw.callable_of fun_spec_l03Reach (by kernel_rfl) (by kernel_rfl)
theorem pf_spec_l03Reach : Fw.PFn.of Tryz.f305 = some Sg.f_spec_l03Reach := Fw.PFn.of_get (by kernel_rfl)
theorem l_spec_l03Reach_1 (K : Nat) : Fw.LoopP (Sg.c_spec_l03Reach K) Sg.i_spec_l03Reach Sg.f_spec_l03Reach (Sg.p_spec_l03Reach_1 K) := ⟨fun _ => by kernel_rfl, fun n p => by kernel_rfl⟩
theorem l_spec_l03Reach_0 (K : Nat) : Fw.LoopP (Sg.c_spec_l03Reach K) Sg.i_spec_l03Reach Sg.f_spec_l03Reach (Sg.p_spec_l03Reach_0 K) := ⟨fun _ => by kernel_rfl, fun n p => by kernel_rfl⟩
theorem ok_spec_l03Reach (K : Nat) : Fw.Ok Tryz.prog 305 (Sg.s_spec_l03Reach K) := Fw.funP_ok (c := Sg.c_spec_l03Reach K) (pi := Sg.i_spec_l03Reach) (depth := 6) (Fw.cfgP_ok (pi := Sg.i_spec_l03Reach) Sg.tabOK Sg.eqsOK Sg.mixOK trivial trivial trivial pf_spec_l03Reach ⟨⟨_, rfl, l_spec_l03Reach_1 K⟩, ⟨_, rfl, l_spec_l03Reach_0 K⟩, trivial⟩ rfl) trivial pf_spec_l03Reach fun_spec_l03Reach call_spec_l03Reach (fun x => by kernel_rfl)
theorem fun_spec_l03Base : Tryz.prog.funcs[286]? = some Tryz.f286 := by kernel_rfl
theorem call_spec_l03Base : Fw.Callable Tryz.prog 286 := Fw.callable_of fun_spec_l03Base (by kernel_rfl) (by kernel_rfl)
theorem pf_spec_l03Base : Fw.PFn.of Tryz.f286 = some Sg.f_spec_l03Base := Fw.PFn.of_get (by kernel_rfl)
theorem l_spec_l03Base_0 (K : Nat) : Fw.LoopP (Sg.c_spec_l03Base K) Sg.i_spec_l03Base Sg.f_spec_l03Base (Sg.p_spec_l03Base_0 K) := ⟨fun _ => by kernel_rfl, fun n p => by kernel_rfl⟩
theorem ok_spec_l03Base (K : Nat) : Fw.Ok Tryz.prog 286 (Sg.s_spec_l03Base K) := Fw.funP_ok (c := Sg.c_spec_l03Base K) (pi := Sg.i_spec_l03Base) (depth := 6) (Fw.cfgP_ok (pi := Sg.i_spec_l03Base) Sg.tabOK Sg.eqsOK Sg.mixOK ⟨ok_spec_l03Reach K, trivial⟩ trivial trivial pf_spec_l03Base ⟨⟨_, rfl, l_spec_l03Base_0 K⟩, trivial⟩ rfl) trivial pf_spec_l03Base fun_spec_l03Base call_spec_l03Base (fun x => by kernel_rfl)
theorem fun_spec_l05Fail : Tryz.prog.funcs[166]? = some Tryz.f166 := by kernel_rfl
theorem call_spec_l05Fail : Fw.Callable Tryz.prog 166 := Fw.callable_of fun_spec_l05Fail (by kernel_rfl) (by kernel_rfl)
theorem pf_spec_l05Fail : Fw.PFn.of Tryz.f166 = some Sg.f_spec_l05Fail := Fw.PFn.of_get (by kernel_rfl)
theorem ok_spec_l05Fail (K : Nat) : Fw.Ok Tryz.prog 166 (Sg.s_spec_l05Fail K) := Fw.funP_ok (c := Sg.c_spec_l05Fail K) (pi := Sg.i_spec_l05Fail) (depth := 6) (Fw.cfgP_ok (pi := Sg.i_spec_l05Fail) Sg.tabOK Sg.eqsOK Sg.mixOK trivial trivial trivial pf_spec_l05Fail trivial rfl) trivial pf_spec_l05Fail fun_spec_l05Fail call_spec_l05Fail (fun x => by kernel_rfl)
theorem fun_spec_l01Diff : Tryz.prog.funcs[303]? = some Tryz.f303 := by kernel_rfl
theorem call_spec_l01Diff : Fw.Callable Tryz.prog 303 := Fw.callable_of fun_spec_l01Diff (by kernel_rfl) (by kernel_rfl)
theorem pf_spec_l01Diff : Fw.PFn.of Tryz.f303 = some Sg.f_spec_l01Diff := Fw.PFn.of_get (by kernel_rfl)
theorem l_spec_l01Diff_0 (K : Nat) : Fw.LoopP (Sg.c_spec_l01Diff K) Sg.i_spec_l01Diff Sg.f_spec_l01Diff (Sg.p_spec_l01Diff_0 K) := ⟨fun _ => by kernel_rfl, fun n p => by kernel_rfl⟩
theorem ok_spec_l01Diff (K : Nat) : Fw.Ok Tryz.prog 303 (Sg.s_spec_l01Diff K) := Fw.funP_ok (c := Sg.c_spec_l01Diff K) (pi := Sg.i_spec_l01Diff) (depth := 6) (Fw.cfgP_ok (pi := Sg.i_spec_l01Diff) Sg.tabOK Sg.eqsOK Sg.mixOK trivial trivial trivial pf_spec_l01Diff ⟨⟨_, rfl, l_spec_l01Diff_0 K⟩, trivial⟩ rfl) trivial pf_spec_l01Diff fun_spec_l01Diff call_spec_l01Diff (fun x => by kernel_rfl)
theorem fun_spec_l02Find : Tryz.prog.funcs[304]? = some Tryz.f304 := by kernel_rfl
theorem call_spec_l02Find : Fw.Callable Tryz.prog 304 := Fw.callable_of fun_spec_l02Find (by kernel_rfl) (by kernel_rfl)
theorem pf_spec_l02Find : Fw.PFn.of Tryz.f304 = some Sg.f_spec_l02Find := Fw.PFn.of_get (by kernel_rfl)
theorem l_spec_l02Find_0 (K : Nat) : Fw.LoopP (Sg.c_spec_l02Find K) Sg.i_spec_l02Find Sg.f_spec_l02Find (Sg.p_spec_l02Find_0 K) := ⟨fun _ => by kernel_rfl, fun n p => by kernel_rfl⟩
theorem ok_spec_l02Find (K : Nat) : Fw.Ok Tryz.prog 304 (Sg.s_spec_l02Find K) := Fw.funP_ok (c := Sg.c_spec_l02Find K) (pi := Sg.i_spec_l02Find) (depth := 6) (Fw.cfgP_ok (pi := Sg.i_spec_l02Find) Sg.tabOK Sg.eqsOK Sg.mixOK trivial trivial trivial pf_spec_l02Find ⟨⟨_, rfl, l_spec_l02Find_0 K⟩, trivial⟩ rfl) trivial pf_spec_l02Find fun_spec_l02Find call_spec_l02Find (fun x => by kernel_rfl)
theorem fun_spec_l01Remove : Tryz.prog.funcs[301]? = some Tryz.f301 := by kernel_rfl
theorem call_spec_l01Remove : Fw.Callable Tryz.prog 301 := Fw.callable_of fun_spec_l01Remove (by kernel_rfl) (by kernel_rfl)
theorem pf_spec_l01Remove : Fw.PFn.of Tryz.f301 = some Sg.f_spec_l01Remove := Fw.PFn.of_get (by kernel_rfl)
theorem l_spec_l01Remove_0 (K : Nat) : Fw.LoopP (Sg.c_spec_l01Remove K) Sg.i_spec_l01Remove Sg.f_spec_l01Remove (Sg.p_spec_l01Remove_0 K) := ⟨fun _ => by kernel_rfl, fun n p => by kernel_rfl⟩
theorem ok_spec_l01Remove (K : Nat) : Fw.Ok Tryz.prog 301 (Sg.s_spec_l01Remove K) := Fw.funP_ok (c := Sg.c_spec_l01Remove K) (pi := Sg.i_spec_l01Remove) (depth := 6) (Fw.cfgP_ok (pi := Sg.i_spec_l01Remove) Sg.tabOK Sg.eqsOK Sg.mixOK trivial trivial trivial pf_spec_l01Remove ⟨⟨_, rfl, l_spec_l01Remove_0 K⟩, trivial⟩ rfl) trivial pf_spec_l01Remove fun_spec_l01Remove call_spec_l01Remove (fun x => by kernel_rfl)
theorem fun_spec_l01Put : Tryz.prog.funcs[302]? = some Tryz.f302 := by kernel_rfl
theorem call_spec_l01Put : Fw.Callable Tryz.prog 302 := Fw.callable_of fun_spec_l01Put (by kernel_rfl) (by kernel_rfl)
theorem pf_spec_l01Put : Fw.PFn.of Tryz.f302 = some Sg.f_spec_l01Put := Fw.PFn.of_get (by kernel_rfl)
theorem l_spec_l01Put_0 (K : Nat) : Fw.LoopP (Sg.c_spec_l01Put K) Sg.i_spec_l01Put Sg.f_spec_l01Put (Sg.p_spec_l01Put_0 K) := ⟨fun _ => by kernel_rfl, fun n p => by kernel_rfl⟩
theorem ok_spec_l01Put (K : Nat) : Fw.Ok Tryz.prog 302 (Sg.s_spec_l01Put K) := Fw.funP_ok (c := Sg.c_spec_l01Put K) (pi := Sg.i_spec_l01Put) (depth := 6) (Fw.cfgP_ok (pi := Sg.i_spec_l01Put) Sg.tabOK Sg.eqsOK Sg.mixOK trivial trivial trivial pf_spec_l01Put ⟨⟨_, rfl, l_spec_l01Put_0 K⟩, trivial⟩ rfl) trivial pf_spec_l01Put fun_spec_l01Put call_spec_l01Put (fun x => by kernel_rfl)
theorem fun_spec_l01Apply : Tryz.prog.funcs[283]? = some Tryz.f283 := by kernel_rfl
theorem call_spec_l01Apply : Fw.Callable Tryz.prog 283 := Fw.callable_of fun_spec_l01Apply (by kernel_rfl) (by kernel_rfl)
theorem pf_spec_l01Apply : Fw.PFn.of Tryz.f283 = some Sg.f_spec_l01Apply := Fw.PFn.of_get (by kernel_rfl)
theorem l_spec_l01Apply_0 (K : Nat) : Fw.LoopP (Sg.c_spec_l01Apply K) Sg.i_spec_l01Apply Sg.f_spec_l01Apply (Sg.p_spec_l01Apply_0 K) := ⟨fun _ => by kernel_rfl, fun n p => by kernel_rfl⟩
theorem ok_spec_l01Apply (K : Nat) : Fw.Ok Tryz.prog 283 (Sg.s_spec_l01Apply K) := Fw.funP_ok (c := Sg.c_spec_l01Apply K) (pi := Sg.i_spec_l01Apply) (depth := 6) (Fw.cfgP_ok (pi := Sg.i_spec_l01Apply) Sg.tabOK Sg.eqsOK Sg.mixOK ⟨ok_spec_l01Remove K, ok_spec_l01Put K, trivial⟩ trivial trivial pf_spec_l01Apply ⟨⟨_, rfl, l_spec_l01Apply_0 K⟩, trivial⟩ rfl) trivial pf_spec_l01Apply fun_spec_l01Apply call_spec_l01Apply (fun x => by kernel_rfl)
theorem fun_spec_l02Merge : Tryz.prog.funcs[285]? = some Tryz.f285 := by kernel_rfl
theorem call_spec_l02Merge : Fw.Callable Tryz.prog 285 := Fw.callable_of fun_spec_l02Merge (by kernel_rfl) (by kernel_rfl)
theorem pf_spec_l02Merge : Fw.PFn.of Tryz.f285 = some Sg.f_spec_l02Merge := Fw.PFn.of_get (by kernel_rfl)
theorem l_spec_l02Merge_0 (K : Nat) : Fw.LoopP (Sg.c_spec_l02Merge K) Sg.i_spec_l02Merge Sg.f_spec_l02Merge (Sg.p_spec_l02Merge_0 K) := ⟨fun _ => by kernel_rfl, fun n p => by kernel_rfl⟩
theorem ok_spec_l02Merge (K : Nat) : Fw.Ok Tryz.prog 285 (Sg.s_spec_l02Merge K) := Fw.funP_ok (c := Sg.c_spec_l02Merge K) (pi := Sg.i_spec_l02Merge) (depth := 6) (Fw.cfgP_ok (pi := Sg.i_spec_l02Merge) Sg.tabOK Sg.eqsOK Sg.mixOK ⟨ok_spec_l01Diff K, ok_spec_l02Find K, ok_spec_l01Apply K, trivial⟩ trivial trivial pf_spec_l02Merge ⟨⟨_, rfl, l_spec_l02Merge_0 K⟩, trivial⟩ rfl) trivial pf_spec_l02Merge fun_spec_l02Merge call_spec_l02Merge (fun x => by kernel_rfl)
theorem fun_spec_l02Told : Tryz.prog.funcs[284]? = some Tryz.f284 := by kernel_rfl
theorem call_spec_l02Told : Fw.Callable Tryz.prog 284 := Fw.callable_of fun_spec_l02Told (by kernel_rfl) (by kernel_rfl)
theorem pf_spec_l02Told : Fw.PFn.of Tryz.f284 = some Sg.f_spec_l02Told := Fw.PFn.of_get (by kernel_rfl)
theorem ok_spec_l02Told (K : Nat) : Fw.Ok Tryz.prog 284 (Sg.s_spec_l02Told K) := Fw.funP_ok (c := Sg.c_spec_l02Told K) (pi := Sg.i_spec_l02Told) (depth := 6) (Fw.cfgP_ok (pi := Sg.i_spec_l02Told) Sg.tabOK Sg.eqsOK Sg.mixOK trivial trivial trivial pf_spec_l02Told trivial rfl) trivial pf_spec_l02Told fun_spec_l02Told call_spec_l02Told (fun x => by kernel_rfl)
theorem fun_spec_l05Join : Tryz.prog.funcs[243]? = some Tryz.f243 := by kernel_rfl
theorem call_spec_l05Join : Fw.Callable Tryz.prog 243 := Fw.callable_of fun_spec_l05Join (by kernel_rfl) (by kernel_rfl)
theorem pf_spec_l05Join : Fw.PFn.of Tryz.f243 = some Sg.f_spec_l05Join := Fw.PFn.of_get (by kernel_rfl)
theorem ok_spec_l05Join (K : Nat) : Fw.Ok Tryz.prog 243 (Sg.s_spec_l05Join K) := Fw.funP_ok (c := Sg.c_spec_l05Join K) (pi := Sg.i_spec_l05Join) (depth := 6) (Fw.cfgP_ok (pi := Sg.i_spec_l05Join) Sg.tabOK Sg.eqsOK Sg.mixOK ⟨ok_spec_l03Base K, ok_spec_l05Fail K, ok_spec_l02Merge K, ok_spec_l02Told K, trivial⟩ trivial trivial pf_spec_l05Join trivial rfl) trivial pf_spec_l05Join fun_spec_l05Join call_spec_l05Join (fun x => by kernel_rfl)
theorem fun_spec_l01Same : Tryz.prog.funcs[223]? = some Tryz.f223 := by kernel_rfl
theorem call_spec_l01Same : Fw.Callable Tryz.prog 223 := Fw.callable_of fun_spec_l01Same (by kernel_rfl) (by kernel_rfl)
theorem pf_spec_l01Same : Fw.PFn.of Tryz.f223 = some Sg.f_spec_l01Same := Fw.PFn.of_get (by kernel_rfl)
theorem l_spec_l01Same_0 (K : Nat) : Fw.LoopP (Sg.c_spec_l01Same K) Sg.i_spec_l01Same Sg.f_spec_l01Same (Sg.p_spec_l01Same_0 K) := ⟨fun _ => by kernel_rfl, fun n p => by kernel_rfl⟩
theorem ok_spec_l01Same (K : Nat) : Fw.Ok Tryz.prog 223 (Sg.s_spec_l01Same K) := Fw.funP_ok (c := Sg.c_spec_l01Same K) (pi := Sg.i_spec_l01Same) (depth := 6) (Fw.cfgP_ok (pi := Sg.i_spec_l01Same) Sg.tabOK Sg.eqsOK Sg.mixOK trivial trivial trivial pf_spec_l01Same ⟨⟨_, rfl, l_spec_l01Same_0 K⟩, trivial⟩ rfl) trivial pf_spec_l01Same fun_spec_l01Same call_spec_l01Same (fun x => by kernel_rfl)
theorem fun_spec_l05Plan : Tryz.prog.funcs[241]? = some Tryz.f241 := by kernel_rfl
theorem call_spec_l05Plan : Fw.Callable Tryz.prog 241 := Fw.callable_of fun_spec_l05Plan (by kernel_rfl) (by kernel_rfl)
theorem pf_spec_l05Plan : Fw.PFn.of Tryz.f241 = some Sg.f_spec_l05Plan := Fw.PFn.of_get (by kernel_rfl)
theorem ok_spec_l05Plan (K : Nat) : Fw.Ok Tryz.prog 241 (Sg.s_spec_l05Plan K) := Fw.funP_ok (c := Sg.c_spec_l05Plan K) (pi := Sg.i_spec_l05Plan) (depth := 6) (Fw.cfgP_ok (pi := Sg.i_spec_l05Plan) Sg.tabOK Sg.eqsOK Sg.mixOK ⟨ok_spec_l05Fail K, ok_spec_l01Apply K, ok_spec_l02Merge K, ok_spec_l02Told K, ok_spec_l01Same K, trivial⟩ trivial trivial pf_spec_l05Plan trivial rfl) trivial pf_spec_l05Plan fun_spec_l05Plan call_spec_l05Plan (fun x => by kernel_rfl)
theorem fun_spec_l07Plan : Tryz.prog.funcs[221]? = some Tryz.f221 := by kernel_rfl
theorem call_spec_l07Plan : Fw.Callable Tryz.prog 221 := Fw.callable_of fun_spec_l07Plan (by kernel_rfl) (by kernel_rfl)
theorem pf_spec_l07Plan : Fw.PFn.of Tryz.f221 = some Sg.f_spec_l07Plan := Fw.PFn.of_get (by kernel_rfl)
theorem ok_spec_l07Plan (K : Nat) : Fw.Ok Tryz.prog 221 (Sg.s_spec_l07Plan K) := Fw.funP_ok (c := Sg.c_spec_l07Plan K) (pi := Sg.i_spec_l07Plan) (depth := 6) (Fw.cfgP_ok (pi := Sg.i_spec_l07Plan) Sg.tabOK Sg.eqsOK Sg.mixOK ⟨ok_spec_l05Join K, ok_spec_l05Plan K, trivial⟩ trivial trivial pf_spec_l07Plan trivial rfl) trivial pf_spec_l07Plan fun_spec_l07Plan call_spec_l07Plan (fun x => by kernel_rfl)
theorem fun_spec_l07Fast : Tryz.prog.funcs[222]? = some Tryz.f222 := by kernel_rfl
theorem call_spec_l07Fast : Fw.Callable Tryz.prog 222 := Fw.callable_of fun_spec_l07Fast (by kernel_rfl) (by kernel_rfl)
theorem pf_spec_l07Fast : Fw.PFn.of Tryz.f222 = some Sg.f_spec_l07Fast := Fw.PFn.of_get (by kernel_rfl)
theorem ok_spec_l07Fast (K : Nat) : Fw.Ok Tryz.prog 222 (Sg.s_spec_l07Fast K) := Fw.funP_ok (c := Sg.c_spec_l07Fast K) (pi := Sg.i_spec_l07Fast) (depth := 6) (Fw.cfgP_ok (pi := Sg.i_spec_l07Fast) Sg.tabOK Sg.eqsOK Sg.mixOK trivial trivial trivial pf_spec_l07Fast trivial rfl) trivial pf_spec_l07Fast fun_spec_l07Fast call_spec_l07Fast (fun x => by kernel_rfl)
theorem fun_spec_l07Phase : Tryz.prog.funcs[147]? = some Tryz.f147 := by kernel_rfl
theorem call_spec_l07Phase : Fw.Callable Tryz.prog 147 := Fw.callable_of fun_spec_l07Phase (by kernel_rfl) (by kernel_rfl)
theorem pf_spec_l07Phase : Fw.PFn.of Tryz.f147 = some Sg.f_spec_l07Phase := Fw.PFn.of_get (by kernel_rfl)
theorem ok_spec_l07Phase (K : Nat) : Fw.Ok Tryz.prog 147 (Sg.s_spec_l07Phase K) := Fw.funP_ok (c := Sg.c_spec_l07Phase K) (pi := Sg.i_spec_l07Phase) (depth := 6) (Fw.cfgP_ok (pi := Sg.i_spec_l07Phase) Sg.tabOK Sg.eqsOK Sg.mixOK ⟨ok_spec_l01In K, ok_spec_l01Same K, ok_spec_l07Plan K, ok_spec_l07Fast K, trivial⟩ trivial trivial pf_spec_l07Phase trivial rfl) trivial pf_spec_l07Phase fun_spec_l07Phase call_spec_l07Phase (fun x => by kernel_rfl)
theorem fun_spec_l07OK : Tryz.prog.funcs[74]? = some Tryz.f74 := by kernel_rfl
theorem call_spec_l07OK : Fw.Callable Tryz.prog 74 := Fw.callable_of fun_spec_l07OK (by kernel_rfl) (by kernel_rfl)
theorem pf_spec_l07OK : Fw.PFn.of Tryz.f74 = some Sg.f_spec_l07OK := Fw.PFn.of_get (by kernel_rfl)
theorem ok_spec_l07OK (K : Nat) : Fw.Ok Tryz.prog 74 (Sg.s_spec_l07OK K) := Fw.funP_ok (c := Sg.c_spec_l07OK K) (pi := Sg.i_spec_l07OK) (depth := 6) (Fw.cfgP_ok (pi := Sg.i_spec_l07OK) Sg.tabOK Sg.eqsOK Sg.mixOK ⟨ok_spec_l01In K, ok_spec_l07Wishes K, ok_spec_l07Phase K, trivial⟩ trivial trivial pf_spec_l07OK trivial rfl) trivial pf_spec_l07OK fun_spec_l07OK call_spec_l07OK (fun x => by kernel_rfl)
theorem fun_spec_ClientOK : Tryz.prog.funcs[17]? = some Tryz.f17 := by kernel_rfl
theorem call_spec_ClientOK : Fw.Callable Tryz.prog 17 := Fw.callable_of fun_spec_ClientOK (by kernel_rfl) (by kernel_rfl)
theorem pf_spec_ClientOK : Fw.PFn.of Tryz.f17 = some Sg.f_spec_ClientOK := Fw.PFn.of_get (by kernel_rfl)
theorem ok_spec_ClientOK (K : Nat) : Fw.Ok Tryz.prog 17 (Sg.s_spec_ClientOK K) := Fw.funP_ok (c := Sg.c_spec_ClientOK K) (pi := Sg.i_spec_ClientOK) (depth := 6) (Fw.cfgP_ok (pi := Sg.i_spec_ClientOK) Sg.tabOK Sg.eqsOK Sg.mixOK ⟨ok_spec_l05OK K, ok_spec_l07OK K, trivial⟩ trivial trivial pf_spec_ClientOK trivial rfl) trivial pf_spec_ClientOK fun_spec_ClientOK call_spec_ClientOK (fun x => by kernel_rfl)
theorem fun_impl_isList_impl_Commit : Tryz.prog.funcs[225]? = some Tryz.f225 := by kernel_rfl
theorem call_impl_isList_impl_Commit : Fw.Callable Tryz.prog 225 := Fw.callable_of fun_impl_isList_impl_Commit (by kernel_rfl) (by kernel_rfl)
theorem pf_impl_isList_impl_Commit : Fw.PFn.of Tryz.f225 = some Sg.f_impl_isList_impl_Commit := Fw.PFn.of_get (by kernel_rfl)
theorem ok_impl_isList_impl_Commit (K : Nat) : Fw.Ok Tryz.prog 225 (Sg.s_impl_isList_impl_Commit K) := Fw.funP_ok (c := Sg.c_impl_isList_impl_Commit K) (pi := Sg.i_impl_isList_impl_Commit) (depth := 6) (Fw.cfgP_ok (pi := Sg.i_impl_isList_impl_Commit) Sg.tabOK Sg.eqsOK Sg.mixOK trivial trivial trivial pf_impl_isList_impl_Commit trivial rfl) trivial pf_impl_isList_impl_Commit fun_impl_isList_impl_Commit call_impl_isList_impl_Commit (fun x => by kernel_rfl)
theorem fun_impl_within : Tryz.prog.funcs[113]? = some Tryz.f113 := by kernel_rfl
theorem call_impl_within : Fw.Callable Tryz.prog 113 := Fw.callable_of fun_impl_within (by kernel_rfl) (by kernel_rfl)
theorem pf_impl_within : Fw.PFn.of Tryz.f113 = some Sg.f_impl_within := Fw.PFn.of_get (by kernel_rfl)
theorem ok_impl_within (K : Nat) : Fw.Ok Tryz.prog 113 (Sg.s_impl_within K) := Fw.funP_ok (c := Sg.c_impl_within K) (pi := Sg.i_impl_within) (depth := 6) (Fw.cfgP_ok (pi := Sg.i_impl_within) Sg.tabOK Sg.eqsOK Sg.mixOK trivial trivial trivial pf_impl_within trivial rfl) trivial pf_impl_within fun_impl_within call_impl_within (fun x => by kernel_rfl)
theorem fun_impl_isLetter : Tryz.prog.funcs[247]? = some Tryz.f247 := by kernel_rfl
theorem call_impl_isLetter : Fw.Callable Tryz.prog 247 := Fw.callable_of fun_impl_isLetter (by kernel_rfl) (by kernel_rfl)
theorem pf_impl_isLetter : Fw.PFn.of Tryz.f247 = some Sg.f_impl_isLetter := Fw.PFn.of_get (by kernel_rfl)
theorem ok_impl_isLetter (K : Nat) : Fw.Ok Tryz.prog 247 (Sg.s_impl_isLetter K) := Fw.funP_ok (c := Sg.c_impl_isLetter K) (pi := Sg.i_impl_isLetter) (depth := 6) (Fw.cfgP_ok (pi := Sg.i_impl_isLetter) Sg.tabOK Sg.eqsOK Sg.mixOK trivial trivial trivial pf_impl_isLetter trivial rfl) trivial pf_impl_isLetter fun_impl_isLetter call_impl_isLetter (fun x => by kernel_rfl)
theorem fun_impl_areAll_byte_1 : Tryz.prog.funcs[288]? = some Tryz.f288 := by kernel_rfl
theorem call_impl_areAll_byte_1 : Fw.Callable Tryz.prog 288 := Fw.callable_of fun_impl_areAll_byte_1 (by kernel_rfl) (by kernel_rfl)
theorem pf_impl_areAll_byte_1 : Fw.PFn.of Tryz.f288 = some Sg.f_impl_areAll_byte_1 := Fw.PFn.of_get (by kernel_rfl)
theorem fun_slices_IndexFunc_byte : Tryz.prog.funcs[306]? = some Tryz.f306 := by kernel_rfl
theorem call_slices_IndexFunc_byte : Fw.Callable Tryz.prog 306 := Fw.callable_of fun_slices_IndexFunc_byte (by kernel_rfl) (by kernel_rfl)
theorem pf_slices_IndexFunc_byte : Fw.PFn.of Tryz.f306 = some Sg.f_slices_IndexFunc_byte := Fw.PFn.of_get (by kernel_rfl)
theorem fun_slices_ContainsFunc_byte : Tryz.prog.funcs[287]? = some Tryz.f287 := by kernel_rfl
theorem call_slices_ContainsFunc_byte : Fw.Callable Tryz.prog 287 := Fw.callable_of fun_slices_ContainsFunc_byte (by kernel_rfl) (by kernel_rfl)
theorem pf_slices_ContainsFunc_byte : Fw.PFn.of Tryz.f287 = some Sg.f_slices_ContainsFunc_byte := Fw.PFn.of_get (by kernel_rfl)
theorem fun_impl_areAll_byte : Tryz.prog.funcs[248]? = some Tryz.f248 := by kernel_rfl
theorem call_impl_areAll_byte : Fw.Callable Tryz.prog 248 := Fw.callable_of fun_impl_areAll_byte (by kernel_rfl) (by kernel_rfl)
theorem pf_impl_areAll_byte : Fw.PFn.of Tryz.f248 = some Sg.f_impl_areAll_byte := Fw.PFn.of_get (by kernel_rfl)
theorem fun_impl_isDigit : Tryz.prog.funcs[250]? = some Tryz.f250 := by kernel_rfl
theorem call_impl_isDigit : Fw.Callable Tryz.prog 250 := Fw.callable_of fun_impl_isDigit (by kernel_rfl) (by kernel_rfl)
theorem pf_impl_isDigit : Fw.PFn.of Tryz.f250 = some Sg.f_impl_isDigit := Fw.PFn.of_get (by kernel_rfl)
theorem ok_impl_isDigit (K : Nat) : Fw.Ok Tryz.prog 250 (Sg.s_impl_isDigit K) := Fw.funP_ok (c := Sg.c_impl_isDigit K) (pi := Sg.i_impl_isDigit) (depth := 6) (Fw.cfgP_ok (pi := Sg.i_impl_isDigit) Sg.tabOK Sg.eqsOK Sg.mixOK trivial trivial trivial pf_impl_isDigit trivial rfl) trivial pf_impl_isDigit fun_impl_isDigit call_impl_isDigit (fun x => by kernel_rfl)
theorem fun_impl_NameOK_1 : Tryz.prog.funcs[249]? = some Tryz.f249 := by kernel_rfl
theorem call_impl_NameOK_1 : Fw.Callable Tryz.prog 249 := Fw.callable_of fun_impl_NameOK_1 (by kernel_rfl) (by kernel_rfl)
theorem pf_impl_NameOK_1 : Fw.PFn.of Tryz.f249 = some Sg.f_impl_NameOK_1 := Fw.PFn.of_get (by kernel_rfl)
theorem ok_impl_NameOK_1 (K : Nat) : Fw.Ok Tryz.prog 249 (Sg.s_impl_NameOK_1 K) := Fw.funP_ok (c := Sg.c_impl_NameOK_1 K) (pi := Sg.i_impl_NameOK_1) (depth := 6) (Fw.cfgP_ok (pi := Sg.i_impl_NameOK_1) Sg.tabOK Sg.eqsOK Sg.mixOK ⟨ok_impl_isLetter K, ok_impl_isDigit K, trivial⟩ trivial trivial pf_impl_NameOK_1 trivial rfl) trivial pf_impl_NameOK_1 fun_impl_NameOK_1 call_impl_NameOK_1 (fun x => by kernel_rfl)
theorem l_impl_areAll_byte__impl_NameOK_1_0 (K : Nat) : Fw.LoopP (Sg.c_impl_areAll_byte__impl_NameOK_1 K) Sg.i_impl_areAll_byte__impl_NameOK_1 Sg.f_slices_IndexFunc_byte (Sg.p_impl_areAll_byte__impl_NameOK_1_0 K) := ⟨fun _ => by kernel_rfl, fun n p => by kernel_rfl⟩
theorem ok_impl_areAll_byte__impl_NameOK_1 (K : Nat) : Fw.Ok Tryz.prog 248 (Sg.s_impl_areAll_byte__impl_NameOK_1 K) := Fw.funP_ok (c := Sg.c_impl_areAll_byte__impl_NameOK_1 K) (pi := Sg.i_impl_areAll_byte__impl_NameOK_1) (depth := 6) (Fw.cfgP_ok (pi := Sg.i_impl_areAll_byte__impl_NameOK_1) Sg.tabOK Sg.eqsOK Sg.mixOK ⟨ok_impl_NameOK_1 K, trivial⟩ ⟨⟨fun_impl_areAll_byte_1, call_impl_areAll_byte_1⟩, ⟨fun_slices_IndexFunc_byte, call_slices_IndexFunc_byte⟩, ⟨fun_slices_ContainsFunc_byte, call_slices_ContainsFunc_byte⟩, trivial⟩ ⟨⟨rfl, pf_impl_areAll_byte_1⟩, ⟨rfl, pf_slices_IndexFunc_byte⟩, ⟨rfl, pf_slices_ContainsFunc_byte⟩, trivial⟩ pf_impl_areAll_byte ⟨⟨_, rfl, l_impl_areAll_byte__impl_NameOK_1_0 K⟩, trivial⟩ rfl) ⟨⟨rfl, pf_impl_areAll_byte_1⟩, ⟨rfl, pf_slices_IndexFunc_byte⟩, ⟨rfl, pf_slices_ContainsFunc_byte⟩, trivial⟩ pf_impl_areAll_byte fun_impl_areAll_byte call_impl_areAll_byte (fun x => by kernel_rfl)
theorem fun_impl_NameOK : Tryz.prog.funcs[175]? = some Tryz.f175 := by kernel_rfl
theorem call_impl_NameOK : Fw.Callable Tryz.prog 175 := Fw.callable_of fun_impl_NameOK (by kernel_rfl) (by kernel_rfl)
theorem pf_impl_NameOK : Fw.PFn.of Tryz.f175 = some Sg.f_impl_NameOK := Fw.PFn.of_get (by kernel_rfl)
theorem ok_impl_NameOK (K : Nat) : Fw.Ok Tryz.prog 175 (Sg.s_impl_NameOK K) := Fw.funP_ok (c := Sg.c_impl_NameOK K) (pi := Sg.i_impl_NameOK) (depth := 6) (Fw.cfgP_ok (pi := Sg.i_impl_NameOK) Sg.tabOK Sg.eqsOK Sg.mixOK ⟨ok_impl_within K, ok_impl_isLetter K, ok_impl_NameOK_1 K, ok_impl_areAll_byte__impl_NameOK_1 K, trivial⟩ ⟨⟨fun_impl_areAll_byte_1, call_impl_areAll_byte_1⟩, ⟨fun_slices_IndexFunc_byte, call_slices_IndexFunc_byte⟩, ⟨fun_slices_ContainsFunc_byte, call_slices_ContainsFunc_byte⟩, ⟨fun_impl_areAll_byte, call_impl_areAll_byte⟩, trivial⟩ ⟨⟨rfl, pf_impl_areAll_byte_1⟩, ⟨rfl, pf_slices_IndexFunc_byte⟩, ⟨rfl, pf_slices_ContainsFunc_byte⟩, ⟨rfl, pf_impl_areAll_byte⟩, trivial⟩ pf_impl_NameOK trivial rfl) ⟨⟨rfl, pf_impl_areAll_byte_1⟩, ⟨rfl, pf_slices_IndexFunc_byte⟩, ⟨rfl, pf_slices_ContainsFunc_byte⟩, ⟨rfl, pf_impl_areAll_byte⟩, trivial⟩ pf_impl_NameOK fun_impl_NameOK call_impl_NameOK (fun x => by kernel_rfl)
theorem fun_impl_isValue : Tryz.prog.funcs[251]? = some Tryz.f251 := by kernel_rfl
theorem call_impl_isValue : Fw.Callable Tryz.prog 251 := Fw.callable_of fun_impl_isValue (by kernel_rfl) (by kernel_rfl)
theorem pf_impl_isValue : Fw.PFn.of Tryz.f251 = some Sg.f_impl_isValue := Fw.PFn.of_get (by kernel_rfl)
theorem ok_impl_isValue (K : Nat) : Fw.Ok Tryz.prog 251 (Sg.s_impl_isValue K) := Fw.funP_ok (c := Sg.c_impl_isValue K) (pi := Sg.i_impl_isValue) (depth := 6) (Fw.cfgP_ok (pi := Sg.i_impl_isValue) Sg.tabOK Sg.eqsOK Sg.mixOK ⟨ok_impl_within K, trivial⟩ trivial trivial pf_impl_isValue trivial rfl) trivial pf_impl_isValue fun_impl_isValue call_impl_isValue (fun x => by kernel_rfl)
theorem fun_impl_MapOK : Tryz.prog.funcs[263]? = some Tryz.f263 := by kernel_rfl
theorem call_impl_MapOK : Fw.Callable Tryz.prog 263 := Fw.callable_of fun_impl_MapOK (by kernel_rfl) (by kernel_rfl)
theorem pf_impl_MapOK : Fw.PFn.of Tryz.f263 = some Sg.f_impl_MapOK := Fw.PFn.of_get (by kernel_rfl)
theorem l_impl_MapOK_0 (K : Nat) : Fw.LoopP (Sg.c_impl_MapOK K) Sg.i_impl_MapOK Sg.f_impl_MapOK (Sg.p_impl_MapOK_0 K) := ⟨fun _ => by kernel_rfl, fun n p => by kernel_rfl⟩
theorem ok_impl_MapOK (K : Nat) : Fw.Ok Tryz.prog 263 (Sg.s_impl_MapOK K) := Fw.funP_ok (c := Sg.c_impl_MapOK K) (pi := Sg.i_impl_MapOK) (depth := 6) (Fw.cfgP_ok (pi := Sg.i_impl_MapOK) Sg.tabOK Sg.eqsOK Sg.mixOK ⟨ok_impl_NameOK K, ok_impl_isValue K, trivial⟩ trivial trivial pf_impl_MapOK ⟨⟨_, rfl, l_impl_MapOK_0 K⟩, trivial⟩ rfl) trivial pf_impl_MapOK fun_impl_MapOK call_impl_MapOK (fun x => by kernel_rfl)
theorem fun_impl_Commit_isAt_1 : Tryz.prog.funcs[296]? = some Tryz.f296 := by kernel_rfl
theorem call_impl_Commit_isAt_1 : Fw.Callable Tryz.prog 296 := Fw.callable_of fun_impl_Commit_isAt_1 (by kernel_rfl) (by kernel_rfl)
theorem pf_impl_Commit_isAt_1 : Fw.PFn.of Tryz.f296 = some Sg.f_impl_Commit_isAt_1 := Fw.PFn.of_get (by kernel_rfl)
theorem fun_impl_areAll_int_1 : Tryz.prog.funcs[309]? = some Tryz.f309 := by kernel_rfl
theorem call_impl_areAll_int_1 : Fw.Callable Tryz.prog 309 := Fw.callable_of fun_impl_areAll_int_1 (by kernel_rfl) (by kernel_rfl)
theorem pf_impl_areAll_int_1 : Fw.PFn.of Tryz.f309 = some Sg.f_impl_areAll_int_1 := Fw.PFn.of_get (by kernel_rfl)
theorem fun_slices_IndexFunc_int : Tryz.prog.funcs[313]? = some Tryz.f313 := by kernel_rfl
theorem call_slices_IndexFunc_int : Fw.Callable Tryz.prog 313 := Fw.callable_of fun_slices_IndexFunc_int (by kernel_rfl) (by kernel_rfl)
theorem pf_slices_IndexFunc_int : Fw.PFn.of Tryz.f313 = some Sg.f_slices_IndexFunc_int := Fw.PFn.of_get (by kernel_rfl)
theorem fun_slices_ContainsFunc_int : Tryz.prog.funcs[308]? = some Tryz.f308 := by kernel_rfl
theorem call_slices_ContainsFunc_int : Fw.Callable Tryz.prog 308 := Fw.callable_of fun_slices_ContainsFunc_int (by kernel_rfl) (by kernel_rfl)
theorem pf_slices_ContainsFunc_int : Fw.PFn.of Tryz.f308 = some Sg.f_slices_ContainsFunc_int := Fw.PFn.of_get (by kernel_rfl)
theorem fun_impl_areAll_int : Tryz.prog.funcs[295]? = some Tryz.f295 := by kernel_rfl
theorem call_impl_areAll_int : Fw.Callable Tryz.prog 295 := Fw.callable_of fun_impl_areAll_int (by kernel_rfl) (by kernel_rfl)
theorem pf_impl_areAll_int : Fw.PFn.of Tryz.f295 = some Sg.f_impl_areAll_int := Fw.PFn.of_get (by kernel_rfl)
theorem l_impl_areAll_int__impl_Commit_isAt_1_0 (K : Nat) : Fw.LoopP (Sg.c_impl_areAll_int__impl_Commit_isAt_1 K) Sg.i_impl_areAll_int__impl_Commit_isAt_1 Sg.f_slices_IndexFunc_int (Sg.p_impl_areAll_int__impl_Commit_isAt_1_0 K) := ⟨fun _ => by kernel_rfl, fun n p => by kernel_rfl⟩
theorem ok_impl_areAll_int__impl_Commit_isAt_1 (K : Nat) : Fw.Ok Tryz.prog 295 (Sg.s_impl_areAll_int__impl_Commit_isAt_1 K) := Fw.funP_ok (c := Sg.c_impl_areAll_int__impl_Commit_isAt_1 K) (pi := Sg.i_impl_areAll_int__impl_Commit_isAt_1) (depth := 6) (Fw.cfgP_ok (pi := Sg.i_impl_areAll_int__impl_Commit_isAt_1) Sg.tabOK Sg.eqsOK Sg.mixOK ⟨ok_impl_within K, trivial⟩ ⟨⟨fun_impl_Commit_isAt_1, call_impl_Commit_isAt_1⟩, ⟨fun_impl_areAll_int_1, call_impl_areAll_int_1⟩, ⟨fun_slices_IndexFunc_int, call_slices_IndexFunc_int⟩, ⟨fun_slices_ContainsFunc_int, call_slices_ContainsFunc_int⟩, trivial⟩ ⟨⟨rfl, pf_impl_Commit_isAt_1⟩, ⟨rfl, pf_impl_areAll_int_1⟩, ⟨rfl, pf_slices_IndexFunc_int⟩, ⟨rfl, pf_slices_ContainsFunc_int⟩, trivial⟩ pf_impl_areAll_int ⟨⟨_, rfl, l_impl_areAll_int__impl_Commit_isAt_1_0 K⟩, trivial⟩ rfl) ⟨⟨rfl, pf_impl_Commit_isAt_1⟩, ⟨rfl, pf_impl_areAll_int_1⟩, ⟨rfl, pf_slices_IndexFunc_int⟩, ⟨rfl, pf_slices_ContainsFunc_int⟩, trivial⟩ pf_impl_areAll_int fun_impl_areAll_int call_impl_areAll_int (fun x => by kernel_rfl)
theorem fun_impl_Commit_isAt : Tryz.prog.funcs[276]? = some Tryz.f276 := by kernel_rfl
theorem call_impl_Commit_isAt : Fw.Callable Tryz.prog 276 := Fw.callable_of fun_impl_Commit_isAt (by kernel_rfl) (by kernel_rfl)
theorem pf_impl_Commit_isAt : Fw.PFn.of Tryz.f276 = some Sg.f_impl_Commit_isAt := Fw.PFn.of_get (by kernel_rfl)
theorem ok_impl_Commit_isAt (K : Nat) : Fw.Ok Tryz.prog 276 (Sg.s_impl_Commit_isAt K) := Fw.funP_ok (c := Sg.c_impl_Commit_isAt K) (pi := Sg.i_impl_Commit_isAt) (depth := 6) (Fw.cfgP_ok (pi := Sg.i_impl_Commit_isAt) Sg.tabOK Sg.eqsOK Sg.mixOK ⟨ok_impl_within K, ok_impl_MapOK K, ok_impl_areAll_int__impl_Commit_isAt_1 K, trivial⟩ ⟨⟨fun_impl_Commit_isAt_1, call_impl_Commit_isAt_1⟩, ⟨fun_impl_areAll_int_1, call_impl_areAll_int_1⟩, ⟨fun_slices_IndexFunc_int, call_slices_IndexFunc_int⟩, ⟨fun_slices_ContainsFunc_int, call_slices_ContainsFunc_int⟩, ⟨fun_impl_areAll_int, call_impl_areAll_int⟩, trivial⟩ ⟨⟨rfl, pf_impl_Commit_isAt_1⟩, ⟨rfl, pf_impl_areAll_int_1⟩, ⟨rfl, pf_slices_IndexFunc_int⟩, ⟨rfl, pf_slices_ContainsFunc_int⟩, ⟨rfl, pf_impl_areAll_int⟩, trivial⟩ pf_impl_Commit_isAt trivial rfl) ⟨⟨rfl, pf_impl_Commit_isAt_1⟩, ⟨rfl, pf_impl_areAll_int_1⟩, ⟨rfl, pf_slices_IndexFunc_int⟩, ⟨rfl, pf_slices_ContainsFunc_int⟩, ⟨rfl, pf_impl_areAll_int⟩, trivial⟩ pf_impl_Commit_isAt fun_impl_Commit_isAt call_impl_Commit_isAt (fun x => by kernel_rfl)
theorem fun_impl_areCommits : Tryz.prog.funcs[226]? = some Tryz.f226 := by kernel_rfl
theorem call_impl_areCommits : Fw.Callable Tryz.prog 226 := Fw.callable_of fun_impl_areCommits (by kernel_rfl) (by kernel_rfl)
theorem pf_impl_areCommits : Fw.PFn.of Tryz.f226 = some Sg.f_impl_areCommits := Fw.PFn.of_get (by kernel_rfl)
theorem l_impl_areCommits_0 (K : Nat) : Fw.LoopP (Sg.c_impl_areCommits K) Sg.i_impl_areCommits Sg.f_impl_areCommits (Sg.p_impl_areCommits_0 K) := ⟨fun _ => by kernel_rfl, fun n p => by kernel_rfl⟩
theorem ok_impl_areCommits (K : Nat) : Fw.Ok Tryz.prog 226 (Sg.s_impl_areCommits K) := Fw.funP_ok (c := Sg.c_impl_areCommits K) (pi := Sg.i_impl_areCommits) (depth := 6) (Fw.cfgP_ok (pi := Sg.i_impl_areCommits) Sg.tabOK Sg.eqsOK Sg.mixOK ⟨ok_impl_Commit_isAt K, trivial⟩ trivial trivial pf_impl_areCommits ⟨⟨_, rfl, l_impl_areCommits_0 K⟩, trivial⟩ rfl) trivial pf_impl_areCommits fun_impl_areCommits call_impl_areCommits (fun x => by kernel_rfl)
theorem fun_impl_StoreOK : Tryz.prog.funcs[152]? = some Tryz.f152 := by kernel_rfl
theorem call_impl_StoreOK : Fw.Callable Tryz.prog 152 := Fw.callable_of fun_impl_StoreOK (by kernel_rfl) (by kernel_rfl)
theorem pf_impl_StoreOK : Fw.PFn.of Tryz.f152 = some Sg.f_impl_StoreOK := Fw.PFn.of_get (by kernel_rfl)
theorem ok_impl_StoreOK (K : Nat) : Fw.Ok Tryz.prog 152 (Sg.s_impl_StoreOK K) := Fw.funP_ok (c := Sg.c_impl_StoreOK K) (pi := Sg.i_impl_StoreOK) (depth := 6) (Fw.cfgP_ok (pi := Sg.i_impl_StoreOK) Sg.tabOK Sg.eqsOK Sg.mixOK ⟨ok_impl_isList_impl_Commit K, ok_impl_areCommits K, trivial⟩ trivial trivial pf_impl_StoreOK trivial rfl) trivial pf_impl_StoreOK fun_impl_StoreOK call_impl_StoreOK (fun x => by kernel_rfl)
theorem fun_impl_areAll_impl_Ref_1 : Tryz.prog.funcs[229]? = some Tryz.f229 := by kernel_rfl
theorem call_impl_areAll_impl_Ref_1 : Fw.Callable Tryz.prog 229 := Fw.callable_of fun_impl_areAll_impl_Ref_1 (by kernel_rfl) (by kernel_rfl)
theorem pf_impl_areAll_impl_Ref_1 : Fw.PFn.of Tryz.f229 = some Sg.f_impl_areAll_impl_Ref_1 := Fw.PFn.of_get (by kernel_rfl)
theorem fun_slices_IndexFunc_impl_Ref : Tryz.prog.funcs[268]? = some Tryz.f268 := by kernel_rfl
theorem call_slices_IndexFunc_impl_Ref : Fw.Callable Tryz.prog 268 := Fw.callable_of fun_slices_IndexFunc_impl_Ref (by kernel_rfl) (by kernel_rfl)
theorem pf_slices_IndexFunc_impl_Ref : Fw.PFn.of Tryz.f268 = some Sg.f_slices_IndexFunc_impl_Ref := Fw.PFn.of_get (by kernel_rfl)
theorem fun_slices_ContainsFunc_impl_Ref : Tryz.prog.funcs[228]? = some Tryz.f228 := by kernel_rfl
theorem call_slices_ContainsFunc_impl_Ref : Fw.Callable Tryz.prog 228 := Fw.callable_of fun_slices_ContainsFunc_impl_Ref (by kernel_rfl) (by kernel_rfl)
theorem pf_slices_ContainsFunc_impl_Ref : Fw.PFn.of Tryz.f228 = some Sg.f_slices_ContainsFunc_impl_Ref := Fw.PFn.of_get (by kernel_rfl)
theorem fun_impl_areAll_impl_Ref : Tryz.prog.funcs[154]? = some Tryz.f154 := by kernel_rfl
theorem call_impl_areAll_impl_Ref : Fw.Callable Tryz.prog 154 := Fw.callable_of fun_impl_areAll_impl_Ref (by kernel_rfl) (by kernel_rfl)
theorem pf_impl_areAll_impl_Ref : Fw.PFn.of Tryz.f154 = some Sg.f_impl_areAll_impl_Ref := Fw.PFn.of_get (by kernel_rfl)
theorem fun_impl_isHead : Tryz.prog.funcs[176]? = some Tryz.f176 := by kernel_rfl
theorem call_impl_isHead : Fw.Callable Tryz.prog 176 := Fw.callable_of fun_impl_isHead (by kernel_rfl) (by kernel_rfl)
theorem pf_impl_isHead : Fw.PFn.of Tryz.f176 = some Sg.f_impl_isHead := Fw.PFn.of_get (by kernel_rfl)
theorem ok_impl_isHead (K : Nat) : Fw.Ok Tryz.prog 176 (Sg.s_impl_isHead K) := Fw.funP_ok (c := Sg.c_impl_isHead K) (pi := Sg.i_impl_isHead) (depth := 6) (Fw.cfgP_ok (pi := Sg.i_impl_isHead) Sg.tabOK Sg.eqsOK Sg.mixOK ⟨ok_impl_within K, trivial⟩ trivial trivial pf_impl_isHead trivial rfl) trivial pf_impl_isHead fun_impl_isHead call_impl_isHead (fun x => by kernel_rfl)
theorem fun_impl_isRef : Tryz.prog.funcs[227]? = some Tryz.f227 := by kernel_rfl
theorem call_impl_isRef : Fw.Callable Tryz.prog 227 := Fw.callable_of fun_impl_isRef (by kernel_rfl) (by kernel_rfl)
theorem pf_impl_isRef : Fw.PFn.of Tryz.f227 = some Sg.f_impl_isRef := Fw.PFn.of_get (by kernel_rfl)
theorem ok_impl_isRef (K : Nat) : Fw.Ok Tryz.prog 227 (Sg.s_impl_isRef K) := Fw.funP_ok (c := Sg.c_impl_isRef K) (pi := Sg.i_impl_isRef) (depth := 6) (Fw.cfgP_ok (pi := Sg.i_impl_isRef) Sg.tabOK Sg.eqsOK Sg.mixOK ⟨ok_impl_within K, ok_impl_NameOK K, ok_impl_isHead K, trivial⟩ trivial trivial pf_impl_isRef trivial rfl) trivial pf_impl_isRef fun_impl_isRef call_impl_isRef (fun x => by kernel_rfl)
theorem fun_impl_place_1 : Tryz.prog.funcs[269]? = some Tryz.f269 := by kernel_rfl
theorem call_impl_place_1 : Fw.Callable Tryz.prog 269 := Fw.callable_of fun_impl_place_1 (by kernel_rfl) (by kernel_rfl)
theorem pf_impl_place_1 : Fw.PFn.of Tryz.f269 = some Sg.f_impl_place_1 := Fw.PFn.of_get (by kernel_rfl)
theorem l_slices_IndexFunc_impl_Ref__impl_place_1_0 (K : Nat) : Fw.LoopP (Sg.c_slices_IndexFunc_impl_Ref__impl_place_1 K) Sg.i_slices_IndexFunc_impl_Ref__impl_place_1 Sg.f_slices_IndexFunc_impl_Ref (Sg.p_slices_IndexFunc_impl_Ref__impl_place_1_0 K) := ⟨fun _ => by kernel_rfl, fun n p => by kernel_rfl⟩
theorem ok_slices_IndexFunc_impl_Ref__impl_place_1 (K : Nat) : Fw.Ok Tryz.prog 268 (Sg.s_slices_IndexFunc_impl_Ref__impl_place_1 K) := Fw.funP_ok (c := Sg.c_slices_IndexFunc_impl_Ref__impl_place_1 K) (pi := Sg.i_slices_IndexFunc_impl_Ref__impl_place_1) (depth := 6) (Fw.cfgP_ok (pi := Sg.i_slices_IndexFunc_impl_Ref__impl_place_1) Sg.tabOK Sg.eqsOK Sg.mixOK trivial ⟨⟨fun_impl_place_1, call_impl_place_1⟩, trivial⟩ ⟨⟨rfl, pf_impl_place_1⟩, trivial⟩ pf_slices_IndexFunc_impl_Ref ⟨⟨_, rfl, l_slices_IndexFunc_impl_Ref__impl_place_1_0 K⟩, trivial⟩ rfl) ⟨⟨rfl, pf_impl_place_1⟩, trivial⟩ pf_slices_IndexFunc_impl_Ref fun_slices_IndexFunc_impl_Ref call_slices_IndexFunc_impl_Ref (fun x => by kernel_rfl)
theorem fun_impl_place : Tryz.prog.funcs[207]? = some Tryz.f207 := by kernel_rfl
theorem call_impl_place : Fw.Callable Tryz.prog 207 := Fw.callable_of fun_impl_place (by kernel_rfl) (by kernel_rfl)
theorem pf_impl_place : Fw.PFn.of Tryz.f207 = some Sg.f_impl_place := Fw.PFn.of_get (by kernel_rfl)
theorem ok_impl_place (K : Nat) : Fw.Ok Tryz.prog 207 (Sg.s_impl_place K) := Fw.funP_ok (c := Sg.c_impl_place K) (pi := Sg.i_impl_place) (depth := 6) (Fw.cfgP_ok (pi := Sg.i_impl_place) Sg.tabOK Sg.eqsOK Sg.mixOK ⟨ok_slices_IndexFunc_impl_Ref__impl_place_1 K, trivial⟩ ⟨⟨fun_slices_IndexFunc_impl_Ref, call_slices_IndexFunc_impl_Ref⟩, ⟨fun_impl_place_1, call_impl_place_1⟩, trivial⟩ ⟨⟨rfl, pf_slices_IndexFunc_impl_Ref⟩, ⟨rfl, pf_impl_place_1⟩, trivial⟩ pf_impl_place trivial rfl) ⟨⟨rfl, pf_slices_IndexFunc_impl_Ref⟩, ⟨rfl, pf_impl_place_1⟩, trivial⟩ pf_impl_place fun_impl_place call_impl_place (fun x => by kernel_rfl)
theorem l_impl_areAll_impl_Ref__impl_isRef_0 (K : Nat) : Fw.LoopP (Sg.c_impl_areAll_impl_Ref__impl_isRef K) Sg.i_impl_areAll_impl_Ref__impl_isRef Sg.f_slices_IndexFunc_impl_Ref (Sg.p_impl_areAll_impl_Ref__impl_isRef_0 K) := ⟨fun _ => by kernel_rfl, fun n p => by kernel_rfl⟩
theorem ok_impl_areAll_impl_Ref__impl_isRef (K : Nat) : Fw.Ok Tryz.prog 154 (Sg.s_impl_areAll_impl_Ref__impl_isRef K) := Fw.funP_ok (c := Sg.c_impl_areAll_impl_Ref__impl_isRef K) (pi := Sg.i_impl_areAll_impl_Ref__impl_isRef) (depth := 6) (Fw.cfgP_ok (pi := Sg.i_impl_areAll_impl_Ref__impl_isRef) Sg.tabOK Sg.eqsOK Sg.mixOK ⟨ok_impl_isRef K, trivial⟩ ⟨⟨fun_impl_areAll_impl_Ref_1, call_impl_areAll_impl_Ref_1⟩, ⟨fun_slices_IndexFunc_impl_Ref, call_slices_IndexFunc_impl_Ref⟩, ⟨fun_slices_ContainsFunc_impl_Ref, call_slices_ContainsFunc_impl_Ref⟩, trivial⟩ ⟨⟨rfl, pf_impl_areAll_impl_Ref_1⟩, ⟨rfl, pf_slices_IndexFunc_impl_Ref⟩, ⟨rfl, pf_slices_ContainsFunc_impl_Ref⟩, trivial⟩ pf_impl_areAll_impl_Ref ⟨⟨_, rfl, l_impl_areAll_impl_Ref__impl_isRef_0 K⟩, trivial⟩ rfl) ⟨⟨rfl, pf_impl_areAll_impl_Ref_1⟩, ⟨rfl, pf_slices_IndexFunc_impl_Ref⟩, ⟨rfl, pf_slices_ContainsFunc_impl_Ref⟩, trivial⟩ pf_impl_areAll_impl_Ref fun_impl_areAll_impl_Ref call_impl_areAll_impl_Ref (fun x => by kernel_rfl)
theorem fun_impl_RefsOK : Tryz.prog.funcs[153]? = some Tryz.f153 := by kernel_rfl
theorem call_impl_RefsOK : Fw.Callable Tryz.prog 153 := Fw.callable_of fun_impl_RefsOK (by kernel_rfl) (by kernel_rfl)
theorem pf_impl_RefsOK : Fw.PFn.of Tryz.f153 = some Sg.f_impl_RefsOK := Fw.PFn.of_get (by kernel_rfl)
theorem l_impl_RefsOK_0 (K : Nat) : Fw.LoopP (Sg.c_impl_RefsOK K) Sg.i_impl_RefsOK Sg.f_impl_RefsOK (Sg.p_impl_RefsOK_0 K) := ⟨fun _ => by kernel_rfl, fun n p => by kernel_rfl⟩
theorem ok_impl_RefsOK (K : Nat) : Fw.Ok Tryz.prog 153 (Sg.s_impl_RefsOK K) := Fw.funP_ok (c := Sg.c_impl_RefsOK K) (pi := Sg.i_impl_RefsOK) (depth := 6) (Fw.cfgP_ok (pi := Sg.i_impl_RefsOK) Sg.tabOK Sg.eqsOK Sg.mixOK ⟨ok_impl_isRef K, ok_impl_place K, ok_impl_areAll_impl_Ref__impl_isRef K, trivial⟩ ⟨⟨fun_impl_areAll_impl_Ref_1, call_impl_areAll_impl_Ref_1⟩, ⟨fun_slices_IndexFunc_impl_Ref, call_slices_IndexFunc_impl_Ref⟩, ⟨fun_slices_ContainsFunc_impl_Ref, call_slices_ContainsFunc_impl_Ref⟩, ⟨fun_impl_areAll_impl_Ref, call_impl_areAll_impl_Ref⟩, trivial⟩ ⟨⟨rfl, pf_impl_areAll_impl_Ref_1⟩, ⟨rfl, pf_slices_IndexFunc_impl_Ref⟩, ⟨rfl, pf_slices_ContainsFunc_impl_Ref⟩, ⟨rfl, pf_impl_areAll_impl_Ref⟩, trivial⟩ pf_impl_RefsOK ⟨⟨_, rfl, l_impl_RefsOK_0 K⟩, trivial⟩ rfl) ⟨⟨rfl, pf_impl_areAll_impl_Ref_1⟩, ⟨rfl, pf_slices_IndexFunc_impl_Ref⟩, ⟨rfl, pf_slices_ContainsFunc_impl_Ref⟩, ⟨rfl, pf_impl_areAll_impl_Ref⟩, trivial⟩ pf_impl_RefsOK fun_impl_RefsOK call_impl_RefsOK (fun x => by kernel_rfl)
theorem fun_impl_BaseOK_1 : Tryz.prog.funcs[155]? = some Tryz.f155 := by kernel_rfl
theorem call_impl_BaseOK_1 : Fw.Callable Tryz.prog 155 := Fw.callable_of fun_impl_BaseOK_1 (by kernel_rfl) (by kernel_rfl)
theorem pf_impl_BaseOK_1 : Fw.PFn.of Tryz.f155 = some Sg.f_impl_BaseOK_1 := Fw.PFn.of_get (by kernel_rfl)
theorem l_impl_areAll_impl_Ref__impl_BaseOK_1_0 (K : Nat) : Fw.LoopP (Sg.c_impl_areAll_impl_Ref__impl_BaseOK_1 K) Sg.i_impl_areAll_impl_Ref__impl_BaseOK_1 Sg.f_slices_IndexFunc_impl_Ref (Sg.p_impl_areAll_impl_Ref__impl_BaseOK_1_0 K) := ⟨fun _ => by kernel_rfl, fun n p => by kernel_rfl⟩
theorem ok_impl_areAll_impl_Ref__impl_BaseOK_1 (K : Nat) : Fw.Ok Tryz.prog 154 (Sg.s_impl_areAll_impl_Ref__impl_BaseOK_1 K) := Fw.funP_ok (c := Sg.c_impl_areAll_impl_Ref__impl_BaseOK_1 K) (pi := Sg.i_impl_areAll_impl_Ref__impl_BaseOK_1) (depth := 6) (Fw.cfgP_ok (pi := Sg.i_impl_areAll_impl_Ref__impl_BaseOK_1) Sg.tabOK Sg.eqsOK Sg.mixOK trivial ⟨⟨fun_impl_areAll_impl_Ref_1, call_impl_areAll_impl_Ref_1⟩, ⟨fun_slices_IndexFunc_impl_Ref, call_slices_IndexFunc_impl_Ref⟩, ⟨fun_slices_ContainsFunc_impl_Ref, call_slices_ContainsFunc_impl_Ref⟩, ⟨fun_impl_BaseOK_1, call_impl_BaseOK_1⟩, trivial⟩ ⟨⟨rfl, pf_impl_areAll_impl_Ref_1⟩, ⟨rfl, pf_slices_IndexFunc_impl_Ref⟩, ⟨rfl, pf_slices_ContainsFunc_impl_Ref⟩, ⟨rfl, pf_impl_BaseOK_1⟩, trivial⟩ pf_impl_areAll_impl_Ref ⟨⟨_, rfl, l_impl_areAll_impl_Ref__impl_BaseOK_1_0 K⟩, trivial⟩ rfl) ⟨⟨rfl, pf_impl_areAll_impl_Ref_1⟩, ⟨rfl, pf_slices_IndexFunc_impl_Ref⟩, ⟨rfl, pf_slices_ContainsFunc_impl_Ref⟩, ⟨rfl, pf_impl_BaseOK_1⟩, trivial⟩ pf_impl_areAll_impl_Ref fun_impl_areAll_impl_Ref call_impl_areAll_impl_Ref (fun x => by kernel_rfl)
theorem fun_impl_BaseOK : Tryz.prog.funcs[79]? = some Tryz.f79 := by kernel_rfl
theorem call_impl_BaseOK : Fw.Callable Tryz.prog 79 := Fw.callable_of fun_impl_BaseOK (by kernel_rfl) (by kernel_rfl)
theorem pf_impl_BaseOK : Fw.PFn.of Tryz.f79 = some Sg.f_impl_BaseOK := Fw.PFn.of_get (by kernel_rfl)
theorem ok_impl_BaseOK (K : Nat) : Fw.Ok Tryz.prog 79 (Sg.s_impl_BaseOK K) := Fw.funP_ok (c := Sg.c_impl_BaseOK K) (pi := Sg.i_impl_BaseOK) (depth := 6) (Fw.cfgP_ok (pi := Sg.i_impl_BaseOK) Sg.tabOK Sg.eqsOK Sg.mixOK ⟨ok_impl_StoreOK K, ok_impl_RefsOK K, ok_impl_areAll_impl_Ref__impl_BaseOK_1 K, trivial⟩ ⟨⟨fun_impl_areAll_impl_Ref_1, call_impl_areAll_impl_Ref_1⟩, ⟨fun_slices_IndexFunc_impl_Ref, call_slices_IndexFunc_impl_Ref⟩, ⟨fun_slices_ContainsFunc_impl_Ref, call_slices_ContainsFunc_impl_Ref⟩, ⟨fun_impl_areAll_impl_Ref, call_impl_areAll_impl_Ref⟩, ⟨fun_impl_BaseOK_1, call_impl_BaseOK_1⟩, trivial⟩ ⟨⟨rfl, pf_impl_areAll_impl_Ref_1⟩, ⟨rfl, pf_slices_IndexFunc_impl_Ref⟩, ⟨rfl, pf_slices_ContainsFunc_impl_Ref⟩, ⟨rfl, pf_impl_areAll_impl_Ref⟩, ⟨rfl, pf_impl_BaseOK_1⟩, trivial⟩ pf_impl_BaseOK trivial rfl) ⟨⟨rfl, pf_impl_areAll_impl_Ref_1⟩, ⟨rfl, pf_slices_IndexFunc_impl_Ref⟩, ⟨rfl, pf_slices_ContainsFunc_impl_Ref⟩, ⟨rfl, pf_impl_areAll_impl_Ref⟩, ⟨rfl, pf_impl_BaseOK_1⟩, trivial⟩ pf_impl_BaseOK fun_impl_BaseOK call_impl_BaseOK (fun x => by kernel_rfl)
theorem fun_impl_areAll_impl_Wish_1 : Tryz.prog.funcs[231]? = some Tryz.f231 := by kernel_rfl
theorem call_impl_areAll_impl_Wish_1 : Fw.Callable Tryz.prog 231 := Fw.callable_of fun_impl_areAll_impl_Wish_1 (by kernel_rfl) (by kernel_rfl)
theorem pf_impl_areAll_impl_Wish_1 : Fw.PFn.of Tryz.f231 = some Sg.f_impl_areAll_impl_Wish_1 := Fw.PFn.of_get (by kernel_rfl)
theorem fun_slices_IndexFunc_impl_Wish : Tryz.prog.funcs[277]? = some Tryz.f277 := by kernel_rfl
theorem call_slices_IndexFunc_impl_Wish : Fw.Callable Tryz.prog 277 := Fw.callable_of fun_slices_IndexFunc_impl_Wish (by kernel_rfl) (by kernel_rfl)
theorem pf_slices_IndexFunc_impl_Wish : Fw.PFn.of Tryz.f277 = some Sg.f_slices_IndexFunc_impl_Wish := Fw.PFn.of_get (by kernel_rfl)
theorem fun_slices_ContainsFunc_impl_Wish : Tryz.prog.funcs[230]? = some Tryz.f230 := by kernel_rfl
theorem call_slices_ContainsFunc_impl_Wish : Fw.Callable Tryz.prog 230 := Fw.callable_of fun_slices_ContainsFunc_impl_Wish (by kernel_rfl) (by kernel_rfl)
theorem pf_slices_ContainsFunc_impl_Wish : Fw.PFn.of Tryz.f230 = some Sg.f_slices_ContainsFunc_impl_Wish := Fw.PFn.of_get (by kernel_rfl)
theorem fun_impl_areAll_impl_Wish : Tryz.prog.funcs[156]? = some Tryz.f156 := by kernel_rfl
theorem call_impl_areAll_impl_Wish : Fw.Callable Tryz.prog 156 := Fw.callable_of fun_impl_areAll_impl_Wish (by kernel_rfl) (by kernel_rfl)
theorem pf_impl_areAll_impl_Wish : Fw.PFn.of Tryz.f156 = some Sg.f_impl_areAll_impl_Wish := Fw.PFn.of_get (by kernel_rfl)
theorem fun_impl_hasSource : Tryz.prog.funcs[216]? = some Tryz.f216 := by kernel_rfl
theorem call_impl_hasSource : Fw.Callable Tryz.prog 216 := Fw.callable_of fun_impl_hasSource (by kernel_rfl) (by kernel_rfl)
theorem pf_impl_hasSource : Fw.PFn.of Tryz.f216 = some Sg.f_impl_hasSource := Fw.PFn.of_get (by kernel_rfl)
theorem ok_impl_hasSource (K : Nat) : Fw.Ok Tryz.prog 216 (Sg.s_impl_hasSource K) := Fw.funP_ok (c := Sg.c_impl_hasSource K) (pi := Sg.i_impl_hasSource) (depth := 6) (Fw.cfgP_ok (pi := Sg.i_impl_hasSource) Sg.tabOK Sg.eqsOK Sg.mixOK trivial trivial trivial pf_impl_hasSource trivial rfl) trivial pf_impl_hasSource fun_impl_hasSource call_impl_hasSource (fun x => by kernel_rfl)
theorem fun_slices_Clone_impl_Edit : Tryz.prog.funcs[278]? = some Tryz.f278 := by kernel_rfl
theorem call_slices_Clone_impl_Edit : Fw.Callable Tryz.prog 278 := Fw.callable_of fun_slices_Clone_impl_Edit (by kernel_rfl) (by kernel_rfl)
theorem pf_slices_Clone_impl_Edit : Fw.PFn.of Tryz.f278 = some Sg.f_slices_Clone_impl_Edit := Fw.PFn.of_get (by kernel_rfl)
theorem ok_slices_Clone_impl_Edit (K : Nat) : Fw.Ok Tryz.prog 278 (Sg.s_slices_Clone_impl_Edit K) := Fw.funP_ok (c := Sg.c_slices_Clone_impl_Edit K) (pi := Sg.i_slices_Clone_impl_Edit) (depth := 6) (Fw.cfgP_ok (pi := Sg.i_slices_Clone_impl_Edit) Sg.tabOK Sg.eqsOK Sg.mixOK trivial trivial trivial pf_slices_Clone_impl_Edit trivial rfl) trivial pf_slices_Clone_impl_Edit fun_slices_Clone_impl_Edit call_slices_Clone_impl_Edit (fun x => by kernel_rfl)
theorem fun_impl_Wish_op : Tryz.prog.funcs[232]? = some Tryz.f232 := by kernel_rfl
theorem call_impl_Wish_op : Fw.Callable Tryz.prog 232 := Fw.callable_of fun_impl_Wish_op (by kernel_rfl) (by kernel_rfl)
theorem pf_impl_Wish_op : Fw.PFn.of Tryz.f232 = some Sg.f_impl_Wish_op := Fw.PFn.of_get (by kernel_rfl)
theorem ok_impl_Wish_op (K : Nat) : Fw.Ok Tryz.prog 232 (Sg.s_impl_Wish_op K) := Fw.funP_ok (c := Sg.c_impl_Wish_op K) (pi := Sg.i_impl_Wish_op) (depth := 6) (Fw.cfgP_ok (pi := Sg.i_impl_Wish_op) Sg.tabOK Sg.eqsOK Sg.mixOK ⟨ok_slices_Clone_impl_Edit K, trivial⟩ trivial trivial pf_impl_Wish_op trivial rfl) trivial pf_impl_Wish_op fun_impl_Wish_op call_impl_Wish_op (fun x => by kernel_rfl)
theorem fun_impl_EditsOK : Tryz.prog.funcs[177]? = some Tryz.f177 := by kernel_rfl
theorem call_impl_EditsOK : Fw.Callable Tryz.prog 177 := Fw.callable_of fun_impl_EditsOK (by kernel_rfl) (by kernel_rfl)
theorem pf_impl_EditsOK : Fw.PFn.of Tryz.f177 = some Sg.f_impl_EditsOK := Fw.PFn.of_get (by kernel_rfl)
theorem l_impl_EditsOK_0 (K : Nat) : Fw.LoopP (Sg.c_impl_EditsOK K) Sg.i_impl_EditsOK Sg.f_impl_EditsOK (Sg.p_impl_EditsOK_0 K) := ⟨fun _ => by kernel_rfl, fun n p => by kernel_rfl⟩
theorem ok_impl_EditsOK (K : Nat) : Fw.Ok Tryz.prog 177 (Sg.s_impl_EditsOK K) := Fw.funP_ok (c := Sg.c_impl_EditsOK K) (pi := Sg.i_impl_EditsOK) (depth := 6) (Fw.cfgP_ok (pi := Sg.i_impl_EditsOK) Sg.tabOK Sg.eqsOK Sg.mixOK ⟨ok_impl_NameOK K, ok_impl_isValue K, trivial⟩ trivial trivial pf_impl_EditsOK ⟨⟨_, rfl, l_impl_EditsOK_0 K⟩, trivial⟩ rfl) trivial pf_impl_EditsOK fun_impl_EditsOK call_impl_EditsOK (fun x => by kernel_rfl)
theorem fun_impl_OpOK : Tryz.prog.funcs[91]? = some Tryz.f91 := by kernel_rfl
theorem call_impl_OpOK : Fw.Callable Tryz.prog 91 := Fw.callable_of fun_impl_OpOK (by kernel_rfl) (by kernel_rfl)
theorem pf_impl_OpOK : Fw.PFn.of Tryz.f91 = some Sg.f_impl_OpOK := Fw.PFn.of_get (by kernel_rfl)
theorem ok_impl_OpOK (K : Nat) : Fw.Ok Tryz.prog 91 (Sg.s_impl_OpOK K) := Fw.funP_ok (c := Sg.c_impl_OpOK K) (pi := Sg.i_impl_OpOK) (depth := 6) (Fw.cfgP_ok (pi := Sg.i_impl_OpOK) Sg.tabOK Sg.eqsOK Sg.mixOK ⟨ok_impl_within K, ok_impl_NameOK K, ok_impl_isHead K, ok_impl_EditsOK K, trivial⟩ trivial trivial pf_impl_OpOK trivial rfl) trivial pf_impl_OpOK fun_impl_OpOK call_impl_OpOK (fun x => by kernel_rfl)
theorem fun_impl_WishOK : Tryz.prog.funcs[157]? = some Tryz.f157 := by kernel_rfl
theorem call_impl_WishOK : Fw.Callable Tryz.prog 157 := Fw.callable_of fun_impl_WishOK (by kernel_rfl) (by kernel_rfl)
theorem pf_impl_WishOK : Fw.PFn.of Tryz.f157 = some Sg.f_impl_WishOK := Fw.PFn.of_get (by kernel_rfl)
theorem ok_impl_WishOK (K : Nat) : Fw.Ok Tryz.prog 157 (Sg.s_impl_WishOK K) := Fw.funP_ok (c := Sg.c_impl_WishOK K) (pi := Sg.i_impl_WishOK) (depth := 6) (Fw.cfgP_ok (pi := Sg.i_impl_WishOK) Sg.tabOK Sg.eqsOK Sg.mixOK ⟨ok_impl_NameOK K, ok_impl_hasSource K, ok_impl_Wish_op K, ok_impl_OpOK K, trivial⟩ trivial trivial pf_impl_WishOK trivial rfl) trivial pf_impl_WishOK fun_impl_WishOK call_impl_WishOK (fun x => by kernel_rfl)
theorem fun_impl_Client_isFresh : Tryz.prog.funcs[233]? = some Tryz.f233 := by kernel_rfl
theorem call_impl_Client_isFresh : Fw.Callable Tryz.prog 233 := Fw.callable_of fun_impl_Client_isFresh (by kernel_rfl) (by kernel_rfl)
theorem pf_impl_Client_isFresh : Fw.PFn.of Tryz.f233 = some Sg.f_impl_Client_isFresh := Fw.PFn.of_get (by kernel_rfl)
theorem ok_impl_Client_isFresh (K : Nat) : Fw.Ok Tryz.prog 233 (Sg.s_impl_Client_isFresh K) := Fw.funP_ok (c := Sg.c_impl_Client_isFresh K) (pi := Sg.i_impl_Client_isFresh) (depth := 6) (Fw.cfgP_ok (pi := Sg.i_impl_Client_isFresh) Sg.tabOK Sg.eqsOK Sg.mixOK trivial trivial trivial pf_impl_Client_isFresh trivial rfl) trivial pf_impl_Client_isFresh fun_impl_Client_isFresh call_impl_Client_isFresh (fun x => by kernel_rfl)
theorem fun_impl_Client_isDone : Tryz.prog.funcs[213]? = some Tryz.f213 := by kernel_rfl
theorem call_impl_Client_isDone : Fw.Callable Tryz.prog 213 := Fw.callable_of fun_impl_Client_isDone (by kernel_rfl) (by kernel_rfl)
theorem pf_impl_Client_isDone : Fw.PFn.of Tryz.f213 = some Sg.f_impl_Client_isDone := Fw.PFn.of_get (by kernel_rfl)
theorem ok_impl_Client_isDone (K : Nat) : Fw.Ok Tryz.prog 213 (Sg.s_impl_Client_isDone K) := Fw.funP_ok (c := Sg.c_impl_Client_isDone K) (pi := Sg.i_impl_Client_isDone) (depth := 6) (Fw.cfgP_ok (pi := Sg.i_impl_Client_isDone) Sg.tabOK Sg.eqsOK Sg.mixOK trivial trivial trivial pf_impl_Client_isDone trivial rfl) trivial pf_impl_Client_isDone fun_impl_Client_isDone call_impl_Client_isDone (fun x => by kernel_rfl)
theorem fun_impl_Client_wish : Tryz.prog.funcs[215]? = some Tryz.f215 := by kernel_rfl
theorem call_impl_Client_wish : Fw.Callable Tryz.prog 215 := Fw.callable_of fun_impl_Client_wish (by kernel_rfl) (by kernel_rfl)
theorem pf_impl_Client_wish : Fw.PFn.of Tryz.f215 = some Sg.f_impl_Client_wish := Fw.PFn.of_get (by kernel_rfl)
theorem ok_impl_Client_wish (K : Nat) : Fw.Ok Tryz.prog 215 (Sg.s_impl_Client_wish K) := Fw.funP_ok (c := Sg.c_impl_Client_wish K) (pi := Sg.i_impl_Client_wish) (depth := 6) (Fw.cfgP_ok (pi := Sg.i_impl_Client_wish) Sg.tabOK Sg.eqsOK Sg.mixOK trivial trivial trivial pf_impl_Client_wish trivial rfl) trivial pf_impl_Client_wish fun_impl_Client_wish call_impl_Client_wish (fun x => by kernel_rfl)
theorem fun_slices_Clone_impl_Entry : Tryz.prog.funcs[184]? = some Tryz.f184 := by kernel_rfl
theorem call_slices_Clone_impl_Entry : Fw.Callable Tryz.prog 184 := Fw.callable_of fun_slices_Clone_impl_Entry (by kernel_rfl) (by kernel_rfl)
theorem pf_slices_Clone_impl_Entry : Fw.PFn.of Tryz.f184 = some Sg.f_slices_Clone_impl_Entry := Fw.PFn.of_get (by kernel_rfl)
theorem ok_slices_Clone_impl_Entry (K : Nat) : Fw.Ok Tryz.prog 184 (Sg.s_slices_Clone_impl_Entry K) := Fw.funP_ok (c := Sg.c_slices_Clone_impl_Entry K) (pi := Sg.i_slices_Clone_impl_Entry) (depth := 6) (Fw.cfgP_ok (pi := Sg.i_slices_Clone_impl_Entry) Sg.tabOK Sg.eqsOK Sg.mixOK trivial trivial trivial pf_slices_Clone_impl_Entry trivial rfl) trivial pf_slices_Clone_impl_Entry fun_slices_Clone_impl_Entry call_slices_Clone_impl_Entry (fun x => by kernel_rfl)
theorem fun_slices_BinarySearchFunc_impl_Entry_string : Tryz.prog.funcs[252]? = some Tryz.f252 := by kernel_rfl
theorem call_slices_BinarySearchFunc_impl_Entry_string : Fw.Callable Tryz.prog 252 := Fw.callable_of fun_slices_BinarySearchFunc_impl_Entry_string (by kernel_rfl) (by kernel_rfl)
theorem pf_slices_BinarySearchFunc_impl_Entry_string : Fw.PFn.of Tryz.f252 = some Sg.f_slices_BinarySearchFunc_impl_Entry_string := Fw.PFn.of_get (by kernel_rfl)
theorem fun_strings_Compare : Tryz.prog.funcs[254]? = some Tryz.f254 := by kernel_rfl
theorem call_strings_Compare : Fw.Callable Tryz.prog 254 := Fw.callable_of fun_strings_Compare (by kernel_rfl) (by kernel_rfl)
theorem ok_strings_Compare (K : Nat) : Fw.Ok Tryz.prog 254 (Sg.s_strings_Compare K) := Fw.ok_compare call_strings_Compare (fun a b w => Tryz.strings_Compare a b w)
theorem fun_impl_find_1 : Tryz.prog.funcs[253]? = some Tryz.f253 := by kernel_rfl
theorem call_impl_find_1 : Fw.Callable Tryz.prog 253 := Fw.callable_of fun_impl_find_1 (by kernel_rfl) (by kernel_rfl)
theorem pf_impl_find_1 : Fw.PFn.of Tryz.f253 = some Sg.f_impl_find_1 := Fw.PFn.of_get (by kernel_rfl)
theorem ok_impl_find_1 (K : Nat) : Fw.Ok Tryz.prog 253 (Sg.s_impl_find_1 K) := Fw.funP_ok (c := Sg.c_impl_find_1 K) (pi := Sg.i_impl_find_1) (depth := 6) (Fw.cfgP_ok (pi := Sg.i_impl_find_1) Sg.tabOK Sg.eqsOK Sg.mixOK ⟨ok_strings_Compare K, trivial⟩ trivial trivial pf_impl_find_1 trivial rfl) trivial pf_impl_find_1 fun_impl_find_1 call_impl_find_1 (fun x => by kernel_rfl)
theorem l_slices_BinarySearchFunc_impl_Entry_string__impl_find_1_0 (K : Nat) : Fw.LoopP (Sg.c_slices_BinarySearchFunc_impl_Entry_string__impl_find_1 K) Sg.i_slices_BinarySearchFunc_impl_Entry_string__impl_find_1 Sg.f_slices_BinarySearchFunc_impl_Entry_string (Sg.p_slices_BinarySearchFunc_impl_Entry_string__impl_find_1_0 K) := ⟨fun _ => by kernel_rfl, fun n p => by kernel_rfl⟩
theorem ok_slices_BinarySearchFunc_impl_Entry_string__impl_find_1 (K : Nat) : Fw.Ok Tryz.prog 252 (Sg.s_slices_BinarySearchFunc_impl_Entry_string__impl_find_1 K) := Fw.funP_ok (c := Sg.c_slices_BinarySearchFunc_impl_Entry_string__impl_find_1 K) (pi := Sg.i_slices_BinarySearchFunc_impl_Entry_string__impl_find_1) (depth := 6) (Fw.cfgP_ok (pi := Sg.i_slices_BinarySearchFunc_impl_Entry_string__impl_find_1) Sg.tabOK Sg.eqsOK Sg.mixOK ⟨ok_impl_find_1 K, trivial⟩ trivial trivial pf_slices_BinarySearchFunc_impl_Entry_string ⟨⟨_, rfl, l_slices_BinarySearchFunc_impl_Entry_string__impl_find_1_0 K⟩, trivial⟩ rfl) trivial pf_slices_BinarySearchFunc_impl_Entry_string fun_slices_BinarySearchFunc_impl_Entry_string call_slices_BinarySearchFunc_impl_Entry_string (fun x => by kernel_rfl)
theorem fun_impl_find : Tryz.prog.funcs[183]? = some Tryz.f183 := by kernel_rfl
theorem call_impl_find : Fw.Callable Tryz.prog 183 := Fw.callable_of fun_impl_find (by kernel_rfl) (by kernel_rfl)
theorem pf_impl_find : Fw.PFn.of Tryz.f183 = some Sg.f_impl_find := Fw.PFn.of_get (by kernel_rfl)
theorem ok_impl_find (K : Nat) : Fw.Ok Tryz.prog 183 (Sg.s_impl_find K) := Fw.funP_ok (c := Sg.c_impl_find K) (pi := Sg.i_impl_find) (depth := 6) (Fw.cfgP_ok (pi := Sg.i_impl_find) Sg.tabOK Sg.eqsOK Sg.mixOK ⟨ok_impl_find_1 K, ok_slices_BinarySearchFunc_impl_Entry_string__impl_find_1 K, trivial⟩ ⟨⟨fun_slices_BinarySearchFunc_impl_Entry_string, call_slices_BinarySearchFunc_impl_Entry_string⟩, trivial⟩ ⟨⟨rfl, pf_slices_BinarySearchFunc_impl_Entry_string⟩, trivial⟩ pf_impl_find trivial rfl) ⟨⟨rfl, pf_slices_BinarySearchFunc_impl_Entry_string⟩, trivial⟩ pf_impl_find fun_impl_find call_impl_find (fun x => by kernel_rfl)
theorem fun_slices_Delete_impl_Entry : Tryz.prog.funcs[310]? = some Tryz.f310 := by kernel_rfl
theorem call_slices_Delete_impl_Entry : Fw.Callable Tryz.prog 310 := Fw.callable_of fun_slices_Delete_impl_Entry (by kernel_rfl) (by kernel_rfl)
theorem ok_slices_Delete_impl_Entry (K : Nat) : Fw.Ok Tryz.prog 310 (Sg.s_slices_Delete_impl_Entry K) := Fw.ok_delete call_slices_Delete_impl_Entry rfl Tryz.del_raw
theorem fun_slices_Insert_impl_Entry : Tryz.prog.funcs[311]? = some Tryz.f311 := by kernel_rfl
theorem call_slices_Insert_impl_Entry : Fw.Callable Tryz.prog 311 := Fw.callable_of fun_slices_Insert_impl_Entry (by kernel_rfl) (by kernel_rfl)
theorem ok_slices_Insert_impl_Entry (K : Nat) : Fw.Ok Tryz.prog 311 (Sg.s_slices_Insert_impl_Entry K) := Fw.ok_insert call_slices_Insert_impl_Entry rfl Tryz.ins_nil Tryz.ins_raw
theorem fun_impl_edited : Tryz.prog.funcs[298]? = some Tryz.f298 := by kernel_rfl
theorem call_impl_edited : Fw.Callable Tryz.prog 298 := Fw.callable_of fun_impl_edited (by kernel_rfl) (by kernel_rfl)
theorem pf_impl_edited : Fw.PFn.of Tryz.f298 = some Sg.f_impl_edited := Fw.PFn.of_get (by kernel_rfl)
theorem l_impl_edited_0 (K : Nat) : Fw.LoopP (Sg.c_impl_edited K) Sg.i_impl_edited Sg.f_impl_edited (Sg.p_impl_edited_0 K) := ⟨fun _ => by kernel_rfl, fun n p => by kernel_rfl⟩
theorem ok_impl_edited (K : Nat) : Fw.Ok Tryz.prog 298 (Sg.s_impl_edited K) := Fw.funP_ok (c := Sg.c_impl_edited K) (pi := Sg.i_impl_edited) (depth := 6) (Fw.cfgP_ok (pi := Sg.i_impl_edited) Sg.tabOK Sg.eqsOK Sg.mixOK ⟨ok_slices_Clone_impl_Entry K, ok_impl_find K, ok_slices_Delete_impl_Entry K, ok_slices_Insert_impl_Entry K, trivial⟩ trivial trivial pf_impl_edited ⟨⟨_, rfl, l_impl_edited_0 K⟩, trivial⟩ rfl) trivial pf_impl_edited fun_impl_edited call_impl_edited (fun x => by kernel_rfl)
theorem fun_impl_limited : Tryz.prog.funcs[297]? = some Tryz.f297 := by kernel_rfl
theorem call_impl_limited : Fw.Callable Tryz.prog 297 := Fw.callable_of fun_impl_limited (by kernel_rfl) (by kernel_rfl)
theorem pf_impl_limited : Fw.PFn.of Tryz.f297 = some Sg.f_impl_limited := Fw.PFn.of_get (by kernel_rfl)
theorem ok_impl_limited (K : Nat) : Fw.Ok Tryz.prog 297 (Sg.s_impl_limited K) := Fw.funP_ok (c := Sg.c_impl_limited K) (pi := Sg.i_impl_limited) (depth := 6) (Fw.cfgP_ok (pi := Sg.i_impl_limited) Sg.tabOK Sg.eqsOK Sg.mixOK trivial trivial trivial pf_impl_limited trivial rfl) trivial pf_impl_limited fun_impl_limited call_impl_limited (fun x => by kernel_rfl)
theorem fun_slices_SortFunc_impl_Edit : Tryz.prog.funcs[316]? = some Tryz.f316 := by kernel_rfl
theorem call_slices_SortFunc_impl_Edit : Fw.Callable Tryz.prog 316 := Fw.callable_of fun_slices_SortFunc_impl_Edit (by kernel_rfl) (by kernel_rfl)
theorem ok_slices_SortFunc_impl_Edit (K : Nat) : Fw.Ok Tryz.prog 316 (Sg.s_slices_SortFunc_impl_Edit K) := Fw.ok_sort call_slices_SortFunc_impl_Edit rfl (by decide) Fw.keyCmp_swo Tryz.sort_nil Tryz.sort_raw
theorem fun_impl_diff_1 : Tryz.prog.funcs[317]? = some Tryz.f317 := by kernel_rfl
theorem call_impl_diff_1 : Fw.Callable Tryz.prog 317 := Fw.callable_of fun_impl_diff_1 (by kernel_rfl) (by kernel_rfl)
theorem pf_impl_diff_1 : Fw.PFn.of Tryz.f317 = some Sg.f_impl_diff_1 := Fw.PFn.of_get (by kernel_rfl)
theorem ok_impl_diff_1 (K : Nat) : Fw.Ok Tryz.prog 317 (Sg.s_impl_diff_1 K) := Fw.funP_ok (c := Sg.c_impl_diff_1 K) (pi := Sg.i_impl_diff_1) (depth := 6) (Fw.cfgP_ok (pi := Sg.i_impl_diff_1) Sg.tabOK Sg.eqsOK Sg.mixOK ⟨ok_strings_Compare K, trivial⟩ trivial trivial pf_impl_diff_1 trivial rfl) trivial pf_impl_diff_1 fun_impl_diff_1 call_impl_diff_1 (fun x => by kernel_rfl)
theorem fun_impl_diff : Tryz.prog.funcs[312]? = some Tryz.f312 := by kernel_rfl
theorem call_impl_diff : Fw.Callable Tryz.prog 312 := Fw.callable_of fun_impl_diff (by kernel_rfl) (by kernel_rfl)
theorem pf_impl_diff : Fw.PFn.of Tryz.f312 = some Sg.f_impl_diff := Fw.PFn.of_get (by kernel_rfl)
theorem l_impl_diff_0 (K : Nat) : Fw.LoopP (Sg.c_impl_diff K) Sg.i_impl_diff Sg.f_impl_diff (Sg.p_impl_diff_0 K) := ⟨fun _ => by kernel_rfl, fun n p => by kernel_rfl⟩
theorem l_impl_diff_1 (K : Nat) : Fw.LoopP (Sg.c_impl_diff K) Sg.i_impl_diff Sg.f_impl_diff (Sg.p_impl_diff_1 K) := ⟨fun _ => by kernel_rfl, fun n p => by kernel_rfl⟩
theorem ok_impl_diff (K : Nat) : Fw.Ok Tryz.prog 312 (Sg.s_impl_diff K) := Fw.funP_ok (c := Sg.c_impl_diff K) (pi := Sg.i_impl_diff) (depth := 6) (Fw.cfgP_ok (pi := Sg.i_impl_diff) Sg.tabOK Sg.eqsOK Sg.mixOK ⟨ok_impl_find K, ok_slices_SortFunc_impl_Edit K, ok_impl_diff_1 K, trivial⟩ trivial trivial pf_impl_diff ⟨⟨_, rfl, l_impl_diff_0 K⟩, ⟨_, rfl, l_impl_diff_1 K⟩, trivial⟩ rfl) trivial pf_impl_diff fun_impl_diff call_impl_diff (fun x => by kernel_rfl)
theorem fun_impl_merge : Tryz.prog.funcs[299]? = some Tryz.f299 := by kernel_rfl
theorem call_impl_merge : Fw.Callable Tryz.prog 299 := Fw.callable_of fun_impl_merge (by kernel_rfl) (by kernel_rfl)
theorem pf_impl_merge : Fw.PFn.of Tryz.f299 = some Sg.f_impl_merge := Fw.PFn.of_get (by kernel_rfl)
theorem l_impl_merge_40 (K : Nat) : Fw.LoopP (Sg.c_impl_merge K) Sg.i_impl_merge Sg.f_impl_merge (Sg.p_impl_merge_40 K) := ⟨fun _ => by kernel_rfl, fun n p => by kernel_rfl⟩
theorem l_impl_merge_41 (K : Nat) : Fw.LoopP (Sg.c_impl_merge K) Sg.i_impl_merge Sg.f_impl_merge (Sg.p_impl_merge_41 K) := ⟨fun _ => by kernel_rfl, fun n p => by kernel_rfl⟩
theorem ok_impl_merge (K : Nat) : Fw.Ok Tryz.prog 299 (Sg.s_impl_merge K) := Fw.funP_ok (c := Sg.c_impl_merge K) (pi := Sg.i_impl_merge) (depth := 6) (Fw.cfgP_ok (pi := Sg.i_impl_merge) Sg.tabOK Sg.eqsOK Sg.mixOK ⟨ok_impl_edited K, ok_impl_limited K, ok_impl_diff K, trivial⟩ trivial trivial pf_impl_merge ⟨⟨_, rfl, l_impl_merge_40 K⟩, ⟨_, rfl, l_impl_merge_41 K⟩, trivial⟩ rfl) trivial pf_impl_merge fun_impl_merge call_impl_merge (fun x => by kernel_rfl)
theorem fun_slices_Equal_impl_Entry : Tryz.prog.funcs[236]? = some Tryz.f236 := by kernel_rfl
theorem call_slices_Equal_impl_Entry : Fw.Callable Tryz.prog 236 := Fw.callable_of fun_slices_Equal_impl_Entry (by kernel_rfl) (by kernel_rfl)
theorem pf_slices_Equal_impl_Entry : Fw.PFn.of Tryz.f236 = some Sg.f_slices_Equal_impl_Entry := Fw.PFn.of_get (by kernel_rfl)
theorem l_slices_Equal_impl_Entry_0 (K : Nat) : Fw.LoopP (Sg.c_slices_Equal_impl_Entry K) Sg.i_slices_Equal_impl_Entry Sg.f_slices_Equal_impl_Entry (Sg.p_slices_Equal_impl_Entry_0 K) := ⟨fun _ => by kernel_rfl, fun n p => by kernel_rfl⟩
theorem ok_slices_Equal_impl_Entry (K : Nat) : Fw.Ok Tryz.prog 236 (Sg.s_slices_Equal_impl_Entry K) := Fw.funP_ok (c := Sg.c_slices_Equal_impl_Entry K) (pi := Sg.i_slices_Equal_impl_Entry) (depth := 6) (Fw.cfgP_ok (pi := Sg.i_slices_Equal_impl_Entry) Sg.tabOK Sg.eqsOK Sg.mixOK trivial trivial trivial pf_slices_Equal_impl_Entry ⟨⟨_, rfl, l_slices_Equal_impl_Entry_0 K⟩, trivial⟩ rfl) trivial pf_slices_Equal_impl_Entry fun_slices_Equal_impl_Entry call_slices_Equal_impl_Entry (fun x => by kernel_rfl)
theorem fun_impl_planned : Tryz.prog.funcs[282]? = some Tryz.f282 := by kernel_rfl
theorem call_impl_planned : Fw.Callable Tryz.prog 282 := Fw.callable_of fun_impl_planned (by kernel_rfl) (by kernel_rfl)
theorem pf_impl_planned : Fw.PFn.of Tryz.f282 = some Sg.f_impl_planned := Fw.PFn.of_get (by kernel_rfl)
theorem ok_impl_planned (K : Nat) : Fw.Ok Tryz.prog 282 (Sg.s_impl_planned K) := Fw.funP_ok (c := Sg.c_impl_planned K) (pi := Sg.i_impl_planned) (depth := 6) (Fw.cfgP_ok (pi := Sg.i_impl_planned) Sg.tabOK Sg.eqsOK Sg.mixOK trivial trivial trivial pf_impl_planned trivial rfl) trivial pf_impl_planned fun_impl_planned call_impl_planned (fun x => by kernel_rfl)
theorem fun_impl_Base_commitAt : Tryz.prog.funcs[279]? = some Tryz.f279 := by kernel_rfl
theorem call_impl_Base_commitAt : Fw.Callable Tryz.prog 279 := Fw.callable_of fun_impl_Base_commitAt (by kernel_rfl) (by kernel_rfl)
theorem pf_impl_Base_commitAt : Fw.PFn.of Tryz.f279 = some Sg.f_impl_Base_commitAt := Fw.PFn.of_get (by kernel_rfl)
theorem ok_impl_Base_commitAt (K : Nat) : Fw.Ok Tryz.prog 279 (Sg.s_impl_Base_commitAt K) := Fw.funP_ok (c := Sg.c_impl_Base_commitAt K) (pi := Sg.i_impl_Base_commitAt) (depth := 6) (Fw.cfgP_ok (pi := Sg.i_impl_Base_commitAt) Sg.tabOK Sg.eqsOK Sg.mixOK ⟨ok_impl_edited K, ok_impl_limited K, ok_impl_merge K, ok_slices_Equal_impl_Entry K, ok_impl_planned K, trivial⟩ trivial trivial pf_impl_Base_commitAt trivial rfl) trivial pf_impl_Base_commitAt fun_impl_Base_commitAt call_impl_Base_commitAt (fun x => by kernel_rfl)
theorem fun_impl_ancestors : Tryz.prog.funcs[300]? = some Tryz.f300 := by kernel_rfl
theorem call_impl_ancestors : Fw.Callable Tryz.prog 300 := Fw.callable_of fun_impl_ancestors (by kernel_rfl) (by kernel_rfl)
theorem pf_impl_ancestors : Fw.PFn.of Tryz.f300 = some Sg.f_impl_ancestors := Fw.PFn.of_get (by kernel_rfl)
theorem l_impl_ancestors_1 (K : Nat) : Fw.LoopP (Sg.c_impl_ancestors K) Sg.i_impl_ancestors Sg.f_impl_ancestors (Sg.p_impl_ancestors_1 K) := ⟨fun _ => by kernel_rfl, fun n p => by kernel_rfl⟩
theorem l_impl_ancestors_0 (K : Nat) : Fw.LoopP (Sg.c_impl_ancestors K) Sg.i_impl_ancestors Sg.f_impl_ancestors (Sg.p_impl_ancestors_0 K) := ⟨fun _ => by kernel_rfl, fun n p => by kernel_rfl⟩
theorem ok_impl_ancestors (K : Nat) : Fw.Ok Tryz.prog 300 (Sg.s_impl_ancestors K) := Fw.funP_ok (c := Sg.c_impl_ancestors K) (pi := Sg.i_impl_ancestors) (depth := 6) (Fw.cfgP_ok (pi := Sg.i_impl_ancestors) Sg.tabOK Sg.eqsOK Sg.mixOK trivial trivial trivial pf_impl_ancestors ⟨⟨_, rfl, l_impl_ancestors_1 K⟩, ⟨_, rfl, l_impl_ancestors_0 K⟩, trivial⟩ rfl) trivial pf_impl_ancestors fun_impl_ancestors call_impl_ancestors (fun x => by kernel_rfl)
theorem fun_impl_baseOf : Tryz.prog.funcs[280]? = some Tryz.f280 := by kernel_rfl
theorem call_impl_baseOf : Fw.Callable Tryz.prog 280 := Fw.callable_of fun_impl_baseOf (by kernel_rfl) (by kernel_rfl)
theorem pf_impl_baseOf : Fw.PFn.of Tryz.f280 = some Sg.f_impl_baseOf := Fw.PFn.of_get (by kernel_rfl)
theorem l_impl_baseOf_0 (K : Nat) : Fw.LoopP (Sg.c_impl_baseOf K) Sg.i_impl_baseOf Sg.f_impl_baseOf (Sg.p_impl_baseOf_0 K) := ⟨fun _ => by kernel_rfl, fun n p => by kernel_rfl⟩
theorem ok_impl_baseOf (K : Nat) : Fw.Ok Tryz.prog 280 (Sg.s_impl_baseOf K) := Fw.funP_ok (c := Sg.c_impl_baseOf K) (pi := Sg.i_impl_baseOf) (depth := 6) (Fw.cfgP_ok (pi := Sg.i_impl_baseOf) Sg.tabOK Sg.eqsOK Sg.mixOK ⟨ok_impl_ancestors K, trivial⟩ trivial trivial pf_impl_baseOf ⟨⟨_, rfl, l_impl_baseOf_0 K⟩, trivial⟩ rfl) trivial pf_impl_baseOf fun_impl_baseOf call_impl_baseOf (fun x => by kernel_rfl)
theorem fun_impl_mergeCommits : Tryz.prog.funcs[281]? = some Tryz.f281 := by kernel_rfl
theorem call_impl_mergeCommits : Fw.Callable Tryz.prog 281 := Fw.callable_of fun_impl_mergeCommits (by kernel_rfl) (by kernel_rfl)
theorem pf_impl_mergeCommits : Fw.PFn.of Tryz.f281 = some Sg.f_impl_mergeCommits := Fw.PFn.of_get (by kernel_rfl)
theorem ok_impl_mergeCommits (K : Nat) : Fw.Ok Tryz.prog 281 (Sg.s_impl_mergeCommits K) := Fw.funP_ok (c := Sg.c_impl_mergeCommits K) (pi := Sg.i_impl_mergeCommits) (depth := 6) (Fw.cfgP_ok (pi := Sg.i_impl_mergeCommits) Sg.tabOK Sg.eqsOK Sg.mixOK ⟨ok_impl_merge K, ok_impl_baseOf K, trivial⟩ trivial trivial pf_impl_mergeCommits trivial rfl) trivial pf_impl_mergeCommits fun_impl_mergeCommits call_impl_mergeCommits (fun x => by kernel_rfl)
theorem fun_impl_Base_planAt : Tryz.prog.funcs[234]? = some Tryz.f234 := by kernel_rfl
theorem call_impl_Base_planAt : Fw.Callable Tryz.prog 234 := Fw.callable_of fun_impl_Base_planAt (by kernel_rfl) (by kernel_rfl)
theorem pf_impl_Base_planAt : Fw.PFn.of Tryz.f234 = some Sg.f_impl_Base_planAt := Fw.PFn.of_get (by kernel_rfl)
theorem ok_impl_Base_planAt (K : Nat) : Fw.Ok Tryz.prog 234 (Sg.s_impl_Base_planAt K) := Fw.funP_ok (c := Sg.c_impl_Base_planAt K) (pi := Sg.i_impl_Base_planAt) (depth := 6) (Fw.cfgP_ok (pi := Sg.i_impl_Base_planAt) Sg.tabOK Sg.eqsOK Sg.mixOK ⟨ok_impl_planned K, ok_impl_Base_commitAt K, ok_impl_baseOf K, ok_impl_mergeCommits K, trivial⟩ trivial trivial pf_impl_Base_planAt trivial rfl) trivial pf_impl_Base_planAt fun_impl_Base_planAt call_impl_Base_planAt (fun x => by kernel_rfl)
theorem fun_impl_flag : Tryz.prog.funcs[235]? = some Tryz.f235 := by kernel_rfl
theorem call_impl_flag : Fw.Callable Tryz.prog 235 := Fw.callable_of fun_impl_flag (by kernel_rfl) (by kernel_rfl)
theorem pf_impl_flag : Fw.PFn.of Tryz.f235 = some Sg.f_impl_flag := Fw.PFn.of_get (by kernel_rfl)
theorem ok_impl_flag (K : Nat) : Fw.Ok Tryz.prog 235 (Sg.s_impl_flag K) := Fw.funP_ok (c := Sg.c_impl_flag K) (pi := Sg.i_impl_flag) (depth := 6) (Fw.cfgP_ok (pi := Sg.i_impl_flag) Sg.tabOK Sg.eqsOK Sg.mixOK trivial trivial trivial pf_impl_flag trivial rfl) trivial pf_impl_flag fun_impl_flag call_impl_flag (fun x => by kernel_rfl)
theorem fun_impl_Client_isPossible : Tryz.prog.funcs[158]? = some Tryz.f158 := by kernel_rfl
theorem call_impl_Client_isPossible : Fw.Callable Tryz.prog 158 := Fw.callable_of fun_impl_Client_isPossible (by kernel_rfl) (by kernel_rfl)
theorem pf_impl_Client_isPossible : Fw.PFn.of Tryz.f158 = some Sg.f_impl_Client_isPossible := Fw.PFn.of_get (by kernel_rfl)
theorem ok_impl_Client_isPossible (K : Nat) : Fw.Ok Tryz.prog 158 (Sg.s_impl_Client_isPossible K) := Fw.funP_ok (c := Sg.c_impl_Client_isPossible K) (pi := Sg.i_impl_Client_isPossible) (depth := 6) (Fw.cfgP_ok (pi := Sg.i_impl_Client_isPossible) Sg.tabOK Sg.eqsOK Sg.mixOK ⟨ok_impl_within K, ok_impl_hasSource K, ok_impl_Wish_op K, ok_impl_Client_isFresh K, ok_impl_Client_isDone K, ok_impl_Client_wish K, ok_slices_Equal_impl_Entry K, ok_impl_Base_planAt K, ok_impl_flag K, trivial⟩ trivial trivial pf_impl_Client_isPossible trivial rfl) trivial pf_impl_Client_isPossible fun_impl_Client_isPossible call_impl_Client_isPossible (fun x => by kernel_rfl)
theorem l_impl_areAll_impl_Wish__impl_WishOK_0 (K : Nat) : Fw.LoopP (Sg.c_impl_areAll_impl_Wish__impl_WishOK K) Sg.i_impl_areAll_impl_Wish__impl_WishOK Sg.f_slices_IndexFunc_impl_Wish (Sg.p_impl_areAll_impl_Wish__impl_WishOK_0 K) := ⟨fun _ => by kernel_rfl, fun n p => by kernel_rfl⟩
end Go.Proofs
