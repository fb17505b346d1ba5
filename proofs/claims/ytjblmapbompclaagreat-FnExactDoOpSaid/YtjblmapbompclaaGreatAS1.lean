/- The functions' contracts, printed by a program of the prover's own. -/
import Derived.Test.YtjblmapbompclaaGreatAR
import Derived.Test.YtjblmapbompclaaGreatProg
import Derived.Test.YtjblmapbompclaaGreatMd
import Derived.Test.YtjblmapbompclaaGreatMe
set_option linter.all false
namespace Go.Proofs
open Go Fw
set_option maxRecDepth 100000
def Sg.eqs : List Nat := [108, 189, 195, 198, 205, 217, 226, 251, 304]
def Sg.tab : List (Nat × Fw.TyI) := [
(1, .one),
(2, .leaf (.int .i64)),
(3, .leaf (.int .i64)),
(4, .leaf .bool),
(5, .leaf (.int .u8)),
(6, .leaf (.int .u8)),
(7, .struct (.pair (.int .i64) (.pair (.int .i64) (.pair .bool (.int .u8)))) [(0, 2), (1, 3), (2, 4), (3, 6)]),
(8, .struct (.pair (.int .i64) (.pair (.int .i64) (.pair .bool (.int .u8)))) [(0, 2), (1, 3), (2, 4), (3, 6)]),
(9, .leaf .str),
(10, .leaf .str),
(11, .leaf .str),
(12, .leaf (.int .u64)),
(13, .struct (.pair .str (.int .u64)) [(0, 9), (1, 12)]),
(14, .struct (.pair .str (.int .u64)) [(0, 9), (1, 12)]),
(21, .leaf (.int .i32)),
(22, .slice 186 (.pair (.sl (.int .i64)) (.sl (.pair .str (.int .i64)))) 0),
(23, .slice 189 (.pair .str (.pair (.int .i64) (.pair (.int .i64) .bool))) 0),
(24, .struct (.pair (.sl (.pair (.sl (.int .i64)) (.sl (.pair .str (.int .i64))))) (.sl (.pair .str (.pair (.int .i64) (.pair (.int .i64) .bool))))) [(0, 22), (1, 23)]),
(25, .struct (.pair (.sl (.pair (.sl (.int .i64)) (.sl (.pair .str (.int .i64))))) (.sl (.pair .str (.pair (.int .i64) (.pair (.int .i64) .bool))))) [(0, 22), (1, 23)]),
(26, .slice 192 (.pair (.int .i64) (.pair .str (.pair .str (.pair .str (.sl (.pair .str (.pair (.int .i64) .bool))))))) 0),
(27, .slice 195 (.pair .str (.int .i64)) 0),
(28, .struct (.pair (.sl (.pair (.int .i64) (.pair .str (.pair .str (.pair .str (.sl (.pair .str (.pair (.int .i64) .bool)))))))) (.pair (.int .i64) (.pair (.int .i64) (.pair (.int .i64) (.pair (.int .i64) (.pair (.int .i64) (.pair (.int .i64) (.pair (.int .i64) (.sl (.pair .str (.int .i64))))))))))) [(0, 26), (1, 3), (2, 3), (3, 3), (4, 3), (5, 3), (6, 3), (7, 3), (8, 27)]),
(29, .struct (.pair (.sl (.pair (.int .i64) (.pair .str (.pair .str (.pair .str (.sl (.pair .str (.pair (.int .i64) .bool)))))))) (.pair (.int .i64) (.pair (.int .i64) (.pair (.int .i64) (.pair (.int .i64) (.pair (.int .i64) (.pair (.int .i64) (.pair (.int .i64) (.sl (.pair .str (.int .i64))))))))))) [(0, 26), (1, 3), (2, 3), (3, 3), (4, 3), (5, 3), (6, 3), (7, 3), (8, 27)]),
(30, .one),
(31, .one),
(32, .one),
(33, .slice 201 (.pair (.sl (.int .i64)) (.sl (.pair .str (.int .i64)))) 0),
(34, .slice 198 (.pair .str (.pair (.int .i64) (.pair (.int .i64) .bool))) 0),
(35, .struct (.pair (.sl (.pair (.sl (.int .i64)) (.sl (.pair .str (.int .i64))))) (.sl (.pair .str (.pair (.int .i64) (.pair (.int .i64) .bool))))) [(0, 33), (1, 34)]),
(36, .struct (.pair (.sl (.pair (.sl (.int .i64)) (.sl (.pair .str (.int .i64))))) (.sl (.pair .str (.pair (.int .i64) (.pair (.int .i64) .bool))))) [(0, 33), (1, 34)]),
(37, .one),
(38, .slice 179 (.pair (.int .i64) (.pair .str (.pair .str (.pair .str (.sl (.pair .str (.pair (.int .i64) .bool))))))) 0),
(39, .slice 205 (.pair .str (.int .i64)) 0),
(40, .struct (.pair (.sl (.pair (.int .i64) (.pair .str (.pair .str (.pair .str (.sl (.pair .str (.pair (.int .i64) .bool)))))))) (.pair (.int .i64) (.pair (.int .i64) (.pair (.int .i64) (.pair (.int .i64) (.pair (.int .i64) (.pair (.int .i64) (.pair (.int .i64) (.sl (.pair .str (.int .i64))))))))))) [(0, 38), (1, 3), (2, 3), (3, 3), (4, 3), (5, 3), (6, 3), (7, 3), (8, 39)]),
(41, .struct (.pair (.sl (.pair (.int .i64) (.pair .str (.pair .str (.pair .str (.sl (.pair .str (.pair (.int .i64) .bool)))))))) (.pair (.int .i64) (.pair (.int .i64) (.pair (.int .i64) (.pair (.int .i64) (.pair (.int .i64) (.pair (.int .i64) (.pair (.int .i64) (.sl (.pair .str (.int .i64))))))))))) [(0, 38), (1, 3), (2, 3), (3, 3), (4, 3), (5, 3), (6, 3), (7, 3), (8, 39)]),
(42, .one),
(43, .one),
(44, .one),
(45, .one),
(46, .slice 217 (.pair .str (.pair (.int .i64) .bool)) 0),
(47, .struct (.pair (.int .i64) (.pair (.int .i64) (.pair .str (.pair .str (.sl (.pair .str (.pair (.int .i64) .bool))))))) [(0, 3), (1, 3), (2, 9), (3, 9), (4, 46)]),
(48, .struct (.pair (.int .i64) (.pair (.int .i64) (.pair .str (.pair .str (.sl (.pair .str (.pair (.int .i64) .bool))))))) [(0, 3), (1, 3), (2, 9), (3, 9), (4, 46)]),
(49, .one),
(50, .slice 9 .str 0),
(51, .struct (.pair (.int .i64) (.pair (.int .i64) (.pair (.int .i64) (.pair (.sl .str) (.sl (.pair .str (.int .i64))))))) [(0, 3), (1, 3), (2, 3), (3, 50), (4, 39)]),
(52, .struct (.pair (.int .i64) (.pair (.int .i64) (.pair (.int .i64) (.pair (.sl .str) (.sl (.pair .str (.int .i64))))))) [(0, 3), (1, 3), (2, 3), (3, 50), (4, 39)]),
(54, .one),
(55, .slice 226 (.pair .str (.pair (.int .i64) .bool)) 0),
(56, .struct (.pair (.int .i64) (.pair (.int .i64) (.pair .str (.pair .str (.sl (.pair .str (.pair (.int .i64) .bool))))))) [(0, 3), (1, 3), (2, 9), (3, 9), (4, 55)]),
(57, .struct (.pair (.int .i64) (.pair (.int .i64) (.pair .str (.pair .str (.sl (.pair .str (.pair (.int .i64) .bool))))))) [(0, 3), (1, 3), (2, 9), (3, 9), (4, 55)]),
(58, .one),
(59, .one),
(60, .one),
(61, .one),
(62, .one),
(63, .one),
(64, .one),
(65, .slice 48 (.pair (.int .i64) (.pair (.int .i64) (.pair .str (.pair .str (.sl (.pair .str (.pair (.int .i64) .bool))))))) 0),
(66, .one),
(67, .slice 52 (.pair (.int .i64) (.pair (.int .i64) (.pair (.int .i64) (.pair (.sl .str) (.sl (.pair .str (.int .i64))))))) 0),
(69, .one),
(70, .slice 57 (.pair (.int .i64) (.pair (.int .i64) (.pair .str (.pair .str (.sl (.pair .str (.pair (.int .i64) .bool))))))) 0),
(71, .one),
(72, .one),
(73, .one),
(74, .one),
(75, .one),
(76, .one),
(77, .slice 29 (.pair (.sl (.pair (.int .i64) (.pair .str (.pair .str (.pair .str (.sl (.pair .str (.pair (.int .i64) .bool)))))))) (.pair (.int .i64) (.pair (.int .i64) (.pair (.int .i64) (.pair (.int .i64) (.pair (.int .i64) (.pair (.int .i64) (.pair (.int .i64) (.sl (.pair .str (.int .i64))))))))))) 0),
(78, .slice 244 (.pair .str (.pair (.int .i64) (.sl (.pair (.int .i64) (.pair (.int .i64) .bool))))) 0),
(79, .slice 165 (.pair (.int .i64) (.pair (.int .i64) (.pair (.int .i64) (.pair (.pair (.int .i64) (.pair (.int .i64) (.pair .str (.pair .str (.sl (.pair .str (.pair (.int .i64) .bool))))))) (.pair (.int .i64) (.pair (.int .i64) (.pair (.int .i64) (.pair (.sl .str) (.sl (.pair .str (.int .i64))))))))))) 0),
(80, .struct (.pair (.pair (.sl (.pair (.sl (.int .i64)) (.sl (.pair .str (.int .i64))))) (.sl (.pair .str (.pair (.int .i64) (.pair (.int .i64) .bool))))) (.pair (.sl (.pair (.sl (.pair (.int .i64) (.pair .str (.pair .str (.pair .str (.sl (.pair .str (.pair (.int .i64) .bool)))))))) (.pair (.int .i64) (.pair (.int .i64) (.pair (.int .i64) (.pair (.int .i64) (.pair (.int .i64) (.pair (.int .i64) (.pair (.int .i64) (.sl (.pair .str (.int .i64)))))))))))) (.pair (.sl (.pair .str (.pair (.int .i64) (.sl (.pair (.int .i64) (.pair (.int .i64) .bool)))))) (.pair (.sl (.pair (.int .i64) (.pair (.int .i64) (.pair (.int .i64) (.pair (.pair (.int .i64) (.pair (.int .i64) (.pair .str (.pair .str (.sl (.pair .str (.pair (.int .i64) .bool))))))) (.pair (.int .i64) (.pair (.int .i64) (.pair (.int .i64) (.pair (.sl .str) (.sl (.pair .str (.int .i64)))))))))))) (.int .i64))))) [(0, 25), (2, 77), (3, 78), (4, 79), (5, 3)]),
(81, .struct (.pair (.pair (.sl (.pair (.sl (.int .i64)) (.sl (.pair .str (.int .i64))))) (.sl (.pair .str (.pair (.int .i64) (.pair (.int .i64) .bool))))) (.pair (.sl (.pair (.sl (.pair (.int .i64) (.pair .str (.pair .str (.pair .str (.sl (.pair .str (.pair (.int .i64) .bool)))))))) (.pair (.int .i64) (.pair (.int .i64) (.pair (.int .i64) (.pair (.int .i64) (.pair (.int .i64) (.pair (.int .i64) (.pair (.int .i64) (.sl (.pair .str (.int .i64)))))))))))) (.pair (.sl (.pair .str (.pair (.int .i64) (.sl (.pair (.int .i64) (.pair (.int .i64) .bool)))))) (.pair (.sl (.pair (.int .i64) (.pair (.int .i64) (.pair (.int .i64) (.pair (.pair (.int .i64) (.pair (.int .i64) (.pair .str (.pair .str (.sl (.pair .str (.pair (.int .i64) .bool))))))) (.pair (.int .i64) (.pair (.int .i64) (.pair (.int .i64) (.pair (.sl .str) (.sl (.pair .str (.int .i64)))))))))))) (.int .i64))))) [(0, 25), (2, 77), (3, 78), (4, 79), (5, 3)]),
(82, .one),
(83, .one),
(84, .slice 41 (.pair (.sl (.pair (.int .i64) (.pair .str (.pair .str (.pair .str (.sl (.pair .str (.pair (.int .i64) .bool)))))))) (.pair (.int .i64) (.pair (.int .i64) (.pair (.int .i64) (.pair (.int .i64) (.pair (.int .i64) (.pair (.int .i64) (.pair (.int .i64) (.sl (.pair .str (.int .i64))))))))))) 0),
(85, .slice 156 (.pair .str (.pair (.int .i64) (.sl (.pair (.int .i64) (.pair (.int .i64) .bool))))) 0),
(86, .slice 151 (.pair (.int .i64) (.pair (.int .i64) (.pair (.int .i64) (.pair (.pair (.int .i64) (.pair (.int .i64) (.pair .str (.pair .str (.sl (.pair .str (.pair (.int .i64) .bool))))))) (.pair (.int .i64) (.pair (.int .i64) (.pair (.int .i64) (.pair (.sl .str) (.sl (.pair .str (.int .i64))))))))))) 0),
(87, .struct (.pair (.pair (.sl (.pair (.sl (.int .i64)) (.sl (.pair .str (.int .i64))))) (.sl (.pair .str (.pair (.int .i64) (.pair (.int .i64) .bool))))) (.pair (.sl (.pair (.sl (.pair (.int .i64) (.pair .str (.pair .str (.pair .str (.sl (.pair .str (.pair (.int .i64) .bool)))))))) (.pair (.int .i64) (.pair (.int .i64) (.pair (.int .i64) (.pair (.int .i64) (.pair (.int .i64) (.pair (.int .i64) (.pair (.int .i64) (.sl (.pair .str (.int .i64)))))))))))) (.pair (.sl (.pair .str (.pair (.int .i64) (.sl (.pair (.int .i64) (.pair (.int .i64) .bool)))))) (.pair (.sl (.pair (.int .i64) (.pair (.int .i64) (.pair (.int .i64) (.pair (.pair (.int .i64) (.pair (.int .i64) (.pair .str (.pair .str (.sl (.pair .str (.pair (.int .i64) .bool))))))) (.pair (.int .i64) (.pair (.int .i64) (.pair (.int .i64) (.pair (.sl .str) (.sl (.pair .str (.int .i64)))))))))))) (.int .i64))))) [(0, 36), (2, 84), (3, 85), (4, 86), (5, 3)]),
(88, .struct (.pair (.pair (.sl (.pair (.sl (.int .i64)) (.sl (.pair .str (.int .i64))))) (.sl (.pair .str (.pair (.int .i64) (.pair (.int .i64) .bool))))) (.pair (.sl (.pair (.sl (.pair (.int .i64) (.pair .str (.pair .str (.pair .str (.sl (.pair .str (.pair (.int .i64) .bool)))))))) (.pair (.int .i64) (.pair (.int .i64) (.pair (.int .i64) (.pair (.int .i64) (.pair (.int .i64) (.pair (.int .i64) (.pair (.int .i64) (.sl (.pair .str (.int .i64)))))))))))) (.pair (.sl (.pair .str (.pair (.int .i64) (.sl (.pair (.int .i64) (.pair (.int .i64) .bool)))))) (.pair (.sl (.pair (.int .i64) (.pair (.int .i64) (.pair (.int .i64) (.pair (.pair (.int .i64) (.pair (.int .i64) (.pair .str (.pair .str (.sl (.pair .str (.pair (.int .i64) .bool))))))) (.pair (.int .i64) (.pair (.int .i64) (.pair (.int .i64) (.pair (.sl .str) (.sl (.pair .str (.int .i64)))))))))))) (.int .i64))))) [(0, 36), (2, 84), (3, 85), (4, 86), (5, 3)]),
(89, .one),
(90, .one),
(91, .one),
(92, .one),
(93, .one),
(94, .one),
(95, .one),
(96, .one),
(97, .one),
(99, .one),
(101, .one),
(102, .one),
(103, .one),
(105, .one),
(106, .one),
(107, .struct (.pair (.int .i64) (.pair (.int .i64) (.pair (.int .i64) (.pair (.int .i64) (.pair (.int .i64) (.int .i64)))))) [(0, 3), (1, 3), (2, 3), (3, 3), (4, 3), (5, 3)]),
(108, .struct (.pair (.int .i64) (.pair (.int .i64) (.pair (.int .i64) (.pair (.int .i64) (.pair (.int .i64) (.int .i64)))))) [(0, 3), (1, 3), (2, 3), (3, 3), (4, 3), (5, 3)]),
(110, .one),
(111, .one),
(112, .one),
(113, .one),
(114, .one),
(115, .one),
(116, .one),
(117, .one),
(118, .one),
(119, .one),
(120, .one),
(121, .one),
(122, .one),
(123, .one),
(124, .one),
(125, .one),
(126, .one),
(128, .one),
(129, .one),
(130, .one),
(131, .one),
(132, .one),
(133, .one),
(134, .one),
(135, .one),
(136, .one),
(137, .one),
(138, .one),
(139, .one),
(140, .one),
(141, .one),
(142, .one),
(143, .one),
(144, .one),
(145, .one),
(146, .one),
(147, .one),
(148, .one),
(149, .one),
(150, .struct (.pair (.int .i64) (.pair (.int .i64) (.pair (.int .i64) (.pair (.pair (.int .i64) (.pair (.int .i64) (.pair .str (.pair .str (.sl (.pair .str (.pair (.int .i64) .bool))))))) (.pair (.int .i64) (.pair (.int .i64) (.pair (.int .i64) (.pair (.sl .str) (.sl (.pair .str (.int .i64))))))))))) [(0, 3), (1, 3), (2, 3), (3, 57), (8, 52)]),
(151, .struct (.pair (.int .i64) (.pair (.int .i64) (.pair (.int .i64) (.pair (.pair (.int .i64) (.pair (.int .i64) (.pair .str (.pair .str (.sl (.pair .str (.pair (.int .i64) .bool))))))) (.pair (.int .i64) (.pair (.int .i64) (.pair (.int .i64) (.pair (.sl .str) (.sl (.pair .str (.int .i64))))))))))) [(0, 3), (1, 3), (2, 3), (3, 57), (8, 52)]),
(152, .one),
(153, .one),
(154, .slice 251 (.pair (.int .i64) (.pair (.int .i64) .bool)) 0),
(155, .struct (.pair .str (.pair (.int .i64) (.sl (.pair (.int .i64) (.pair (.int .i64) .bool))))) [(0, 9), (1, 3), (2, 154)]),
(156, .struct (.pair .str (.pair (.int .i64) (.sl (.pair (.int .i64) (.pair (.int .i64) .bool))))) [(0, 9), (1, 3), (2, 154)]),
(157, .one),
(158, .one),
(159, .one),
(160, .one),
(161, .one),
(162, .struct (.pair (.int .i64) (.pair (.int .i64) (.pair (.int .i64) (.pair (.sl .str) (.sl (.pair .str (.int .i64))))))) [(0, 3), (1, 3), (2, 3), (3, 50), (4, 27)]),
(163, .struct (.pair (.int .i64) (.pair (.int .i64) (.pair (.int .i64) (.pair (.sl .str) (.sl (.pair .str (.int .i64))))))) [(0, 3), (1, 3), (2, 3), (3, 50), (4, 27)]),
(164, .struct (.pair (.int .i64) (.pair (.int .i64) (.pair (.int .i64) (.pair (.pair (.int .i64) (.pair (.int .i64) (.pair .str (.pair .str (.sl (.pair .str (.pair (.int .i64) .bool))))))) (.pair (.int .i64) (.pair (.int .i64) (.pair (.int .i64) (.pair (.sl .str) (.sl (.pair .str (.int .i64))))))))))) [(0, 3), (1, 3), (2, 3), (3, 48), (8, 163)]),
(165, .struct (.pair (.int .i64) (.pair (.int .i64) (.pair (.int .i64) (.pair (.pair (.int .i64) (.pair (.int .i64) (.pair .str (.pair .str (.sl (.pair .str (.pair (.int .i64) .bool))))))) (.pair (.int .i64) (.pair (.int .i64) (.pair (.int .i64) (.pair (.sl .str) (.sl (.pair .str (.int .i64))))))))))) [(0, 3), (1, 3), (2, 3), (3, 48), (8, 163)]),
(167, .one),
(168, .one),
(169, .one),
(170, .one),
(171, .one),
(172, .one),
(173, .one),
(174, .slice 3 (.int .i64) 0),
(175, .one),
(176, .one),
(177, .one),
(178, .struct (.pair (.int .i64) (.pair .str (.pair .str (.pair .str (.sl (.pair .str (.pair (.int .i64) .bool))))))) [(0, 3), (1, 9), (2, 9), (3, 9), (4, 55)]),
(179, .struct (.pair (.int .i64) (.pair .str (.pair .str (.pair .str (.sl (.pair .str (.pair (.int .i64) .bool))))))) [(0, 3), (1, 9), (2, 9), (3, 9), (4, 55)]),
(180, .one),
(181, .one),
(182, .one),
(183, .one),
(184, .one),
(185, .struct (.pair (.sl (.int .i64)) (.sl (.pair .str (.int .i64)))) [(0, 174), (1, 27)]),
(186, .struct (.pair (.sl (.int .i64)) (.sl (.pair .str (.int .i64)))) [(0, 174), (1, 27)]),
(187, .one),
(188, .struct (.pair .str (.pair (.int .i64) (.pair (.int .i64) .bool))) [(0, 9), (1, 3), (2, 3), (3, 4)]),
(189, .struct (.pair .str (.pair (.int .i64) (.pair (.int .i64) .bool))) [(0, 9), (1, 3), (2, 3), (3, 4)]),
(190, .one),
(191, .struct (.pair (.int .i64) (.pair .str (.pair .str (.pair .str (.sl (.pair .str (.pair (.int .i64) .bool))))))) [(0, 3), (1, 9), (2, 9), (3, 9), (4, 46)]),
(192, .struct (.pair (.int .i64) (.pair .str (.pair .str (.pair .str (.sl (.pair .str (.pair (.int .i64) .bool))))))) [(0, 3), (1, 9), (2, 9), (3, 9), (4, 46)]),
(193, .one),
(194, .struct (.pair .str (.int .i64)) [(0, 9), (1, 3)]),
(195, .struct (.pair .str (.int .i64)) [(0, 9), (1, 3)]),
(196, .one),
(197, .one),
(198, .struct (.pair .str (.pair (.int .i64) (.pair (.int .i64) .bool))) [(0, 9), (1, 3), (2, 3), (3, 4)]),
(199, .one),
(200, .struct (.pair (.sl (.int .i64)) (.sl (.pair .str (.int .i64)))) [(0, 174), (1, 39)]),
(201, .struct (.pair (.sl (.int .i64)) (.sl (.pair .str (.int .i64)))) [(0, 174), (1, 39)]),
(202, .one),
(203, .one),
(204, .one),
(205, .struct (.pair .str (.int .i64)) [(0, 9), (1, 3)]),
(206, .one),
(207, .one),
(208, .one),
(209, .one),
(210, .one),
(211, .one),
(212, .one),
(213, .one),
(214, .one),
(215, .one),
(216, .struct (.pair .str (.pair (.int .i64) .bool)) [(0, 9), (1, 3), (2, 4)]),
(217, .struct (.pair .str (.pair (.int .i64) .bool)) [(0, 9), (1, 3), (2, 4)]),
(218, .one),
(219, .one),
(221, .one),
(222, .one),
(223, .one),
(224, .one),
(225, .one),
(226, .struct (.pair .str (.pair (.int .i64) .bool)) [(0, 9), (1, 3), (2, 4)]),
(227, .one),
(228, .one),
(230, .one),
(231, .one),
(232, .one),
(233, .one),
(234, .one),
(235, .one),
(236, .one),
(237, .one),
(238, .one),
(239, .one),
(240, .slice 5 (.int .u8) 0),
(241, .one),
(242, .slice 304 (.pair (.int .i64) (.pair (.int .i64) .bool)) 0),
(243, .struct (.pair .str (.pair (.int .i64) (.sl (.pair (.int .i64) (.pair (.int .i64) .bool))))) [(0, 9), (1, 3), (2, 242)]),
(244, .struct (.pair .str (.pair (.int .i64) (.sl (.pair (.int .i64) (.pair (.int .i64) .bool))))) [(0, 9), (1, 3), (2, 242)]),
(245, .one),
(246, .one),
(247, .one),
(248, .one),
(249, .one),
(250, .struct (.pair (.int .i64) (.pair (.int .i64) .bool)) [(0, 3), (1, 3), (2, 4)]),
(251, .struct (.pair (.int .i64) (.pair (.int .i64) .bool)) [(0, 3), (1, 3), (2, 4)]),
(252, .one),
(253, .one),
(254, .one),
(255, .one),
(256, .one),
(257, .one),
(258, .one),
(259, .one),
(260, .one),
(262, .one),
(263, .one),
(264, .one),
(265, .struct (.pair .bool (.pair (.sl (.pair .str (.int .i64))) (.pair (.sl (.int .i64)) (.pair (.sl .str) (.int .i64))))) [(0, 4), (1, 39), (2, 174), (3, 50), (4, 3)]),
(266, .struct (.pair .bool (.pair (.sl (.pair .str (.int .i64))) (.pair (.sl (.int .i64)) (.pair (.sl .str) (.int .i64))))) [(0, 4), (1, 39), (2, 174), (3, 50), (4, 3)]),
(267, .one),
(268, .one),
(269, .one),
(270, .one),
(271, .one),
(273, .one),
(274, .one),
(275, .one),
(276, .one),
(277, .one),
(278, .one),
(279, .one),
(280, .one),
(281, .one),
(282, .one),
(283, .one),
(284, .one),
(285, .one),
(286, .one),
(287, .one),
(288, .one),
(289, .one),
(290, .one),
(291, .one),
(292, .one),
(293, .one),
(294, .one),
(296, .one),
(297, .one),
(298, .one),
(299, .one),
(301, .one),
(302, .leaf (.int .u64)),
(303, .one),
(304, .struct (.pair (.int .i64) (.pair (.int .i64) .bool)) [(0, 3), (1, 3), (2, 4)]),
(305, .one),
(306, .one),
(307, .one),
(308, .one),
(310, .one),
(311, .one),
(312, .slice 4 .bool 0),
(313, .one),
(314, .one),
(315, .one),
(316, .one),
(318, .one),
(319, .one),
(320, .one),
(321, .one),
(322, .map 226),
(323, .one),
(324, .one),
(325, .one),
(326, .one),
(327, .one),
(328, .one),
(329, .one),
(330, .one),
(331, .leaf (.int .i64)),
(333, .one),
(334, .one),
(335, .one),
(336, .one),
(337, .one),
(338, .leaf (.int .u32)),
(339, .one),
(340, .leaf (.int .u64)),
(341, .leaf (.int .u64)),
(342, .one),
(343, .one),
(344, .one),
(346, .one),
(348, .one),
(354, .one),
(355, .leaf (.int .u8)),
(356, .leaf (.int .u8)),
(357, .one),
(359, .leaf (.int .i32)),
(360, .leaf (.int .i32)),
(363, .one),
(364, .one)]
def Sg.ptrs : List (Nat × Fw.Ty) := []
theorem Sg.tabOK : Fw.chkAll Tryz.prog Sg.tab = true := by kernel_rfl
theorem Sg.eqsOK : Fw.eqFacts Tryz.prog Sg.tab Sg.eqs = true := by kernel_rfl
theorem Sg.mixOK : Tryz.prog.follows .mixedOrders = true := by kernel_rfl
instance Sg.glob : Fw.GInv := ⟨fun _ => True, fun _ => False, fun _ _ _ h => h⟩
theorem Sg.okT (c : Fw.Cfg) (pi : List (Nat × Fw.PFn)) {g : Nat} {fn : Func} {s : Fw.Sig} {p : Fw.PFn} (h4 : Fw.SigAll Tryz.prog c.sig) (h5 : Fw.InlAll Tryz.prog c.inl) (hr : Fw.InlRel c.inl pi) (hp : Fw.PFn.of fn = some p) (h6 : Fw.LoAllP c pi g p c.lo) (h7 : (Fw.assoc g c.inl).isNone = true) (hg : Tryz.prog.funcs[g]? = some fn) (hcl : Fw.Callable Tryz.prog g) (hF : ∀ x, Fw.funP c pi 6 g p s.ins s.outs x = s.F x) (ht : c.tab = Sg.tab) (he : c.eqs = Sg.eqs) : Fw.Ok Tryz.prog g s :=
 Fw.funP_ok (depth := 6) (Fw.cfgP_ok (by rw [ht]; exact Sg.tabOK) (by rw [ht, he]; exact Sg.eqsOK) Sg.mixOK h4 h5 hr hp h6 h7) hr hp hg hcl hF
abbrev Sg.t0 : Fw.Ty := (.pair (.int .i64) (.pair (.int .i64) .bool))
abbrev Sg.t1 : Fw.Ty := (.pair (.sl .str) (.sl (.pair .str (.int .i64))))
abbrev Sg.t2 : Fw.Ty := (.pair (.sl (.int .i64)) (.sl (.pair .str (.int .i64))))
abbrev Sg.t3 : Fw.Ty := (.pair .str (.sl (.pair .str (.pair (.int .i64) .bool))))
abbrev Sg.t4 : Fw.Ty := (.pair .str Sg.t0)
abbrev Sg.t5 : Fw.Ty := (.pair (.int .i64) Sg.t1)
abbrev Sg.t6 : Fw.Ty := (.pair .str Sg.t3)
abbrev Sg.t7 : Fw.Ty := (.pair (.int .i64) Sg.t5)
abbrev Sg.t8 : Fw.Ty := (.pair (.int .i64) Sg.t6)
abbrev Sg.t9 : Fw.Ty := (.pair (.int .i64) Sg.t7)
abbrev Sg.t10 : Fw.Ty := (.pair (.int .i64) Sg.t8)
abbrev Sg.t11 : Fw.Ty := (.pair (.sl Sg.t2) (.sl Sg.t4))
def Sg.opn : List Nat := [29, 30, 31, 40, 41, 53, 96, 97, 98, 99, 100, 189]
def Sg.i0 : List (Nat × Fw.PFn) := []
abbrev Sg.cf (K : Nat) (sig : List (Nat × Fw.Sig)) (inl : List (Nat × Func)) (lo : List Fw.LSpec) (jo : List Fw.JSpec) : Fw.Cfg := { tab := Sg.tab, eqs := Sg.eqs, sig := sig, inl := inl, lo := lo, K := K, jo := jo, opn := Sg.opn }
noncomputable def Sg.f_qcq : Fw.PFn := PFn.get Tryz.f217
noncomputable def Sg.s_qcq (K : Nat) : Fw.Sig := { ins := [.val false (.sl (.int .i64)), .val false (.int .i64)], outs := [⟨false, (.int .i64), false⟩], F := fun x => R.qcq K x.1 x.2.1 }
noncomputable def Sg.c_qcq (K : Nat) : Fw.Cfg := (Sg.cf K [] [] [] [])
noncomputable def Sg.f_qbU : Fw.PFn := PFn.get Tryz.f143
noncomputable def Sg.s_qbU (K : Nat) : Fw.Sig := { ins := [.val true (.pair .str (.int .i64)), .val false (.int .i64)], outs := [⟨false, (.int .i64), false⟩], F := fun x => R.qbU K x.1 x.2.1 }
noncomputable def Sg.c_qbU (K : Nat) : Fw.Cfg := (Sg.cf K [] [] [] [])
def Sg.h_qbu_0 : Fw.StSh := ⟨[(0, (.d (.sl (.pair .str (.int .i64))))), (1, (.d (.int .i64))), (4, (.d (.int .i64))), (5, (.d (.int .i64)))], [], 0, 27, ⟨0, []⟩⟩
def Sg.o_qbu_0 : Fw.StSh := ⟨[(1, (.d (.int .i64))), (4, (.d (.int .i64)))], [], 0, 27, ⟨0, []⟩⟩
def Sg.r_qbu_0 : Fw.StSh := ⟨[(4, (.d (.int .i64)))], [], 0, 27, ⟨0, []⟩⟩
noncomputable def Sg.p_qbu_0 (K : Nat) : Fw.LSpec := { g := 72, b := 0, lv := 6, l0 := 0, li := 0, head := Sg.h_qbu_0, post := Sg.o_qbu_0, retn := Sg.r_qbu_0, ex := 0, L := R.L_qbu_0 K }
noncomputable def Sg.f_qbu : Fw.PFn := PFn.get Tryz.f72
noncomputable def Sg.s_qbu (K : Nat) : Fw.Sig := { ins := [.val false (.sl (.pair .str (.int .i64))), .val false (.int .i64)], outs := [⟨false, (.int .i64), false⟩], F := fun x => R.qbu K x.1 x.2.1 }
noncomputable def Sg.c_qbu (K : Nat) : Fw.Cfg := (Sg.cf K [(143, Sg.s_qbU K)] [] (Sg.p_qbu_0 K :: []) [])
noncomputable def Sg.f_qbq : Fw.PFn := PFn.get Tryz.f140
noncomputable def Sg.s_qbq (K : Nat) : Fw.Sig := { ins := [.val true Sg.t2, .val false (.int .i64)], outs := [⟨false, (.int .i64), false⟩], F := fun x => R.qbq K x.1 x.2.1 }
noncomputable def Sg.c_qbq (K : Nat) : Fw.Cfg := (Sg.cf K [(217, Sg.s_qcq K), (72, Sg.s_qbu K)] [] [] [])
def Sg.h_qbb_0 : Fw.StSh := ⟨[(0, (.d (.sl Sg.t2))), (1, (.d (.int .i64))), (4, (.d (.int .i64))), (5, (.d (.int .i64)))], [], 0, 27, ⟨0, []⟩⟩
def Sg.o_qbb_0 : Fw.StSh := ⟨[(1, (.d (.int .i64))), (4, (.d (.int .i64)))], [], 0, 27, ⟨0, []⟩⟩
def Sg.r_qbb_0 : Fw.StSh := ⟨[(4, (.d (.int .i64)))], [], 0, 27, ⟨0, []⟩⟩
noncomputable def Sg.p_qbb_0 (K : Nat) : Fw.LSpec := { g := 69, b := 0, lv := 6, l0 := 0, li := 0, head := Sg.h_qbb_0, post := Sg.o_qbb_0, retn := Sg.r_qbb_0, ex := 0, L := R.L_qbb_0 K }
noncomputable def Sg.f_qbb : Fw.PFn := PFn.get Tryz.f69
noncomputable def Sg.s_qbb (K : Nat) : Fw.Sig := { ins := [.val false (.sl Sg.t2), .val false (.int .i64)], outs := [⟨false, (.int .i64), false⟩], F := fun x => R.qbb K x.1 x.2.1 }
noncomputable def Sg.c_qbb (K : Nat) : Fw.Cfg := (Sg.cf K [(140, Sg.s_qbq K)] [] (Sg.p_qbb_0 K :: []) [])
noncomputable def Sg.f_qcR : Fw.PFn := PFn.get Tryz.f141
noncomputable def Sg.s_qcR (K : Nat) : Fw.Sig := { ins := [.val true Sg.t4, .val false (.int .i64)], outs := [⟨false, (.int .i64), false⟩], F := fun x => R.qcR K x.1 x.2.1 }
noncomputable def Sg.c_qcR (K : Nat) : Fw.Cfg := (Sg.cf K [] [] [] [])
def Sg.h_qcE_0 : Fw.StSh := ⟨[(0, (.d (.sl Sg.t4))), (1, (.d (.int .i64))), (4, (.d (.int .i64))), (5, (.d (.int .i64)))], [], 0, 27, ⟨0, []⟩⟩
def Sg.o_qcE_0 : Fw.StSh := ⟨[(1, (.d (.int .i64))), (4, (.d (.int .i64)))], [], 0, 27, ⟨0, []⟩⟩
def Sg.r_qcE_0 : Fw.StSh := ⟨[(4, (.d (.int .i64)))], [], 0, 27, ⟨0, []⟩⟩
noncomputable def Sg.p_qcE_0 (K : Nat) : Fw.LSpec := { g := 70, b := 0, lv := 6, l0 := 0, li := 0, head := Sg.h_qcE_0, post := Sg.o_qcE_0, retn := Sg.r_qcE_0, ex := 0, L := R.L_qcE_0 K }
noncomputable def Sg.f_qcE : Fw.PFn := PFn.get Tryz.f70
noncomputable def Sg.s_qcE (K : Nat) : Fw.Sig := { ins := [.val false (.sl Sg.t4), .val false (.int .i64)], outs := [⟨false, (.int .i64), false⟩], F := fun x => R.qcE K x.1 x.2.1 }
noncomputable def Sg.c_qcE (K : Nat) : Fw.Cfg := (Sg.cf K [(141, Sg.s_qcR K)] [] (Sg.p_qcE_0 K :: []) [])
noncomputable def Sg.f_qcj : Fw.PFn := PFn.get Tryz.f15
noncomputable def Sg.s_qcj (K : Nat) : Fw.Sig := { ins := [.val true Sg.t11, .val false (.int .i64)], outs := [⟨false, (.int .i64), false⟩], F := fun x => R.qcj K x.1 x.2.1 }
noncomputable def Sg.c_qcj (K : Nat) : Fw.Cfg := (Sg.cf K [(69, Sg.s_qbb K), (70, Sg.s_qcE K)] [] [] [])
noncomputable def Sg.f_qcv : Fw.PFn := PFn.get Tryz.f163
noncomputable def Sg.s_qcv (K : Nat) : Fw.Sig := { ins := [.val true (.pair .str (.pair (.int .i64) .bool)), .val false (.int .i64)], outs := [⟨false, (.int .i64), false⟩], F := fun x => R.qcv K x.1 x.2.1 }
noncomputable def Sg.c_qcv (K : Nat) : Fw.Cfg := (Sg.cf K [] [] [] [])
def Sg.h_qbP_0 : Fw.StSh := ⟨[(0, (.d (.sl (.pair .str (.pair (.int .i64) .bool))))), (1, (.d (.int .i64))), (4, (.d (.int .i64))), (5, (.d (.int .i64)))], [], 0, 27, ⟨0, []⟩⟩
def Sg.o_qbP_0 : Fw.StSh := ⟨[(1, (.d (.int .i64))), (4, (.d (.int .i64)))], [], 0, 27, ⟨0, []⟩⟩
def Sg.r_qbP_0 : Fw.StSh := ⟨[(4, (.d (.int .i64)))], [], 0, 27, ⟨0, []⟩⟩
noncomputable def Sg.p_qbP_0 (K : Nat) : Fw.LSpec := { g := 85, b := 0, lv := 6, l0 := 0, li := 0, head := Sg.h_qbP_0, post := Sg.o_qbP_0, retn := Sg.r_qbP_0, ex := 0, L := R.L_qbP_0 K }
noncomputable def Sg.f_qbP : Fw.PFn := PFn.get Tryz.f85
noncomputable def Sg.s_qbP (K : Nat) : Fw.Sig := { ins := [.val false (.sl (.pair .str (.pair (.int .i64) .bool))), .val false (.int .i64)], outs := [⟨false, (.int .i64), false⟩], F := fun x => R.qbP K x.1 x.2.1 }
noncomputable def Sg.c_qbP (K : Nat) : Fw.Cfg := (Sg.cf K [(163, Sg.s_qcv K)] [] (Sg.p_qbP_0 K :: []) [])
noncomputable def Sg.f_qdh : Fw.PFn := PFn.get Tryz.f23
noncomputable def Sg.s_qdh (K : Nat) : Fw.Sig := { ins := [.val true Sg.t10, .val false (.int .i64)], outs := [⟨false, (.int .i64), false⟩], F := fun x => R.qdh K x.1 x.2.1 }
noncomputable def Sg.c_qdh (K : Nat) : Fw.Cfg := (Sg.cf K [(85, Sg.s_qbP K)] [] [] [])
def Sg.h_qcG_0 : Fw.StSh := ⟨[(0, (.d (.sl (.int .i64)))), (2, (.row 0)), (3, (.row 1)), (4, (.d (.int .i64)))], [(0, (.row (.int .i64) true)), (1, (.row (.int .i64) true))], 2, 22, ⟨0, []⟩⟩
def Sg.o_qcG_0 : Fw.StSh := ⟨[(2, (.row 0)), (3, (.row 1))], [(0, (.row (.int .i64) true)), (1, (.row (.int .i64) true))], 2, 22, ⟨0, []⟩⟩
def Sg.r_qcG_0 : Fw.StSh := ⟨[], [], 2, 22, ⟨0, []⟩⟩
noncomputable def Sg.p_qcG_0 (K : Nat) : Fw.LSpec := { g := 224, b := 0, lv := 6, l0 := 0, li := 0, head := Sg.h_qcG_0, post := Sg.o_qcG_0, retn := Sg.r_qcG_0, ex := 0, L := R.L_qcG_0 K }
noncomputable def Sg.f_qcG : Fw.PFn := PFn.get Tryz.f224
noncomputable def Sg.s_qcG (K : Nat) : Fw.Sig := { ins := [.val false (.sl (.int .i64))], outs := [⟨false, (.sl (.int .i64)), true⟩], F := fun x => R.qcG K x.1 }
noncomputable def Sg.c_qcG (K : Nat) : Fw.Cfg := (Sg.cf K [] [] (Sg.p_qcG_0 K :: []) [])
noncomputable def Sg.f_qce : Fw.PFn := PFn.get Tryz.f151
noncomputable def Sg.s_qce (K : Nat) : Fw.Sig := { ins := [.val true (.pair .str (.int .i64))], outs := [⟨true, (.pair .str (.int .i64)), false⟩], F := fun x => R.qce K x.1 }
noncomputable def Sg.c_qce (K : Nat) : Fw.Cfg := (Sg.cf K [] [] [] [])
def Sg.h_qbC_0 : Fw.StSh := ⟨[(0, (.d (.sl (.pair .str (.int .i64))))), (2, (.row 0)), (3, (.row 1)), (4, (.d (.int .i64)))], [(0, (.row (.pair .str (.int .i64)) true)), (1, (.row (.pair .str (.int .i64)) true))], 2, 23, ⟨0, []⟩⟩
def Sg.o_qbC_0 : Fw.StSh := ⟨[(2, (.row 0)), (3, (.row 1))], [(0, (.row (.pair .str (.int .i64)) true)), (1, (.row (.pair .str (.int .i64)) true))], 2, 23, ⟨0, []⟩⟩
def Sg.r_qbC_0 : Fw.StSh := ⟨[], [], 2, 23, ⟨0, []⟩⟩
noncomputable def Sg.p_qbC_0 (K : Nat) : Fw.LSpec := { g := 78, b := 0, lv := 6, l0 := 0, li := 0, head := Sg.h_qbC_0, post := Sg.o_qbC_0, retn := Sg.r_qbC_0, ex := 0, L := R.L_qbC_0 K }
noncomputable def Sg.f_qbC : Fw.PFn := PFn.get Tryz.f78
noncomputable def Sg.s_qbC (K : Nat) : Fw.Sig := { ins := [.val false (.sl (.pair .str (.int .i64)))], outs := [⟨false, (.sl (.pair .str (.int .i64))), true⟩], F := fun x => R.qbC K x.1 }
noncomputable def Sg.c_qbC (K : Nat) : Fw.Cfg := (Sg.cf K [(151, Sg.s_qce K)] [] (Sg.p_qbC_0 K :: []) [])
noncomputable def Sg.f_qbt : Fw.PFn := PFn.get Tryz.f148
noncomputable def Sg.s_qbt (K : Nat) : Fw.Sig := { ins := [.val true Sg.t2], outs := [⟨true, Sg.t2, true⟩], F := fun x => R.qbt K x.1 }
noncomputable def Sg.c_qbt (K : Nat) : Fw.Cfg := (Sg.cf K [(224, Sg.s_qcG K), (78, Sg.s_qbC K)] [] [] [])
def Sg.h_qbf_0 : Fw.StSh := ⟨[(0, (.d (.sl Sg.t2))), (2, (.row 0)), (3, (.row 1)), (4, (.d (.int .i64)))], [(0, (.row Sg.t2 true)), (1, (.row Sg.t2 true))], 2, 23, ⟨0, []⟩⟩
def Sg.o_qbf_0 : Fw.StSh := ⟨[(2, (.row 0)), (3, (.row 1))], [(0, (.row Sg.t2 true)), (1, (.row Sg.t2 true))], 2, 23, ⟨0, []⟩⟩
def Sg.r_qbf_0 : Fw.StSh := ⟨[], [], 2, 23, ⟨0, []⟩⟩
noncomputable def Sg.p_qbf_0 (K : Nat) : Fw.LSpec := { g := 75, b := 0, lv := 6, l0 := 0, li := 0, head := Sg.h_qbf_0, post := Sg.o_qbf_0, retn := Sg.r_qbf_0, ex := 0, L := R.L_qbf_0 K }
noncomputable def Sg.f_qbf : Fw.PFn := PFn.get Tryz.f75
noncomputable def Sg.s_qbf (K : Nat) : Fw.Sig := { ins := [.val false (.sl Sg.t2)], outs := [⟨false, (.sl Sg.t2), true⟩], F := fun x => R.qbf K x.1 }
noncomputable def Sg.c_qbf (K : Nat) : Fw.Cfg := (Sg.cf K [(148, Sg.s_qbt K)] [] (Sg.p_qbf_0 K :: []) [])
noncomputable def Sg.f_qcV : Fw.PFn := PFn.get Tryz.f149
noncomputable def Sg.s_qcV (K : Nat) : Fw.Sig := { ins := [.val true Sg.t4], outs := [⟨true, Sg.t4, false⟩], F := fun x => R.qcV K x.1 }
noncomputable def Sg.c_qcV (K : Nat) : Fw.Cfg := (Sg.cf K [] [] [] [])
def Sg.h_qcr_0 : Fw.StSh := ⟨[(0, (.d (.sl Sg.t4))), (2, (.row 0)), (3, (.row 1)), (4, (.d (.int .i64)))], [(0, (.row Sg.t4 true)), (1, (.row Sg.t4 true))], 2, 23, ⟨0, []⟩⟩
def Sg.o_qcr_0 : Fw.StSh := ⟨[(2, (.row 0)), (3, (.row 1))], [(0, (.row Sg.t4 true)), (1, (.row Sg.t4 true))], 2, 23, ⟨0, []⟩⟩
def Sg.r_qcr_0 : Fw.StSh := ⟨[], [], 2, 23, ⟨0, []⟩⟩
noncomputable def Sg.p_qcr_0 (K : Nat) : Fw.LSpec := { g := 76, b := 0, lv := 6, l0 := 0, li := 0, head := Sg.h_qcr_0, post := Sg.o_qcr_0, retn := Sg.r_qcr_0, ex := 0, L := R.L_qcr_0 K }
noncomputable def Sg.f_qcr : Fw.PFn := PFn.get Tryz.f76
noncomputable def Sg.s_qcr (K : Nat) : Fw.Sig := { ins := [.val false (.sl Sg.t4)], outs := [⟨false, (.sl Sg.t4), true⟩], F := fun x => R.qcr K x.1 }
noncomputable def Sg.c_qcr (K : Nat) : Fw.Cfg := (Sg.cf K [(149, Sg.s_qcV K)] [] (Sg.p_qcr_0 K :: []) [])
noncomputable def Sg.f_qco : Fw.PFn := PFn.get Tryz.f18
noncomputable def Sg.s_qco (K : Nat) : Fw.Sig := { ins := [.val true Sg.t11], outs := [⟨true, Sg.t11, true⟩], F := fun x => R.qco K x.1 }
noncomputable def Sg.c_qco (K : Nat) : Fw.Cfg := (Sg.cf K [(75, Sg.s_qbf K), (76, Sg.s_qcr K)] [] [] [])
noncomputable def Sg.f_qch : Fw.PFn := PFn.get Tryz.f174
noncomputable def Sg.s_qch (K : Nat) : Fw.Sig := { ins := [.val true (.pair .str (.pair (.int .i64) .bool))], outs := [⟨true, (.pair .str (.pair (.int .i64) .bool)), false⟩], F := fun x => R.qch K x.1 }
noncomputable def Sg.c_qch (K : Nat) : Fw.Cfg := (Sg.cf K [] [] [] [])
def Sg.h_qca_0 : Fw.StSh := ⟨[(0, (.d (.sl (.pair .str (.pair (.int .i64) .bool))))), (2, (.row 0)), (3, (.row 1)), (4, (.d (.int .i64)))], [(0, (.row (.pair .str (.pair (.int .i64) .bool)) true)), (1, (.row (.pair .str (.pair (.int .i64) .bool)) true))], 2, 23, ⟨0, []⟩⟩
def Sg.o_qca_0 : Fw.StSh := ⟨[(2, (.row 0)), (3, (.row 1))], [(0, (.row (.pair .str (.pair (.int .i64) .bool)) true)), (1, (.row (.pair .str (.pair (.int .i64) .bool)) true))], 2, 23, ⟨0, []⟩⟩
def Sg.r_qca_0 : Fw.StSh := ⟨[], [], 2, 23, ⟨0, []⟩⟩
noncomputable def Sg.p_qca_0 (K : Nat) : Fw.LSpec := { g := 90, b := 0, lv := 6, l0 := 0, li := 0, head := Sg.h_qca_0, post := Sg.o_qca_0, retn := Sg.r_qca_0, ex := 0, L := R.L_qca_0 K }
noncomputable def Sg.f_qca : Fw.PFn := PFn.get Tryz.f90
noncomputable def Sg.s_qca (K : Nat) : Fw.Sig := { ins := [.val false (.sl (.pair .str (.pair (.int .i64) .bool)))], outs := [⟨false, (.sl (.pair .str (.pair (.int .i64) .bool))), true⟩], F := fun x => R.qca K x.1 }
noncomputable def Sg.c_qca (K : Nat) : Fw.Cfg := (Sg.cf K [(174, Sg.s_qch K)] [] (Sg.p_qca_0 K :: []) [])
noncomputable def Sg.f_qdg : Fw.PFn := PFn.get Tryz.f25
noncomputable def Sg.s_qdg (K : Nat) : Fw.Sig := { ins := [.val true Sg.t10], outs := [⟨true, Sg.t10, true⟩], F := fun x => R.qdg K x.1 }
noncomputable def Sg.c_qdg (K : Nat) : Fw.Cfg := (Sg.cf K [(90, Sg.s_qca K)] [] [] [])
noncomputable def Sg.f_qcM : Fw.PFn := PFn.get Tryz.f135
noncomputable def Sg.s_qcM (K : Nat) : Fw.Sig := { ins := [.val false (.int .i64), .val false (.int .i64), .val false (.int .i64)], outs := [⟨false, .bool, false⟩], F := fun x => R.qcM K x.1 x.2.1 x.2.2.1 }
noncomputable def Sg.c_qcM (K : Nat) : Fw.Cfg := (Sg.cf K [] [] [] [])
noncomputable def Sg.f_qaV : Fw.PFn := PFn.get Tryz.f238
noncomputable def Sg.s_qaV (K : Nat) : Fw.Sig := { ins := [.val false (.int .u8)], outs := [⟨false, .bool, false⟩], F := fun x => R.qaV K x.1 }
noncomputable def Sg.c_qaV (K : Nat) : Fw.Cfg := (Sg.cf K [] [] [] [])
noncomputable def Sg.f_qbk : Fw.PFn := PFn.get Tryz.f239
noncomputable def Sg.s_qbk (K : Nat) : Fw.Sig := { ins := [.val false (.int .u8)], outs := [⟨false, .bool, false⟩], F := fun x => R.qbk K x.1 }
noncomputable def Sg.c_qbk (K : Nat) : Fw.Cfg := (Sg.cf K [] [] [] [])
def Sg.h_qcc_0 : Fw.StSh := ⟨[(0, (.d .str)), (2, (.d .bool)), (3, (.d (.int .i64)))], [], 0, 36, ⟨0, []⟩⟩
def Sg.o_qcc_0 : Fw.StSh := ⟨[(2, (.d .bool))], [], 0, 36, ⟨0, []⟩⟩
def Sg.r_qcc_0 : Fw.StSh := ⟨[(2, (.d .bool))], [], 0, 36, ⟨0, []⟩⟩
noncomputable def Sg.p_qcc_0 (K : Nat) : Fw.LSpec := { g := 164, b := 0, lv := 6, l0 := 0, li := 0, head := Sg.h_qcc_0, post := Sg.o_qcc_0, retn := Sg.r_qcc_0, ex := 0, L := R.L_qcc_0 K }
noncomputable def Sg.f_qcc : Fw.PFn := PFn.get Tryz.f164
noncomputable def Sg.s_qcc (K : Nat) : Fw.Sig := { ins := [.val false .str], outs := [⟨false, .bool, false⟩], F := fun x => R.qcc K x.1 }
noncomputable def Sg.c_qcc (K : Nat) : Fw.Cfg := (Sg.cf K [(238, Sg.s_qaV K), (239, Sg.s_qbk K)] [] (Sg.p_qcc_0 K :: []) [])
def Sg.h_qcW_0 : Fw.StSh := ⟨[(0, (.d (.sl (.pair .str (.int .i64))))), (2, (.d .bool)), (3, (.d (.int .i64)))], [], 0, 47, ⟨0, []⟩⟩
def Sg.o_qcW_0 : Fw.StSh := ⟨[(2, (.d .bool))], [], 0, 47, ⟨0, []⟩⟩
def Sg.r_qcW_0 : Fw.StSh := ⟨[(2, (.d .bool))], [], 0, 47, ⟨0, []⟩⟩
noncomputable def Sg.p_qcW_0 (K : Nat) : Fw.LSpec := { g := 259, b := 0, lv := 6, l0 := 0, li := 0, head := Sg.h_qcW_0, post := Sg.o_qcW_0, retn := Sg.r_qcW_0, ex := 0, L := R.L_qcW_0 K }
noncomputable def Sg.f_qcW : Fw.PFn := PFn.get Tryz.f259
noncomputable def Sg.s_qcW (K : Nat) : Fw.Sig := { ins := [.val false (.sl (.pair .str (.int .i64)))], outs := [⟨false, .bool, false⟩], F := fun x => R.qcW K x.1 }
noncomputable def Sg.c_qcW (K : Nat) : Fw.Cfg := (Sg.cf K [(135, Sg.s_qcM K), (164, Sg.s_qcc K)] [] (Sg.p_qcW_0 K :: []) (⟨259, 0, 6, 0, 6, none⟩ :: []))
def Sg.h_qaX_0 : Fw.StSh := ⟨[(0, (.d (.sl Sg.t2))), (3, (.ref 0 0)), (4, (.d .bool)), (5, (.d (.int .i64))), (6, (.d (.int .i64)))], [(0, (.box [(.d (.sl (.int .i64))), (.d (.sl (.pair .str (.int .i64))))]))], 1, 56, ⟨0, []⟩⟩
def Sg.o_qaX_0 : Fw.StSh := ⟨[(4, (.d .bool))], [], 1, 56, ⟨0, []⟩⟩
def Sg.r_qaX_0 : Fw.StSh := ⟨[(4, (.d .bool))], [], 1, 56, ⟨0, []⟩⟩
noncomputable def Sg.p_qaX_0 (K : Nat) : Fw.LSpec := { g := 218, b := 0, lv := 6, l0 := 0, li := 0, head := Sg.h_qaX_0, post := Sg.o_qaX_0, retn := Sg.r_qaX_0, ex := 0, L := R.L_qaX_0 K }
noncomputable def Sg.f_qaX : Fw.PFn := PFn.get Tryz.f218
noncomputable def Sg.s_qaX (K : Nat) : Fw.Sig := { ins := [.val false (.sl Sg.t2), .val true Sg.t2], outs := [⟨false, .bool, false⟩], F := fun x => R.qaX K x.1 x.2.1 }
noncomputable def Sg.c_qaX (K : Nat) : Fw.Cfg := (Sg.cf K [(135, Sg.s_qcM K), (259, Sg.s_qcW K)] [] (Sg.p_qaX_0 K :: []) (⟨218, 0, 6, 0, 7, none⟩ :: []))
def Sg.h_qcI_0 : Fw.StSh := ⟨[(0, (.d (.sl Sg.t2))), (2, (.d .bool)), (3, (.d (.int .i64)))], [], 0, 23, ⟨0, []⟩⟩
def Sg.o_qcI_0 : Fw.StSh := ⟨[(2, (.d .bool))], [], 0, 23, ⟨0, []⟩⟩
def Sg.r_qcI_0 : Fw.StSh := ⟨[(2, (.d .bool))], [], 0, 23, ⟨0, []⟩⟩
noncomputable def Sg.p_qcI_0 (K : Nat) : Fw.LSpec := { g := 144, b := 0, lv := 6, l0 := 0, li := 0, head := Sg.h_qcI_0, post := Sg.o_qcI_0, retn := Sg.r_qcI_0, ex := 0, L := R.L_qcI_0 K }
noncomputable def Sg.f_qcI : Fw.PFn := PFn.get Tryz.f144
noncomputable def Sg.s_qcI (K : Nat) : Fw.Sig := { ins := [.val false (.sl Sg.t2)], outs := [⟨false, .bool, false⟩], F := fun x => R.qcI K x.1 }
noncomputable def Sg.c_qcI (K : Nat) : Fw.Cfg := (Sg.cf K [(135, Sg.s_qcM K), (218, Sg.s_qaX K)] [] (Sg.p_qcI_0 K :: []) (⟨144, 0, 6, 0, 6, none⟩ :: []))
def Sg.h_qcX_0 : Fw.StSh := ⟨[(0, (.d (.sl Sg.t4))), (1, (.d .str)), (4, (.d (.int .i64))), (5, (.d (.int .i64)))], [], 0, 20, ⟨0, []⟩⟩
def Sg.o_qcX_0 : Fw.StSh := ⟨[(4, (.d (.int .i64)))], [], 0, 20, ⟨0, []⟩⟩
def Sg.r_qcX_0 : Fw.StSh := ⟨[(4, (.d (.int .i64)))], [], 0, 20, ⟨0, []⟩⟩
noncomputable def Sg.p_qcX_0 (K : Nat) : Fw.LSpec := { g := 219, b := 0, lv := 6, l0 := 0, li := 0, head := Sg.h_qcX_0, post := Sg.o_qcX_0, retn := Sg.r_qcX_0, ex := 0, L := R.L_qcX_0 K }
noncomputable def Sg.f_qcX : Fw.PFn := PFn.get Tryz.f219
noncomputable def Sg.s_qcX (K : Nat) : Fw.Sig := { ins := [.val false (.sl Sg.t4), .val false .str], outs := [⟨false, (.int .i64), false⟩], F := fun x => R.qcX K x.1 x.2.1 }
noncomputable def Sg.c_qcX (K : Nat) : Fw.Cfg := (Sg.cf K [] [] (Sg.p_qcX_0 K :: []) [])
def Sg.h_qcL_0 : Fw.StSh := ⟨[(0, (.d (.sl Sg.t4))), (2, (.d .bool)), (3, (.d (.int .i64)))], [], 0, 56, ⟨0, []⟩⟩
def Sg.o_qcL_0 : Fw.StSh := ⟨[(2, (.d .bool))], [], 0, 56, ⟨0, []⟩⟩
def Sg.r_qcL_0 : Fw.StSh := ⟨[(2, (.d .bool))], [], 1, 56, ⟨0, []⟩⟩
noncomputable def Sg.p_qcL_0 (K : Nat) : Fw.LSpec := { g := 145, b := 0, lv := 6, l0 := 0, li := 0, head := Sg.h_qcL_0, post := Sg.o_qcL_0, retn := Sg.r_qcL_0, ex := 0, L := R.L_qcL_0 K }
noncomputable def Sg.f_qcL : Fw.PFn := PFn.get Tryz.f145
noncomputable def Sg.s_qcL (K : Nat) : Fw.Sig := { ins := [.val false (.sl Sg.t4)], outs := [⟨false, .bool, false⟩], F := fun x => R.qcL K x.1 }
noncomputable def Sg.c_qcL (K : Nat) : Fw.Cfg := (Sg.cf K [(135, Sg.s_qcM K), (164, Sg.s_qcc K), (219, Sg.s_qcX K)] [] (Sg.p_qcL_0 K :: []) [])
def Sg.h_qcQ_0 : Fw.StSh := ⟨[(1, (.ref 0 0)), (2, (.d .bool)), (3, (.d (.int .i64)))], [(0, (.box [(.d (.sl Sg.t2)), (.d (.sl Sg.t4))]))], 1, 31, ⟨0, []⟩⟩
def Sg.o_qcQ_0 : Fw.StSh := ⟨[(2, (.d .bool))], [], 1, 31, ⟨0, []⟩⟩
def Sg.r_qcQ_0 : Fw.StSh := ⟨[(2, (.d .bool))], [], 1, 31, ⟨0, []⟩⟩
noncomputable def Sg.p_qcQ_0 (K : Nat) : Fw.LSpec := { g := 73, b := 0, lv := 6, l0 := 0, li := 0, head := Sg.h_qcQ_0, post := Sg.o_qcQ_0, retn := Sg.r_qcQ_0, ex := 0, L := R.L_qcQ_0 K }
noncomputable def Sg.f_qcQ : Fw.PFn := PFn.get Tryz.f73
noncomputable def Sg.s_qcQ (K : Nat) : Fw.Sig := { ins := [.val true Sg.t11], outs := [⟨false, .bool, false⟩], F := fun x => R.qcQ K x.1 }
noncomputable def Sg.c_qcQ (K : Nat) : Fw.Cfg := (Sg.cf K [(144, Sg.s_qcI K), (145, Sg.s_qcL K)] [] (Sg.p_qcQ_0 K :: []) (⟨73, 0, 6, 0, 6, none⟩ :: []))
def Sg.h_qbF_0 : Fw.StSh := ⟨[(0, (.d (.sl (.pair .str (.pair (.int .i64) .bool))))), (2, (.d .bool)), (3, (.d (.int .i64)))], [], 0, 52, ⟨0, []⟩⟩
def Sg.o_qbF_0 : Fw.StSh := ⟨[(2, (.d .bool))], [], 0, 52, ⟨0, []⟩⟩
def Sg.r_qbF_0 : Fw.StSh := ⟨[(2, (.d .bool))], [], 1, 52, ⟨0, []⟩⟩
noncomputable def Sg.p_qbF_0 (K : Nat) : Fw.LSpec := { g := 165, b := 0, lv := 6, l0 := 0, li := 0, head := Sg.h_qbF_0, post := Sg.o_qbF_0, retn := Sg.r_qbF_0, ex := 0, L := R.L_qbF_0 K }
noncomputable def Sg.f_qbF : Fw.PFn := PFn.get Tryz.f165
noncomputable def Sg.s_qbF (K : Nat) : Fw.Sig := { ins := [.val false (.sl (.pair .str (.pair (.int .i64) .bool)))], outs := [⟨false, .bool, false⟩], F := fun x => R.qbF K x.1 }
noncomputable def Sg.c_qbF (K : Nat) : Fw.Cfg := (Sg.cf K [(135, Sg.s_qcM K), (164, Sg.s_qcc K)] [] (Sg.p_qbF_0 K :: []) (⟨165, 0, 6, 0, 7, none⟩ :: []))
noncomputable def Sg.f_qcY : Fw.PFn := PFn.get Tryz.f86
noncomputable def Sg.s_qcY (K : Nat) : Fw.Sig := { ins := [.val true Sg.t10], outs := [⟨false, .bool, false⟩], F := fun x => R.qcY K x.1 }
noncomputable def Sg.c_qcY (K : Nat) : Fw.Cfg := (Sg.cf K [(135, Sg.s_qcM K), (164, Sg.s_qcc K), (165, Sg.s_qbF K)] [] [] [])
noncomputable def Sg.f_qbM : Fw.PFn := PFn.get Tryz.f166
noncomputable def Sg.s_qbM (K : Nat) : Fw.Sig := { ins := [.val false (.int .i64), .val false (.sl .str)], outs := [⟨true, Sg.t9, false⟩], F := fun x => R.qbM K x.1 x.2.1 }
noncomputable def Sg.c_qbM (K : Nat) : Fw.Cfg := (Sg.cf K [] [] [] [])
noncomputable def Sg.f_qcl : Fw.PFn := PFn.get Tryz.f240
noncomputable def Sg.s_qcl (K : Nat) : Fw.Sig := { ins := [.val false (.sl Sg.t4), .val false (.int .i64), .val false (.int .i64), .val false .bool], outs := [⟨false, (.sl Sg.t4), true⟩], F := fun x => R.qcl K x.1 x.2.1 x.2.2.1 x.2.2.2.1 }
noncomputable def Sg.c_qcl (K : Nat) : Fw.Cfg := (Sg.cf K [] [] [] [])
noncomputable def Sg.f_qaZ : Fw.PFn := PFn.get Tryz.f167
noncomputable def Sg.s_qaZ (K : Nat) : Fw.Sig := { ins := [.val false (.sl Sg.t4), .val false .str, .val false (.int .i64)], outs := [⟨false, (.sl Sg.t4), false⟩, ⟨false, (.int .i64), false⟩], F := fun x => R.qaZ K x.1 x.2.1 x.2.2.1 }
noncomputable def Sg.c_qaZ (K : Nat) : Fw.Cfg := (Sg.cf K [(219, Sg.s_qcX K), (240, Sg.s_qcl K)] [] [] [])
noncomputable def Sg.f_qbS : Fw.PFn := PFn.get Tryz.f168
noncomputable def Sg.s_qbS (K : Nat) : Fw.Sig := { ins := [.val false (.sl Sg.t4), .val false .str], outs := [⟨false, (.int .i64), false⟩], F := fun x => R.qbS K x.1 x.2.1 }
noncomputable def Sg.c_qbS (K : Nat) : Fw.Cfg := (Sg.cf K [(219, Sg.s_qcX K)] [] [] [])
noncomputable def Sg.f_qaY : Fw.PFn := PFn.get Tryz.f169
noncomputable def Sg.s_qaY (K : Nat) : Fw.Sig := { ins := [.val false (.sl Sg.t4), .val false .str], outs := [⟨false, (.sl Sg.t4), false⟩, ⟨false, (.int .i64), false⟩], F := fun x => R.qaY K x.1 x.2.1 }
noncomputable def Sg.c_qaY (K : Nat) : Fw.Cfg := (Sg.cf K [(240, Sg.s_qcl K), (168, Sg.s_qbS K)] [] [] [])
def Sg.h_qaW_0 : Fw.StSh := ⟨[(0, (.d (.sl (.pair .str (.int .i64))))), (1, (.d .str)), (4, (.row 0)), (5, (.row 1)), (6, (.d (.int .i64)))], [(0, (.row (.pair .str (.int .i64)) true)), (1, (.row (.pair .str (.int .i64)) true))], 2, 29, ⟨0, []⟩⟩
def Sg.o_qaW_0 : Fw.StSh := ⟨[(4, (.row 0)), (5, (.row 1))], [(0, (.row (.pair .str (.int .i64)) true)), (1, (.row (.pair .str (.int .i64)) true))], 2, 29, ⟨0, []⟩⟩
def Sg.r_qaW_0 : Fw.StSh := ⟨[], [], 2, 29, ⟨0, []⟩⟩
noncomputable def Sg.p_qaW_0 (K : Nat) : Fw.LSpec := { g := 301, b := 0, lv := 6, l0 := 0, li := 0, head := Sg.h_qaW_0, post := Sg.o_qaW_0, retn := Sg.r_qaW_0, ex := 0, L := R.L_qaW_0 K }
noncomputable def Sg.f_qaW : Fw.PFn := PFn.get Tryz.f301
noncomputable def Sg.s_qaW (K : Nat) : Fw.Sig := { ins := [.val false (.sl (.pair .str (.int .i64))), .val false .str], outs := [⟨false, (.sl (.pair .str (.int .i64))), true⟩], F := fun x => R.qaW K x.1 x.2.1 }
noncomputable def Sg.c_qaW (K : Nat) : Fw.Cfg := (Sg.cf K [] [] (Sg.p_qaW_0 K :: []) [])
def Sg.h_qcy_0 : Fw.StSh := ⟨[(0, (.d (.sl (.pair .str (.int .i64))))), (1, (.d .str)), (2, (.d (.int .i64))), (6, (.row 0)), (7, (.row 1)), (8, (.d .bool)), (9, (.d (.int .i64)))], [(0, (.row (.pair .str (.int .i64)) true)), (1, (.row (.pair .str (.int .i64)) true))], 2, 57, ⟨0, []⟩⟩
def Sg.o_qcy_0 : Fw.StSh := ⟨[(1, (.d .str)), (2, (.d (.int .i64))), (6, (.row 0)), (7, (.row 1)), (8, (.d .bool))], [(0, (.row (.pair .str (.int .i64)) true)), (1, (.row (.pair .str (.int .i64)) true))], 2, 57, ⟨0, []⟩⟩
def Sg.r_qcy_0 : Fw.StSh := ⟨[], [], 2, 57, ⟨0, []⟩⟩
noncomputable def Sg.p_qcy_0 (K : Nat) : Fw.LSpec := { g := 302, b := 0, lv := 6, l0 := 0, li := 0, head := Sg.h_qcy_0, post := Sg.o_qcy_0, retn := Sg.r_qcy_0, ex := 0, L := R.L_qcy_0 K }
noncomputable def Sg.f_qcy : Fw.PFn := PFn.get Tryz.f302
noncomputable def Sg.s_qcy (K : Nat) : Fw.Sig := { ins := [.val false (.sl (.pair .str (.int .i64))), .val false .str, .val false (.int .i64)], outs := [⟨false, (.sl (.pair .str (.int .i64))), true⟩], F := fun x => R.qcy K x.1 x.2.1 x.2.2.1 }
noncomputable def Sg.c_qcy (K : Nat) : Fw.Cfg := (Sg.cf K [] [] (Sg.p_qcy_0 K :: []) [])
def Sg.h_qbp_0 : Fw.StSh := ⟨[(0, (.row 1)), (1, (.d (.sl (.pair .str (.pair (.int .i64) .bool))))), (4, (.row 0)), (5, (.d (.int .i64)))], [(1, (.row (.pair .str (.int .i64)) true)), (0, (.row (.pair .str (.int .i64)) true))], 2, 40, ⟨0, []⟩⟩
def Sg.o_qbp_0 : Fw.StSh := ⟨[(0, (.row 1)), (4, (.row 0))], [(1, (.row (.pair .str (.int .i64)) true)), (0, (.row (.pair .str (.int .i64)) true))], 2, 40, ⟨0, []⟩⟩
def Sg.r_qbp_0 : Fw.StSh := ⟨[], [], 2, 40, ⟨0, []⟩⟩
noncomputable def Sg.p_qbp_0 (K : Nat) : Fw.LSpec := { g := 283, b := 0, lv := 6, l0 := 0, li := 0, head := Sg.h_qbp_0, post := Sg.o_qbp_0, retn := Sg.r_qbp_0, ex := 0, L := R.L_qbp_0 K }
noncomputable def Sg.f_qbp : Fw.PFn := PFn.get Tryz.f283
noncomputable def Sg.s_qbp (K : Nat) : Fw.Sig := { ins := [.val false (.sl (.pair .str (.int .i64))), .val false (.sl (.pair .str (.pair (.int .i64) .bool)))], outs := [⟨false, (.sl (.pair .str (.int .i64))), true⟩], F := fun x => R.qbp K x.1 x.2.1 }
noncomputable def Sg.c_qbp (K : Nat) : Fw.Cfg := (Sg.cf K [(301, Sg.s_qaW K), (302, Sg.s_qcy K)] [] (Sg.p_qbp_0 K :: []) (⟨283, 0, 6, 0, 7, none⟩ :: []))
def Sg.h_qbJ_0 : Fw.StSh := ⟨[(0, (.d (.sl (.pair .str (.int .i64))))), (1, (.d (.sl (.pair .str (.int .i64))))), (4, (.row 0)), (5, (.row 1)), (6, (.d (.int .i64))), (7, (.d (.int .i64)))], [(0, (.row (.pair .str (.pair (.int .i64) .bool)) true)), (1, (.row (.pair .str (.pair (.int .i64) .bool)) true))], 2, 118, ⟨0, []⟩⟩
def Sg.o_qbJ_0 : Fw.StSh := ⟨[(4, (.row 0)), (5, (.row 1))], [(0, (.row (.pair .str (.pair (.int .i64) .bool)) true)), (1, (.row (.pair .str (.pair (.int .i64) .bool)) true))], 2, 118, ⟨0, []⟩⟩
def Sg.r_qbJ_0 : Fw.StSh := ⟨[], [], 2, 118, ⟨0, []⟩⟩
noncomputable def Sg.p_qbJ_0 (K : Nat) : Fw.LSpec := { g := 303, b := 0, lv := 6, l0 := 0, li := 0, head := Sg.h_qbJ_0, post := Sg.o_qbJ_0, retn := Sg.r_qbJ_0, ex := 0, L := R.L_qbJ_0 K }
noncomputable def Sg.f_qbJ : Fw.PFn := PFn.get Tryz.f303
noncomputable def Sg.s_qbJ (K : Nat) : Fw.Sig := { ins := [.val false (.sl (.pair .str (.int .i64))), .val false (.sl (.pair .str (.int .i64)))], outs := [⟨false, (.sl (.pair .str (.pair (.int .i64) .bool))), false⟩], F := fun x => R.qbJ K x.1 x.2.1 }
noncomputable def Sg.c_qbJ (K : Nat) : Fw.Cfg := (Sg.cf K [] [] (Sg.p_qbJ_0 K :: []) (⟨303, 0, 6, 0, 9, none⟩ :: ⟨303, 0, 6, 0, 12, none⟩ :: ⟨303, 0, 6, 0, 13, none⟩ :: ⟨303, 0, 6, 0, 5, none⟩ :: ⟨303, 0, 6, 0, 6, none⟩ :: []))
def Sg.h_qbV_0 : Fw.StSh := ⟨[(0, (.d (.sl (.pair .str (.pair (.int .i64) .bool))))), (1, (.d .str)), (4, (.ref 0 0)), (5, (.d .bool)), (6, (.d (.int .i64)))], [(0, (.box [(.d .str), (.d (.int .i64)), (.d .bool)]))], 1, 25, ⟨0, []⟩⟩
def Sg.o_qbV_0 : Fw.StSh := ⟨[(4, (.ref 0 0)), (5, (.d .bool))], [(0, (.box [(.d .str), (.d (.int .i64)), (.d .bool)]))], 1, 25, ⟨0, []⟩⟩
def Sg.r_qbV_0 : Fw.StSh := ⟨[(4, (.ref 0 0)), (5, (.d .bool))], [(0, (.box [(.d .str), (.d (.int .i64)), (.d .bool)]))], 1, 25, ⟨0, []⟩⟩
noncomputable def Sg.p_qbV_0 (K : Nat) : Fw.LSpec := { g := 304, b := 0, lv := 6, l0 := 0, li := 0, head := Sg.h_qbV_0, post := Sg.o_qbV_0, retn := Sg.r_qbV_0, ex := 0, L := R.L_qbV_0 K }
noncomputable def Sg.f_qbV : Fw.PFn := PFn.get Tryz.f304
noncomputable def Sg.s_qbV (K : Nat) : Fw.Sig := { ins := [.val false (.sl (.pair .str (.pair (.int .i64) .bool))), .val false .str], outs := [⟨true, (.pair .str (.pair (.int .i64) .bool)), false⟩, ⟨false, .bool, false⟩], F := fun x => R.qbV K x.1 x.2.1 }
noncomputable def Sg.c_qbV (K : Nat) : Fw.Cfg := (Sg.cf K [] [] (Sg.p_qbV_0 K :: []) [])
def Sg.h_qbA_0 : Fw.StSh := ⟨[(1, (.d (.sl (.pair .str (.int .i64))))), (6, (.row 0)), (7, (.row 1)), (8, (.d (.sl (.pair .str (.pair (.int .i64) .bool))))), (9, (.d (.sl (.pair .str (.pair (.int .i64) .bool))))), (10, (.row 2)), (11, (.row 3)), (12, (.d (.int .i64)))], [(0, (.row (.pair .str (.int .i64)) true)), (1, (.row .str true)), (2, (.row .str true)), (3, (.row (.pair .str (.pair (.int .i64) .bool)) true))], 4, 66, ⟨0, []⟩⟩
def Sg.o_qbA_0 : Fw.StSh := ⟨[(1, (.d (.sl (.pair .str (.int .i64))))), (6, (.row 0)), (7, (.row 1)), (10, (.row 2)), (11, (.row 3))], [(0, (.row (.pair .str (.int .i64)) true)), (1, (.row .str true)), (2, (.row .str true)), (3, (.row (.pair .str (.pair (.int .i64) .bool)) true))], 4, 66, ⟨0, []⟩⟩
def Sg.r_qbA_0 : Fw.StSh := ⟨[], [], 4, 66, ⟨0, []⟩⟩
noncomputable def Sg.p_qbA_0 (K : Nat) : Fw.LSpec := { g := 285, b := 0, lv := 6, l0 := 0, li := 0, head := Sg.h_qbA_0, post := Sg.o_qbA_0, retn := Sg.r_qbA_0, ex := 0, L := R.L_qbA_0 K }
noncomputable def Sg.f_qbA : Fw.PFn := PFn.get Tryz.f285
noncomputable def Sg.s_qbA (K : Nat) : Fw.Sig := { ins := [.val false (.sl (.pair .str (.int .i64))), .val false (.sl (.pair .str (.int .i64))), .val false (.sl (.pair .str (.int .i64)))], outs := [⟨false, (.sl (.pair .str (.int .i64))), true⟩, ⟨false, (.sl .str), true⟩], F := fun x => R.qbA K x.1 x.2.1 x.2.2.1 }
noncomputable def Sg.c_qbA (K : Nat) : Fw.Cfg := (Sg.cf K [(283, Sg.s_qbp K), (303, Sg.s_qbJ K), (304, Sg.s_qbV K)] [] (Sg.p_qbA_0 K :: []) (⟨285, 0, 6, 0, 11, none⟩ :: []))
noncomputable def Sg.f_qcd : Fw.PFn := PFn.get Tryz.f284
noncomputable def Sg.s_qcd (K : Nat) : Fw.Sig := { ins := [.val false (.sl (.pair .str (.int .i64))), .val false (.sl .str)], outs := [⟨false, (.sl (.pair .str (.int .i64))), false⟩, ⟨false, (.sl .str), false⟩, ⟨false, (.int .i64), false⟩], F := fun x => R.qcd K x.1 x.2.1 }
noncomputable def Sg.c_qcd (K : Nat) : Fw.Cfg := (Sg.cf K [] [] [] [])
def Sg.h_qbY_0 : Fw.StSh := ⟨[(0, (.d (.sl (.pair .str (.int .i64))))), (1, (.d (.sl (.pair .str (.int .i64))))), (4, (.d .bool)), (5, (.d (.int .i64)))], [], 0, 26, ⟨0, []⟩⟩
def Sg.o_qbY_0 : Fw.StSh := ⟨[(4, (.d .bool))], [], 0, 26, ⟨0, []⟩⟩
def Sg.r_qbY_0 : Fw.StSh := ⟨[(4, (.d .bool))], [], 0, 26, ⟨0, []⟩⟩
noncomputable def Sg.p_qbY_0 (K : Nat) : Fw.LSpec := { g := 223, b := 0, lv := 6, l0 := 0, li := 0, head := Sg.h_qbY_0, post := Sg.o_qbY_0, retn := Sg.r_qbY_0, ex := 0, L := R.L_qbY_0 K }
noncomputable def Sg.f_qbY : Fw.PFn := PFn.get Tryz.f223
noncomputable def Sg.s_qbY (K : Nat) : Fw.Sig := { ins := [.val false (.sl (.pair .str (.int .i64))), .val false (.sl (.pair .str (.int .i64)))], outs := [⟨false, .bool, false⟩], F := fun x => R.qbY K x.1 x.2.1 }
noncomputable def Sg.c_qbY (K : Nat) : Fw.Cfg := (Sg.cf K [] [] (Sg.p_qbY_0 K :: []) (⟨223, 0, 6, 0, 6, none⟩ :: []))
noncomputable def Sg.f_qbN : Fw.PFn := PFn.get Tryz.f241
noncomputable def Sg.s_qbN (K : Nat) : Fw.Sig := { ins := [.val false (.sl Sg.t2), .val false (.int .i64), .val false (.int .i64), .val false (.sl (.pair .str (.pair (.int .i64) .bool)))], outs := [⟨false, (.sl (.pair .str (.int .i64))), false⟩, ⟨true, Sg.t9, false⟩], F := fun x => R.qbN K x.1 x.2.1 x.2.2.1 x.2.2.2.1 }
noncomputable def Sg.c_qbN (K : Nat) : Fw.Cfg := (Sg.cf K [(166, Sg.s_qbM K), (283, Sg.s_qbp K), (285, Sg.s_qbA K), (284, Sg.s_qcd K), (223, Sg.s_qbY K)] [] [] (⟨241, 0, 6, 0, 4, none⟩ :: []))
def Sg.j_qaL_121 : Fw.StSh := ⟨[(1, (.d (.int .i64))), (3, (.ref 0 0)), (6, (.ref 4 0)), (7, (.ref 7 0)), (8, (.d (.int .i64))), (9, (.row 8))], [(0, (.box [(.d (.sl Sg.t2)), (.d (.sl Sg.t4))])), (4, (.box [(.row 2), (.row 3)])), (7, (.box [(.d (.int .i64)), (.d (.int .i64)), (.d (.int .i64)), (.row 5), (.row 6)])), (8, (.row Sg.t2 false)), (2, (.row Sg.t2 true)), (3, (.row Sg.t4 true)), (5, (.row .str true)), (6, (.row (.pair .str (.int .i64)) true))], 10, 45, ⟨0, []⟩⟩
noncomputable def Sg.f_qaL : Fw.PFn := PFn.get Tryz.f242
noncomputable def Sg.s_qaL (K : Nat) : Fw.Sig := { ins := [.val true Sg.t11, .val false (.int .i64), .val true Sg.t2], outs := [⟨true, Sg.t11, false⟩, ⟨true, Sg.t9, false⟩], F := fun x => R.qaL K x.1 x.2.1 x.2.2.1 }
noncomputable def Sg.c_qaL (K : Nat) : Fw.Cfg := (Sg.cf K [(166, Sg.s_qbM K), (240, Sg.s_qcl K)] [] [] (⟨242, 0, 6, 0, 2, none⟩ :: ⟨242, 0, 6, 0, 4, some Sg.j_qaL_121⟩ :: []))
noncomputable def Sg.f_qbg : Fw.PFn := PFn.get Tryz.f170
noncomputable def Sg.s_qbg (K : Nat) : Fw.Sig := { ins := [.val true Sg.t11, .val false (.int .i64), .val true Sg.t10], outs := [⟨true, Sg.t11, false⟩, ⟨true, Sg.t9, false⟩], F := fun x => R.qbg K x.1 x.2.1 x.2.2.1 }
noncomputable def Sg.c_qbg (K : Nat) : Fw.Cfg := (Sg.cf K [(241, Sg.s_qbN K), (242, Sg.s_qaL K)] [] [] (⟨170, 0, 6, 0, 7, none⟩ :: []))
def Sg.h_qbE_1 : Fw.StSh := ⟨[(0, (.d (.sl Sg.t2))), (4, (.row 0)), (5, (.row 1)), (6, (.d (.int .i64))), (7, (.d (.int .i64))), (16, (.d (.int .i64))), (17, (.d .bool)), (20, (.row 1)), (21, (.d (.int .i64))), (22, (.eref 1 0)), (23, (.d .bool)), (24, (.d .bool))], [(0, (.row .bool true)), (1, (.row .bool true))], 2, 48, ⟨0, []⟩⟩
def Sg.o_qbE_1 : Fw.StSh := ⟨[(0, (.d (.sl Sg.t2))), (4, (.row 0)), (5, (.row 1)), (6, (.d (.int .i64))), (7, (.d (.int .i64))), (16, (.d (.int .i64))), (17, (.d .bool)), (20, (.row 1)), (21, (.d (.int .i64))), (22, (.eref 1 0)), (23, (.d .bool)), (24, (.d .bool)), (25, (.d (.int .i64))), (26, (.d (.sl Sg.t2))), (27, (.d (.int .i64))), (28, (.d (.int .i64))), (29, (.dref Sg.t2 0)), (30, (.dref Sg.t2 0)), (31, (.d (.sl (.int .i64)))), (32, (.d (.int .i64))), (33, (.d .bool))], [(0, (.row .bool true)), (1, (.row .bool true))], 2, 48, ⟨0, []⟩⟩
def Sg.r_qbE_1 : Fw.StSh := ⟨[], [], 2, 48, ⟨0, []⟩⟩
noncomputable def Sg.p_qbE_1 (K : Nat) : Fw.LSpec := { g := 305, b := 0, lv := 6, l0 := 0, li := 1, head := Sg.h_qbE_1, post := Sg.o_qbE_1, retn := Sg.r_qbE_1, ex := 2, L := R.L_qbE_1 K }
def Sg.h_qbE_0 : Fw.StSh := ⟨[(0, (.d (.sl Sg.t2))), (4, (.row 0)), (5, (.row 1)), (6, (.d (.int .i64)))], [(0, (.row .bool true)), (1, (.row .bool true))], 2, 48, ⟨0, []⟩⟩
def Sg.o_qbE_0 : Fw.StSh := ⟨[(4, (.row 0)), (5, (.row 1))], [(0, (.row .bool true)), (1, (.row .bool true))], 2, 48, ⟨0, []⟩⟩
def Sg.r_qbE_0 : Fw.StSh := ⟨[], [], 2, 48, ⟨0, []⟩⟩
noncomputable def Sg.p_qbE_0 (K : Nat) : Fw.LSpec := { g := 305, b := 0, lv := 6, l0 := 0, li := 0, head := Sg.h_qbE_0, post := Sg.o_qbE_0, retn := Sg.r_qbE_0, ex := 0, L := R.L_qbE_0 K }
noncomputable def Sg.f_qbE : Fw.PFn := PFn.get Tryz.f305
noncomputable def Sg.s_qbE (K : Nat) : Fw.Sig := { ins := [.val false (.sl Sg.t2), .val false (.int .i64)], outs := [⟨false, (.sl .bool), true⟩], F := fun x => R.qbE K x.1 x.2.1 }
noncomputable def Sg.c_qbE (K : Nat) : Fw.Cfg := (Sg.cf K [] [] (Sg.p_qbE_1 K :: Sg.p_qbE_0 K :: []) [])
def Sg.h_qbI_0 : Fw.StSh := ⟨[(6, (.d (.int .i64))), (7, (.row 0)), (8, (.row 1)), (9, (.d (.int .i64)))], [(0, (.row .bool true)), (1, (.row .bool true))], 2, 34, ⟨0, []⟩⟩
def Sg.o_qbI_0 : Fw.StSh := ⟨[(6, (.d (.int .i64))), (9, (.d (.int .i64)))], [], 2, 34, ⟨0, []⟩⟩
def Sg.r_qbI_0 : Fw.StSh := ⟨[], [], 2, 34, ⟨0, []⟩⟩
noncomputable def Sg.p_qbI_0 (K : Nat) : Fw.LSpec := { g := 286, b := 0, lv := 6, l0 := 0, li := 0, head := Sg.h_qbI_0, post := Sg.o_qbI_0, retn := Sg.r_qbI_0, ex := 0, L := R.L_qbI_0 K }
noncomputable def Sg.f_qbI : Fw.PFn := PFn.get Tryz.f286
noncomputable def Sg.s_qbI (K : Nat) : Fw.Sig := { ins := [.val false (.sl Sg.t2), .val false (.int .i64), .val false (.int .i64)], outs := [⟨false, (.int .i64), false⟩], F := fun x => R.qbI K x.1 x.2.1 x.2.2.1 }
noncomputable def Sg.c_qbI (K : Nat) : Fw.Cfg := (Sg.cf K [(305, Sg.s_qbE K)] [] (Sg.p_qbI_0 K :: []) [])
noncomputable def Sg.f_qbT : Fw.PFn := PFn.get Tryz.f243
noncomputable def Sg.s_qbT (K : Nat) : Fw.Sig := { ins := [.val false (.sl Sg.t2), .val false (.int .i64), .val false (.int .i64)], outs := [⟨false, .bool, false⟩, ⟨false, (.sl (.pair .str (.int .i64))), false⟩, ⟨true, Sg.t9, false⟩], F := fun x => R.qbT K x.1 x.2.1 x.2.2.1 }
noncomputable def Sg.c_qbT (K : Nat) : Fw.Cfg := (Sg.cf K [(166, Sg.s_qbM K), (285, Sg.s_qbA K), (284, Sg.s_qcd K), (286, Sg.s_qbI K)] [] [] (⟨243, 0, 6, 0, 6, none⟩ :: []))
noncomputable def Sg.f_qbx : Fw.PFn := PFn.get Tryz.f171
noncomputable def Sg.s_qbx (K : Nat) : Fw.Sig := { ins := [.val true Sg.t11, .val false (.int .i64), .val true Sg.t10], outs := [⟨true, Sg.t11, false⟩, ⟨true, Sg.t9, false⟩], F := fun x => R.qbx K x.1 x.2.1 x.2.2.1 }
noncomputable def Sg.c_qbx (K : Nat) : Fw.Cfg := (Sg.cf K [(166, Sg.s_qbM K), (240, Sg.s_qcl K), (242, Sg.s_qaL K), (243, Sg.s_qbT K)] [] [] (⟨171, 0, 6, 0, 4, none⟩ :: ⟨171, 0, 6, 0, 8, none⟩ :: ⟨171, 0, 6, 0, 9, none⟩ :: []))
noncomputable def Sg.f_qcx : Fw.PFn := PFn.get Tryz.f244
noncomputable def Sg.s_qcx (K : Nat) : Fw.Sig := { ins := [.val false (.sl (.pair .str (.int .i64))), .val false .str], outs := [⟨false, (.int .i64), false⟩], F := fun x => R.qcx K x.1 x.2.1 }
noncomputable def Sg.c_qcx (K : Nat) : Fw.Cfg := (Sg.cf K [(164, Sg.s_qcc K), (259, Sg.s_qcW K)] [] [] [])
def Sg.h_qcN_0 : Fw.StSh := ⟨[(0, (.d (.sl (.pair .str (.int .i64))))), (1, (.d .str)), (4, (.d (.int .i64))), (5, (.d (.int .i64)))], [], 0, 20, ⟨0, []⟩⟩
def Sg.o_qcN_0 : Fw.StSh := ⟨[(4, (.d (.int .i64)))], [], 0, 20, ⟨0, []⟩⟩
def Sg.r_qcN_0 : Fw.StSh := ⟨[(4, (.d (.int .i64)))], [], 0, 20, ⟨0, []⟩⟩
noncomputable def Sg.p_qcN_0 (K : Nat) : Fw.LSpec := { g := 245, b := 0, lv := 6, l0 := 0, li := 0, head := Sg.h_qcN_0, post := Sg.o_qcN_0, retn := Sg.r_qcN_0, ex := 0, L := R.L_qcN_0 K }
noncomputable def Sg.f_qcN : Fw.PFn := PFn.get Tryz.f245
noncomputable def Sg.s_qcN (K : Nat) : Fw.Sig := { ins := [.val false (.sl (.pair .str (.int .i64))), .val false .str], outs := [⟨false, (.int .i64), false⟩], F := fun x => R.qcN K x.1 x.2.1 }
noncomputable def Sg.c_qcN (K : Nat) : Fw.Cfg := (Sg.cf K [] [] (Sg.p_qcN_0 K :: []) [])
noncomputable def Sg.f_qdi : Fw.PFn := PFn.get Tryz.f172
noncomputable def Sg.s_qdi (K : Nat) : Fw.Sig := { ins := [.val false (.sl (.pair .str (.int .i64))), .val false .str], outs := [⟨false, (.int .i64), false⟩, ⟨false, (.int .i64), false⟩], F := fun x => R.qdi K x.1 x.2.1 }
noncomputable def Sg.c_qdi (K : Nat) : Fw.Cfg := (Sg.cf K [(244, Sg.s_qcx K), (245, Sg.s_qcN K)] [] [] [])
noncomputable def Sg.f_qcT : Fw.PFn := PFn.get Tryz.f87
noncomputable def Sg.s_qcT (K : Nat) : Fw.Sig := { ins := [.val true Sg.t11, .val true Sg.t10], outs := [⟨true, Sg.t11, false⟩, ⟨true, Sg.t9, false⟩], F := fun x => R.qcT K x.1 x.2.1 }
noncomputable def Sg.c_qcT (K : Nat) : Fw.Cfg := (Sg.cf K [(166, Sg.s_qbM K), (167, Sg.s_qaZ K), (168, Sg.s_qbS K), (169, Sg.s_qaY K), (170, Sg.s_qbg K), (171, Sg.s_qbx K), (172, Sg.s_qdi K)] [] [] (⟨87, 0, 6, 0, 2, none⟩ :: ⟨87, 0, 6, 0, 6, none⟩ :: ⟨87, 0, 6, 0, 7, none⟩ :: ⟨87, 0, 6, 0, 10, none⟩ :: ⟨87, 0, 6, 0, 16, none⟩ :: ⟨87, 0, 6, 0, 23, none⟩ :: ⟨87, 0, 6, 0, 25, none⟩ :: ⟨87, 0, 6, 0, 27, none⟩ :: []))
def Sg.j_qck_0 : Fw.StSh := ⟨[(2, (.ref 3 0))], [(3, (.box [(.row 4), (.row 5)])), (4, (.row (.int .i64) true)), (5, (.row (.pair .str (.int .i64)) true))], 6, 12, ⟨0, []⟩⟩
noncomputable def Sg.f_qck : Fw.PFn := PFn.get Tryz.f246
noncomputable def Sg.s_qck (K : Nat) : Fw.Sig := { ins := [.val true Sg.t2], outs := [⟨true, Sg.t2, true⟩], F := fun x => R.qck K x.1 }
noncomputable def Sg.c_qck (K : Nat) : Fw.Cfg := (Sg.cf K [] [] [] (⟨246, 0, 6, 0, 1, some Sg.j_qck_0⟩ :: []))
def Sg.h_qbW_0 : Fw.StSh := ⟨[(0, (.d (.sl Sg.t2))), (2, (.row 0)), (3, (.row 1)), (4, (.d (.int .i64)))], [(0, (.row Sg.t2 true)), (1, (.row Sg.t2 true))], 2, 21, ⟨0, []⟩⟩
def Sg.o_qbW_0 : Fw.StSh := ⟨[(2, (.row 0)), (3, (.row 1))], [(0, (.row Sg.t2 true)), (1, (.row Sg.t2 true))], 2, 21, ⟨0, []⟩⟩
def Sg.r_qbW_0 : Fw.StSh := ⟨[], [], 2, 21, ⟨0, []⟩⟩
noncomputable def Sg.p_qbW_0 (K : Nat) : Fw.LSpec := { g := 173, b := 0, lv := 6, l0 := 0, li := 0, head := Sg.h_qbW_0, post := Sg.o_qbW_0, retn := Sg.r_qbW_0, ex := 0, L := R.L_qbW_0 K }
noncomputable def Sg.f_qbW : Fw.PFn := PFn.get Tryz.f173
noncomputable def Sg.s_qbW (K : Nat) : Fw.Sig := { ins := [.val false (.sl Sg.t2)], outs := [⟨false, (.sl Sg.t2), true⟩], F := fun x => R.qbW K x.1 }
noncomputable def Sg.c_qbW (K : Nat) : Fw.Cfg := (Sg.cf K [(246, Sg.s_qck K)] [] (Sg.p_qbW_0 K :: []) [])
def Sg.j_qcB_0 : Fw.StSh := ⟨[(2, (.ref 3 0))], [(3, (.box [(.row 4), (.row 5)])), (4, (.row Sg.t2 true)), (5, (.row Sg.t4 true))], 6, 11, ⟨0, []⟩⟩
noncomputable def Sg.f_qcB : Fw.PFn := PFn.get Tryz.f88
noncomputable def Sg.s_qcB (K : Nat) : Fw.Sig := { ins := [.val true Sg.t11], outs := [⟨true, Sg.t11, true⟩], F := fun x => R.qcB K x.1 }
noncomputable def Sg.c_qcB (K : Nat) : Fw.Cfg := (Sg.cf K [(173, Sg.s_qbW K)] [] [] (⟨88, 0, 6, 0, 1, some Sg.j_qcB_0⟩ :: []))
noncomputable def Sg.f_qaA : Fw.PFn := PFn.get Tryz.f89
noncomputable def Sg.s_qaA (K : Nat) : Fw.Sig := { ins := [.val true Sg.t9], outs := [⟨true, Sg.t9, true⟩], F := fun x => R.qaA K x.1 }
noncomputable def Sg.c_qaA (K : Nat) : Fw.Cfg := (Sg.cf K [] [] [] [])
noncomputable def Sg.f_qdf : Fw.PFn := PFn.get Tryz.f24
noncomputable def Sg.s_qdf (K : Nat) : Fw.Sig := { ins := [.val true Sg.t11, .val true Sg.t10], outs := [⟨true, Sg.t11, true⟩, ⟨true, Sg.t9, true⟩, ⟨false, (.int .i64), false⟩], F := fun x => R.qdf K x.1 x.2.1 }
noncomputable def Sg.c_qdf (K : Nat) : Fw.Cfg := (Sg.cf K [(73, Sg.s_qcQ K), (86, Sg.s_qcY K), (87, Sg.s_qcT K), (88, Sg.s_qcB K), (89, Sg.s_qaA K)] [] [] (⟨24, 0, 6, 0, 4, none⟩ :: []))
noncomputable def Sg.f_qao : Fw.PFn := PFn.get Tryz.f225
noncomputable def Sg.s_qao (K : Nat) : Fw.Sig := { ins := [.val false (.sl Sg.t2)], outs := [⟨false, .bool, false⟩], F := fun x => R.qao K x.1 }
noncomputable def Sg.c_qao (K : Nat) : Fw.Cfg := (Sg.cf K [] [] [] [])
noncomputable def Sg.f_qcH : Fw.PFn := PFn.get Tryz.f113
noncomputable def Sg.s_qcH (K : Nat) : Fw.Sig := { ins := [.val false (.int .i64), .val false (.int .i64), .val false (.int .i64)], outs := [⟨false, .bool, false⟩], F := fun x => R.qcH K x.1 x.2.1 x.2.2.1 }
noncomputable def Sg.c_qcH (K : Nat) : Fw.Cfg := (Sg.cf K [] [] [] [])
noncomputable def Sg.f_qbi : Fw.PFn := PFn.get Tryz.f247
noncomputable def Sg.s_qbi (K : Nat) : Fw.Sig := { ins := [.val false (.int .u8)], outs := [⟨false, .bool, false⟩], F := fun x => R.qbi K x.1 }
noncomputable def Sg.c_qbi (K : Nat) : Fw.Cfg := (Sg.cf K [] [] [] [])
noncomputable def Sg.f_qax : Fw.PFn := PFn.get Tryz.f288
noncomputable def Sg.f_qat : Fw.PFn := PFn.get Tryz.f306
noncomputable def Sg.f_qam : Fw.PFn := PFn.get Tryz.f287
noncomputable def Sg.f_qaJ : Fw.PFn := PFn.get Tryz.f248
noncomputable def Sg.f_qbX : Fw.PFn := PFn.get Tryz.f250
noncomputable def Sg.s_qbX (K : Nat) : Fw.Sig := { ins := [.val false (.int .u8)], outs := [⟨false, .bool, false⟩], F := fun x => R.qbX K x.1 }
noncomputable def Sg.c_qbX (K : Nat) : Fw.Cfg := (Sg.cf K [] [] [] [])
noncomputable def Sg.f_qbl : Fw.PFn := PFn.get Tryz.f249
noncomputable def Sg.s_qbl (K : Nat) : Fw.Sig := { ins := [.val false (.int .u8)], outs := [⟨false, .bool, false⟩], F := fun x => R.qbl K x.1 }
noncomputable def Sg.c_qbl (K : Nat) : Fw.Cfg := (Sg.cf K [(247, Sg.s_qbi K), (250, Sg.s_qbX K)] [] [] [])
def Sg.h_qag_0 : Fw.StSh := ⟨[(0, (.d (.sl (.int .u8)))), (1, (.fn 249 [])), (3, (.ref 0 0)), (4, (.d .bool)), (5, (.d (.sl (.int .u8)))), (6, (.fn 288 [(.ref 0 0)])), (9, (.d (.sl (.int .u8)))), (10, (.fn 288 [(.ref 0 0)])), (13, (.d .bool)), (14, (.d (.sl (.int .u8)))), (15, (.fn 288 [(.ref 0 0)])), (18, (.d (.sl (.int .u8)))), (19, (.fn 288 [(.ref 0 0)])), (22, (.d (.int .i64))), (25, (.d (.int .i64))), (26, (.d (.int .i64)))], [(0, (.box [(.fn 249 [])]))], 1, 37, ⟨0, []⟩⟩
def Sg.o_qag_0 : Fw.StSh := ⟨[(0, (.d (.sl (.int .u8)))), (1, (.fn 249 [])), (3, (.ref 0 0)), (4, (.d .bool)), (5, (.d (.sl (.int .u8)))), (6, (.fn 288 [(.ref 0 0)])), (9, (.d (.sl (.int .u8)))), (10, (.fn 288 [(.ref 0 0)])), (13, (.d .bool)), (14, (.d (.sl (.int .u8)))), (15, (.fn 288 [(.ref 0 0)])), (22, (.d (.int .i64)))], [(0, (.box [(.fn 249 [])]))], 1, 37, ⟨0, []⟩⟩
def Sg.r_qag_0 : Fw.StSh := ⟨[(0, (.d (.sl (.int .u8)))), (1, (.fn 249 [])), (3, (.ref 0 0)), (4, (.d .bool)), (5, (.d (.sl (.int .u8)))), (6, (.fn 288 [(.ref 0 0)])), (9, (.d (.sl (.int .u8)))), (10, (.fn 288 [(.ref 0 0)])), (13, (.d .bool)), (14, (.d (.sl (.int .u8)))), (15, (.fn 288 [(.ref 0 0)])), (22, (.d (.int .i64)))], [(0, (.box [(.fn 249 [])]))], 1, 45, ⟨0, []⟩⟩
noncomputable def Sg.p_qag_0 (K : Nat) : Fw.LSpec := { g := 306, b := 18, lv := 4, l0 := 1, li := 0, head := Sg.h_qag_0, post := Sg.o_qag_0, retn := Sg.r_qag_0, ex := 0, L := R.L_qag_0 K }
noncomputable def Sg.i_qag : List (Nat × Fw.PFn) := [(288, Sg.f_qax), (306, Sg.f_qat), (287, Sg.f_qam)]
noncomputable def Sg.s_qag (K : Nat) : Fw.Sig := { ins := [.val false (.sl (.int .u8)), .fn 249 []], outs := [⟨false, .bool, false⟩], F := fun x => R.qag K x.1 }
noncomputable def Sg.c_qag (K : Nat) : Fw.Cfg := (Sg.cf K [(249, Sg.s_qbl K)] [(288, Tryz.f288), (306, Tryz.f306), (287, Tryz.f287)] (Sg.p_qag_0 K :: []) [])
noncomputable def Sg.f_qcz : Fw.PFn := PFn.get Tryz.f175
noncomputable def Sg.i_qcz : List (Nat × Fw.PFn) := [(288, Sg.f_qax), (306, Sg.f_qat), (287, Sg.f_qam), (248, Sg.f_qaJ)]
noncomputable def Sg.s_qcz (K : Nat) : Fw.Sig := { ins := [.val false .str], outs := [⟨false, .bool, false⟩], F := fun x => R.qcz K x.1 }
noncomputable def Sg.c_qcz (K : Nat) : Fw.Cfg := (Sg.cf K [(113, Sg.s_qcH K), (247, Sg.s_qbi K), (249, Sg.s_qbl K), (248, Sg.s_qag K)] [(288, Tryz.f288), (306, Tryz.f306), (287, Tryz.f287), (248, Tryz.f248)] [] [])
noncomputable def Sg.f_qbZ : Fw.PFn := PFn.get Tryz.f251
noncomputable def Sg.s_qbZ (K : Nat) : Fw.Sig := { ins := [.val false (.int .i64)], outs := [⟨false, .bool, false⟩], F := fun x => R.qbZ K x.1 }
noncomputable def Sg.c_qbZ (K : Nat) : Fw.Cfg := (Sg.cf K [(113, Sg.s_qcH K)] [] [] [])
def Sg.h_qcS_0 : Fw.StSh := ⟨[(0, (.d (.sl (.pair .str (.int .i64))))), (2, (.d .bool)), (5, (.d (.sl (.pair .str (.int .i64))))), (6, (.d (.int .i64))), (7, (.d (.int .i64)))], [], 0, 41, ⟨0, []⟩⟩
def Sg.o_qcS_0 : Fw.StSh := ⟨[(0, (.d (.sl (.pair .str (.int .i64))))), (2, (.d .bool))], [], 0, 41, ⟨0, []⟩⟩
def Sg.r_qcS_0 : Fw.StSh := ⟨[(2, (.d .bool))], [], 1, 41, ⟨0, []⟩⟩
noncomputable def Sg.p_qcS_0 (K : Nat) : Fw.LSpec := { g := 263, b := 0, lv := 6, l0 := 0, li := 0, head := Sg.h_qcS_0, post := Sg.o_qcS_0, retn := Sg.r_qcS_0, ex := 0, L := R.L_qcS_0 K }
noncomputable def Sg.f_qcS : Fw.PFn := PFn.get Tryz.f263
noncomputable def Sg.s_qcS (K : Nat) : Fw.Sig := { ins := [.val false (.sl (.pair .str (.int .i64)))], outs := [⟨false, .bool, false⟩], F := fun x => R.qcS K x.1 }
noncomputable def Sg.c_qcS (K : Nat) : Fw.Cfg := (Sg.cf K [(175, Sg.s_qcz K), (251, Sg.s_qbZ K)] [] (Sg.p_qcS_0 K :: []) (⟨263, 0, 6, 0, 4, none⟩ :: []))
noncomputable def Sg.f_qaw : Fw.PFn := PFn.get Tryz.f296
noncomputable def Sg.f_qaB : Fw.PFn := PFn.get Tryz.f309
noncomputable def Sg.f_qav : Fw.PFn := PFn.get Tryz.f313
noncomputable def Sg.f_qap : Fw.PFn := PFn.get Tryz.f308
noncomputable def Sg.f_qaP : Fw.PFn := PFn.get Tryz.f295
def Sg.h_qad_0 : Fw.StSh := ⟨[(0, (.d (.sl (.int .i64)))), (1, (.fn 296 [(.dref (.int .i64) 0)])), (3, (.ref 0 0)), (4, (.d .bool)), (5, (.d (.sl (.int .i64)))), (6, (.fn 309 [(.ref 0 0)])), (9, (.d (.sl (.int .i64)))), (10, (.fn 309 [(.ref 0 0)])), (13, (.d .bool)), (14, (.d (.sl (.int .i64)))), (15, (.fn 309 [(.ref 0 0)])), (18, (.d (.sl (.int .i64)))), (19, (.fn 309 [(.ref 0 0)])), (22, (.d (.int .i64))), (25, (.d (.int .i64))), (26, (.d (.int .i64)))], [(0, (.box [(.fn 296 [(.dref (.int .i64) 0)])]))], 1, 37, ⟨0, []⟩⟩
def Sg.o_qad_0 : Fw.StSh := ⟨[(0, (.d (.sl (.int .i64)))), (1, (.fn 296 [(.dref (.int .i64) 0)])), (3, (.ref 0 0)), (4, (.d .bool)), (5, (.d (.sl (.int .i64)))), (6, (.fn 309 [(.ref 0 0)])), (9, (.d (.sl (.int .i64)))), (10, (.fn 309 [(.ref 0 0)])), (13, (.d .bool)), (14, (.d (.sl (.int .i64)))), (15, (.fn 309 [(.ref 0 0)])), (22, (.d (.int .i64)))], [(0, (.box [(.fn 296 [(.dref (.int .i64) 0)])]))], 1, 37, ⟨0, []⟩⟩
def Sg.r_qad_0 : Fw.StSh := ⟨[(0, (.d (.sl (.int .i64)))), (1, (.fn 296 [(.dref (.int .i64) 0)])), (3, (.ref 0 0)), (4, (.d .bool)), (5, (.d (.sl (.int .i64)))), (6, (.fn 309 [(.ref 0 0)])), (9, (.d (.sl (.int .i64)))), (10, (.fn 309 [(.ref 0 0)])), (13, (.d .bool)), (14, (.d (.sl (.int .i64)))), (15, (.fn 309 [(.ref 0 0)])), (22, (.d (.int .i64)))], [(0, (.box [(.fn 296 [(.dref (.int .i64) 0)])]))], 1, 53, ⟨0, []⟩⟩
noncomputable def Sg.p_qad_0 (K : Nat) : Fw.LSpec := { g := 313, b := 18, lv := 4, l0 := 1, li := 0, head := Sg.h_qad_0, post := Sg.o_qad_0, retn := Sg.r_qad_0, ex := 0, L := R.L_qad_0 K }
noncomputable def Sg.i_qad : List (Nat × Fw.PFn) := [(296, Sg.f_qaw), (309, Sg.f_qaB), (313, Sg.f_qav), (308, Sg.f_qap)]
noncomputable def Sg.s_qad (K : Nat) : Fw.Sig := { ins := [.val false (.sl (.int .i64)), .fn 296 [(.int .i64)]], outs := [⟨false, .bool, false⟩], F := fun x => R.qad K x.1 x.2.1.1 }
noncomputable def Sg.c_qad (K : Nat) : Fw.Cfg := (Sg.cf K [(113, Sg.s_qcH K)] [(296, Tryz.f296), (309, Tryz.f309), (313, Tryz.f313), (308, Tryz.f308)] (Sg.p_qad_0 K :: []) [])
noncomputable def Sg.f_qaD : Fw.PFn := PFn.get Tryz.f276
noncomputable def Sg.i_qaD : List (Nat × Fw.PFn) := [(296, Sg.f_qaw), (309, Sg.f_qaB), (313, Sg.f_qav), (308, Sg.f_qap), (295, Sg.f_qaP)]
noncomputable def Sg.s_qaD (K : Nat) : Fw.Sig := { ins := [.val true Sg.t2, .val false (.int .i64)], outs := [⟨false, .bool, false⟩], F := fun x => R.qaD K x.1 x.2.1 }
noncomputable def Sg.c_qaD (K : Nat) : Fw.Cfg := (Sg.cf K [(113, Sg.s_qcH K), (263, Sg.s_qcS K), (295, Sg.s_qad K)] [(296, Tryz.f296), (309, Tryz.f309), (313, Tryz.f313), (308, Tryz.f308), (295, Tryz.f295)] [] (⟨276, 0, 6, 0, 2, none⟩ :: []))
def Sg.h_qaN_0 : Fw.StSh := ⟨[(0, (.d (.sl Sg.t2))), (2, (.d .bool)), (5, (.d (.sl Sg.t2))), (6, (.d (.int .i64))), (7, (.d (.int .i64)))], [], 0, 21, ⟨0, []⟩⟩
def Sg.o_qaN_0 : Fw.StSh := ⟨[(0, (.d (.sl Sg.t2))), (2, (.d .bool))], [], 0, 21, ⟨0, []⟩⟩
def Sg.r_qaN_0 : Fw.StSh := ⟨[(2, (.d .bool))], [], 3, 21, ⟨0, []⟩⟩
noncomputable def Sg.p_qaN_0 (K : Nat) : Fw.LSpec := { g := 226, b := 0, lv := 6, l0 := 0, li := 0, head := Sg.h_qaN_0, post := Sg.o_qaN_0, retn := Sg.r_qaN_0, ex := 0, L := R.L_qaN_0 K }
noncomputable def Sg.f_qaN : Fw.PFn := PFn.get Tryz.f226
noncomputable def Sg.s_qaN (K : Nat) : Fw.Sig := { ins := [.val false (.sl Sg.t2)], outs := [⟨false, .bool, false⟩], F := fun x => R.qaN K x.1 }
noncomputable def Sg.c_qaN (K : Nat) : Fw.Cfg := (Sg.cf K [(276, Sg.s_qaD K)] [] (Sg.p_qaN_0 K :: []) [])
noncomputable def Sg.f_qbO : Fw.PFn := PFn.get Tryz.f152
noncomputable def Sg.s_qbO (K : Nat) : Fw.Sig := { ins := [.val false (.sl Sg.t2)], outs := [⟨false, .bool, false⟩], F := fun x => R.qbO K x.1 }
noncomputable def Sg.c_qbO (K : Nat) : Fw.Cfg := (Sg.cf K [(225, Sg.s_qao K), (226, Sg.s_qaN K)] [] [] [])
noncomputable def Sg.f_qar : Fw.PFn := PFn.get Tryz.f229
noncomputable def Sg.f_qai : Fw.PFn := PFn.get Tryz.f268
noncomputable def Sg.f_qah : Fw.PFn := PFn.get Tryz.f228
noncomputable def Sg.f_qau : Fw.PFn := PFn.get Tryz.f154
noncomputable def Sg.f_qcC : Fw.PFn := PFn.get Tryz.f176
noncomputable def Sg.s_qcC (K : Nat) : Fw.Sig := { ins := [.val false (.int .i64)], outs := [⟨false, .bool, false⟩], F := fun x => R.qcC K x.1 }
noncomputable def Sg.c_qcC (K : Nat) : Fw.Cfg := (Sg.cf K [(113, Sg.s_qcH K)] [] [] [])
noncomputable def Sg.f_qcJ : Fw.PFn := PFn.get Tryz.f227
noncomputable def Sg.s_qcJ (K : Nat) : Fw.Sig := { ins := [.val true Sg.t4], outs := [⟨false, .bool, false⟩], F := fun x => R.qcJ K x.1 }
noncomputable def Sg.c_qcJ (K : Nat) : Fw.Cfg := (Sg.cf K [(113, Sg.s_qcH K), (175, Sg.s_qcz K), (176, Sg.s_qcC K)] [] [] [])
noncomputable def Sg.f_qbR : Fw.PFn := PFn.get Tryz.f269
def Sg.h_qac_0 : Fw.StSh := ⟨[(0, (.d (.sl Sg.t4))), (1, (.fn 269 [(.dref .str 0)])), (4, (.d (.int .i64))), (7, (.d (.int .i64))), (8, (.d (.int .i64)))], [], 0, 19, ⟨0, []⟩⟩
def Sg.o_qac_0 : Fw.StSh := ⟨[(4, (.d (.int .i64)))], [], 0, 19, ⟨0, []⟩⟩
def Sg.r_qac_0 : Fw.StSh := ⟨[(4, (.d (.int .i64)))], [], 1, 27, ⟨0, []⟩⟩
noncomputable def Sg.p_qac_0 (K : Nat) : Fw.LSpec := { g := 268, b := 0, lv := 6, l0 := 0, li := 0, head := Sg.h_qac_0, post := Sg.o_qac_0, retn := Sg.r_qac_0, ex := 0, L := R.L_qac_0 K }
noncomputable def Sg.i_qac : List (Nat × Fw.PFn) := [(269, Sg.f_qbR)]
noncomputable def Sg.s_qac (K : Nat) : Fw.Sig := { ins := [.val false (.sl Sg.t4), .fn 269 [.str]], outs := [⟨false, (.int .i64), false⟩], F := fun x => R.qac K x.1 x.2.1.1 }
noncomputable def Sg.c_qac (K : Nat) : Fw.Cfg := (Sg.cf K [] [(269, Tryz.f269)] (Sg.p_qac_0 K :: []) [])
noncomputable def Sg.f_qcK : Fw.PFn := PFn.get Tryz.f207
noncomputable def Sg.i_qcK : List (Nat × Fw.PFn) := [(268, Sg.f_qai), (269, Sg.f_qbR)]
noncomputable def Sg.s_qcK (K : Nat) : Fw.Sig := { ins := [.val false (.sl Sg.t4), .val false .str], outs := [⟨false, (.int .i64), false⟩], F := fun x => R.qcK K x.1 x.2.1 }
noncomputable def Sg.c_qcK (K : Nat) : Fw.Cfg := (Sg.cf K [(268, Sg.s_qac K)] [(268, Tryz.f268), (269, Tryz.f269)] [] [])
def Sg.h_qaf_0 : Fw.StSh := ⟨[(0, (.d (.sl Sg.t4))), (1, (.fn 227 [])), (3, (.ref 0 0)), (4, (.d .bool)), (5, (.d (.sl Sg.t4))), (6, (.fn 229 [(.ref 0 0)])), (9, (.d (.sl Sg.t4))), (10, (.fn 229 [(.ref 0 0)])), (13, (.d .bool)), (14, (.d (.sl Sg.t4))), (15, (.fn 229 [(.ref 0 0)])), (18, (.d (.sl Sg.t4))), (19, (.fn 229 [(.ref 0 0)])), (22, (.d (.int .i64))), (25, (.d (.int .i64))), (26, (.d (.int .i64)))], [(0, (.box [(.fn 227 [])]))], 1, 37, ⟨0, []⟩⟩
def Sg.o_qaf_0 : Fw.StSh := ⟨[(0, (.d (.sl Sg.t4))), (1, (.fn 227 [])), (3, (.ref 0 0)), (4, (.d .bool)), (5, (.d (.sl Sg.t4))), (6, (.fn 229 [(.ref 0 0)])), (9, (.d (.sl Sg.t4))), (10, (.fn 229 [(.ref 0 0)])), (13, (.d .bool)), (14, (.d (.sl Sg.t4))), (15, (.fn 229 [(.ref 0 0)])), (22, (.d (.int .i64)))], [(0, (.box [(.fn 227 [])]))], 1, 37, ⟨0, []⟩⟩
def Sg.r_qaf_0 : Fw.StSh := ⟨[(0, (.d (.sl Sg.t4))), (1, (.fn 227 [])), (3, (.ref 0 0)), (4, (.d .bool)), (5, (.d (.sl Sg.t4))), (6, (.fn 229 [(.ref 0 0)])), (9, (.d (.sl Sg.t4))), (10, (.fn 229 [(.ref 0 0)])), (13, (.d .bool)), (14, (.d (.sl Sg.t4))), (15, (.fn 229 [(.ref 0 0)])), (22, (.d (.int .i64)))], [(0, (.box [(.fn 227 [])]))], 2, 45, ⟨0, []⟩⟩
noncomputable def Sg.p_qaf_0 (K : Nat) : Fw.LSpec := { g := 268, b := 18, lv := 4, l0 := 1, li := 0, head := Sg.h_qaf_0, post := Sg.o_qaf_0, retn := Sg.r_qaf_0, ex := 0, L := R.L_qaf_0 K }
noncomputable def Sg.i_qaf : List (Nat × Fw.PFn) := [(229, Sg.f_qar), (268, Sg.f_qai), (228, Sg.f_qah)]
noncomputable def Sg.s_qaf (K : Nat) : Fw.Sig := { ins := [.val false (.sl Sg.t4), .fn 227 []], outs := [⟨false, .bool, false⟩], F := fun x => R.qaf K x.1 }
noncomputable def Sg.c_qaf (K : Nat) : Fw.Cfg := (Sg.cf K [(227, Sg.s_qcJ K)] [(229, Tryz.f229), (268, Tryz.f268), (228, Tryz.f228)] (Sg.p_qaf_0 K :: []) [])
def Sg.h_qcp_0 : Fw.StSh := ⟨[(0, (.d (.sl Sg.t4))), (2, (.d .bool)), (13, (.d (.sl Sg.t4))), (14, (.d (.int .i64))), (15, (.d (.int .i64)))], [], 0, 28, ⟨0, []⟩⟩
def Sg.o_qcp_0 : Fw.StSh := ⟨[(2, (.d .bool))], [], 0, 28, ⟨0, []⟩⟩
def Sg.r_qcp_0 : Fw.StSh := ⟨[(2, (.d .bool))], [], 1, 28, ⟨0, []⟩⟩
noncomputable def Sg.p_qcp_0 (K : Nat) : Fw.LSpec := { g := 153, b := 0, lv := 6, l0 := 0, li := 0, head := Sg.h_qcp_0, post := Sg.o_qcp_0, retn := Sg.r_qcp_0, ex := 0, L := R.L_qcp_0 K }
noncomputable def Sg.f_qcp : Fw.PFn := PFn.get Tryz.f153
noncomputable def Sg.i_qcp : List (Nat × Fw.PFn) := [(229, Sg.f_qar), (268, Sg.f_qai), (228, Sg.f_qah), (154, Sg.f_qau)]
noncomputable def Sg.s_qcp (K : Nat) : Fw.Sig := { ins := [.val false (.sl Sg.t4)], outs := [⟨false, .bool, false⟩], F := fun x => R.qcp K x.1 }
noncomputable def Sg.c_qcp (K : Nat) : Fw.Cfg := (Sg.cf K [(227, Sg.s_qcJ K), (207, Sg.s_qcK K), (154, Sg.s_qaf K)] [(229, Tryz.f229), (268, Tryz.f268), (228, Tryz.f228), (154, Tryz.f154)] (Sg.p_qcp_0 K :: []) (⟨153, 0, 6, 0, 6, none⟩ :: []))
noncomputable def Sg.f_qbD : Fw.PFn := PFn.get Tryz.f155
def Sg.h_qae_0 : Fw.StSh := ⟨[(0, (.d (.sl Sg.t4))), (1, (.fn 155 [(.dref Sg.t11 0)])), (3, (.ref 0 0)), (4, (.d .bool)), (5, (.d (.sl Sg.t4))), (6, (.fn 229 [(.ref 0 0)])), (9, (.d (.sl Sg.t4))), (10, (.fn 229 [(.ref 0 0)])), (13, (.d .bool)), (14, (.d (.sl Sg.t4))), (15, (.fn 229 [(.ref 0 0)])), (18, (.d (.sl Sg.t4))), (19, (.fn 229 [(.ref 0 0)])), (22, (.d (.int .i64))), (25, (.d (.int .i64))), (26, (.d (.int .i64)))], [(0, (.box [(.fn 155 [(.dref Sg.t11 0)])]))], 1, 37, ⟨0, []⟩⟩
def Sg.o_qae_0 : Fw.StSh := ⟨[(0, (.d (.sl Sg.t4))), (1, (.fn 155 [(.dref Sg.t11 0)])), (3, (.ref 0 0)), (4, (.d .bool)), (5, (.d (.sl Sg.t4))), (6, (.fn 229 [(.ref 0 0)])), (9, (.d (.sl Sg.t4))), (10, (.fn 229 [(.ref 0 0)])), (13, (.d .bool)), (14, (.d (.sl Sg.t4))), (15, (.fn 229 [(.ref 0 0)])), (22, (.d (.int .i64)))], [(0, (.box [(.fn 155 [(.dref Sg.t11 0)])]))], 1, 37, ⟨0, []⟩⟩
def Sg.r_qae_0 : Fw.StSh := ⟨[(0, (.d (.sl Sg.t4))), (1, (.fn 155 [(.dref Sg.t11 0)])), (3, (.ref 0 0)), (4, (.d .bool)), (5, (.d (.sl Sg.t4))), (6, (.fn 229 [(.ref 0 0)])), (9, (.d (.sl Sg.t4))), (10, (.fn 229 [(.ref 0 0)])), (13, (.d .bool)), (14, (.d (.sl Sg.t4))), (15, (.fn 229 [(.ref 0 0)])), (22, (.d (.int .i64)))], [(0, (.box [(.fn 155 [(.dref Sg.t11 0)])]))], 3, 55, ⟨0, []⟩⟩
noncomputable def Sg.p_qae_0 (K : Nat) : Fw.LSpec := { g := 268, b := 18, lv := 4, l0 := 1, li := 0, head := Sg.h_qae_0, post := Sg.o_qae_0, retn := Sg.r_qae_0, ex := 0, L := R.L_qae_0 K }
noncomputable def Sg.i_qae : List (Nat × Fw.PFn) := [(229, Sg.f_qar), (268, Sg.f_qai), (228, Sg.f_qah), (155, Sg.f_qbD)]
noncomputable def Sg.s_qae (K : Nat) : Fw.Sig := { ins := [.val false (.sl Sg.t4), .fn 155 [Sg.t11]], outs := [⟨false, .bool, false⟩], F := fun x => R.qae K x.1 x.2.1.1 }
noncomputable def Sg.c_qae (K : Nat) : Fw.Cfg := (Sg.cf K [] [(229, Tryz.f229), (268, Tryz.f268), (228, Tryz.f228), (155, Tryz.f155)] (Sg.p_qae_0 K :: []) [])
noncomputable def Sg.f_qci : Fw.PFn := PFn.get Tryz.f79
noncomputable def Sg.i_qci : List (Nat × Fw.PFn) := [(229, Sg.f_qar), (268, Sg.f_qai), (228, Sg.f_qah), (154, Sg.f_qau), (155, Sg.f_qbD)]
noncomputable def Sg.s_qci (K : Nat) : Fw.Sig := { ins := [.val true Sg.t11], outs := [⟨false, .bool, false⟩], F := fun x => R.qci K x.1 }
noncomputable def Sg.c_qci (K : Nat) : Fw.Cfg := (Sg.cf K [(152, Sg.s_qbO K), (153, Sg.s_qcp K), (154, Sg.s_qae K)] [(229, Tryz.f229), (268, Tryz.f268), (228, Tryz.f228), (154, Tryz.f154), (155, Tryz.f155)] [] [])
def Sg.h_qbH_0 : Fw.StSh := ⟨[(0, (.d (.sl (.pair .str (.pair (.int .i64) .bool))))), (2, (.d .bool)), (5, (.d (.sl (.pair .str (.pair (.int .i64) .bool))))), (6, (.d (.int .i64))), (7, (.d (.int .i64)))], [], 0, 50, ⟨0, []⟩⟩
def Sg.o_qbH_0 : Fw.StSh := ⟨[(0, (.d (.sl (.pair .str (.pair (.int .i64) .bool))))), (2, (.d .bool))], [], 0, 50, ⟨0, []⟩⟩
def Sg.r_qbH_0 : Fw.StSh := ⟨[(2, (.d .bool))], [], 1, 50, ⟨0, []⟩⟩
noncomputable def Sg.p_qbH_0 (K : Nat) : Fw.LSpec := { g := 177, b := 0, lv := 6, l0 := 0, li := 0, head := Sg.h_qbH_0, post := Sg.o_qbH_0, retn := Sg.r_qbH_0, ex := 0, L := R.L_qbH_0 K }
noncomputable def Sg.f_qbH : Fw.PFn := PFn.get Tryz.f177
noncomputable def Sg.s_qbH (K : Nat) : Fw.Sig := { ins := [.val false (.sl (.pair .str (.pair (.int .i64) .bool)))], outs := [⟨false, .bool, false⟩], F := fun x => R.qbH K x.1 }
noncomputable def Sg.c_qbH (K : Nat) : Fw.Cfg := (Sg.cf K [(175, Sg.s_qcz K), (251, Sg.s_qbZ K)] [] (Sg.p_qbH_0 K :: []) (⟨177, 0, 6, 0, 4, none⟩ :: []))
noncomputable def Sg.f_qde : Fw.PFn := PFn.get Tryz.f91
noncomputable def Sg.s_qde (K : Nat) : Fw.Sig := { ins := [.val true Sg.t10], outs := [⟨false, .bool, false⟩], F := fun x => R.qde K x.1 }
noncomputable def Sg.c_qde (K : Nat) : Fw.Cfg := (Sg.cf K [(113, Sg.s_qcH K), (175, Sg.s_qcz K), (176, Sg.s_qcC K), (177, Sg.s_qbH K)] [] [] [])
noncomputable def Sg.f_qda : Fw.PFn := PFn.get Tryz.f178
noncomputable def Sg.s_qda (K : Nat) : Fw.Sig := { ins := [.val false (.sl Sg.t4), .val false .str], outs := [⟨false, (.int .i64), false⟩, ⟨false, .bool, false⟩], F := fun x => R.qda K x.1 x.2.1 }
noncomputable def Sg.c_qda (K : Nat) : Fw.Cfg := (Sg.cf K [(207, Sg.s_qcK K)] [] [] (⟨178, 0, 6, 0, 2, none⟩ :: []))
noncomputable def Sg.f_qaG : Fw.PFn := PFn.get Tryz.f179
noncomputable def Sg.f_qas : Fw.PFn := PFn.get Tryz.f187
noncomputable def Sg.s_qas (K : Nat) : Fw.Sig := { ins := [.val false (.sl Sg.t4)], outs := [⟨false, (.sl Sg.t4), true⟩], F := fun x => R.qas K x.1 }
noncomputable def Sg.c_qas (K : Nat) : Fw.Cfg := (Sg.cf K [] [] [] [])
noncomputable def Sg.f_qcu : Fw.PFn := PFn.get Tryz.f180
noncomputable def Sg.s_qcu (K : Nat) : Fw.Sig := { ins := [.val false (.sl Sg.t4), .val false .str, .val false (.int .i64)], outs := [⟨false, (.sl Sg.t4), true⟩, ⟨false, (.int .i64), false⟩], F := fun x => R.qcu K x.1 x.2.1 x.2.2.1 }
noncomputable def Sg.c_qcu (K : Nat) : Fw.Cfg := (Sg.cf K [(207, Sg.s_qcK K), (187, Sg.s_qas K)] [] [] [])
noncomputable def Sg.f_qbB : Fw.PFn := PFn.get Tryz.f181
noncomputable def Sg.i_qbB : List (Nat × Fw.PFn) := [(179, Sg.f_qaG)]
noncomputable def Sg.s_qbB (K : Nat) : Fw.Sig := { ins := [.val true Sg.t11, .val false (.sl Sg.t4), .val false (.int .i64), .val false (.int .i64)], outs := [⟨true, Sg.t11, false⟩, ⟨true, Sg.t9, true⟩], F := fun x => R.qbB K x.1 x.2.1 x.2.2.1 x.2.2.2.1 }
noncomputable def Sg.c_qbB (K : Nat) : Fw.Cfg := (Sg.cf K [] [(179, Tryz.f179)] [] [])
noncomputable def Sg.f_qcU : Fw.PFn := PFn.get Tryz.f182
noncomputable def Sg.s_qcU (K : Nat) : Fw.Sig := { ins := [.val false (.sl Sg.t4), .val false (.int .i64), .val false (.int .i64)], outs := [⟨false, (.sl Sg.t4), true⟩, ⟨false, (.int .i64), false⟩], F := fun x => R.qcU K x.1 x.2.1 x.2.2.1 }
noncomputable def Sg.c_qcU (K : Nat) : Fw.Cfg := (Sg.cf K [(187, Sg.s_qas K)] [] [] (⟨182, 0, 6, 0, 4, none⟩ :: []))
noncomputable def Sg.f_qab : Fw.PFn := PFn.get Tryz.f252
noncomputable def Sg.s_qaO (K : Nat) : Fw.Sig := { ins := [.val false .str, .val false .str], outs := [⟨false, (.int .i64), false⟩], F := fun x => R.qaO K x.1 x.2.1 }
noncomputable def Sg.f_qcw : Fw.PFn := PFn.get Tryz.f253
noncomputable def Sg.s_qcw (K : Nat) : Fw.Sig := { ins := [.val true (.pair .str (.int .i64)), .val false .str], outs := [⟨false, (.int .i64), false⟩], F := fun x => R.qcw K x.1 x.2.1 }
noncomputable def Sg.c_qcw (K : Nat) : Fw.Cfg := (Sg.cf K [(254, Sg.s_qaO K)] [] [] [])
def Sg.h_qaa_0 : Fw.StSh := ⟨[(0, (.d (.sl (.pair .str (.int .i64))))), (1, (.d .str)), (2, (.fn 253 [])), (6, (.d (.int .i64))), (7, (.d .bool)), (8, (.d (.int .i64))), (9, (.d (.int .i64))), (10, (.d (.int .i64)))], [], 0, 49, ⟨0, []⟩⟩
def Sg.o_qaa_0 : Fw.StSh := ⟨[(0, (.d (.sl (.pair .str (.int .i64))))), (1, (.d .str)), (2, (.fn 253 [])), (6, (.d (.int .i64))), (7, (.d .bool)), (8, (.d (.int .i64))), (9, (.d (.int .i64)))], [], 0, 49, ⟨0, []⟩⟩
def Sg.r_qaa_0 : Fw.StSh := ⟨[], [], 0, 49, ⟨0, []⟩⟩
noncomputable def Sg.p_qaa_0 (K : Nat) : Fw.LSpec := { g := 252, b := 0, lv := 6, l0 := 0, li := 0, head := Sg.h_qaa_0, post := Sg.o_qaa_0, retn := Sg.r_qaa_0, ex := 0, L := R.L_qaa_0 K }
noncomputable def Sg.s_qaa (K : Nat) : Fw.Sig := { ins := [.val false (.sl (.pair .str (.int .i64))), .val false .str, .fn 253 []], outs := [⟨false, (.int .i64), false⟩, ⟨false, .bool, false⟩], F := fun x => R.qaa K x.1 x.2.1 }
noncomputable def Sg.c_qaa (K : Nat) : Fw.Cfg := (Sg.cf K [(253, Sg.s_qcw K)] [] (Sg.p_qaa_0 K :: []) [])
noncomputable def Sg.f_qdd : Fw.PFn := PFn.get Tryz.f183
noncomputable def Sg.i_qdd : List (Nat × Fw.PFn) := [(252, Sg.f_qab)]
noncomputable def Sg.s_qdd (K : Nat) : Fw.Sig := { ins := [.val false (.sl (.pair .str (.int .i64))), .val false .str], outs := [⟨false, (.int .i64), false⟩, ⟨false, .bool, false⟩], F := fun x => R.qdd K x.1 x.2.1 }
noncomputable def Sg.c_qdd (K : Nat) : Fw.Cfg := (Sg.cf K [(253, Sg.s_qcw K), (252, Sg.s_qaa K)] [(252, Tryz.f252)] [] [])
noncomputable def Sg.f_qaq : Fw.PFn := PFn.get Tryz.f184
noncomputable def Sg.s_qaq (K : Nat) : Fw.Sig := { ins := [.val false (.sl (.pair .str (.int .i64)))], outs := [⟨false, (.sl (.pair .str (.int .i64))), true⟩], F := fun x => R.qaq K x.1 }
noncomputable def Sg.c_qaq (K : Nat) : Fw.Cfg := (Sg.cf K [] [] [] [])
noncomputable def Sg.s_qal (K : Nat) : Fw.Sig := { ins := [.take false (.sl (.pair .str (.int .i64))), .val false (.int .i64), .val false (.int .i64)], outs := [⟨false, (.sl (.pair .str (.int .i64))), true⟩], F := fun x => R.qal K x.1 x.2.1 x.2.2.1 }
noncomputable def Sg.s_qak (K : Nat) : Fw.Sig := { ins := [.take false (.sl (.pair .str (.int .i64))), .val false (.int .i64), .val false (.sl (.pair .str (.int .i64)))], outs := [⟨false, (.sl (.pair .str (.int .i64))), true⟩], F := fun x => R.qak K x.1 x.2.1 x.2.2.1 }
def Sg.h_qct_0 : Fw.StSh := ⟨[(4, (.row 0)), (5, (.row 1)), (12, (.d (.sl (.pair .str (.pair (.int .i64) .bool))))), (13, (.d (.int .i64))), (14, (.d (.int .i64)))], [(0, (.row (.pair .str (.int .i64)) true)), (1, (.row (.pair .str (.int .i64)) true))], 2, 45, ⟨0, []⟩⟩
def Sg.o_qct_0 : Fw.StSh := ⟨[(4, (.row 0)), (5, (.row 1))], [(0, (.row (.pair .str (.int .i64)) true)), (1, (.row (.pair .str (.int .i64)) true))], 2, 45, ⟨0, []⟩⟩
def Sg.r_qct_0 : Fw.StSh := ⟨[], [], 2, 45, ⟨0, []⟩⟩
noncomputable def Sg.p_qct_0 (K : Nat) : Fw.LSpec := { g := 298, b := 0, lv := 6, l0 := 0, li := 0, head := Sg.h_qct_0, post := Sg.o_qct_0, retn := Sg.r_qct_0, ex := 0, L := R.L_qct_0 K }
noncomputable def Sg.f_qct : Fw.PFn := PFn.get Tryz.f298
noncomputable def Sg.s_qct (K : Nat) : Fw.Sig := { ins := [.val false (.sl (.pair .str (.int .i64))), .val false (.sl (.pair .str (.pair (.int .i64) .bool)))], outs := [⟨false, (.sl (.pair .str (.int .i64))), true⟩], F := fun x => R.qct K x.1 x.2.1 }
noncomputable def Sg.c_qct (K : Nat) : Fw.Cfg := (Sg.cf K [(183, Sg.s_qdd K), (184, Sg.s_qaq K), (310, Sg.s_qal K), (311, Sg.s_qak K)] [] (Sg.p_qct_0 K :: []) [])
noncomputable def Sg.f_qcf : Fw.PFn := PFn.get Tryz.f297
noncomputable def Sg.s_qaj (K : Nat) : Fw.Sig := { ins := [.mut false (.sl (.pair .str (.pair (.int .i64) .bool))), .fn 317 []], outs := [], F := fun x => R.qaj K x.1 }
noncomputable def Sg.f_qcs : Fw.PFn := PFn.get Tryz.f317
noncomputable def Sg.s_qcs (K : Nat) : Fw.Sig := { ins := [.val true (.pair .str (.pair (.int .i64) .bool)), .val true (.pair .str (.pair (.int .i64) .bool))], outs := [⟨false, (.int .i64), false⟩], F := fun x => R.qcs K x.1 x.2.1 }
noncomputable def Sg.c_qcs (K : Nat) : Fw.Cfg := (Sg.cf K [(254, Sg.s_qaO K)] [] [] [])
def Sg.h_qdb_0 : Fw.StSh := ⟨[(0, (.d (.sl (.pair .str (.int .i64))))), (1, (.d (.sl (.pair .str (.int .i64))))), (4, (.row 0)), (5, (.row 1)), (14, (.d (.sl (.pair .str (.int .i64))))), (15, (.d (.int .i64))), (16, (.d (.int .i64)))], [(0, (.row (.pair .str (.pair (.int .i64) .bool)) true)), (1, (.row (.pair .str (.pair (.int .i64) .bool)) true))], 2, 73, ⟨0, []⟩⟩
def Sg.o_qdb_0 : Fw.StSh := ⟨[(0, (.d (.sl (.pair .str (.int .i64))))), (1, (.d (.sl (.pair .str (.int .i64))))), (4, (.row 0)), (5, (.row 1))], [(0, (.row (.pair .str (.pair (.int .i64) .bool)) true)), (1, (.row (.pair .str (.pair (.int .i64) .bool)) true))], 2, 73, ⟨0, []⟩⟩
def Sg.r_qdb_0 : Fw.StSh := ⟨[], [], 2, 73, ⟨0, []⟩⟩
noncomputable def Sg.p_qdb_0 (K : Nat) : Fw.LSpec := { g := 312, b := 0, lv := 6, l0 := 0, li := 0, head := Sg.h_qdb_0, post := Sg.o_qdb_0, retn := Sg.r_qdb_0, ex := 0, L := R.L_qdb_0 K }
def Sg.h_qcs : Fw.StSh := ⟨[(1, (.d (.sl (.pair .str (.int .i64))))), (4, (.row 0)), (5, (.row 1)), (48, (.d (.sl (.pair .str (.int .i64))))), (49, (.d (.int .i64))), (50, (.d (.int .i64)))], [(0, (.row (.pair .str (.pair (.int .i64) .bool)) true)), (1, (.row (.pair .str (.pair (.int .i64) .bool)) true))], 2, 73, ⟨0, []⟩⟩
def Sg.o_qcs : Fw.StSh := ⟨[(4, (.row 0)), (5, (.row 1))], [(0, (.row (.pair .str (.pair (.int .i64) .bool)) true)), (1, (.row (.pair .str (.pair (.int .i64) .bool)) true))], 2, 73, ⟨0, []⟩⟩
def Sg.r_qcs : Fw.StSh := ⟨[], [], 2, 73, ⟨0, []⟩⟩
noncomputable def Sg.p_qcs (K : Nat) : Fw.LSpec := { g := 312, b := 0, lv := 6, l0 := 0, li := 1, head := Sg.h_qcs, post := Sg.o_qcs, retn := Sg.r_qcs, ex := 2, L := R.L_qcs K }
noncomputable def Sg.f_qdb : Fw.PFn := PFn.get Tryz.f312
noncomputable def Sg.s_qdb (K : Nat) : Fw.Sig := { ins := [.val false (.sl (.pair .str (.int .i64))), .val false (.sl (.pair .str (.int .i64)))], outs := [⟨false, (.sl (.pair .str (.pair (.int .i64) .bool))), true⟩], F := fun x => R.qdb K x.1 x.2.1 }
noncomputable def Sg.c_qdb (K : Nat) : Fw.Cfg := (Sg.cf K [(183, Sg.s_qdd K), (316, Sg.s_qaj K), (317, Sg.s_qcs K)] [] (Sg.p_qdb_0 K :: Sg.p_qcs K :: []) (⟨312, 0, 6, 0, 6, none⟩ :: []))
def Sg.h_qcO_0 : Fw.StSh := ⟨[(0, (.d (.sl (.pair .str (.int .i64))))), (1, (.d (.sl (.pair .str (.int .i64))))), (2, (.d (.sl (.pair .str (.int .i64))))), (6, (.row 0)), (7, (.row 1)), (8, (.d (.int .i64))), (9, (.row 2)), (23, (.row 3)), (24, (.d (.int .i64))), (25, (.d (.int .i64)))], [(0, (.row (.pair .str (.int .i64)) true)), (1, (.row .str true)), (2, (.mp true (.pair .str (.pair (.int .i64) .bool)))), (3, (.row (.pair .str (.pair (.int .i64) .bool)) true))], 4, 79, ⟨0, []⟩⟩
def Sg.o_qcO_0 : Fw.StSh := ⟨[(0, (.d (.sl (.pair .str (.int .i64))))), (1, (.d (.sl (.pair .str (.int .i64))))), (2, (.d (.sl (.pair .str (.int .i64))))), (6, (.row 0)), (7, (.row 1)), (8, (.d (.int .i64))), (9, (.row 2))], [(0, (.row (.pair .str (.int .i64)) true)), (1, (.row .str true)), (2, (.mp true (.pair .str (.pair (.int .i64) .bool))))], 4, 79, ⟨0, []⟩⟩
def Sg.r_qcO_0 : Fw.StSh := ⟨[], [], 4, 79, ⟨0, []⟩⟩
noncomputable def Sg.p_qcO_0 (K : Nat) : Fw.LSpec := { g := 299, b := 0, lv := 6, l0 := 0, li := 0, head := Sg.h_qcO_0, post := Sg.o_qcO_0, retn := Sg.r_qcO_0, ex := 0, L := R.L_qcO_0 K }
def Sg.h_qcO_1 : Fw.StSh := ⟨[(1, (.d (.sl (.pair .str (.int .i64))))), (6, (.row 0)), (7, (.row 1)), (8, (.d (.int .i64))), (9, (.row 2)), (12, (.row 4)), (13, (.row 5)), (36, (.row 6)), (37, (.d (.int .i64))), (38, (.d (.int .i64)))], [(0, (.row (.pair .str (.int .i64)) true)), (1, (.row .str true)), (2, (.mp true (.pair .str (.pair (.int .i64) .bool)))), (4, (.row (.pair .str (.pair (.int .i64) .bool)) true)), (5, (.row .str true)), (6, (.row (.pair .str (.pair (.int .i64) .bool)) true))], 7, 79, ⟨0, []⟩⟩
def Sg.o_qcO_1 : Fw.StSh := ⟨[(1, (.d (.sl (.pair .str (.int .i64))))), (6, (.row 0)), (7, (.row 1)), (8, (.d (.int .i64))), (12, (.row 4)), (13, (.row 5))], [(0, (.row (.pair .str (.int .i64)) true)), (1, (.row .str true)), (4, (.row (.pair .str (.pair (.int .i64) .bool)) true)), (5, (.row .str true))], 7, 79, ⟨0, []⟩⟩
def Sg.r_qcO_1 : Fw.StSh := ⟨[], [], 7, 79, ⟨0, []⟩⟩
noncomputable def Sg.p_qcO_1 (K : Nat) : Fw.LSpec := { g := 299, b := 0, lv := 6, l0 := 0, li := 1, head := Sg.h_qcO_1, post := Sg.o_qcO_1, retn := Sg.r_qcO_1, ex := 2, L := R.L_qcO_1 K }
noncomputable def Sg.f_qcO : Fw.PFn := PFn.get Tryz.f299
noncomputable def Sg.i_qcO : List (Nat × Fw.PFn) := [(297, Sg.f_qcf)]
noncomputable def Sg.s_qcO (K : Nat) : Fw.Sig := { ins := [.val false (.sl (.pair .str (.int .i64))), .val false (.sl (.pair .str (.int .i64))), .val false (.sl (.pair .str (.int .i64)))], outs := [⟨false, (.sl (.pair .str (.int .i64))), true⟩, ⟨false, (.sl .str), true⟩, ⟨false, (.int .i64), false⟩], F := fun x => R.qcO K x.1 x.2.1 x.2.2.1 }
noncomputable def Sg.c_qcO (K : Nat) : Fw.Cfg := (Sg.cf K [(298, Sg.s_qct K), (312, Sg.s_qdb K)] [(297, Tryz.f297)] (Sg.p_qcO_0 K :: Sg.p_qcO_1 K :: []) [])
def Sg.h_qan_0 : Fw.StSh := ⟨[(0, (.d (.sl (.pair .str (.int .i64))))), (1, (.d (.sl (.pair .str (.int .i64))))), (4, (.d .bool)), (12, (.d (.int .i64))), (13, (.d (.int .i64)))], [], 0, 26, ⟨0, []⟩⟩
def Sg.o_qan_0 : Fw.StSh := ⟨[(4, (.d .bool))], [], 0, 26, ⟨0, []⟩⟩
def Sg.r_qan_0 : Fw.StSh := ⟨[(4, (.d .bool))], [], 0, 26, ⟨0, []⟩⟩
noncomputable def Sg.p_qan_0 (K : Nat) : Fw.LSpec := { g := 236, b := 0, lv := 6, l0 := 0, li := 0, head := Sg.h_qan_0, post := Sg.o_qan_0, retn := Sg.r_qan_0, ex := 0, L := R.L_qan_0 K }
noncomputable def Sg.f_qan : Fw.PFn := PFn.get Tryz.f236
noncomputable def Sg.s_qan (K : Nat) : Fw.Sig := { ins := [.val false (.sl (.pair .str (.int .i64))), .val false (.sl (.pair .str (.int .i64)))], outs := [⟨false, .bool, false⟩], F := fun x => R.qan K x.1 x.2.1 }
noncomputable def Sg.c_qan (K : Nat) : Fw.Cfg := (Sg.cf K [] [] (Sg.p_qan_0 K :: []) (⟨236, 0, 6, 0, 6, none⟩ :: []))
noncomputable def Sg.f_qbK : Fw.PFn := PFn.get Tryz.f282
noncomputable def Sg.f_qay : Fw.PFn := PFn.get Tryz.f279
noncomputable def Sg.i_qay : List (Nat × Fw.PFn) := [(297, Sg.f_qcf), (282, Sg.f_qbK)]
noncomputable def Sg.s_qay (K : Nat) : Fw.Sig := { ins := [.val true Sg.t11, .val true Sg.t10, .val false (.int .i64)], outs := [⟨true, (.pair .bool (.pair (.sl (.pair .str (.int .i64))) (.pair (.sl (.int .i64)) (.pair (.sl .str) (.int .i64))))), true⟩], F := fun x => R.qay K x.1 x.2.1 x.2.2.1 }
noncomputable def Sg.c_qay (K : Nat) : Fw.Cfg := (Sg.cf K [(298, Sg.s_qct K), (299, Sg.s_qcO K), (236, Sg.s_qan K)] [(297, Tryz.f297), (282, Tryz.f282)] [] [])
def Sg.h_qbe_1 : Fw.StSh := ⟨[(0, (.d (.sl Sg.t2))), (4, (.row 0)), (5, (.row 1)), (6, (.d (.int .i64))), (17, (.d (.int .i64))), (18, (.d .bool)), (21, (.row 1)), (22, (.d (.int .i64))), (23, (.eref 1 0)), (24, (.d .bool)), (25, (.d (.sl Sg.t2))), (26, (.d (.int .i64))), (27, (.d (.int .i64))), (28, (.dref Sg.t2 0)), (29, (.dref Sg.t2 0)), (30, (.d (.sl (.int .i64)))), (31, (.d (.int .i64))), (32, (.d (.int .i64)))], [(0, (.row .bool true)), (1, (.row .bool true))], 2, 41, ⟨0, []⟩⟩
def Sg.o_qbe_1 : Fw.StSh := ⟨[(0, (.d (.sl Sg.t2))), (4, (.row 0)), (5, (.row 1)), (6, (.d (.int .i64))), (17, (.d (.int .i64))), (18, (.d .bool)), (21, (.row 1)), (22, (.d (.int .i64))), (23, (.eref 1 0)), (24, (.d .bool)), (25, (.d (.sl Sg.t2))), (26, (.d (.int .i64))), (27, (.d (.int .i64))), (28, (.dref Sg.t2 0)), (29, (.dref Sg.t2 0)), (30, (.d (.sl (.int .i64)))), (31, (.d (.int .i64))), (32, (.d (.int .i64))), (33, (.d .bool))], [(0, (.row .bool true)), (1, (.row .bool true))], 2, 41, ⟨0, []⟩⟩
def Sg.r_qbe_1 : Fw.StSh := ⟨[], [], 2, 41, ⟨0, []⟩⟩
noncomputable def Sg.p_qbe_1 (K : Nat) : Fw.LSpec := { g := 300, b := 0, lv := 6, l0 := 0, li := 1, head := Sg.h_qbe_1, post := Sg.o_qbe_1, retn := Sg.r_qbe_1, ex := 2, L := R.L_qbe_1 K }
def Sg.h_qbe_0 : Fw.StSh := ⟨[(0, (.d (.sl Sg.t2))), (4, (.row 0)), (5, (.row 1)), (6, (.d (.int .i64)))], [(0, (.row .bool true)), (1, (.row .bool true))], 2, 41, ⟨0, []⟩⟩
def Sg.o_qbe_0 : Fw.StSh := ⟨[(4, (.row 0)), (5, (.row 1))], [(0, (.row .bool true)), (1, (.row .bool true))], 2, 41, ⟨0, []⟩⟩
def Sg.r_qbe_0 : Fw.StSh := ⟨[], [], 2, 41, ⟨0, []⟩⟩
noncomputable def Sg.p_qbe_0 (K : Nat) : Fw.LSpec := { g := 300, b := 0, lv := 6, l0 := 0, li := 0, head := Sg.h_qbe_0, post := Sg.o_qbe_0, retn := Sg.r_qbe_0, ex := 0, L := R.L_qbe_0 K }
noncomputable def Sg.f_qbe : Fw.PFn := PFn.get Tryz.f300
noncomputable def Sg.s_qbe (K : Nat) : Fw.Sig := { ins := [.val false (.sl Sg.t2), .val false (.int .i64)], outs := [⟨false, (.sl .bool), true⟩], F := fun x => R.qbe K x.1 x.2.1 }
noncomputable def Sg.c_qbe (K : Nat) : Fw.Cfg := (Sg.cf K [] [] (Sg.p_qbe_1 K :: Sg.p_qbe_0 K :: []) [])
def Sg.h_qcD_0 : Fw.StSh := ⟨[(6, (.d (.int .i64))), (7, (.row 0)), (8, (.row 1)), (9, (.d (.int .i64)))], [(0, (.row .bool true)), (1, (.row .bool true))], 2, 34, ⟨0, []⟩⟩
def Sg.o_qcD_0 : Fw.StSh := ⟨[(6, (.d (.int .i64))), (9, (.d (.int .i64)))], [], 2, 34, ⟨0, []⟩⟩
def Sg.r_qcD_0 : Fw.StSh := ⟨[], [], 2, 34, ⟨0, []⟩⟩
noncomputable def Sg.p_qcD_0 (K : Nat) : Fw.LSpec := { g := 280, b := 0, lv := 6, l0 := 0, li := 0, head := Sg.h_qcD_0, post := Sg.o_qcD_0, retn := Sg.r_qcD_0, ex := 0, L := R.L_qcD_0 K }
noncomputable def Sg.f_qcD : Fw.PFn := PFn.get Tryz.f280
noncomputable def Sg.s_qcD (K : Nat) : Fw.Sig := { ins := [.val false (.sl Sg.t2), .val false (.int .i64), .val false (.int .i64)], outs := [⟨false, (.int .i64), false⟩], F := fun x => R.qcD K x.1 x.2.1 x.2.2.1 }
noncomputable def Sg.c_qcD (K : Nat) : Fw.Cfg := (Sg.cf K [(300, Sg.s_qbe K)] [] (Sg.p_qcD_0 K :: []) [])
noncomputable def Sg.f_qaz : Fw.PFn := PFn.get Tryz.f281
noncomputable def Sg.s_qaz (K : Nat) : Fw.Sig := { ins := [.val false (.sl Sg.t2), .val false (.int .i64), .val false (.int .i64)], outs := [⟨false, (.sl (.pair .str (.int .i64))), true⟩, ⟨false, (.sl .str), true⟩, ⟨false, (.int .i64), false⟩], F := fun x => R.qaz K x.1 x.2.1 x.2.2.1 }
noncomputable def Sg.c_qaz (K : Nat) : Fw.Cfg := (Sg.cf K [(299, Sg.s_qcO K), (280, Sg.s_qcD K)] [] [] (⟨281, 0, 6, 0, 2, none⟩ :: []))
noncomputable def Sg.f_qaH : Fw.PFn := PFn.get Tryz.f234
noncomputable def Sg.i_qaH : List (Nat × Fw.PFn) := [(282, Sg.f_qbK)]
noncomputable def Sg.s_qaH (K : Nat) : Fw.Sig := { ins := [.val true Sg.t11, .val true Sg.t10, .val false (.int .i64)], outs := [⟨true, (.pair .bool (.pair (.sl (.pair .str (.int .i64))) (.pair (.sl (.int .i64)) (.pair (.sl .str) (.int .i64))))), true⟩], F := fun x => R.qaH K x.1 x.2.1 x.2.2.1 }
noncomputable def Sg.c_qaH (K : Nat) : Fw.Cfg := (Sg.cf K [(279, Sg.s_qay K), (280, Sg.s_qcD K), (281, Sg.s_qaz K)] [(282, Tryz.f282)] [] [])
noncomputable def Sg.f_qaC : Fw.PFn := PFn.get Tryz.f290
noncomputable def Sg.s_qaC (K : Nat) : Fw.Sig := { ins := [.val false (.sl (.int .i64))], outs := [⟨false, (.sl (.int .i64)), true⟩], F := fun x => R.qaC K x.1 }
noncomputable def Sg.c_qaC (K : Nat) : Fw.Cfg := (Sg.cf K [] [] [] [])
noncomputable def Sg.f_qaM : Fw.PFn := PFn.get Tryz.f255
noncomputable def Sg.s_qaM (K : Nat) : Fw.Sig := { ins := [.val true Sg.t2], outs := [⟨true, Sg.t2, true⟩], F := fun x => R.qaM K x.1 }
noncomputable def Sg.c_qaM (K : Nat) : Fw.Cfg := (Sg.cf K [(184, Sg.s_qaq K), (290, Sg.s_qaC K)] [] [] (⟨255, 0, 6, 0, 1, none⟩ :: []))
def Sg.h_qbG_0 : Fw.StSh := ⟨[(2, (.row 0)), (3, (.row 1)), (6, (.d (.sl Sg.t2))), (7, (.d (.int .i64))), (8, (.d (.int .i64)))], [(0, (.row Sg.t2 true)), (1, (.row Sg.t2 true))], 2, 19, ⟨0, []⟩⟩
def Sg.o_qbG_0 : Fw.StSh := ⟨[(2, (.row 0)), (3, (.row 1))], [(0, (.row Sg.t2 true)), (1, (.row Sg.t2 true))], 2, 19, ⟨0, []⟩⟩
def Sg.r_qbG_0 : Fw.StSh := ⟨[], [], 2, 19, ⟨0, []⟩⟩
noncomputable def Sg.p_qbG_0 (K : Nat) : Fw.LSpec := { g := 186, b := 0, lv := 6, l0 := 0, li := 0, head := Sg.h_qbG_0, post := Sg.o_qbG_0, retn := Sg.r_qbG_0, ex := 0, L := R.L_qbG_0 K }
noncomputable def Sg.f_qbG : Fw.PFn := PFn.get Tryz.f186
noncomputable def Sg.s_qbG (K : Nat) : Fw.Sig := { ins := [.val false (.sl Sg.t2)], outs := [⟨false, (.sl Sg.t2), true⟩], F := fun x => R.qbG K x.1 }
noncomputable def Sg.c_qbG (K : Nat) : Fw.Cfg := (Sg.cf K [(255, Sg.s_qaM K)] [] (Sg.p_qbG_0 K :: []) [])
noncomputable def Sg.f_qbh : Fw.PFn := PFn.get Tryz.f93
noncomputable def Sg.s_qbh (K : Nat) : Fw.Sig := { ins := [.val true Sg.t11], outs := [⟨true, Sg.t11, true⟩], F := fun x => R.qbh K x.1 }
noncomputable def Sg.c_qbh (K : Nat) : Fw.Cfg := (Sg.cf K [(187, Sg.s_qas K), (186, Sg.s_qbG K)] [] [] (⟨93, 0, 6, 0, 1, none⟩ :: []))
def Sg.j_qaU_40 : Fw.StSh := ⟨[(2, (.d (.int .i64))), (3, (.ref 0 0)), (4, (.ref 1 0)), (6, (.ref 4 0)), (7, (.ref 7 0)), (8, (.ref 14 0))], [(0, (.box [(.d (.sl Sg.t2)), (.d (.sl Sg.t4))])), (1, (.box [(.d (.int .i64)), (.d (.int .i64)), (.d .str), (.d .str), (.d (.sl (.pair .str (.pair (.int .i64) .bool))))])), (4, (.box [(.row 2), (.row 3)])), (7, (.box [(.d (.int .i64)), (.d (.int .i64)), (.d (.int .i64)), (.row 5), (.row 6)])), (14, (.box [(.d .bool), (.row 8), (.row 9), (.row 10), (.d (.int .i64))])), (2, (.row Sg.t2 true)), (3, (.row Sg.t4 true)), (5, (.row .str true)), (6, (.row (.pair .str (.int .i64)) true)), (8, (.row (.pair .str (.int .i64)) true)), (9, (.row (.int .i64) true)), (10, (.row .str true))], 15, 81, ⟨0, []⟩⟩
noncomputable def Sg.f_qaU : Fw.PFn := PFn.get Tryz.f185
noncomputable def Sg.i_qaU : List (Nat × Fw.PFn) := [(179, Sg.f_qaG)]
noncomputable def Sg.s_qaU (K : Nat) : Fw.Sig := { ins := [.val true Sg.t11, .val true Sg.t10, .val false (.int .i64)], outs := [⟨true, Sg.t11, false⟩, ⟨true, Sg.t9, true⟩], F := fun x => R.qaU K x.1 x.2.1 x.2.2.1 }
noncomputable def Sg.c_qaU (K : Nat) : Fw.Cfg := (Sg.cf K [(182, Sg.s_qcU K), (234, Sg.s_qaH K), (93, Sg.s_qbh K)] [(179, Tryz.f179)] [] (⟨185, 0, 6, 0, 1, some Sg.j_qaU_40⟩ :: []))
noncomputable def Sg.f_qcb : Fw.PFn := PFn.get Tryz.f92
noncomputable def Sg.i_qcb : List (Nat × Fw.PFn) := [(179, Sg.f_qaG)]
noncomputable def Sg.s_qcb (K : Nat) : Fw.Sig := { ins := [.val true Sg.t11, .val true Sg.t10], outs := [⟨true, Sg.t11, false⟩, ⟨true, Sg.t9, true⟩], F := fun x => R.qcb K x.1 x.2.1 }
noncomputable def Sg.c_qcb (K : Nat) : Fw.Cfg := (Sg.cf K [(178, Sg.s_qda K), (180, Sg.s_qcu K), (181, Sg.s_qbB K), (182, Sg.s_qcU K), (183, Sg.s_qdd K), (184, Sg.s_qaq K), (185, Sg.s_qaU K)] [(179, Tryz.f179)] [] (⟨92, 0, 6, 0, 19, none⟩ :: ⟨92, 0, 6, 0, 21, none⟩ :: []))
noncomputable def Sg.f_qdc : Fw.PFn := PFn.get Tryz.f26
noncomputable def Sg.s_qdc (K : Nat) : Fw.Sig := { ins := [.val true Sg.t11, .val true Sg.t10], outs := [⟨true, Sg.t11, true⟩, ⟨true, Sg.t9, true⟩, ⟨false, (.int .i64), false⟩], F := fun x => R.qdc K x.1 x.2.1 }
noncomputable def Sg.c_qdc (K : Nat) : Fw.Cfg := (Sg.cf K [(79, Sg.s_qci K), (91, Sg.s_qde K), (93, Sg.s_qbh K), (92, Sg.s_qcb K)] [] [] (⟨26, 0, 6, 0, 4, none⟩ :: []))
def Sg.h_qcg_0 : Fw.StSh := ⟨[(0, (.d (.sl (.int .i64)))), (1, (.d (.sl (.int .i64)))), (4, (.d .bool)), (5, (.d (.int .i64)))], [], 0, 26, ⟨0, []⟩⟩
def Sg.o_qcg_0 : Fw.StSh := ⟨[(4, (.d .bool))], [], 0, 26, ⟨0, []⟩⟩
def Sg.r_qcg_0 : Fw.StSh := ⟨[(4, (.d .bool))], [], 0, 26, ⟨0, []⟩⟩
noncomputable def Sg.p_qcg_0 (K : Nat) : Fw.LSpec := { g := 237, b := 0, lv := 6, l0 := 0, li := 0, head := Sg.h_qcg_0, post := Sg.o_qcg_0, retn := Sg.r_qcg_0, ex := 0, L := R.L_qcg_0 K }
noncomputable def Sg.f_qcg : Fw.PFn := PFn.get Tryz.f237
noncomputable def Sg.s_qcg (K : Nat) : Fw.Sig := { ins := [.val false (.sl (.int .i64)), .val false (.sl (.int .i64))], outs := [⟨false, .bool, false⟩], F := fun x => R.qcg K x.1 x.2.1 }
noncomputable def Sg.c_qcg (K : Nat) : Fw.Cfg := (Sg.cf K [] [] (Sg.p_qcg_0 K :: []) (⟨237, 0, 6, 0, 6, none⟩ :: []))
noncomputable def Sg.f_qbQ : Fw.PFn := PFn.get Tryz.f162
noncomputable def Sg.s_qbQ (K : Nat) : Fw.Sig := { ins := [.val true (.pair .str (.int .i64)), .val true (.pair .str (.int .i64))], outs := [⟨false, .bool, false⟩], F := fun x => R.qbQ K x.1 x.2.1 }
noncomputable def Sg.c_qbQ (K : Nat) : Fw.Cfg := (Sg.cf K [] [] [] [])
def Sg.h_qbn_0 : Fw.StSh := ⟨[(0, (.d (.sl (.pair .str (.int .i64))))), (1, (.d (.sl (.pair .str (.int .i64))))), (4, (.d .bool)), (5, (.d (.int .i64)))], [], 0, 27, ⟨0, []⟩⟩
def Sg.o_qbn_0 : Fw.StSh := ⟨[(4, (.d .bool))], [], 0, 27, ⟨0, []⟩⟩
def Sg.r_qbn_0 : Fw.StSh := ⟨[(4, (.d .bool))], [], 0, 27, ⟨0, []⟩⟩
noncomputable def Sg.p_qbn_0 (K : Nat) : Fw.LSpec := { g := 84, b := 0, lv := 6, l0 := 0, li := 0, head := Sg.h_qbn_0, post := Sg.o_qbn_0, retn := Sg.r_qbn_0, ex := 0, L := R.L_qbn_0 K }
noncomputable def Sg.f_qbn : Fw.PFn := PFn.get Tryz.f84
noncomputable def Sg.s_qbn (K : Nat) : Fw.Sig := { ins := [.val false (.sl (.pair .str (.int .i64))), .val false (.sl (.pair .str (.int .i64)))], outs := [⟨false, .bool, false⟩], F := fun x => R.qbn K x.1 x.2.1 }
noncomputable def Sg.c_qbn (K : Nat) : Fw.Cfg := (Sg.cf K [(162, Sg.s_qbQ K)] [] (Sg.p_qbn_0 K :: []) (⟨84, 0, 6, 0, 6, none⟩ :: []))
noncomputable def Sg.f_qbw : Fw.PFn := PFn.get Tryz.f159
noncomputable def Sg.s_qbw (K : Nat) : Fw.Sig := { ins := [.val true Sg.t2, .val true Sg.t2], outs := [⟨false, .bool, false⟩], F := fun x => R.qbw K x.1 x.2.1 }
noncomputable def Sg.c_qbw (K : Nat) : Fw.Cfg := (Sg.cf K [(237, Sg.s_qcg K), (84, Sg.s_qbn K)] [] [] [])
def Sg.h_qbc_0 : Fw.StSh := ⟨[(0, (.d (.sl Sg.t2))), (1, (.d (.sl Sg.t2))), (4, (.d .bool)), (5, (.d (.int .i64)))], [], 0, 27, ⟨0, []⟩⟩
def Sg.o_qbc_0 : Fw.StSh := ⟨[(4, (.d .bool))], [], 0, 27, ⟨0, []⟩⟩
def Sg.r_qbc_0 : Fw.StSh := ⟨[(4, (.d .bool))], [], 0, 27, ⟨0, []⟩⟩
noncomputable def Sg.p_qbc_0 (K : Nat) : Fw.LSpec := { g := 81, b := 0, lv := 6, l0 := 0, li := 0, head := Sg.h_qbc_0, post := Sg.o_qbc_0, retn := Sg.r_qbc_0, ex := 0, L := R.L_qbc_0 K }
noncomputable def Sg.f_qbc : Fw.PFn := PFn.get Tryz.f81
noncomputable def Sg.s_qbc (K : Nat) : Fw.Sig := { ins := [.val false (.sl Sg.t2), .val false (.sl Sg.t2)], outs := [⟨false, .bool, false⟩], F := fun x => R.qbc K x.1 x.2.1 }
noncomputable def Sg.c_qbc (K : Nat) : Fw.Cfg := (Sg.cf K [(159, Sg.s_qbw K)] [] (Sg.p_qbc_0 K :: []) (⟨81, 0, 6, 0, 6, none⟩ :: []))
noncomputable def Sg.f_qcP : Fw.PFn := PFn.get Tryz.f160
noncomputable def Sg.s_qcP (K : Nat) : Fw.Sig := { ins := [.val true Sg.t4, .val true Sg.t4], outs := [⟨false, .bool, false⟩], F := fun x => R.qcP K x.1 x.2.1 }
noncomputable def Sg.c_qcP (K : Nat) : Fw.Cfg := (Sg.cf K [] [] [] [])
def Sg.h_qcF_0 : Fw.StSh := ⟨[(0, (.d (.sl Sg.t4))), (1, (.d (.sl Sg.t4))), (4, (.d .bool)), (5, (.d (.int .i64)))], [], 0, 27, ⟨0, []⟩⟩
def Sg.o_qcF_0 : Fw.StSh := ⟨[(4, (.d .bool))], [], 0, 27, ⟨0, []⟩⟩
def Sg.r_qcF_0 : Fw.StSh := ⟨[(4, (.d .bool))], [], 0, 27, ⟨0, []⟩⟩
noncomputable def Sg.p_qcF_0 (K : Nat) : Fw.LSpec := { g := 82, b := 0, lv := 6, l0 := 0, li := 0, head := Sg.h_qcF_0, post := Sg.o_qcF_0, retn := Sg.r_qcF_0, ex := 0, L := R.L_qcF_0 K }
noncomputable def Sg.f_qcF : Fw.PFn := PFn.get Tryz.f82
noncomputable def Sg.s_qcF (K : Nat) : Fw.Sig := { ins := [.val false (.sl Sg.t4), .val false (.sl Sg.t4)], outs := [⟨false, .bool, false⟩], F := fun x => R.qcF K x.1 x.2.1 }
noncomputable def Sg.c_qcF (K : Nat) : Fw.Cfg := (Sg.cf K [(160, Sg.s_qcP K)] [] (Sg.p_qcF_0 K :: []) (⟨82, 0, 6, 0, 6, none⟩ :: []))
noncomputable def Sg.f_qcA : Fw.PFn := PFn.get Tryz.f21
noncomputable def Sg.s_qcA (K : Nat) : Fw.Sig := { ins := [.val true Sg.t11, .val true Sg.t11], outs := [⟨false, .bool, false⟩], F := fun x => R.qcA K x.1 x.2.1 }
noncomputable def Sg.c_qcA (K : Nat) : Fw.Cfg := (Sg.cf K [(81, Sg.s_qbc K), (82, Sg.s_qcF K)] [] [] [])
def Sg.h_qba_0 : Fw.StSh := ⟨[(0, (.d (.sl .str))), (1, (.d (.sl .str))), (4, (.d .bool)), (5, (.d (.int .i64)))], [], 0, 26, ⟨0, []⟩⟩
def Sg.o_qba_0 : Fw.StSh := ⟨[(4, (.d .bool))], [], 0, 26, ⟨0, []⟩⟩
def Sg.r_qba_0 : Fw.StSh := ⟨[(4, (.d .bool))], [], 0, 26, ⟨0, []⟩⟩
noncomputable def Sg.p_qba_0 (K : Nat) : Fw.LSpec := { g := 94, b := 0, lv := 6, l0 := 0, li := 0, head := Sg.h_qba_0, post := Sg.o_qba_0, retn := Sg.r_qba_0, ex := 0, L := R.L_qba_0 K }
noncomputable def Sg.f_qba : Fw.PFn := PFn.get Tryz.f94
noncomputable def Sg.s_qba (K : Nat) : Fw.Sig := { ins := [.val false (.sl .str), .val false (.sl .str)], outs := [⟨false, .bool, false⟩], F := fun x => R.qba K x.1 x.2.1 }
noncomputable def Sg.c_qba (K : Nat) : Fw.Cfg := (Sg.cf K [] [] (Sg.p_qba_0 K :: []) (⟨94, 0, 6, 0, 6, none⟩ :: []))
noncomputable def Sg.f_qbs : Fw.PFn := PFn.get Tryz.f27
noncomputable def Sg.s_qbs (K : Nat) : Fw.Sig := { ins := [.val true Sg.t9, .val true Sg.t9], outs := [⟨false, .bool, false⟩], F := fun x => R.qbs K x.1 x.2.1 }
noncomputable def Sg.c_qbs (K : Nat) : Fw.Cfg := (Sg.cf K [(84, Sg.s_qbn K), (94, Sg.s_qba K)] [] [] [])
noncomputable def Sg.f_qcn : Fw.PFn := PFn.get Tryz.f188
noncomputable def Sg.s_qcn (K : Nat) : Fw.Sig := { ins := [.val true (.pair .str (.pair (.int .i64) .bool)), .val true (.pair .str (.pair (.int .i64) .bool))], outs := [⟨false, .bool, false⟩], F := fun x => R.qcn K x.1 x.2.1 }
noncomputable def Sg.c_qcn (K : Nat) : Fw.Cfg := (Sg.cf K [] [] [] [])
def Sg.h_qbL_0 : Fw.StSh := ⟨[(0, (.d (.sl (.pair .str (.pair (.int .i64) .bool))))), (1, (.d (.sl (.pair .str (.pair (.int .i64) .bool))))), (4, (.d .bool)), (5, (.d (.int .i64)))], [], 0, 27, ⟨0, []⟩⟩
def Sg.o_qbL_0 : Fw.StSh := ⟨[(4, (.d .bool))], [], 0, 27, ⟨0, []⟩⟩
def Sg.r_qbL_0 : Fw.StSh := ⟨[(4, (.d .bool))], [], 0, 27, ⟨0, []⟩⟩
noncomputable def Sg.p_qbL_0 (K : Nat) : Fw.LSpec := { g := 95, b := 0, lv := 6, l0 := 0, li := 0, head := Sg.h_qbL_0, post := Sg.o_qbL_0, retn := Sg.r_qbL_0, ex := 0, L := R.L_qbL_0 K }
noncomputable def Sg.f_qbL : Fw.PFn := PFn.get Tryz.f95
noncomputable def Sg.s_qbL (K : Nat) : Fw.Sig := { ins := [.val false (.sl (.pair .str (.pair (.int .i64) .bool))), .val false (.sl (.pair .str (.pair (.int .i64) .bool)))], outs := [⟨false, .bool, false⟩], F := fun x => R.qbL K x.1 x.2.1 }
noncomputable def Sg.c_qbL (K : Nat) : Fw.Cfg := (Sg.cf K [(188, Sg.s_qcn K)] [] (Sg.p_qbL_0 K :: []) (⟨95, 0, 6, 0, 6, none⟩ :: []))
noncomputable def Sg.f_qcZ : Fw.PFn := PFn.get Tryz.f28
noncomputable def Sg.s_qcZ (K : Nat) : Fw.Sig := { ins := [.val true Sg.t10, .val true Sg.t10], outs := [⟨false, .bool, false⟩], F := fun x => R.qcZ K x.1 x.2.1 }
noncomputable def Sg.c_qcZ (K : Nat) : Fw.Cfg := (Sg.cf K [(95, Sg.s_qbL K)] [] [] [])
def Sg.h_qbj_0 : Fw.StSh := ⟨[(0, (.row 0)), (1, (.row 0)), (2, (.d (.int .i64))), (5, (.d (.int .i64))), (6, (.d (.int .i64)))], [(0, (.row (.int .i64) true))], 1, 20, ⟨0, []⟩⟩
def Sg.o_qbj_0 : Fw.StSh := ⟨[(0, (.row 0)), (2, (.d (.int .i64))), (5, (.d (.int .i64)))], [(0, (.row (.int .i64) true))], 1, 20, ⟨0, []⟩⟩
def Sg.r_qbj_0 : Fw.StSh := ⟨[], [], 1, 20, ⟨0, []⟩⟩
noncomputable def Sg.p_qbj_0 (K : Nat) : Fw.LSpec := { g := 189, b := 1, lv := 6, l0 := 1, li := 0, head := Sg.h_qbj_0, post := Sg.o_qbj_0, retn := Sg.r_qbj_0, ex := 0, L := R.L_qbj_0 K }
noncomputable def Sg.f_qbj : Fw.PFn := PFn.get Tryz.f189
noncomputable def Sg.s_qbj (K : Nat) : Fw.Sig := { ins := [.mut false (.sl (.int .i64)), .val false (.int .i64)], outs := [⟨false, (.int .i64), false⟩], F := fun x => R.qbj K x.1 x.2.1 }
noncomputable def Sg.c_qbj (K : Nat) : Fw.Cfg := (Sg.cf K [] [] (Sg.p_qbj_0 K :: []) [])
def Sg.h_qbv_0 : Fw.StSh := ⟨[(0, (.d (.int .i64))), (2, (.d .str)), (3, (.d .str))], [], 0, 20, ⟨0, []⟩⟩
def Sg.o_qbv_0 : Fw.StSh := ⟨[(2, (.d .str)), (3, (.d .str))], [], 0, 20, ⟨0, []⟩⟩
def Sg.r_qbv_0 : Fw.StSh := ⟨[], [], 0, 20, ⟨0, []⟩⟩
noncomputable def Sg.p_qbv_0 (K : Nat) : Fw.LSpec := { g := 107, b := 0, lv := 6, l0 := 0, li := 0, head := Sg.h_qbv_0, post := Sg.o_qbv_0, retn := Sg.r_qbv_0, ex := 0, L := R.L_qbv_0 K }
noncomputable def Sg.f_qbv : Fw.PFn := PFn.get Tryz.f107
noncomputable def Sg.s_qbv (K : Nat) : Fw.Sig := { ins := [.val false (.int .i64)], outs := [⟨false, .str, false⟩], F := fun x => R.qbv K x.1 }
noncomputable def Sg.c_qbv (K : Nat) : Fw.Cfg := (Sg.cf K [] [] (Sg.p_qbv_0 K :: []) [])
def Sg.h_qaR_0 : Fw.StSh := ⟨[(0, (.row 0)), (1, (.row 0)), (2, (.d (.int .i64))), (5, (.d (.int .i64))), (6, (.d (.int .i64)))], [(0, (.row (.pair .str (.int .i64)) true))], 1, 29, ⟨0, []⟩⟩
def Sg.o_qaR_0 : Fw.StSh := ⟨[(0, (.row 0)), (2, (.d (.int .i64))), (5, (.d (.int .i64)))], [(0, (.row (.pair .str (.int .i64)) true))], 1, 29, ⟨0, []⟩⟩
def Sg.r_qaR_0 : Fw.StSh := ⟨[], [], 1, 29, ⟨0, []⟩⟩
noncomputable def Sg.p_qaR_0 (K : Nat) : Fw.LSpec := { g := 100, b := 1, lv := 6, l0 := 1, li := 0, head := Sg.h_qaR_0, post := Sg.o_qaR_0, retn := Sg.r_qaR_0, ex := 0, L := R.L_qaR_0 K }
noncomputable def Sg.f_qaR : Fw.PFn := PFn.get Tryz.f100
noncomputable def Sg.s_qaR (K : Nat) : Fw.Sig := { ins := [.mut false (.sl (.pair .str (.int .i64))), .val false (.int .i64)], outs := [⟨false, (.int .i64), false⟩], F := fun x => R.qaR K x.1 x.2.1 }
noncomputable def Sg.c_qaR (K : Nat) : Fw.Cfg := (Sg.cf K [(107, Sg.s_qbv K)] [] (Sg.p_qaR_0 K :: []) [])
def Sg.h_qaK_0 : Fw.StSh := ⟨[(0, (.row 0)), (1, (.row 0)), (2, (.d (.int .i64))), (5, (.d (.int .i64))), (6, (.d (.int .i64)))], [(0, (.row Sg.t2 true))], 1, 28, ⟨0, []⟩⟩
def Sg.o_qaK_0 : Fw.StSh := ⟨[(0, (.row 0)), (2, (.d (.int .i64))), (5, (.d (.int .i64)))], [(0, (.row Sg.t2 true))], 1, 28, ⟨0, []⟩⟩
def Sg.r_qaK_0 : Fw.StSh := ⟨[], [], 1, 28, ⟨0, []⟩⟩
noncomputable def Sg.p_qaK_0 (K : Nat) : Fw.LSpec := { g := 96, b := 1, lv := 6, l0 := 1, li := 0, head := Sg.h_qaK_0, post := Sg.o_qaK_0, retn := Sg.r_qaK_0, ex := 0, L := R.L_qaK_0 K }
noncomputable def Sg.f_qaK : Fw.PFn := PFn.get Tryz.f96
noncomputable def Sg.s_qaK (K : Nat) : Fw.Sig := { ins := [.mut false (.sl Sg.t2), .val false (.int .i64)], outs := [⟨false, (.int .i64), false⟩], F := fun x => R.qaK K x.1 x.2.1 }
noncomputable def Sg.c_qaK (K : Nat) : Fw.Cfg := (Sg.cf K [(189, Sg.s_qbj K), (100, Sg.s_qaR K)] [] (Sg.p_qaK_0 K :: []) [])
def Sg.h_qbz_0 : Fw.StSh := ⟨[(0, (.row 0)), (1, (.row 0)), (2, (.d (.int .i64))), (5, (.d (.int .i64))), (6, (.d (.int .i64)))], [(0, (.row Sg.t4 true))], 1, 45, ⟨0, []⟩⟩
def Sg.o_qbz_0 : Fw.StSh := ⟨[(0, (.row 0)), (2, (.d (.int .i64))), (5, (.d (.int .i64)))], [(0, (.row Sg.t4 true))], 1, 45, ⟨0, []⟩⟩
def Sg.r_qbz_0 : Fw.StSh := ⟨[], [], 1, 45, ⟨0, []⟩⟩
noncomputable def Sg.p_qbz_0 (K : Nat) : Fw.LSpec := { g := 97, b := 1, lv := 6, l0 := 1, li := 0, head := Sg.h_qbz_0, post := Sg.o_qbz_0, retn := Sg.r_qbz_0, ex := 0, L := R.L_qbz_0 K }
noncomputable def Sg.f_qbz : Fw.PFn := PFn.get Tryz.f97
noncomputable def Sg.s_qbz (K : Nat) : Fw.Sig := { ins := [.mut false (.sl Sg.t4), .val false (.int .i64)], outs := [⟨false, (.int .i64), false⟩], F := fun x => R.qbz K x.1 x.2.1 }
noncomputable def Sg.c_qbz (K : Nat) : Fw.Cfg := (Sg.cf K [(107, Sg.s_qbv K)] [] (Sg.p_qbz_0 K :: []) [])
noncomputable def Sg.f_qbm : Fw.PFn := PFn.get Tryz.f29
noncomputable def Sg.s_qbm (K : Nat) : Fw.Sig := { ins := [.mut true Sg.t11, .val false (.int .i64)], outs := [⟨false, (.int .i64), false⟩], F := fun x => R.qbm K x.1 x.2.1 }
noncomputable def Sg.c_qbm (K : Nat) : Fw.Cfg := (Sg.cf K [(96, Sg.s_qaK K), (97, Sg.s_qbz K)] [] [] [])
def Sg.h_qbd_0 : Fw.StSh := ⟨[(0, (.row 0)), (1, (.row 0)), (2, (.d (.int .i64))), (5, (.d (.int .i64))), (6, (.d (.int .i64)))], [(0, (.row (.pair .str (.pair (.int .i64) .bool)) true))], 1, 38, ⟨0, []⟩⟩
def Sg.o_qbd_0 : Fw.StSh := ⟨[(0, (.row 0)), (2, (.d (.int .i64))), (5, (.d (.int .i64)))], [(0, (.row (.pair .str (.pair (.int .i64) .bool)) true))], 1, 38, ⟨0, []⟩⟩
def Sg.r_qbd_0 : Fw.StSh := ⟨[], [], 1, 38, ⟨0, []⟩⟩
noncomputable def Sg.p_qbd_0 (K : Nat) : Fw.LSpec := { g := 98, b := 1, lv := 6, l0 := 1, li := 0, head := Sg.h_qbd_0, post := Sg.o_qbd_0, retn := Sg.r_qbd_0, ex := 0, L := R.L_qbd_0 K }
noncomputable def Sg.f_qbd : Fw.PFn := PFn.get Tryz.f98
noncomputable def Sg.s_qbd (K : Nat) : Fw.Sig := { ins := [.mut false (.sl (.pair .str (.pair (.int .i64) .bool))), .val false (.int .i64)], outs := [⟨false, (.int .i64), false⟩], F := fun x => R.qbd K x.1 x.2.1 }
noncomputable def Sg.c_qbd (K : Nat) : Fw.Cfg := (Sg.cf K [(107, Sg.s_qbv K)] [] (Sg.p_qbd_0 K :: []) [])
noncomputable def Sg.f_qcm : Fw.PFn := PFn.get Tryz.f30
noncomputable def Sg.s_qcm (K : Nat) : Fw.Sig := { ins := [.mut true Sg.t10, .val false (.int .i64)], outs := [⟨false, (.int .i64), false⟩], F := fun x => R.qcm K x.1 x.2.1 }
noncomputable def Sg.c_qcm (K : Nat) : Fw.Cfg := (Sg.cf K [(98, Sg.s_qbd K)] [] [] [])
def Sg.h_qaE_0 : Fw.StSh := ⟨[(0, (.row 0)), (1, (.row 0)), (2, (.d (.int .i64))), (5, (.d (.int .i64))), (6, (.d (.int .i64)))], [(0, (.row .str true))], 1, 21, ⟨0, []⟩⟩
def Sg.o_qaE_0 : Fw.StSh := ⟨[(0, (.row 0)), (2, (.d (.int .i64))), (5, (.d (.int .i64)))], [(0, (.row .str true))], 1, 21, ⟨0, []⟩⟩
def Sg.r_qaE_0 : Fw.StSh := ⟨[], [], 1, 21, ⟨0, []⟩⟩
noncomputable def Sg.p_qaE_0 (K : Nat) : Fw.LSpec := { g := 99, b := 1, lv := 6, l0 := 1, li := 0, head := Sg.h_qaE_0, post := Sg.o_qaE_0, retn := Sg.r_qaE_0, ex := 0, L := R.L_qaE_0 K }
noncomputable def Sg.f_qaE : Fw.PFn := PFn.get Tryz.f99
noncomputable def Sg.s_qaE (K : Nat) : Fw.Sig := { ins := [.mut false (.sl .str), .val false (.int .i64)], outs := [⟨false, (.int .i64), false⟩], F := fun x => R.qaE K x.1 x.2.1 }
noncomputable def Sg.c_qaE (K : Nat) : Fw.Cfg := (Sg.cf K [(107, Sg.s_qbv K)] [] (Sg.p_qaE_0 K :: []) [])
noncomputable def Sg.f_qaQ : Fw.PFn := PFn.get Tryz.f31
noncomputable def Sg.s_qaQ (K : Nat) : Fw.Sig := { ins := [.mut true Sg.t9, .val false (.int .i64)], outs := [⟨false, (.int .i64), false⟩], F := fun x => R.qaQ K x.1 x.2.1 }
noncomputable def Sg.c_qaQ (K : Nat) : Fw.Cfg := (Sg.cf K [(100, Sg.s_qaR K), (99, Sg.s_qaE K)] [] [] [])
def Sg.h_qbr_0 : Fw.StSh := ⟨[(0, (.d (.sl (.int .i64)))), (1, (.d (.int .i64))), (4, (.d (.int .i64))), (5, (.d (.int .i64)))], [], 0, 21, ⟨0, []⟩⟩
def Sg.o_qbr_0 : Fw.StSh := ⟨[(1, (.d (.int .i64))), (4, (.d (.int .i64)))], [], 0, 21, ⟨0, []⟩⟩
def Sg.r_qbr_0 : Fw.StSh := ⟨[(4, (.d (.int .i64)))], [], 0, 21, ⟨0, []⟩⟩
noncomputable def Sg.p_qbr_0 (K : Nat) : Fw.LSpec := { g := 190, b := 0, lv := 6, l0 := 0, li := 0, head := Sg.h_qbr_0, post := Sg.o_qbr_0, retn := Sg.r_qbr_0, ex := 0, L := R.L_qbr_0 K }
noncomputable def Sg.f_qbr : Fw.PFn := PFn.get Tryz.f190
noncomputable def Sg.s_qbr (K : Nat) : Fw.Sig := { ins := [.val false (.sl (.int .i64)), .val false (.int .i64)], outs := [⟨false, (.int .i64), false⟩], F := fun x => R.qbr K x.1 x.2.1 }
noncomputable def Sg.c_qbr (K : Nat) : Fw.Cfg := (Sg.cf K [] [] (Sg.p_qbr_0 K :: []) [])
def Sg.h_qaS_0 : Fw.StSh := ⟨[(0, (.d (.sl (.pair .str (.int .i64))))), (1, (.d (.int .i64))), (4, (.d (.int .i64))), (5, (.d (.int .i64)))], [], 0, 32, ⟨0, []⟩⟩
def Sg.o_qaS_0 : Fw.StSh := ⟨[(1, (.d (.int .i64))), (4, (.d (.int .i64)))], [], 0, 32, ⟨0, []⟩⟩
def Sg.r_qaS_0 : Fw.StSh := ⟨[(4, (.d (.int .i64)))], [], 0, 32, ⟨0, []⟩⟩
noncomputable def Sg.p_qaS_0 (K : Nat) : Fw.LSpec := { g := 104, b := 0, lv := 6, l0 := 0, li := 0, head := Sg.h_qaS_0, post := Sg.o_qaS_0, retn := Sg.r_qaS_0, ex := 0, L := R.L_qaS_0 K }
noncomputable def Sg.f_qaS : Fw.PFn := PFn.get Tryz.f104
noncomputable def Sg.s_qaS (K : Nat) : Fw.Sig := { ins := [.val false (.sl (.pair .str (.int .i64))), .val false (.int .i64)], outs := [⟨false, (.int .i64), false⟩], F := fun x => R.qaS K x.1 x.2.1 }
noncomputable def Sg.c_qaS (K : Nat) : Fw.Cfg := (Sg.cf K [(107, Sg.s_qbv K)] [] (Sg.p_qaS_0 K :: []) (⟨104, 0, 6, 0, 4, none⟩ :: []))
def Sg.h_qaI_0 : Fw.StSh := ⟨[(0, (.d (.sl Sg.t2))), (1, (.d (.int .i64))), (4, (.d (.int .i64))), (5, (.d (.int .i64)))], [], 0, 31, ⟨0, []⟩⟩
def Sg.o_qaI_0 : Fw.StSh := ⟨[(1, (.d (.int .i64))), (4, (.d (.int .i64)))], [], 0, 31, ⟨0, []⟩⟩
def Sg.r_qaI_0 : Fw.StSh := ⟨[(4, (.d (.int .i64)))], [], 0, 31, ⟨0, []⟩⟩
noncomputable def Sg.p_qaI_0 (K : Nat) : Fw.LSpec := { g := 101, b := 0, lv := 6, l0 := 0, li := 0, head := Sg.h_qaI_0, post := Sg.o_qaI_0, retn := Sg.r_qaI_0, ex := 0, L := R.L_qaI_0 K }
noncomputable def Sg.f_qaI : Fw.PFn := PFn.get Tryz.f101
noncomputable def Sg.s_qaI (K : Nat) : Fw.Sig := { ins := [.val false (.sl Sg.t2), .val false (.int .i64)], outs := [⟨false, (.int .i64), false⟩], F := fun x => R.qaI K x.1 x.2.1 }
noncomputable def Sg.c_qaI (K : Nat) : Fw.Cfg := (Sg.cf K [(190, Sg.s_qbr K), (104, Sg.s_qaS K)] [] (Sg.p_qaI_0 K :: []) [])
def Sg.h_qbo_0 : Fw.StSh := ⟨[(0, (.d (.sl Sg.t4))), (1, (.d (.int .i64))), (4, (.d (.int .i64))), (5, (.d (.int .i64)))], [], 0, 52, ⟨0, []⟩⟩
def Sg.o_qbo_0 : Fw.StSh := ⟨[(1, (.d (.int .i64))), (4, (.d (.int .i64)))], [], 0, 52, ⟨0, []⟩⟩
def Sg.r_qbo_0 : Fw.StSh := ⟨[(4, (.d (.int .i64)))], [], 0, 52, ⟨0, []⟩⟩
noncomputable def Sg.p_qbo_0 (K : Nat) : Fw.LSpec := { g := 102, b := 0, lv := 6, l0 := 0, li := 0, head := Sg.h_qbo_0, post := Sg.o_qbo_0, retn := Sg.r_qbo_0, ex := 0, L := R.L_qbo_0 K }
noncomputable def Sg.f_qbo : Fw.PFn := PFn.get Tryz.f102
noncomputable def Sg.s_qbo (K : Nat) : Fw.Sig := { ins := [.val false (.sl Sg.t4), .val false (.int .i64)], outs := [⟨false, (.int .i64), false⟩], F := fun x => R.qbo K x.1 x.2.1 }
noncomputable def Sg.c_qbo (K : Nat) : Fw.Cfg := (Sg.cf K [(107, Sg.s_qbv K)] [] (Sg.p_qbo_0 K :: []) (⟨102, 0, 6, 0, 4, none⟩ :: []))
noncomputable def Sg.f_qby : Fw.PFn := PFn.get Tryz.f32
noncomputable def Sg.s_qby (K : Nat) : Fw.Sig := { ins := [.val true Sg.t11, .val false (.int .i64)], outs := [⟨false, (.int .i64), false⟩], F := fun x => R.qby K x.1 x.2.1 }
noncomputable def Sg.c_qby (K : Nat) : Fw.Cfg := (Sg.cf K [(101, Sg.s_qaI K), (102, Sg.s_qbo K)] [] [] [])
def Sg.h_qaF_0 : Fw.StSh := ⟨[(0, (.d (.sl .str))), (1, (.d (.int .i64))), (4, (.d (.int .i64))), (5, (.d (.int .i64)))], [], 0, 22, ⟨0, []⟩⟩
def Sg.o_qaF_0 : Fw.StSh := ⟨[(1, (.d (.int .i64))), (4, (.d (.int .i64)))], [], 0, 22, ⟨0, []⟩⟩
def Sg.r_qaF_0 : Fw.StSh := ⟨[(4, (.d (.int .i64)))], [], 0, 22, ⟨0, []⟩⟩
noncomputable def Sg.p_qaF_0 (K : Nat) : Fw.LSpec := { g := 103, b := 0, lv := 6, l0 := 0, li := 0, head := Sg.h_qaF_0, post := Sg.o_qaF_0, retn := Sg.r_qaF_0, ex := 0, L := R.L_qaF_0 K }
noncomputable def Sg.f_qaF : Fw.PFn := PFn.get Tryz.f103
noncomputable def Sg.s_qaF (K : Nat) : Fw.Sig := { ins := [.val false (.sl .str), .val false (.int .i64)], outs := [⟨false, (.int .i64), false⟩], F := fun x => R.qaF K x.1 x.2.1 }
noncomputable def Sg.c_qaF (K : Nat) : Fw.Cfg := (Sg.cf K [(107, Sg.s_qbv K)] [] (Sg.p_qaF_0 K :: []) (⟨103, 0, 6, 0, 4, none⟩ :: []))
noncomputable def Sg.f_qaT : Fw.PFn := PFn.get Tryz.f33
noncomputable def Sg.s_qaT (K : Nat) : Fw.Sig := { ins := [.val true Sg.t9, .val false (.int .i64)], outs := [⟨false, (.int .i64), false⟩], F := fun x => R.qaT K x.1 x.2.1 }
noncomputable def Sg.c_qaT (K : Nat) : Fw.Cfg := (Sg.cf K [(104, Sg.s_qaS K), (103, Sg.s_qaF K)] [] [] [])
def Sg.j_laws_FnExactDoOp_0 : Fw.StSh := ⟨[(2, (.ref 0 0)), (3, (.ref 1 0)), (4, (.d .bool)), (6, (.ref 11 0)), (7, (.ref 14 0)), (8, (.d (.int .i64)))], [(0, (.box [(.d (.sl Sg.t2)), (.d (.sl Sg.t4))])), (1, (.box [(.d (.int .i64)), (.d (.int .i64)), (.d .str), (.d .str), (.d (.sl (.pair .str (.pair (.int .i64) .bool))))])), (11, (.box [(.row 5), (.row 6)])), (14, (.box [(.d (.int .i64)), (.d (.int .i64)), (.d (.int .i64)), (.row 7), (.row 8)])), (5, (.row Sg.t2 true)), (6, (.row Sg.t4 true)), (7, (.row .str true)), (8, (.row (.pair .str (.int .i64)) true))], 15, 156, ⟨0, []⟩⟩
def Sg.j_laws_FnExactDoOp_3 : Fw.StSh := ⟨[(4, (.d .bool)), (6, (.ref 11 0)), (7, (.ref 14 0)), (8, (.d (.int .i64))), (11, (.ref 29 0)), (12, (.ref 32 0)), (15, (.d (.int .i64))), (17, (.ref 45 0)), (18, (.ref 48 0)), (19, (.d (.int .i64)))], [(11, (.box [(.row 5), (.row 6)])), (14, (.box [(.d (.int .i64)), (.d (.int .i64)), (.d (.int .i64)), (.row 7), (.row 8)])), (29, (.box [(.row 23), (.row 24)])), (32, (.box [(.d (.int .i64)), (.d (.int .i64)), (.d (.int .i64)), (.row 25), (.row 26)])), (45, (.box [(.row 39), (.row 40)])), (48, (.box [(.d (.int .i64)), (.d (.int .i64)), (.d (.int .i64)), (.row 41), (.row 42)])), (5, (.row Sg.t2 true)), (6, (.row Sg.t4 true)), (7, (.row .str true)), (8, (.row (.pair .str (.int .i64)) true)), (23, (.row Sg.t2 true)), (24, (.row Sg.t4 true)), (25, (.row .str true)), (26, (.row (.pair .str (.int .i64)) true)), (39, (.row Sg.t2 true)), (40, (.row Sg.t4 true)), (41, (.row .str true)), (42, (.row (.pair .str (.int .i64)) true))], 49, 156, ⟨0, []⟩⟩
noncomputable def Sg.f_laws_FnExactDoOp : Fw.PFn := PFn.get Tryz.f4
noncomputable def Sg.s_laws_FnExactDoOp (K : Nat) : Fw.Sig := { ins := [.val true Sg.t11, .val true Sg.t10], outs := [⟨false, .bool, false⟩], F := fun x => R.laws_FnExactDoOp K x.1 x.2.1 }
noncomputable def Sg.c_laws_FnExactDoOp (K : Nat) : Fw.Cfg := (Sg.cf K [(15, Sg.s_qcj K), (23, Sg.s_qdh K), (18, Sg.s_qco K), (25, Sg.s_qdg K), (24, Sg.s_qdf K), (26, Sg.s_qdc K), (21, Sg.s_qcA K), (27, Sg.s_qbs K), (28, Sg.s_qcZ K), (29, Sg.s_qbm K), (30, Sg.s_qcm K), (31, Sg.s_qaQ K), (32, Sg.s_qby K), (33, Sg.s_qaT K)] [] [] (⟨4, 0, 6, 0, 8, some Sg.j_laws_FnExactDoOp_0⟩ :: ⟨4, 0, 6, 0, 14, none⟩ :: ⟨4, 0, 6, 0, 16, none⟩ :: ⟨4, 0, 6, 0, 35, some Sg.j_laws_FnExactDoOp_3⟩ :: []))
theorem call_qcq : Callable Tryz.prog 217 := callable_of Tryz.func217 (by kernel_rfl) (by kernel_rfl)
theorem pf_qcq : PFn.of Tryz.f217 = some Sg.f_qcq := PFn.of_get (by kernel_rfl)
theorem ok_qcq (K : Nat) : Fw.Ok Tryz.prog 217 (Sg.s_qcq K) := Sg.okT (Sg.c_qcq K) Sg.i0 trivial trivial trivial pf_qcq trivial rfl Tryz.func217 call_qcq (fun x => by kernel_rfl) rfl rfl
theorem call_qbU : Callable Tryz.prog 143 := callable_of Tryz.func143 (by kernel_rfl) (by kernel_rfl)
theorem pf_qbU : PFn.of Tryz.f143 = some Sg.f_qbU := PFn.of_get (by kernel_rfl)
theorem ok_qbU (K : Nat) : Fw.Ok Tryz.prog 143 (Sg.s_qbU K) := Sg.okT (Sg.c_qbU K) Sg.i0 trivial trivial trivial pf_qbU trivial rfl Tryz.func143 call_qbU (fun x => by kernel_rfl) rfl rfl
theorem call_qbu : Callable Tryz.prog 72 := callable_of Tryz.func72 (by kernel_rfl) (by kernel_rfl)
theorem pf_qbu : PFn.of Tryz.f72 = some Sg.f_qbu := PFn.of_get (by kernel_rfl)
theorem l_qbu_0 (K : Nat) : LoopP (Sg.c_qbu K) Sg.i0 Sg.f_qbu (Sg.p_qbu_0 K) := ⟨fun _ => by kernel_rfl, fun n p => by kernel_rfl⟩
theorem ok_qbu (K : Nat) : Fw.Ok Tryz.prog 72 (Sg.s_qbu K) := Sg.okT (Sg.c_qbu K) Sg.i0 ⟨ok_qbU K, trivial⟩ trivial trivial pf_qbu ⟨⟨_, rfl, l_qbu_0 K⟩, trivial⟩ rfl Tryz.func72 call_qbu (fun x => by kernel_rfl) rfl rfl
theorem call_qbq : Callable Tryz.prog 140 := callable_of Tryz.func140 (by kernel_rfl) (by kernel_rfl)
theorem pf_qbq : PFn.of Tryz.f140 = some Sg.f_qbq := PFn.of_get (by kernel_rfl)
theorem ok_qbq (K : Nat) : Fw.Ok Tryz.prog 140 (Sg.s_qbq K) := Sg.okT (Sg.c_qbq K) Sg.i0 ⟨ok_qcq K, ok_qbu K, trivial⟩ trivial trivial pf_qbq trivial rfl Tryz.func140 call_qbq (fun x => by kernel_rfl) rfl rfl
theorem call_qbb : Callable Tryz.prog 69 := callable_of Tryz.func69 (by kernel_rfl) (by kernel_rfl)
theorem pf_qbb : PFn.of Tryz.f69 = some Sg.f_qbb := PFn.of_get (by kernel_rfl)
theorem l_qbb_0 (K : Nat) : LoopP (Sg.c_qbb K) Sg.i0 Sg.f_qbb (Sg.p_qbb_0 K) := ⟨fun _ => by kernel_rfl, fun n p => by kernel_rfl⟩
theorem ok_qbb (K : Nat) : Fw.Ok Tryz.prog 69 (Sg.s_qbb K) := Sg.okT (Sg.c_qbb K) Sg.i0 ⟨ok_qbq K, trivial⟩ trivial trivial pf_qbb ⟨⟨_, rfl, l_qbb_0 K⟩, trivial⟩ rfl Tryz.func69 call_qbb (fun x => by kernel_rfl) rfl rfl
theorem call_qcR : Callable Tryz.prog 141 := callable_of Tryz.func141 (by kernel_rfl) (by kernel_rfl)
theorem pf_qcR : PFn.of Tryz.f141 = some Sg.f_qcR := PFn.of_get (by kernel_rfl)
theorem ok_qcR (K : Nat) : Fw.Ok Tryz.prog 141 (Sg.s_qcR K) := Sg.okT (Sg.c_qcR K) Sg.i0 trivial trivial trivial pf_qcR trivial rfl Tryz.func141 call_qcR (fun x => by kernel_rfl) rfl rfl
theorem call_qcE : Callable Tryz.prog 70 := callable_of Tryz.func70 (by kernel_rfl) (by kernel_rfl)
theorem pf_qcE : PFn.of Tryz.f70 = some Sg.f_qcE := PFn.of_get (by kernel_rfl)
theorem l_qcE_0 (K : Nat) : LoopP (Sg.c_qcE K) Sg.i0 Sg.f_qcE (Sg.p_qcE_0 K) := ⟨fun _ => by kernel_rfl, fun n p => by kernel_rfl⟩
theorem ok_qcE (K : Nat) : Fw.Ok Tryz.prog 70 (Sg.s_qcE K) := Sg.okT (Sg.c_qcE K) Sg.i0 ⟨ok_qcR K, trivial⟩ trivial trivial pf_qcE ⟨⟨_, rfl, l_qcE_0 K⟩, trivial⟩ rfl Tryz.func70 call_qcE (fun x => by kernel_rfl) rfl rfl
theorem call_qcj : Callable Tryz.prog 15 := callable_of Tryz.func15 (by kernel_rfl) (by kernel_rfl)
theorem pf_qcj : PFn.of Tryz.f15 = some Sg.f_qcj := PFn.of_get (by kernel_rfl)
theorem ok_qcj (K : Nat) : Fw.Ok Tryz.prog 15 (Sg.s_qcj K) := Sg.okT (Sg.c_qcj K) Sg.i0 ⟨ok_qbb K, ok_qcE K, trivial⟩ trivial trivial pf_qcj trivial rfl Tryz.func15 call_qcj (fun x => by kernel_rfl) rfl rfl
theorem call_qcv : Callable Tryz.prog 163 := callable_of Tryz.func163 (by kernel_rfl) (by kernel_rfl)
theorem pf_qcv : PFn.of Tryz.f163 = some Sg.f_qcv := PFn.of_get (by kernel_rfl)
theorem ok_qcv (K : Nat) : Fw.Ok Tryz.prog 163 (Sg.s_qcv K) := Sg.okT (Sg.c_qcv K) Sg.i0 trivial trivial trivial pf_qcv trivial rfl Tryz.func163 call_qcv (fun x => by kernel_rfl) rfl rfl
theorem call_qbP : Callable Tryz.prog 85 := callable_of Tryz.func85 (by kernel_rfl) (by kernel_rfl)
theorem pf_qbP : PFn.of Tryz.f85 = some Sg.f_qbP := PFn.of_get (by kernel_rfl)
theorem l_qbP_0 (K : Nat) : LoopP (Sg.c_qbP K) Sg.i0 Sg.f_qbP (Sg.p_qbP_0 K) := ⟨fun _ => by kernel_rfl, fun n p => by kernel_rfl⟩
theorem ok_qbP (K : Nat) : Fw.Ok Tryz.prog 85 (Sg.s_qbP K) := Sg.okT (Sg.c_qbP K) Sg.i0 ⟨ok_qcv K, trivial⟩ trivial trivial pf_qbP ⟨⟨_, rfl, l_qbP_0 K⟩, trivial⟩ rfl Tryz.func85 call_qbP (fun x => by kernel_rfl) rfl rfl
theorem call_qdh : Callable Tryz.prog 23 := callable_of Tryz.func23 (by kernel_rfl) (by kernel_rfl)
theorem pf_qdh : PFn.of Tryz.f23 = some Sg.f_qdh := PFn.of_get (by kernel_rfl)
theorem ok_qdh (K : Nat) : Fw.Ok Tryz.prog 23 (Sg.s_qdh K) := Sg.okT (Sg.c_qdh K) Sg.i0 ⟨ok_qbP K, trivial⟩ trivial trivial pf_qdh trivial rfl Tryz.func23 call_qdh (fun x => by kernel_rfl) rfl rfl
theorem call_qcG : Callable Tryz.prog 224 := callable_of Tryz.func224 (by kernel_rfl) (by kernel_rfl)
theorem pf_qcG : PFn.of Tryz.f224 = some Sg.f_qcG := PFn.of_get (by kernel_rfl)
theorem l_qcG_0 (K : Nat) : LoopP (Sg.c_qcG K) Sg.i0 Sg.f_qcG (Sg.p_qcG_0 K) := ⟨fun _ => by kernel_rfl, fun n p => by kernel_rfl⟩
theorem ok_qcG (K : Nat) : Fw.Ok Tryz.prog 224 (Sg.s_qcG K) := Sg.okT (Sg.c_qcG K) Sg.i0 trivial trivial trivial pf_qcG ⟨⟨_, rfl, l_qcG_0 K⟩, trivial⟩ rfl Tryz.func224 call_qcG (fun x => by kernel_rfl) rfl rfl
theorem call_qce : Callable Tryz.prog 151 := callable_of Tryz.func151 (by kernel_rfl) (by kernel_rfl)
theorem pf_qce : PFn.of Tryz.f151 = some Sg.f_qce := PFn.of_get (by kernel_rfl)
theorem ok_qce (K : Nat) : Fw.Ok Tryz.prog 151 (Sg.s_qce K) := Sg.okT (Sg.c_qce K) Sg.i0 trivial trivial trivial pf_qce trivial rfl Tryz.func151 call_qce (fun x => by kernel_rfl) rfl rfl
theorem call_qbC : Callable Tryz.prog 78 := callable_of Tryz.func78 (by kernel_rfl) (by kernel_rfl)
theorem pf_qbC : PFn.of Tryz.f78 = some Sg.f_qbC := PFn.of_get (by kernel_rfl)
theorem l_qbC_0 (K : Nat) : LoopP (Sg.c_qbC K) Sg.i0 Sg.f_qbC (Sg.p_qbC_0 K) := ⟨fun _ => by kernel_rfl, fun n p => by kernel_rfl⟩
theorem ok_qbC (K : Nat) : Fw.Ok Tryz.prog 78 (Sg.s_qbC K) := Sg.okT (Sg.c_qbC K) Sg.i0 ⟨ok_qce K, trivial⟩ trivial trivial pf_qbC ⟨⟨_, rfl, l_qbC_0 K⟩, trivial⟩ rfl Tryz.func78 call_qbC (fun x => by kernel_rfl) rfl rfl
theorem call_qbt : Callable Tryz.prog 148 := callable_of Tryz.func148 (by kernel_rfl) (by kernel_rfl)
theorem pf_qbt : PFn.of Tryz.f148 = some Sg.f_qbt := PFn.of_get (by kernel_rfl)
theorem ok_qbt (K : Nat) : Fw.Ok Tryz.prog 148 (Sg.s_qbt K) := Sg.okT (Sg.c_qbt K) Sg.i0 ⟨ok_qcG K, ok_qbC K, trivial⟩ trivial trivial pf_qbt trivial rfl Tryz.func148 call_qbt (fun x => by kernel_rfl) rfl rfl
theorem call_qbf : Callable Tryz.prog 75 := callable_of Tryz.func75 (by kernel_rfl) (by kernel_rfl)
theorem pf_qbf : PFn.of Tryz.f75 = some Sg.f_qbf := PFn.of_get (by kernel_rfl)
theorem l_qbf_0 (K : Nat) : LoopP (Sg.c_qbf K) Sg.i0 Sg.f_qbf (Sg.p_qbf_0 K) := ⟨fun _ => by kernel_rfl, fun n p => by kernel_rfl⟩
theorem ok_qbf (K : Nat) : Fw.Ok Tryz.prog 75 (Sg.s_qbf K) := Sg.okT (Sg.c_qbf K) Sg.i0 ⟨ok_qbt K, trivial⟩ trivial trivial pf_qbf ⟨⟨_, rfl, l_qbf_0 K⟩, trivial⟩ rfl Tryz.func75 call_qbf (fun x => by kernel_rfl) rfl rfl
theorem call_qcV : Callable Tryz.prog 149 := callable_of Tryz.func149 (by kernel_rfl) (by kernel_rfl)
theorem pf_qcV : PFn.of Tryz.f149 = some Sg.f_qcV := PFn.of_get (by kernel_rfl)
theorem ok_qcV (K : Nat) : Fw.Ok Tryz.prog 149 (Sg.s_qcV K) := Sg.okT (Sg.c_qcV K) Sg.i0 trivial trivial trivial pf_qcV trivial rfl Tryz.func149 call_qcV (fun x => by kernel_rfl) rfl rfl
theorem call_qcr : Callable Tryz.prog 76 := callable_of Tryz.func76 (by kernel_rfl) (by kernel_rfl)
theorem pf_qcr : PFn.of Tryz.f76 = some Sg.f_qcr := PFn.of_get (by kernel_rfl)
theorem l_qcr_0 (K : Nat) : LoopP (Sg.c_qcr K) Sg.i0 Sg.f_qcr (Sg.p_qcr_0 K) := ⟨fun _ => by kernel_rfl, fun n p => by kernel_rfl⟩
theorem ok_qcr (K : Nat) : Fw.Ok Tryz.prog 76 (Sg.s_qcr K) := Sg.okT (Sg.c_qcr K) Sg.i0 ⟨ok_qcV K, trivial⟩ trivial trivial pf_qcr ⟨⟨_, rfl, l_qcr_0 K⟩, trivial⟩ rfl Tryz.func76 call_qcr (fun x => by kernel_rfl) rfl rfl
theorem call_qco : Callable Tryz.prog 18 := callable_of Tryz.func18 (by kernel_rfl) (by kernel_rfl)
theorem pf_qco : PFn.of Tryz.f18 = some Sg.f_qco := PFn.of_get (by kernel_rfl)
theorem ok_qco (K : Nat) : Fw.Ok Tryz.prog 18 (Sg.s_qco K) := Sg.okT (Sg.c_qco K) Sg.i0 ⟨ok_qbf K, ok_qcr K, trivial⟩ trivial trivial pf_qco trivial rfl Tryz.func18 call_qco (fun x => by kernel_rfl) rfl rfl
theorem call_qch : Callable Tryz.prog 174 := callable_of Tryz.func174 (by kernel_rfl) (by kernel_rfl)
theorem pf_qch : PFn.of Tryz.f174 = some Sg.f_qch := PFn.of_get (by kernel_rfl)
theorem ok_qch (K : Nat) : Fw.Ok Tryz.prog 174 (Sg.s_qch K) := Sg.okT (Sg.c_qch K) Sg.i0 trivial trivial trivial pf_qch trivial rfl Tryz.func174 call_qch (fun x => by kernel_rfl) rfl rfl
theorem call_qca : Callable Tryz.prog 90 := callable_of Tryz.func90 (by kernel_rfl) (by kernel_rfl)
theorem pf_qca : PFn.of Tryz.f90 = some Sg.f_qca := PFn.of_get (by kernel_rfl)
theorem l_qca_0 (K : Nat) : LoopP (Sg.c_qca K) Sg.i0 Sg.f_qca (Sg.p_qca_0 K) := ⟨fun _ => by kernel_rfl, fun n p => by kernel_rfl⟩
theorem ok_qca (K : Nat) : Fw.Ok Tryz.prog 90 (Sg.s_qca K) := Sg.okT (Sg.c_qca K) Sg.i0 ⟨ok_qch K, trivial⟩ trivial trivial pf_qca ⟨⟨_, rfl, l_qca_0 K⟩, trivial⟩ rfl Tryz.func90 call_qca (fun x => by kernel_rfl) rfl rfl
theorem call_qdg : Callable Tryz.prog 25 := callable_of Tryz.func25 (by kernel_rfl) (by kernel_rfl)
theorem pf_qdg : PFn.of Tryz.f25 = some Sg.f_qdg := PFn.of_get (by kernel_rfl)
theorem ok_qdg (K : Nat) : Fw.Ok Tryz.prog 25 (Sg.s_qdg K) := Sg.okT (Sg.c_qdg K) Sg.i0 ⟨ok_qca K, trivial⟩ trivial trivial pf_qdg trivial rfl Tryz.func25 call_qdg (fun x => by kernel_rfl) rfl rfl
theorem call_qcM : Callable Tryz.prog 135 := callable_of Tryz.func135 (by kernel_rfl) (by kernel_rfl)
theorem pf_qcM : PFn.of Tryz.f135 = some Sg.f_qcM := PFn.of_get (by kernel_rfl)
theorem ok_qcM (K : Nat) : Fw.Ok Tryz.prog 135 (Sg.s_qcM K) := Sg.okT (Sg.c_qcM K) Sg.i0 trivial trivial trivial pf_qcM trivial rfl Tryz.func135 call_qcM (fun x => by kernel_rfl) rfl rfl
theorem call_qaV : Callable Tryz.prog 238 := callable_of Tryz.func238 (by kernel_rfl) (by kernel_rfl)
theorem pf_qaV : PFn.of Tryz.f238 = some Sg.f_qaV := PFn.of_get (by kernel_rfl)
theorem ok_qaV (K : Nat) : Fw.Ok Tryz.prog 238 (Sg.s_qaV K) := Sg.okT (Sg.c_qaV K) Sg.i0 trivial trivial trivial pf_qaV trivial rfl Tryz.func238 call_qaV (fun x => by kernel_rfl) rfl rfl
theorem call_qbk : Callable Tryz.prog 239 := callable_of Tryz.func239 (by kernel_rfl) (by kernel_rfl)
theorem pf_qbk : PFn.of Tryz.f239 = some Sg.f_qbk := PFn.of_get (by kernel_rfl)
theorem ok_qbk (K : Nat) : Fw.Ok Tryz.prog 239 (Sg.s_qbk K) := Sg.okT (Sg.c_qbk K) Sg.i0 trivial trivial trivial pf_qbk trivial rfl Tryz.func239 call_qbk (fun x => by kernel_rfl) rfl rfl
theorem call_qcc : Callable Tryz.prog 164 := callable_of Tryz.func164 (by kernel_rfl) (by kernel_rfl)
theorem pf_qcc : PFn.of Tryz.f164 = some Sg.f_qcc := PFn.of_get (by kernel_rfl)
theorem l_qcc_0 (K : Nat) : LoopP (Sg.c_qcc K) Sg.i0 Sg.f_qcc (Sg.p_qcc_0 K) := ⟨fun _ => by kernel_rfl, fun n p => by kernel_rfl⟩
theorem ok_qcc (K : Nat) : Fw.Ok Tryz.prog 164 (Sg.s_qcc K) := Sg.okT (Sg.c_qcc K) Sg.i0 ⟨ok_qaV K, ok_qbk K, trivial⟩ trivial trivial pf_qcc ⟨⟨_, rfl, l_qcc_0 K⟩, trivial⟩ rfl Tryz.func164 call_qcc (fun x => by kernel_rfl) rfl rfl
theorem call_qcW : Callable Tryz.prog 259 := callable_of Tryz.func259 (by kernel_rfl) (by kernel_rfl)
theorem pf_qcW : PFn.of Tryz.f259 = some Sg.f_qcW := PFn.of_get (by kernel_rfl)
theorem l_qcW_0 (K : Nat) : LoopP (Sg.c_qcW K) Sg.i0 Sg.f_qcW (Sg.p_qcW_0 K) := ⟨fun _ => by kernel_rfl, fun n p => by kernel_rfl⟩
theorem ok_qcW (K : Nat) : Fw.Ok Tryz.prog 259 (Sg.s_qcW K) := Sg.okT (Sg.c_qcW K) Sg.i0 ⟨ok_qcM K, ok_qcc K, trivial⟩ trivial trivial pf_qcW ⟨⟨_, rfl, l_qcW_0 K⟩, trivial⟩ rfl Tryz.func259 call_qcW (fun x => by kernel_rfl) rfl rfl
theorem call_qaX : Callable Tryz.prog 218 := callable_of Tryz.func218 (by kernel_rfl) (by kernel_rfl)
theorem pf_qaX : PFn.of Tryz.f218 = some Sg.f_qaX := PFn.of_get (by kernel_rfl)
theorem l_qaX_0 (K : Nat) : LoopP (Sg.c_qaX K) Sg.i0 Sg.f_qaX (Sg.p_qaX_0 K) := ⟨fun _ => by kernel_rfl, fun n p => by kernel_rfl⟩
theorem ok_qaX (K : Nat) : Fw.Ok Tryz.prog 218 (Sg.s_qaX K) := Sg.okT (Sg.c_qaX K) Sg.i0 ⟨ok_qcM K, ok_qcW K, trivial⟩ trivial trivial pf_qaX ⟨⟨_, rfl, l_qaX_0 K⟩, trivial⟩ rfl Tryz.func218 call_qaX (fun x => by kernel_rfl) rfl rfl
theorem call_qcI : Callable Tryz.prog 144 := callable_of Tryz.func144 (by kernel_rfl) (by kernel_rfl)
theorem pf_qcI : PFn.of Tryz.f144 = some Sg.f_qcI := PFn.of_get (by kernel_rfl)
theorem l_qcI_0 (K : Nat) : LoopP (Sg.c_qcI K) Sg.i0 Sg.f_qcI (Sg.p_qcI_0 K) := ⟨fun _ => by kernel_rfl, fun n p => by kernel_rfl⟩
theorem ok_qcI (K : Nat) : Fw.Ok Tryz.prog 144 (Sg.s_qcI K) := Sg.okT (Sg.c_qcI K) Sg.i0 ⟨ok_qcM K, ok_qaX K, trivial⟩ trivial trivial pf_qcI ⟨⟨_, rfl, l_qcI_0 K⟩, trivial⟩ rfl Tryz.func144 call_qcI (fun x => by kernel_rfl) rfl rfl
theorem call_qcX : Callable Tryz.prog 219 := callable_of Tryz.func219 (by kernel_rfl) (by kernel_rfl)
theorem pf_qcX : PFn.of Tryz.f219 = some Sg.f_qcX := PFn.of_get (by kernel_rfl)
theorem l_qcX_0 (K : Nat) : LoopP (Sg.c_qcX K) Sg.i0 Sg.f_qcX (Sg.p_qcX_0 K) := ⟨fun _ => by kernel_rfl, fun n p => by kernel_rfl⟩
theorem ok_qcX (K : Nat) : Fw.Ok Tryz.prog 219 (Sg.s_qcX K) := Sg.okT (Sg.c_qcX K) Sg.i0 trivial trivial trivial pf_qcX ⟨⟨_, rfl, l_qcX_0 K⟩, trivial⟩ rfl Tryz.func219 call_qcX (fun x => by kernel_rfl) rfl rfl
theorem call_qcL : Callable Tryz.prog 145 := callable_of Tryz.func145 (by kernel_rfl) (by kernel_rfl)
theorem pf_qcL : PFn.of Tryz.f145 = some Sg.f_qcL := PFn.of_get (by kernel_rfl)
theorem l_qcL_0 (K : Nat) : LoopP (Sg.c_qcL K) Sg.i0 Sg.f_qcL (Sg.p_qcL_0 K) := ⟨fun _ => by kernel_rfl, fun n p => by kernel_rfl⟩
theorem ok_qcL (K : Nat) : Fw.Ok Tryz.prog 145 (Sg.s_qcL K) := Sg.okT (Sg.c_qcL K) Sg.i0 ⟨ok_qcM K, ok_qcc K, ok_qcX K, trivial⟩ trivial trivial pf_qcL ⟨⟨_, rfl, l_qcL_0 K⟩, trivial⟩ rfl Tryz.func145 call_qcL (fun x => by kernel_rfl) rfl rfl
theorem call_qcQ : Callable Tryz.prog 73 := callable_of Tryz.func73 (by kernel_rfl) (by kernel_rfl)
theorem pf_qcQ : PFn.of Tryz.f73 = some Sg.f_qcQ := PFn.of_get (by kernel_rfl)
theorem l_qcQ_0 (K : Nat) : LoopP (Sg.c_qcQ K) Sg.i0 Sg.f_qcQ (Sg.p_qcQ_0 K) := ⟨fun _ => by kernel_rfl, fun n p => by kernel_rfl⟩
theorem ok_qcQ (K : Nat) : Fw.Ok Tryz.prog 73 (Sg.s_qcQ K) := Sg.okT (Sg.c_qcQ K) Sg.i0 ⟨ok_qcI K, ok_qcL K, trivial⟩ trivial trivial pf_qcQ ⟨⟨_, rfl, l_qcQ_0 K⟩, trivial⟩ rfl Tryz.func73 call_qcQ (fun x => by kernel_rfl) rfl rfl
theorem call_qbF : Callable Tryz.prog 165 := callable_of Tryz.func165 (by kernel_rfl) (by kernel_rfl)
theorem pf_qbF : PFn.of Tryz.f165 = some Sg.f_qbF := PFn.of_get (by kernel_rfl)
theorem l_qbF_0 (K : Nat) : LoopP (Sg.c_qbF K) Sg.i0 Sg.f_qbF (Sg.p_qbF_0 K) := ⟨fun _ => by kernel_rfl, fun n p => by kernel_rfl⟩
theorem ok_qbF (K : Nat) : Fw.Ok Tryz.prog 165 (Sg.s_qbF K) := Sg.okT (Sg.c_qbF K) Sg.i0 ⟨ok_qcM K, ok_qcc K, trivial⟩ trivial trivial pf_qbF ⟨⟨_, rfl, l_qbF_0 K⟩, trivial⟩ rfl Tryz.func165 call_qbF (fun x => by kernel_rfl) rfl rfl
theorem call_qcY : Callable Tryz.prog 86 := callable_of Tryz.func86 (by kernel_rfl) (by kernel_rfl)
theorem pf_qcY : PFn.of Tryz.f86 = some Sg.f_qcY := PFn.of_get (by kernel_rfl)
theorem ok_qcY (K : Nat) : Fw.Ok Tryz.prog 86 (Sg.s_qcY K) := Sg.okT (Sg.c_qcY K) Sg.i0 ⟨ok_qcM K, ok_qcc K, ok_qbF K, trivial⟩ trivial trivial pf_qcY trivial rfl Tryz.func86 call_qcY (fun x => by kernel_rfl) rfl rfl
theorem call_qbM : Callable Tryz.prog 166 := callable_of Tryz.func166 (by kernel_rfl) (by kernel_rfl)
theorem pf_qbM : PFn.of Tryz.f166 = some Sg.f_qbM := PFn.of_get (by kernel_rfl)
theorem ok_qbM (K : Nat) : Fw.Ok Tryz.prog 166 (Sg.s_qbM K) := Sg.okT (Sg.c_qbM K) Sg.i0 trivial trivial trivial pf_qbM trivial rfl Tryz.func166 call_qbM (fun x => by kernel_rfl) rfl rfl
theorem call_qcl : Callable Tryz.prog 240 := callable_of Tryz.func240 (by kernel_rfl) (by kernel_rfl)
theorem pf_qcl : PFn.of Tryz.f240 = some Sg.f_qcl := PFn.of_get (by kernel_rfl)
theorem ok_qcl (K : Nat) : Fw.Ok Tryz.prog 240 (Sg.s_qcl K) := Sg.okT (Sg.c_qcl K) Sg.i0 trivial trivial trivial pf_qcl trivial rfl Tryz.func240 call_qcl (fun x => by kernel_rfl) rfl rfl
theorem call_qaZ : Callable Tryz.prog 167 := callable_of Tryz.func167 (by kernel_rfl) (by kernel_rfl)
theorem pf_qaZ : PFn.of Tryz.f167 = some Sg.f_qaZ := PFn.of_get (by kernel_rfl)
theorem ok_qaZ (K : Nat) : Fw.Ok Tryz.prog 167 (Sg.s_qaZ K) := Sg.okT (Sg.c_qaZ K) Sg.i0 ⟨ok_qcX K, ok_qcl K, trivial⟩ trivial trivial pf_qaZ trivial rfl Tryz.func167 call_qaZ (fun x => by kernel_rfl) rfl rfl
theorem call_qbS : Callable Tryz.prog 168 := callable_of Tryz.func168 (by kernel_rfl) (by kernel_rfl)
theorem pf_qbS : PFn.of Tryz.f168 = some Sg.f_qbS := PFn.of_get (by kernel_rfl)
theorem ok_qbS (K : Nat) : Fw.Ok Tryz.prog 168 (Sg.s_qbS K) := Sg.okT (Sg.c_qbS K) Sg.i0 ⟨ok_qcX K, trivial⟩ trivial trivial pf_qbS trivial rfl Tryz.func168 call_qbS (fun x => by kernel_rfl) rfl rfl
theorem call_qaY : Callable Tryz.prog 169 := callable_of Tryz.func169 (by kernel_rfl) (by kernel_rfl)
theorem pf_qaY : PFn.of Tryz.f169 = some Sg.f_qaY := PFn.of_get (by kernel_rfl)
theorem ok_qaY (K : Nat) : Fw.Ok Tryz.prog 169 (Sg.s_qaY K) := Sg.okT (Sg.c_qaY K) Sg.i0 ⟨ok_qcl K, ok_qbS K, trivial⟩ trivial trivial pf_qaY trivial rfl Tryz.func169 call_qaY (fun x => by kernel_rfl) rfl rfl
theorem call_qaW : Callable Tryz.prog 301 := callable_of Tryz.func301 (by kernel_rfl) (by kernel_rfl)
theorem pf_qaW : PFn.of Tryz.f301 = some Sg.f_qaW := PFn.of_get (by kernel_rfl)
theorem l_qaW_0 (K : Nat) : LoopP (Sg.c_qaW K) Sg.i0 Sg.f_qaW (Sg.p_qaW_0 K) := ⟨fun _ => by kernel_rfl, fun n p => by kernel_rfl⟩
theorem ok_qaW (K : Nat) : Fw.Ok Tryz.prog 301 (Sg.s_qaW K) := Sg.okT (Sg.c_qaW K) Sg.i0 trivial trivial trivial pf_qaW ⟨⟨_, rfl, l_qaW_0 K⟩, trivial⟩ rfl Tryz.func301 call_qaW (fun x => by kernel_rfl) rfl rfl
theorem call_qcy : Callable Tryz.prog 302 := callable_of Tryz.func302 (by kernel_rfl) (by kernel_rfl)
theorem pf_qcy : PFn.of Tryz.f302 = some Sg.f_qcy := PFn.of_get (by kernel_rfl)
theorem l_qcy_0 (K : Nat) : LoopP (Sg.c_qcy K) Sg.i0 Sg.f_qcy (Sg.p_qcy_0 K) := ⟨fun _ => by kernel_rfl, fun n p => by kernel_rfl⟩
theorem ok_qcy (K : Nat) : Fw.Ok Tryz.prog 302 (Sg.s_qcy K) := Sg.okT (Sg.c_qcy K) Sg.i0 trivial trivial trivial pf_qcy ⟨⟨_, rfl, l_qcy_0 K⟩, trivial⟩ rfl Tryz.func302 call_qcy (fun x => by kernel_rfl) rfl rfl
theorem call_qbp : Callable Tryz.prog 283 := callable_of Tryz.func283 (by kernel_rfl) (by kernel_rfl)
theorem pf_qbp : PFn.of Tryz.f283 = some Sg.f_qbp := PFn.of_get (by kernel_rfl)
theorem l_qbp_0 (K : Nat) : LoopP (Sg.c_qbp K) Sg.i0 Sg.f_qbp (Sg.p_qbp_0 K) := ⟨fun _ => by kernel_rfl, fun n p => by kernel_rfl⟩
theorem ok_qbp (K : Nat) : Fw.Ok Tryz.prog 283 (Sg.s_qbp K) := Sg.okT (Sg.c_qbp K) Sg.i0 ⟨ok_qaW K, ok_qcy K, trivial⟩ trivial trivial pf_qbp ⟨⟨_, rfl, l_qbp_0 K⟩, trivial⟩ rfl Tryz.func283 call_qbp (fun x => by kernel_rfl) rfl rfl
theorem call_qbJ : Callable Tryz.prog 303 := callable_of Tryz.func303 (by kernel_rfl) (by kernel_rfl)
theorem pf_qbJ : PFn.of Tryz.f303 = some Sg.f_qbJ := PFn.of_get (by kernel_rfl)
theorem l_qbJ_0 (K : Nat) : LoopP (Sg.c_qbJ K) Sg.i0 Sg.f_qbJ (Sg.p_qbJ_0 K) := ⟨fun _ => by kernel_rfl, fun n p => by kernel_rfl⟩
theorem ok_qbJ (K : Nat) : Fw.Ok Tryz.prog 303 (Sg.s_qbJ K) := Sg.okT (Sg.c_qbJ K) Sg.i0 trivial trivial trivial pf_qbJ ⟨⟨_, rfl, l_qbJ_0 K⟩, trivial⟩ rfl Tryz.func303 call_qbJ (fun x => by kernel_rfl) rfl rfl
theorem call_qbV : Callable Tryz.prog 304 := callable_of Tryz.func304 (by kernel_rfl) (by kernel_rfl)
theorem pf_qbV : PFn.of Tryz.f304 = some Sg.f_qbV := PFn.of_get (by kernel_rfl)
theorem l_qbV_0 (K : Nat) : LoopP (Sg.c_qbV K) Sg.i0 Sg.f_qbV (Sg.p_qbV_0 K) := ⟨fun _ => by kernel_rfl, fun n p => by kernel_rfl⟩
theorem ok_qbV (K : Nat) : Fw.Ok Tryz.prog 304 (Sg.s_qbV K) := Sg.okT (Sg.c_qbV K) Sg.i0 trivial trivial trivial pf_qbV ⟨⟨_, rfl, l_qbV_0 K⟩, trivial⟩ rfl Tryz.func304 call_qbV (fun x => by kernel_rfl) rfl rfl
theorem call_qbA : Callable Tryz.prog 285 := callable_of Tryz.func285 (by kernel_rfl) (by kernel_rfl)
theorem pf_qbA : PFn.of Tryz.f285 = some Sg.f_qbA := PFn.of_get (by kernel_rfl)
theorem l_qbA_0 (K : Nat) : LoopP (Sg.c_qbA K) Sg.i0 Sg.f_qbA (Sg.p_qbA_0 K) := ⟨fun _ => by kernel_rfl, fun n p => by kernel_rfl⟩
theorem ok_qbA (K : Nat) : Fw.Ok Tryz.prog 285 (Sg.s_qbA K) := Sg.okT (Sg.c_qbA K) Sg.i0 ⟨ok_qbp K, ok_qbJ K, ok_qbV K, trivial⟩ trivial trivial pf_qbA ⟨⟨_, rfl, l_qbA_0 K⟩, trivial⟩ rfl Tryz.func285 call_qbA (fun x => by kernel_rfl) rfl rfl
theorem call_qcd : Callable Tryz.prog 284 := callable_of Tryz.func284 (by kernel_rfl) (by kernel_rfl)
theorem pf_qcd : PFn.of Tryz.f284 = some Sg.f_qcd := PFn.of_get (by kernel_rfl)
theorem ok_qcd (K : Nat) : Fw.Ok Tryz.prog 284 (Sg.s_qcd K) := Sg.okT (Sg.c_qcd K) Sg.i0 trivial trivial trivial pf_qcd trivial rfl Tryz.func284 call_qcd (fun x => by kernel_rfl) rfl rfl
theorem call_qbY : Callable Tryz.prog 223 := callable_of Tryz.func223 (by kernel_rfl) (by kernel_rfl)
theorem pf_qbY : PFn.of Tryz.f223 = some Sg.f_qbY := PFn.of_get (by kernel_rfl)
theorem l_qbY_0 (K : Nat) : LoopP (Sg.c_qbY K) Sg.i0 Sg.f_qbY (Sg.p_qbY_0 K) := ⟨fun _ => by kernel_rfl, fun n p => by kernel_rfl⟩
theorem ok_qbY (K : Nat) : Fw.Ok Tryz.prog 223 (Sg.s_qbY K) := Sg.okT (Sg.c_qbY K) Sg.i0 trivial trivial trivial pf_qbY ⟨⟨_, rfl, l_qbY_0 K⟩, trivial⟩ rfl Tryz.func223 call_qbY (fun x => by kernel_rfl) rfl rfl
theorem call_qbN : Callable Tryz.prog 241 := callable_of Tryz.func241 (by kernel_rfl) (by kernel_rfl)
theorem pf_qbN : PFn.of Tryz.f241 = some Sg.f_qbN := PFn.of_get (by kernel_rfl)
theorem ok_qbN (K : Nat) : Fw.Ok Tryz.prog 241 (Sg.s_qbN K) := Sg.okT (Sg.c_qbN K) Sg.i0 ⟨ok_qbM K, ok_qbp K, ok_qbA K, ok_qcd K, ok_qbY K, trivial⟩ trivial trivial pf_qbN trivial rfl Tryz.func241 call_qbN (fun x => by kernel_rfl) rfl rfl
theorem call_qaL : Callable Tryz.prog 242 := callable_of Tryz.func242 (by kernel_rfl) (by kernel_rfl)
theorem pf_qaL : PFn.of Tryz.f242 = some Sg.f_qaL := PFn.of_get (by kernel_rfl)
theorem ok_qaL (K : Nat) : Fw.Ok Tryz.prog 242 (Sg.s_qaL K) := Sg.okT (Sg.c_qaL K) Sg.i0 ⟨ok_qbM K, ok_qcl K, trivial⟩ trivial trivial pf_qaL trivial rfl Tryz.func242 call_qaL (fun x => by kernel_rfl) rfl rfl
theorem call_qbg : Callable Tryz.prog 170 := callable_of Tryz.func170 (by kernel_rfl) (by kernel_rfl)
theorem pf_qbg : PFn.of Tryz.f170 = some Sg.f_qbg := PFn.of_get (by kernel_rfl)
theorem ok_qbg (K : Nat) : Fw.Ok Tryz.prog 170 (Sg.s_qbg K) := Sg.okT (Sg.c_qbg K) Sg.i0 ⟨ok_qbN K, ok_qaL K, trivial⟩ trivial trivial pf_qbg trivial rfl Tryz.func170 call_qbg (fun x => by kernel_rfl) rfl rfl
theorem call_qbE : Callable Tryz.prog 305 := callable_of Tryz.func305 (by kernel_rfl) (by kernel_rfl)
theorem pf_qbE : PFn.of Tryz.f305 = some Sg.f_qbE := PFn.of_get (by kernel_rfl)
theorem l_qbE_1 (K : Nat) : LoopP (Sg.c_qbE K) Sg.i0 Sg.f_qbE (Sg.p_qbE_1 K) := ⟨fun _ => by kernel_rfl, fun n p => by kernel_rfl⟩
theorem l_qbE_0 (K : Nat) : LoopP (Sg.c_qbE K) Sg.i0 Sg.f_qbE (Sg.p_qbE_0 K) := ⟨fun _ => by kernel_rfl, fun n p => by kernel_rfl⟩
theorem ok_qbE (K : Nat) : Fw.Ok Tryz.prog 305 (Sg.s_qbE K) := Sg.okT (Sg.c_qbE K) Sg.i0 trivial trivial trivial pf_qbE ⟨⟨_, rfl, l_qbE_1 K⟩, ⟨_, rfl, l_qbE_0 K⟩, trivial⟩ rfl Tryz.func305 call_qbE (fun x => by kernel_rfl) rfl rfl
theorem call_qbI : Callable Tryz.prog 286 := callable_of Tryz.func286 (by kernel_rfl) (by kernel_rfl)
theorem pf_qbI : PFn.of Tryz.f286 = some Sg.f_qbI := PFn.of_get (by kernel_rfl)
theorem l_qbI_0 (K : Nat) : LoopP (Sg.c_qbI K) Sg.i0 Sg.f_qbI (Sg.p_qbI_0 K) := ⟨fun _ => by kernel_rfl, fun n p => by kernel_rfl⟩
theorem ok_qbI (K : Nat) : Fw.Ok Tryz.prog 286 (Sg.s_qbI K) := Sg.okT (Sg.c_qbI K) Sg.i0 ⟨ok_qbE K, trivial⟩ trivial trivial pf_qbI ⟨⟨_, rfl, l_qbI_0 K⟩, trivial⟩ rfl Tryz.func286 call_qbI (fun x => by kernel_rfl) rfl rfl
theorem call_qbT : Callable Tryz.prog 243 := callable_of Tryz.func243 (by kernel_rfl) (by kernel_rfl)
theorem pf_qbT : PFn.of Tryz.f243 = some Sg.f_qbT := PFn.of_get (by kernel_rfl)
theorem ok_qbT (K : Nat) : Fw.Ok Tryz.prog 243 (Sg.s_qbT K) := Sg.okT (Sg.c_qbT K) Sg.i0 ⟨ok_qbM K, ok_qbA K, ok_qcd K, ok_qbI K, trivial⟩ trivial trivial pf_qbT trivial rfl Tryz.func243 call_qbT (fun x => by kernel_rfl) rfl rfl
theorem call_qbx : Callable Tryz.prog 171 := callable_of Tryz.func171 (by kernel_rfl) (by kernel_rfl)
theorem pf_qbx : PFn.of Tryz.f171 = some Sg.f_qbx := PFn.of_get (by kernel_rfl)
theorem ok_qbx (K : Nat) : Fw.Ok Tryz.prog 171 (Sg.s_qbx K) := Sg.okT (Sg.c_qbx K) Sg.i0 ⟨ok_qbM K, ok_qcl K, ok_qaL K, ok_qbT K, trivial⟩ trivial trivial pf_qbx trivial rfl Tryz.func171 call_qbx (fun x => by kernel_rfl) rfl rfl
theorem call_qcx : Callable Tryz.prog 244 := callable_of Tryz.func244 (by kernel_rfl) (by kernel_rfl)
theorem pf_qcx : PFn.of Tryz.f244 = some Sg.f_qcx := PFn.of_get (by kernel_rfl)
theorem ok_qcx (K : Nat) : Fw.Ok Tryz.prog 244 (Sg.s_qcx K) := Sg.okT (Sg.c_qcx K) Sg.i0 ⟨ok_qcc K, ok_qcW K, trivial⟩ trivial trivial pf_qcx trivial rfl Tryz.func244 call_qcx (fun x => by kernel_rfl) rfl rfl
theorem call_qcN : Callable Tryz.prog 245 := callable_of Tryz.func245 (by kernel_rfl) (by kernel_rfl)
theorem pf_qcN : PFn.of Tryz.f245 = some Sg.f_qcN := PFn.of_get (by kernel_rfl)
theorem l_qcN_0 (K : Nat) : LoopP (Sg.c_qcN K) Sg.i0 Sg.f_qcN (Sg.p_qcN_0 K) := ⟨fun _ => by kernel_rfl, fun n p => by kernel_rfl⟩
theorem ok_qcN (K : Nat) : Fw.Ok Tryz.prog 245 (Sg.s_qcN K) := Sg.okT (Sg.c_qcN K) Sg.i0 trivial trivial trivial pf_qcN ⟨⟨_, rfl, l_qcN_0 K⟩, trivial⟩ rfl Tryz.func245 call_qcN (fun x => by kernel_rfl) rfl rfl
theorem call_qdi : Callable Tryz.prog 172 := callable_of Tryz.func172 (by kernel_rfl) (by kernel_rfl)
theorem pf_qdi : PFn.of Tryz.f172 = some Sg.f_qdi := PFn.of_get (by kernel_rfl)
theorem ok_qdi (K : Nat) : Fw.Ok Tryz.prog 172 (Sg.s_qdi K) := Sg.okT (Sg.c_qdi K) Sg.i0 ⟨ok_qcx K, ok_qcN K, trivial⟩ trivial trivial pf_qdi trivial rfl Tryz.func172 call_qdi (fun x => by kernel_rfl) rfl rfl
theorem call_qcT : Callable Tryz.prog 87 := callable_of Tryz.func87 (by kernel_rfl) (by kernel_rfl)
theorem pf_qcT : PFn.of Tryz.f87 = some Sg.f_qcT := PFn.of_get (by kernel_rfl)
theorem ok_qcT (K : Nat) : Fw.Ok Tryz.prog 87 (Sg.s_qcT K) := Sg.okT (Sg.c_qcT K) Sg.i0 ⟨ok_qbM K, ok_qaZ K, ok_qbS K, ok_qaY K, ok_qbg K, ok_qbx K, ok_qdi K, trivial⟩ trivial trivial pf_qcT trivial rfl Tryz.func87 call_qcT (fun x => by kernel_rfl) rfl rfl
theorem call_qck : Callable Tryz.prog 246 := callable_of Tryz.func246 (by kernel_rfl) (by kernel_rfl)
theorem pf_qck : PFn.of Tryz.f246 = some Sg.f_qck := PFn.of_get (by kernel_rfl)
theorem ok_qck (K : Nat) : Fw.Ok Tryz.prog 246 (Sg.s_qck K) := Sg.okT (Sg.c_qck K) Sg.i0 trivial trivial trivial pf_qck trivial rfl Tryz.func246 call_qck (fun x => by kernel_rfl) rfl rfl
theorem call_qbW : Callable Tryz.prog 173 := callable_of Tryz.func173 (by kernel_rfl) (by kernel_rfl)
theorem pf_qbW : PFn.of Tryz.f173 = some Sg.f_qbW := PFn.of_get (by kernel_rfl)
theorem l_qbW_0 (K : Nat) : LoopP (Sg.c_qbW K) Sg.i0 Sg.f_qbW (Sg.p_qbW_0 K) := ⟨fun _ => by kernel_rfl, fun n p => by kernel_rfl⟩
theorem ok_qbW (K : Nat) : Fw.Ok Tryz.prog 173 (Sg.s_qbW K) := Sg.okT (Sg.c_qbW K) Sg.i0 ⟨ok_qck K, trivial⟩ trivial trivial pf_qbW ⟨⟨_, rfl, l_qbW_0 K⟩, trivial⟩ rfl Tryz.func173 call_qbW (fun x => by kernel_rfl) rfl rfl
theorem call_qcB : Callable Tryz.prog 88 := callable_of Tryz.func88 (by kernel_rfl) (by kernel_rfl)
theorem pf_qcB : PFn.of Tryz.f88 = some Sg.f_qcB := PFn.of_get (by kernel_rfl)
theorem ok_qcB (K : Nat) : Fw.Ok Tryz.prog 88 (Sg.s_qcB K) := Sg.okT (Sg.c_qcB K) Sg.i0 ⟨ok_qbW K, trivial⟩ trivial trivial pf_qcB trivial rfl Tryz.func88 call_qcB (fun x => by kernel_rfl) rfl rfl
theorem call_qaA : Callable Tryz.prog 89 := callable_of Tryz.func89 (by kernel_rfl) (by kernel_rfl)
theorem pf_qaA : PFn.of Tryz.f89 = some Sg.f_qaA := PFn.of_get (by kernel_rfl)
theorem ok_qaA (K : Nat) : Fw.Ok Tryz.prog 89 (Sg.s_qaA K) := Sg.okT (Sg.c_qaA K) Sg.i0 trivial trivial trivial pf_qaA trivial rfl Tryz.func89 call_qaA (fun x => by kernel_rfl) rfl rfl
theorem call_qdf : Callable Tryz.prog 24 := callable_of Tryz.func24 (by kernel_rfl) (by kernel_rfl)
theorem pf_qdf : PFn.of Tryz.f24 = some Sg.f_qdf := PFn.of_get (by kernel_rfl)
theorem ok_qdf (K : Nat) : Fw.Ok Tryz.prog 24 (Sg.s_qdf K) := Sg.okT (Sg.c_qdf K) Sg.i0 ⟨ok_qcQ K, ok_qcY K, ok_qcT K, ok_qcB K, ok_qaA K, trivial⟩ trivial trivial pf_qdf trivial rfl Tryz.func24 call_qdf (fun x => by kernel_rfl) rfl rfl
theorem call_qao : Callable Tryz.prog 225 := callable_of Tryz.func225 (by kernel_rfl) (by kernel_rfl)
theorem pf_qao : PFn.of Tryz.f225 = some Sg.f_qao := PFn.of_get (by kernel_rfl)
theorem ok_qao (K : Nat) : Fw.Ok Tryz.prog 225 (Sg.s_qao K) := Sg.okT (Sg.c_qao K) Sg.i0 trivial trivial trivial pf_qao trivial rfl Tryz.func225 call_qao (fun x => by kernel_rfl) rfl rfl
theorem call_qcH : Callable Tryz.prog 113 := callable_of Tryz.func113 (by kernel_rfl) (by kernel_rfl)
theorem pf_qcH : PFn.of Tryz.f113 = some Sg.f_qcH := PFn.of_get (by kernel_rfl)
theorem ok_qcH (K : Nat) : Fw.Ok Tryz.prog 113 (Sg.s_qcH K) := Sg.okT (Sg.c_qcH K) Sg.i0 trivial trivial trivial pf_qcH trivial rfl Tryz.func113 call_qcH (fun x => by kernel_rfl) rfl rfl
theorem call_qbi : Callable Tryz.prog 247 := callable_of Tryz.func247 (by kernel_rfl) (by kernel_rfl)
theorem pf_qbi : PFn.of Tryz.f247 = some Sg.f_qbi := PFn.of_get (by kernel_rfl)
theorem ok_qbi (K : Nat) : Fw.Ok Tryz.prog 247 (Sg.s_qbi K) := Sg.okT (Sg.c_qbi K) Sg.i0 trivial trivial trivial pf_qbi trivial rfl Tryz.func247 call_qbi (fun x => by kernel_rfl) rfl rfl
theorem call_qax : Callable Tryz.prog 288 := callable_of Tryz.func288 (by kernel_rfl) (by kernel_rfl)
theorem pf_qax : PFn.of Tryz.f288 = some Sg.f_qax := PFn.of_get (by kernel_rfl)
theorem call_qat : Callable Tryz.prog 306 := callable_of Tryz.func306 (by kernel_rfl) (by kernel_rfl)
theorem pf_qat : PFn.of Tryz.f306 = some Sg.f_qat := PFn.of_get (by kernel_rfl)
theorem call_qam : Callable Tryz.prog 287 := callable_of Tryz.func287 (by kernel_rfl) (by kernel_rfl)
theorem pf_qam : PFn.of Tryz.f287 = some Sg.f_qam := PFn.of_get (by kernel_rfl)
theorem call_qaJ : Callable Tryz.prog 248 := callable_of Tryz.func248 (by kernel_rfl) (by kernel_rfl)
theorem pf_qaJ : PFn.of Tryz.f248 = some Sg.f_qaJ := PFn.of_get (by kernel_rfl)
theorem call_qbX : Callable Tryz.prog 250 := callable_of Tryz.func250 (by kernel_rfl) (by kernel_rfl)
theorem pf_qbX : PFn.of Tryz.f250 = some Sg.f_qbX := PFn.of_get (by kernel_rfl)
theorem ok_qbX (K : Nat) : Fw.Ok Tryz.prog 250 (Sg.s_qbX K) := Sg.okT (Sg.c_qbX K) Sg.i0 trivial trivial trivial pf_qbX trivial rfl Tryz.func250 call_qbX (fun x => by kernel_rfl) rfl rfl
theorem call_qbl : Callable Tryz.prog 249 := callable_of Tryz.func249 (by kernel_rfl) (by kernel_rfl)
theorem pf_qbl : PFn.of Tryz.f249 = some Sg.f_qbl := PFn.of_get (by kernel_rfl)
theorem ok_qbl (K : Nat) : Fw.Ok Tryz.prog 249 (Sg.s_qbl K) := Sg.okT (Sg.c_qbl K) Sg.i0 ⟨ok_qbi K, ok_qbX K, trivial⟩ trivial trivial pf_qbl trivial rfl Tryz.func249 call_qbl (fun x => by kernel_rfl) rfl rfl
theorem l_qag_0 (K : Nat) : LoopP (Sg.c_qag K) Sg.i_qag Sg.f_qat (Sg.p_qag_0 K) := ⟨fun _ => by kernel_rfl, fun n p => by kernel_rfl⟩
theorem ok_qag (K : Nat) : Fw.Ok Tryz.prog 248 (Sg.s_qag K) := Sg.okT (Sg.c_qag K) Sg.i_qag ⟨ok_qbl K, trivial⟩ ⟨⟨Tryz.func288, call_qax⟩, ⟨Tryz.func306, call_qat⟩, ⟨Tryz.func287, call_qam⟩, trivial⟩ ⟨⟨rfl, pf_qax⟩, ⟨rfl, pf_qat⟩, ⟨rfl, pf_qam⟩, trivial⟩ pf_qaJ ⟨⟨_, rfl, l_qag_0 K⟩, trivial⟩ rfl Tryz.func248 call_qaJ (fun x => by kernel_rfl) rfl rfl
theorem call_qcz : Callable Tryz.prog 175 := callable_of Tryz.func175 (by kernel_rfl) (by kernel_rfl)
theorem pf_qcz : PFn.of Tryz.f175 = some Sg.f_qcz := PFn.of_get (by kernel_rfl)
theorem ok_qcz (K : Nat) : Fw.Ok Tryz.prog 175 (Sg.s_qcz K) := Sg.okT (Sg.c_qcz K) Sg.i_qcz ⟨ok_qcH K, ok_qbi K, ok_qbl K, ok_qag K, trivial⟩ ⟨⟨Tryz.func288, call_qax⟩, ⟨Tryz.func306, call_qat⟩, ⟨Tryz.func287, call_qam⟩, ⟨Tryz.func248, call_qaJ⟩, trivial⟩ ⟨⟨rfl, pf_qax⟩, ⟨rfl, pf_qat⟩, ⟨rfl, pf_qam⟩, ⟨rfl, pf_qaJ⟩, trivial⟩ pf_qcz trivial rfl Tryz.func175 call_qcz (fun x => by kernel_rfl) rfl rfl
theorem call_qbZ : Callable Tryz.prog 251 := callable_of Tryz.func251 (by kernel_rfl) (by kernel_rfl)
theorem pf_qbZ : PFn.of Tryz.f251 = some Sg.f_qbZ := PFn.of_get (by kernel_rfl)
theorem ok_qbZ (K : Nat) : Fw.Ok Tryz.prog 251 (Sg.s_qbZ K) := Sg.okT (Sg.c_qbZ K) Sg.i0 ⟨ok_qcH K, trivial⟩ trivial trivial pf_qbZ trivial rfl Tryz.func251 call_qbZ (fun x => by kernel_rfl) rfl rfl
theorem call_qcS : Callable Tryz.prog 263 := callable_of Tryz.func263 (by kernel_rfl) (by kernel_rfl)
theorem pf_qcS : PFn.of Tryz.f263 = some Sg.f_qcS := PFn.of_get (by kernel_rfl)
theorem l_qcS_0 (K : Nat) : LoopP (Sg.c_qcS K) Sg.i0 Sg.f_qcS (Sg.p_qcS_0 K) := ⟨fun _ => by kernel_rfl, fun n p => by kernel_rfl⟩
theorem ok_qcS (K : Nat) : Fw.Ok Tryz.prog 263 (Sg.s_qcS K) := Sg.okT (Sg.c_qcS K) Sg.i0 ⟨ok_qcz K, ok_qbZ K, trivial⟩ trivial trivial pf_qcS ⟨⟨_, rfl, l_qcS_0 K⟩, trivial⟩ rfl Tryz.func263 call_qcS (fun x => by kernel_rfl) rfl rfl
theorem call_qaw : Callable Tryz.prog 296 := callable_of Tryz.func296 (by kernel_rfl) (by kernel_rfl)
theorem pf_qaw : PFn.of Tryz.f296 = some Sg.f_qaw := PFn.of_get (by kernel_rfl)
theorem call_qaB : Callable Tryz.prog 309 := callable_of Tryz.func309 (by kernel_rfl) (by kernel_rfl)
theorem pf_qaB : PFn.of Tryz.f309 = some Sg.f_qaB := PFn.of_get (by kernel_rfl)
theorem call_qav : Callable Tryz.prog 313 := callable_of Tryz.func313 (by kernel_rfl) (by kernel_rfl)
theorem pf_qav : PFn.of Tryz.f313 = some Sg.f_qav := PFn.of_get (by kernel_rfl)
theorem call_qap : Callable Tryz.prog 308 := callable_of Tryz.func308 (by kernel_rfl) (by kernel_rfl)
theorem pf_qap : PFn.of Tryz.f308 = some Sg.f_qap := PFn.of_get (by kernel_rfl)
theorem call_qaP : Callable Tryz.prog 295 := callable_of Tryz.func295 (by kernel_rfl) (by kernel_rfl)
theorem pf_qaP : PFn.of Tryz.f295 = some Sg.f_qaP := PFn.of_get (by kernel_rfl)
theorem l_qad_0 (K : Nat) : LoopP (Sg.c_qad K) Sg.i_qad Sg.f_qav (Sg.p_qad_0 K) := ⟨fun _ => by kernel_rfl, fun n p => by kernel_rfl⟩
theorem ok_qad (K : Nat) : Fw.Ok Tryz.prog 295 (Sg.s_qad K) := Sg.okT (Sg.c_qad K) Sg.i_qad ⟨ok_qcH K, trivial⟩ ⟨⟨Tryz.func296, call_qaw⟩, ⟨Tryz.func309, call_qaB⟩, ⟨Tryz.func313, call_qav⟩, ⟨Tryz.func308, call_qap⟩, trivial⟩ ⟨⟨rfl, pf_qaw⟩, ⟨rfl, pf_qaB⟩, ⟨rfl, pf_qav⟩, ⟨rfl, pf_qap⟩, trivial⟩ pf_qaP ⟨⟨_, rfl, l_qad_0 K⟩, trivial⟩ rfl Tryz.func295 call_qaP (fun x => by kernel_rfl) rfl rfl
theorem call_qaD : Callable Tryz.prog 276 := callable_of Tryz.func276 (by kernel_rfl) (by kernel_rfl)
theorem pf_qaD : PFn.of Tryz.f276 = some Sg.f_qaD := PFn.of_get (by kernel_rfl)
theorem ok_qaD (K : Nat) : Fw.Ok Tryz.prog 276 (Sg.s_qaD K) := Sg.okT (Sg.c_qaD K) Sg.i_qaD ⟨ok_qcH K, ok_qcS K, ok_qad K, trivial⟩ ⟨⟨Tryz.func296, call_qaw⟩, ⟨Tryz.func309, call_qaB⟩, ⟨Tryz.func313, call_qav⟩, ⟨Tryz.func308, call_qap⟩, ⟨Tryz.func295, call_qaP⟩, trivial⟩ ⟨⟨rfl, pf_qaw⟩, ⟨rfl, pf_qaB⟩, ⟨rfl, pf_qav⟩, ⟨rfl, pf_qap⟩, ⟨rfl, pf_qaP⟩, trivial⟩ pf_qaD trivial rfl Tryz.func276 call_qaD (fun x => by kernel_rfl) rfl rfl
theorem call_qaN : Callable Tryz.prog 226 := callable_of Tryz.func226 (by kernel_rfl) (by kernel_rfl)
theorem pf_qaN : PFn.of Tryz.f226 = some Sg.f_qaN := PFn.of_get (by kernel_rfl)
theorem l_qaN_0 (K : Nat) : LoopP (Sg.c_qaN K) Sg.i0 Sg.f_qaN (Sg.p_qaN_0 K) := ⟨fun _ => by kernel_rfl, fun n p => by kernel_rfl⟩
theorem ok_qaN (K : Nat) : Fw.Ok Tryz.prog 226 (Sg.s_qaN K) := Sg.okT (Sg.c_qaN K) Sg.i0 ⟨ok_qaD K, trivial⟩ trivial trivial pf_qaN ⟨⟨_, rfl, l_qaN_0 K⟩, trivial⟩ rfl Tryz.func226 call_qaN (fun x => by kernel_rfl) rfl rfl
theorem call_qbO : Callable Tryz.prog 152 := callable_of Tryz.func152 (by kernel_rfl) (by kernel_rfl)
theorem pf_qbO : PFn.of Tryz.f152 = some Sg.f_qbO := PFn.of_get (by kernel_rfl)
theorem ok_qbO (K : Nat) : Fw.Ok Tryz.prog 152 (Sg.s_qbO K) := Sg.okT (Sg.c_qbO K) Sg.i0 ⟨ok_qao K, ok_qaN K, trivial⟩ trivial trivial pf_qbO trivial rfl Tryz.func152 call_qbO (fun x => by kernel_rfl) rfl rfl
theorem call_qar : Callable Tryz.prog 229 := callable_of Tryz.func229 (by kernel_rfl) (by kernel_rfl)
theorem pf_qar : PFn.of Tryz.f229 = some Sg.f_qar := PFn.of_get (by kernel_rfl)
theorem call_qai : Callable Tryz.prog 268 := callable_of Tryz.func268 (by kernel_rfl) (by kernel_rfl)
theorem pf_qai : PFn.of Tryz.f268 = some Sg.f_qai := PFn.of_get (by kernel_rfl)
theorem call_qah : Callable Tryz.prog 228 := callable_of Tryz.func228 (by kernel_rfl) (by kernel_rfl)
theorem pf_qah : PFn.of Tryz.f228 = some Sg.f_qah := PFn.of_get (by kernel_rfl)
theorem call_qau : Callable Tryz.prog 154 := callable_of Tryz.func154 (by kernel_rfl) (by kernel_rfl)
theorem pf_qau : PFn.of Tryz.f154 = some Sg.f_qau := PFn.of_get (by kernel_rfl)
theorem call_qcC : Callable Tryz.prog 176 := callable_of Tryz.func176 (by kernel_rfl) (by kernel_rfl)
theorem pf_qcC : PFn.of Tryz.f176 = some Sg.f_qcC := PFn.of_get (by kernel_rfl)
theorem ok_qcC (K : Nat) : Fw.Ok Tryz.prog 176 (Sg.s_qcC K) := Sg.okT (Sg.c_qcC K) Sg.i0 ⟨ok_qcH K, trivial⟩ trivial trivial pf_qcC trivial rfl Tryz.func176 call_qcC (fun x => by kernel_rfl) rfl rfl
theorem call_qcJ : Callable Tryz.prog 227 := callable_of Tryz.func227 (by kernel_rfl) (by kernel_rfl)
theorem pf_qcJ : PFn.of Tryz.f227 = some Sg.f_qcJ := PFn.of_get (by kernel_rfl)
theorem ok_qcJ (K : Nat) : Fw.Ok Tryz.prog 227 (Sg.s_qcJ K) := Sg.okT (Sg.c_qcJ K) Sg.i0 ⟨ok_qcH K, ok_qcz K, ok_qcC K, trivial⟩ trivial trivial pf_qcJ trivial rfl Tryz.func227 call_qcJ (fun x => by kernel_rfl) rfl rfl
theorem call_qbR : Callable Tryz.prog 269 := callable_of Tryz.func269 (by kernel_rfl) (by kernel_rfl)
theorem pf_qbR : PFn.of Tryz.f269 = some Sg.f_qbR := PFn.of_get (by kernel_rfl)
theorem l_qac_0 (K : Nat) : LoopP (Sg.c_qac K) Sg.i_qac Sg.f_qai (Sg.p_qac_0 K) := ⟨fun _ => by kernel_rfl, fun n p => by kernel_rfl⟩
theorem ok_qac (K : Nat) : Fw.Ok Tryz.prog 268 (Sg.s_qac K) := Sg.okT (Sg.c_qac K) Sg.i_qac trivial ⟨⟨Tryz.func269, call_qbR⟩, trivial⟩ ⟨⟨rfl, pf_qbR⟩, trivial⟩ pf_qai ⟨⟨_, rfl, l_qac_0 K⟩, trivial⟩ rfl Tryz.func268 call_qai (fun x => by kernel_rfl) rfl rfl
theorem call_qcK : Callable Tryz.prog 207 := callable_of Tryz.func207 (by kernel_rfl) (by kernel_rfl)
theorem pf_qcK : PFn.of Tryz.f207 = some Sg.f_qcK := PFn.of_get (by kernel_rfl)
theorem ok_qcK (K : Nat) : Fw.Ok Tryz.prog 207 (Sg.s_qcK K) := Sg.okT (Sg.c_qcK K) Sg.i_qcK ⟨ok_qac K, trivial⟩ ⟨⟨Tryz.func268, call_qai⟩, ⟨Tryz.func269, call_qbR⟩, trivial⟩ ⟨⟨rfl, pf_qai⟩, ⟨rfl, pf_qbR⟩, trivial⟩ pf_qcK trivial rfl Tryz.func207 call_qcK (fun x => by kernel_rfl) rfl rfl
theorem l_qaf_0 (K : Nat) : LoopP (Sg.c_qaf K) Sg.i_qaf Sg.f_qai (Sg.p_qaf_0 K) := ⟨fun _ => by kernel_rfl, fun n p => by kernel_rfl⟩
theorem ok_qaf (K : Nat) : Fw.Ok Tryz.prog 154 (Sg.s_qaf K) := Sg.okT (Sg.c_qaf K) Sg.i_qaf ⟨ok_qcJ K, trivial⟩ ⟨⟨Tryz.func229, call_qar⟩, ⟨Tryz.func268, call_qai⟩, ⟨Tryz.func228, call_qah⟩, trivial⟩ ⟨⟨rfl, pf_qar⟩, ⟨rfl, pf_qai⟩, ⟨rfl, pf_qah⟩, trivial⟩ pf_qau ⟨⟨_, rfl, l_qaf_0 K⟩, trivial⟩ rfl Tryz.func154 call_qau (fun x => by kernel_rfl) rfl rfl
theorem call_qcp : Callable Tryz.prog 153 := callable_of Tryz.func153 (by kernel_rfl) (by kernel_rfl)
theorem pf_qcp : PFn.of Tryz.f153 = some Sg.f_qcp := PFn.of_get (by kernel_rfl)
theorem l_qcp_0 (K : Nat) : LoopP (Sg.c_qcp K) Sg.i_qcp Sg.f_qcp (Sg.p_qcp_0 K) := ⟨fun _ => by kernel_rfl, fun n p => by kernel_rfl⟩
theorem ok_qcp (K : Nat) : Fw.Ok Tryz.prog 153 (Sg.s_qcp K) := Sg.okT (Sg.c_qcp K) Sg.i_qcp ⟨ok_qcJ K, ok_qcK K, ok_qaf K, trivial⟩ ⟨⟨Tryz.func229, call_qar⟩, ⟨Tryz.func268, call_qai⟩, ⟨Tryz.func228, call_qah⟩, ⟨Tryz.func154, call_qau⟩, trivial⟩ ⟨⟨rfl, pf_qar⟩, ⟨rfl, pf_qai⟩, ⟨rfl, pf_qah⟩, ⟨rfl, pf_qau⟩, trivial⟩ pf_qcp ⟨⟨_, rfl, l_qcp_0 K⟩, trivial⟩ rfl Tryz.func153 call_qcp (fun x => by kernel_rfl) rfl rfl
theorem call_qbD : Callable Tryz.prog 155 := callable_of Tryz.func155 (by kernel_rfl) (by kernel_rfl)
theorem pf_qbD : PFn.of Tryz.f155 = some Sg.f_qbD := PFn.of_get (by kernel_rfl)
theorem l_qae_0 (K : Nat) : LoopP (Sg.c_qae K) Sg.i_qae Sg.f_qai (Sg.p_qae_0 K) := ⟨fun _ => by kernel_rfl, fun n p => by kernel_rfl⟩
theorem ok_qae (K : Nat) : Fw.Ok Tryz.prog 154 (Sg.s_qae K) := Sg.okT (Sg.c_qae K) Sg.i_qae trivial ⟨⟨Tryz.func229, call_qar⟩, ⟨Tryz.func268, call_qai⟩, ⟨Tryz.func228, call_qah⟩, ⟨Tryz.func155, call_qbD⟩, trivial⟩ ⟨⟨rfl, pf_qar⟩, ⟨rfl, pf_qai⟩, ⟨rfl, pf_qah⟩, ⟨rfl, pf_qbD⟩, trivial⟩ pf_qau ⟨⟨_, rfl, l_qae_0 K⟩, trivial⟩ rfl Tryz.func154 call_qau (fun x => by kernel_rfl) rfl rfl
theorem call_qci : Callable Tryz.prog 79 := callable_of Tryz.func79 (by kernel_rfl) (by kernel_rfl)
theorem pf_qci : PFn.of Tryz.f79 = some Sg.f_qci := PFn.of_get (by kernel_rfl)
theorem ok_qci (K : Nat) : Fw.Ok Tryz.prog 79 (Sg.s_qci K) := Sg.okT (Sg.c_qci K) Sg.i_qci ⟨ok_qbO K, ok_qcp K, ok_qae K, trivial⟩ ⟨⟨Tryz.func229, call_qar⟩, ⟨Tryz.func268, call_qai⟩, ⟨Tryz.func228, call_qah⟩, ⟨Tryz.func154, call_qau⟩, ⟨Tryz.func155, call_qbD⟩, trivial⟩ ⟨⟨rfl, pf_qar⟩, ⟨rfl, pf_qai⟩, ⟨rfl, pf_qah⟩, ⟨rfl, pf_qau⟩, ⟨rfl, pf_qbD⟩, trivial⟩ pf_qci trivial rfl Tryz.func79 call_qci (fun x => by kernel_rfl) rfl rfl
theorem call_qbH : Callable Tryz.prog 177 := callable_of Tryz.func177 (by kernel_rfl) (by kernel_rfl)
theorem pf_qbH : PFn.of Tryz.f177 = some Sg.f_qbH := PFn.of_get (by kernel_rfl)
theorem l_qbH_0 (K : Nat) : LoopP (Sg.c_qbH K) Sg.i0 Sg.f_qbH (Sg.p_qbH_0 K) := ⟨fun _ => by kernel_rfl, fun n p => by kernel_rfl⟩
theorem ok_qbH (K : Nat) : Fw.Ok Tryz.prog 177 (Sg.s_qbH K) := Sg.okT (Sg.c_qbH K) Sg.i0 ⟨ok_qcz K, ok_qbZ K, trivial⟩ trivial trivial pf_qbH ⟨⟨_, rfl, l_qbH_0 K⟩, trivial⟩ rfl Tryz.func177 call_qbH (fun x => by kernel_rfl) rfl rfl
theorem call_qde : Callable Tryz.prog 91 := callable_of Tryz.func91 (by kernel_rfl) (by kernel_rfl)
theorem pf_qde : PFn.of Tryz.f91 = some Sg.f_qde := PFn.of_get (by kernel_rfl)
theorem ok_qde (K : Nat) : Fw.Ok Tryz.prog 91 (Sg.s_qde K) := Sg.okT (Sg.c_qde K) Sg.i0 ⟨ok_qcH K, ok_qcz K, ok_qcC K, ok_qbH K, trivial⟩ trivial trivial pf_qde trivial rfl Tryz.func91 call_qde (fun x => by kernel_rfl) rfl rfl
theorem call_qda : Callable Tryz.prog 178 := callable_of Tryz.func178 (by kernel_rfl) (by kernel_rfl)
theorem pf_qda : PFn.of Tryz.f178 = some Sg.f_qda := PFn.of_get (by kernel_rfl)
theorem ok_qda (K : Nat) : Fw.Ok Tryz.prog 178 (Sg.s_qda K) := Sg.okT (Sg.c_qda K) Sg.i0 ⟨ok_qcK K, trivial⟩ trivial trivial pf_qda trivial rfl Tryz.func178 call_qda (fun x => by kernel_rfl) rfl rfl
theorem call_qaG : Callable Tryz.prog 179 := callable_of Tryz.func179 (by kernel_rfl) (by kernel_rfl)
theorem pf_qaG : PFn.of Tryz.f179 = some Sg.f_qaG := PFn.of_get (by kernel_rfl)
end Go.Proofs
