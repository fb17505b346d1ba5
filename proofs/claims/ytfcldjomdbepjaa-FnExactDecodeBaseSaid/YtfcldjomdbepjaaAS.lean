/- The functions' contracts, printed by a program of the prover's own. -/
import Derived.Test.YtfcldjomdbepjaaAR
import Derived.Test.YtfcldjomdbepjaaProg
set_option linter.all false
namespace Go.Proofs
open Go Fw
set_option maxRecDepth 100000
def Sg.eqs : List Nat := [34, 44, 54, 57]
def Sg.tab : List (Nat × Fw.TyI) := [
(1, .one),
(2, .leaf (.int .i64)),
(3, .leaf (.int .i64)),
(4, .leaf .bool),
(5, .leaf (.int .u8)),
(6, .leaf (.int .u8)),
(7, .struct (.pair (.int .i64) (.pair (.int .i64) (.pair .bool (.int .u8)))) [(0, 2), (1, 3), (2, 4), (3, 6)]),
(8, .struct (.pair (.int .i64) (.pair (.int .i64) (.pair .bool (.int .u8)))) [(0, 2), (1, 3), (2, 4), (3, 6)]),
(9, .leaf .str),
(10, .leaf .str),
(11, .leaf .str),
(12, .leaf (.int .u64)),
(13, .struct (.pair .str (.int .u64)) [(0, 9), (1, 12)]),
(14, .struct (.pair .str (.int .u64)) [(0, 9), (1, 12)]),
(21, .leaf (.int .i32)),
(22, .slice 39 (.pair (.sl (.int .i64)) (.sl (.pair .str (.int .i64)))) 0),
(23, .slice 44 (.pair .str (.pair (.int .i64) (.pair (.int .i64) .bool))) 0),
(24, .struct (.pair (.sl (.pair (.sl (.int .i64)) (.sl (.pair .str (.int .i64))))) (.sl (.pair .str (.pair (.int .i64) (.pair (.int .i64) .bool))))) [(0, 22), (1, 23)]),
(25, .struct (.pair (.sl (.pair (.sl (.int .i64)) (.sl (.pair .str (.int .i64))))) (.sl (.pair .str (.pair (.int .i64) (.pair (.int .i64) .bool))))) [(0, 22), (1, 23)]),
(27, .one),
(28, .one),
(29, .one),
(30, .one),
(31, .one),
(32, .one),
(33, .struct (.pair .str (.pair (.int .i64) .bool)) [(0, 9), (1, 3), (2, 4)]),
(34, .struct (.pair .str (.pair (.int .i64) .bool)) [(0, 9), (1, 3), (2, 4)]),
(35, .one),
(36, .slice 3 (.int .i64) 0),
(37, .slice 57 (.pair .str (.int .i64)) 0),
(38, .struct (.pair (.sl (.int .i64)) (.sl (.pair .str (.int .i64)))) [(0, 36), (1, 37)]),
(39, .struct (.pair (.sl (.int .i64)) (.sl (.pair .str (.int .i64)))) [(0, 36), (1, 37)]),
(40, .one),
(41, .one),
(42, .one),
(43, .struct (.pair .str (.pair (.int .i64) (.pair (.int .i64) .bool))) [(0, 9), (1, 3), (2, 3), (3, 4)]),
(44, .struct (.pair .str (.pair (.int .i64) (.pair (.int .i64) .bool))) [(0, 9), (1, 3), (2, 3), (3, 4)]),
(45, .one),
(46, .one),
(47, .one),
(48, .one),
(49, .one),
(50, .one),
(51, .one),
(52, .one),
(53, .struct (.pair .str (.pair (.int .i64) .bool)) [(0, 9), (1, 3), (2, 4)]),
(54, .struct (.pair .str (.pair (.int .i64) .bool)) [(0, 9), (1, 3), (2, 4)]),
(55, .one),
(56, .struct (.pair .str (.int .i64)) [(0, 9), (1, 3)]),
(57, .struct (.pair .str (.int .i64)) [(0, 9), (1, 3)]),
(58, .slice 5 (.int .u8) 0),
(59, .one),
(60, .one),
(61, .one),
(62, .one),
(63, .one),
(64, .one),
(65, .one),
(66, .one),
(68, .one),
(69, .one),
(70, .one),
(71, .one),
(72, .one),
(73, .one),
(74, .one),
(75, .one),
(76, .one),
(77, .one),
(78, .one),
(79, .one),
(80, .one),
(81, .one),
(82, .one),
(88, .leaf (.int .u32)),
(89, .leaf (.int .u8)),
(90, .leaf (.int .u8)),
(91, .one),
(93, .leaf (.int .i32)),
(94, .leaf (.int .i32))]
def Sg.ptrs : List (Nat × Fw.Ty) := [(32, (.pair .str (.pair (.int .i64) .bool))), (52, (.pair .str (.pair (.int .i64) .bool)))]
theorem Sg.tabOK : Fw.chkAll Try.prog Sg.tab = true := by kernel_rfl
theorem Sg.eqsOK : Fw.eqFacts Try.prog Sg.tab Sg.eqs = true := by kernel_rfl
theorem Sg.mixOK : Try.prog.follows .mixedOrders = true := by kernel_rfl
instance Sg.glob : Fw.GInv := ⟨fun _ => True, fun _ => False, fun _ _ _ h => h⟩
def Sg.h_spec_l11Take_0 : Fw.StSh := ⟨[(0, (.d .str)), (1, (.d (.int .i64))), (4, (.d (.int .i64))), (5, (.d (.int .i64))), (6, (.d .bool)), (7, (.d (.int .i64))), (8, (.d (.int .i64))), (9, (.d (.int .i64)))], [], 0, 52, ⟨0, []⟩⟩
def Sg.o_spec_l11Take_0 : Fw.StSh := ⟨[(4, (.d (.int .i64))), (5, (.d (.int .i64))), (6, (.d .bool))], [], 0, 52, ⟨0, []⟩⟩
def Sg.r_spec_l11Take_0 : Fw.StSh := ⟨[(4, (.d (.int .i64))), (5, (.d (.int .i64))), (6, (.d .bool))], [], 0, 52, ⟨0, []⟩⟩
noncomputable def Sg.p_spec_l11Take_0 (K : Nat) : Fw.LSpec := { g := 45, b := 0, lv := 6, l0 := 0, li := 0, head := Sg.h_spec_l11Take_0, post := Sg.o_spec_l11Take_0, retn := Sg.r_spec_l11Take_0, ex := 0, L := R.L_spec_l11Take_0 K }
noncomputable def Sg.f_spec_l11Take : Fw.PFn := Fw.PFn.get Try.f45
noncomputable def Sg.i_spec_l11Take : List (Nat × Fw.PFn) := []
noncomputable def Sg.s_spec_l11Take (K : Nat) : Fw.Sig := { ins := [.val false .str, .val false (.int .i64)], outs := [⟨false, (.int .i64), false⟩, ⟨false, (.int .i64), false⟩, ⟨false, .bool, false⟩], F := fun x => R.spec_l11Take K x.1 x.2.1 }
noncomputable def Sg.c_spec_l11Take (K : Nat) : Fw.Cfg := { tab := Sg.tab, eqs := Sg.eqs, sig := [], inl := [], lo := Sg.p_spec_l11Take_0 K :: [], K := K, jo := [], opn := [7, 21, 22, 39, 40] }
noncomputable def Sg.f_spec_l11Reader_number : Fw.PFn := Fw.PFn.get Try.f28
noncomputable def Sg.i_spec_l11Reader_number : List (Nat × Fw.PFn) := []
noncomputable def Sg.s_spec_l11Reader_number (K : Nat) : Fw.Sig := { ins := [.ptr (.pair .str (.pair (.int .i64) .bool))], outs := [⟨false, (.int .i64), false⟩], F := fun x => R.spec_l11Reader_number K x.1 }
noncomputable def Sg.c_spec_l11Reader_number (K : Nat) : Fw.Cfg := { tab := Sg.tab, eqs := Sg.eqs, sig := [(45, Sg.s_spec_l11Take K)], inl := [], lo := [], K := K, jo := ⟨28, 0, 6, 1, 1, none⟩ :: [], opn := [7, 21, 22, 39, 40] }
noncomputable def Sg.f_spec_l11Reader_count : Fw.PFn := Fw.PFn.get Try.f25
noncomputable def Sg.i_spec_l11Reader_count : List (Nat × Fw.PFn) := []
noncomputable def Sg.s_spec_l11Reader_count (K : Nat) : Fw.Sig := { ins := [.ptr (.pair .str (.pair (.int .i64) .bool)), .val false (.int .i64)], outs := [⟨false, (.int .i64), false⟩], F := fun x => R.spec_l11Reader_count K x.1 x.2.1 }
noncomputable def Sg.c_spec_l11Reader_count (K : Nat) : Fw.Cfg := { tab := Sg.tab, eqs := Sg.eqs, sig := [(28, Sg.s_spec_l11Reader_number K)], inl := [], lo := [], K := K, jo := [], opn := [7, 21, 22, 39, 40] }
noncomputable def Sg.f_spec_l11Reader_word : Fw.PFn := Fw.PFn.get Try.f27
noncomputable def Sg.i_spec_l11Reader_word : List (Nat × Fw.PFn) := []
noncomputable def Sg.s_spec_l11Reader_word (K : Nat) : Fw.Sig := { ins := [.ptr (.pair .str (.pair (.int .i64) .bool))], outs := [⟨false, .str, false⟩], F := fun x => R.spec_l11Reader_word K x.1 }
noncomputable def Sg.c_spec_l11Reader_word (K : Nat) : Fw.Cfg := { tab := Sg.tab, eqs := Sg.eqs, sig := [(25, Sg.s_spec_l11Reader_count K)], inl := [], lo := [], K := K, jo := ⟨27, 0, 6, 1, 2, none⟩ :: ⟨27, 0, 6, 1, 6, none⟩ :: [], opn := [7, 21, 22, 39, 40] }
noncomputable def Sg.f_spec_l11Reader_signed : Fw.PFn := Fw.PFn.get Try.f44
noncomputable def Sg.i_spec_l11Reader_signed : List (Nat × Fw.PFn) := []
noncomputable def Sg.s_spec_l11Reader_signed (K : Nat) : Fw.Sig := { ins := [.ptr (.pair .str (.pair (.int .i64) .bool))], outs := [⟨false, (.int .i64), false⟩], F := fun x => R.spec_l11Reader_signed K x.1 }
noncomputable def Sg.c_spec_l11Reader_signed (K : Nat) : Fw.Cfg := { tab := Sg.tab, eqs := Sg.eqs, sig := [(28, Sg.s_spec_l11Reader_number K)], inl := [], lo := [], K := K, jo := [], opn := [7, 21, 22, 39, 40] }
def Sg.h_spec_l11Reader_commit_0 : Fw.StSh := ⟨[(0, (.ref 0 0)), (2, (.ref 3 0)), (3, (.ref 10 0)), (4, (.d (.int .i64)))], [(0, (.box [(.d .str), (.d (.int .i64)), (.d .bool)])), (3, (.box [(.row 1), (.row 2)])), (10, (.box [(.row 4), (.row 5)])), (1, (.row (.int .i64) true)), (2, (.row (.pair .str (.int .i64)) true)), (4, (.row (.int .i64) true)), (5, (.row (.pair .str (.int .i64)) true))], 11, 41, ⟨0, []⟩⟩
def Sg.o_spec_l11Reader_commit_0 : Fw.StSh := ⟨[(0, (.ref 0 0)), (2, (.ref 3 0)), (3, (.ref 10 0))], [(0, (.box [(.d .str), (.d (.int .i64)), (.d .bool)])), (3, (.box [(.row 1), (.row 2)])), (10, (.box [(.row 4), (.row 5)])), (1, (.row (.int .i64) true)), (2, (.row (.pair .str (.int .i64)) true)), (4, (.row (.int .i64) true)), (5, (.row (.pair .str (.int .i64)) true))], 11, 41, ⟨0, []⟩⟩
def Sg.r_spec_l11Reader_commit_0 : Fw.StSh := ⟨[], [], 11, 41, ⟨0, []⟩⟩
noncomputable def Sg.p_spec_l11Reader_commit_0 (K : Nat) : Fw.LSpec := { g := 26, b := 0, lv := 6, l0 := 1, li := 0, head := Sg.h_spec_l11Reader_commit_0, post := Sg.o_spec_l11Reader_commit_0, retn := Sg.r_spec_l11Reader_commit_0, ex := 0, L := R.L_spec_l11Reader_commit_0 K }
def Sg.h_spec_l11Reader_commit_1 : Fw.StSh := ⟨[(0, (.ref 0 0)), (2, (.ref 3 0)), (3, (.ref 10 0)), (5, (.d (.int .i64)))], [(0, (.box [(.d .str), (.d (.int .i64)), (.d .bool)])), (3, (.box [(.row 1), (.row 2)])), (10, (.box [(.row 4), (.row 5)])), (1, (.row (.int .i64) true)), (2, (.row (.pair .str (.int .i64)) true)), (4, (.row (.int .i64) true)), (5, (.row (.pair .str (.int .i64)) true))], 11, 41, ⟨0, []⟩⟩
def Sg.o_spec_l11Reader_commit_1 : Fw.StSh := ⟨[(2, (.ref 3 0)), (3, (.ref 10 0))], [(3, (.box [(.row 1), (.row 2)])), (10, (.box [(.row 4), (.row 5)])), (0, (.box [(.d .str), (.d (.int .i64)), (.d .bool)])), (1, (.row (.int .i64) true)), (2, (.row (.pair .str (.int .i64)) true)), (4, (.row (.int .i64) true)), (5, (.row (.pair .str (.int .i64)) true))], 11, 41, ⟨0, []⟩⟩
def Sg.r_spec_l11Reader_commit_1 : Fw.StSh := ⟨[], [], 11, 41, ⟨0, []⟩⟩
noncomputable def Sg.p_spec_l11Reader_commit_1 (K : Nat) : Fw.LSpec := { g := 26, b := 0, lv := 6, l0 := 1, li := 1, head := Sg.h_spec_l11Reader_commit_1, post := Sg.o_spec_l11Reader_commit_1, retn := Sg.r_spec_l11Reader_commit_1, ex := 2, L := R.L_spec_l11Reader_commit_1 K }
noncomputable def Sg.f_spec_l11Reader_commit : Fw.PFn := Fw.PFn.get Try.f26
noncomputable def Sg.i_spec_l11Reader_commit : List (Nat × Fw.PFn) := []
noncomputable def Sg.s_spec_l11Reader_commit (K : Nat) : Fw.Sig := { ins := [.ptr (.pair .str (.pair (.int .i64) .bool))], outs := [⟨true, (.pair (.sl (.int .i64)) (.sl (.pair .str (.int .i64)))), true⟩], F := fun x => R.spec_l11Reader_commit K x.1 }
noncomputable def Sg.c_spec_l11Reader_commit (K : Nat) : Fw.Cfg := { tab := Sg.tab, eqs := Sg.eqs, sig := [(28, Sg.s_spec_l11Reader_number K), (25, Sg.s_spec_l11Reader_count K), (27, Sg.s_spec_l11Reader_word K), (44, Sg.s_spec_l11Reader_signed K)], inl := [], lo := Sg.p_spec_l11Reader_commit_0 K :: Sg.p_spec_l11Reader_commit_1 K :: [], K := K, jo := ⟨26, 0, 6, 1, 5, none⟩ :: ⟨26, 0, 6, 1, 10, none⟩ :: [], opn := [7, 21, 22, 39, 40] }
def Sg.h_spec_l11Sum_0 : Fw.StSh := ⟨[(0, (.d .str)), (2, (.d (.int .i64))), (3, (.d (.int .i64))), (4, (.d (.int .i64)))], [], 0, 21, ⟨0, []⟩⟩
def Sg.o_spec_l11Sum_0 : Fw.StSh := ⟨[(2, (.d (.int .i64))), (3, (.d (.int .i64)))], [], 0, 21, ⟨0, []⟩⟩
def Sg.r_spec_l11Sum_0 : Fw.StSh := ⟨[], [], 0, 21, ⟨0, []⟩⟩
noncomputable def Sg.p_spec_l11Sum_0 (K : Nat) : Fw.LSpec := { g := 29, b := 0, lv := 6, l0 := 0, li := 0, head := Sg.h_spec_l11Sum_0, post := Sg.o_spec_l11Sum_0, retn := Sg.r_spec_l11Sum_0, ex := 0, L := R.L_spec_l11Sum_0 K }
noncomputable def Sg.f_spec_l11Sum : Fw.PFn := Fw.PFn.get Try.f29
noncomputable def Sg.i_spec_l11Sum : List (Nat × Fw.PFn) := []
noncomputable def Sg.s_spec_l11Sum (K : Nat) : Fw.Sig := { ins := [.val false .str], outs := [⟨false, (.int .i64), false⟩], F := fun x => R.spec_l11Sum K x.1 }
noncomputable def Sg.c_spec_l11Sum (K : Nat) : Fw.Cfg := { tab := Sg.tab, eqs := Sg.eqs, sig := [], inl := [], lo := Sg.p_spec_l11Sum_0 K :: [], K := K, jo := [], opn := [7, 21, 22, 39, 40] }
noncomputable def Sg.f_spec_l01In : Fw.PFn := Fw.PFn.get Try.f56
noncomputable def Sg.i_spec_l01In : List (Nat × Fw.PFn) := []
noncomputable def Sg.s_spec_l01In (K : Nat) : Fw.Sig := { ins := [.val false (.int .i64), .val false (.int .i64), .val false (.int .i64)], outs := [⟨false, .bool, false⟩], F := fun x => R.spec_l01In K x.1 x.2.1 x.2.2.1 }
noncomputable def Sg.c_spec_l01In (K : Nat) : Fw.Cfg := { tab := Sg.tab, eqs := Sg.eqs, sig := [], inl := [], lo := [], K := K, jo := [], opn := [7, 21, 22, 39, 40] }
noncomputable def Sg.f_spec_l00Letter : Fw.PFn := Fw.PFn.get Try.f68
noncomputable def Sg.i_spec_l00Letter : List (Nat × Fw.PFn) := []
noncomputable def Sg.s_spec_l00Letter (K : Nat) : Fw.Sig := { ins := [.val false (.int .u8)], outs := [⟨false, .bool, false⟩], F := fun x => R.spec_l00Letter K x.1 }
noncomputable def Sg.c_spec_l00Letter (K : Nat) : Fw.Cfg := { tab := Sg.tab, eqs := Sg.eqs, sig := [], inl := [], lo := [], K := K, jo := [], opn := [7, 21, 22, 39, 40] }
noncomputable def Sg.f_spec_l00Digit : Fw.PFn := Fw.PFn.get Try.f69
noncomputable def Sg.i_spec_l00Digit : List (Nat × Fw.PFn) := []
noncomputable def Sg.s_spec_l00Digit (K : Nat) : Fw.Sig := { ins := [.val false (.int .u8)], outs := [⟨false, .bool, false⟩], F := fun x => R.spec_l00Digit K x.1 }
noncomputable def Sg.c_spec_l00Digit (K : Nat) : Fw.Cfg := { tab := Sg.tab, eqs := Sg.eqs, sig := [], inl := [], lo := [], K := K, jo := [], opn := [7, 21, 22, 39, 40] }
def Sg.h_spec_l00Word_0 : Fw.StSh := ⟨[(0, (.d .str)), (2, (.d .bool)), (3, (.d (.int .i64)))], [], 0, 36, ⟨0, []⟩⟩
def Sg.o_spec_l00Word_0 : Fw.StSh := ⟨[(2, (.d .bool))], [], 0, 36, ⟨0, []⟩⟩
def Sg.r_spec_l00Word_0 : Fw.StSh := ⟨[(2, (.d .bool))], [], 0, 36, ⟨0, []⟩⟩
noncomputable def Sg.p_spec_l00Word_0 (K : Nat) : Fw.LSpec := { g := 58, b := 0, lv := 6, l0 := 0, li := 0, head := Sg.h_spec_l00Word_0, post := Sg.o_spec_l00Word_0, retn := Sg.r_spec_l00Word_0, ex := 0, L := R.L_spec_l00Word_0 K }
noncomputable def Sg.f_spec_l00Word : Fw.PFn := Fw.PFn.get Try.f58
noncomputable def Sg.i_spec_l00Word : List (Nat × Fw.PFn) := []
noncomputable def Sg.s_spec_l00Word (K : Nat) : Fw.Sig := { ins := [.val false .str], outs := [⟨false, .bool, false⟩], F := fun x => R.spec_l00Word K x.1 }
noncomputable def Sg.c_spec_l00Word (K : Nat) : Fw.Cfg := { tab := Sg.tab, eqs := Sg.eqs, sig := [(68, Sg.s_spec_l00Letter K), (69, Sg.s_spec_l00Digit K)], inl := [], lo := Sg.p_spec_l00Word_0 K :: [], K := K, jo := [], opn := [7, 21, 22, 39, 40] }
def Sg.h_spec_l01OK_0 : Fw.StSh := ⟨[(0, (.d (.sl (.pair .str (.int .i64))))), (2, (.d .bool)), (3, (.d (.int .i64)))], [], 0, 47, ⟨0, []⟩⟩
def Sg.o_spec_l01OK_0 : Fw.StSh := ⟨[(2, (.d .bool))], [], 0, 47, ⟨0, []⟩⟩
def Sg.r_spec_l01OK_0 : Fw.StSh := ⟨[(2, (.d .bool))], [], 0, 47, ⟨0, []⟩⟩
noncomputable def Sg.p_spec_l01OK_0 (K : Nat) : Fw.LSpec := { g := 67, b := 0, lv := 6, l0 := 0, li := 0, head := Sg.h_spec_l01OK_0, post := Sg.o_spec_l01OK_0, retn := Sg.r_spec_l01OK_0, ex := 0, L := R.L_spec_l01OK_0 K }
noncomputable def Sg.f_spec_l01OK : Fw.PFn := Fw.PFn.get Try.f67
noncomputable def Sg.i_spec_l01OK : List (Nat × Fw.PFn) := []
noncomputable def Sg.s_spec_l01OK (K : Nat) : Fw.Sig := { ins := [.val false (.sl (.pair .str (.int .i64)))], outs := [⟨false, .bool, false⟩], F := fun x => R.spec_l01OK K x.1 }
noncomputable def Sg.c_spec_l01OK (K : Nat) : Fw.Cfg := { tab := Sg.tab, eqs := Sg.eqs, sig := [(56, Sg.s_spec_l01In K), (58, Sg.s_spec_l00Word K)], inl := [], lo := Sg.p_spec_l01OK_0 K :: [], K := K, jo := ⟨67, 0, 6, 0, 6, none⟩ :: [], opn := [7, 21, 22, 39, 40] }
def Sg.h_spec_l03Commit_0 : Fw.StSh := ⟨[(0, (.d (.sl (.pair (.sl (.int .i64)) (.sl (.pair .str (.int .i64))))))), (3, (.ref 0 0)), (4, (.d .bool)), (5, (.d (.int .i64))), (6, (.d (.int .i64)))], [(0, (.box [(.d (.sl (.int .i64))), (.d (.sl (.pair .str (.int .i64))))]))], 1, 56, ⟨0, []⟩⟩
def Sg.o_spec_l03Commit_0 : Fw.StSh := ⟨[(4, (.d .bool))], [], 1, 56, ⟨0, []⟩⟩
def Sg.r_spec_l03Commit_0 : Fw.StSh := ⟨[(4, (.d .bool))], [], 1, 56, ⟨0, []⟩⟩
noncomputable def Sg.p_spec_l03Commit_0 (K : Nat) : Fw.LSpec := { g := 57, b := 0, lv := 6, l0 := 0, li := 0, head := Sg.h_spec_l03Commit_0, post := Sg.o_spec_l03Commit_0, retn := Sg.r_spec_l03Commit_0, ex := 0, L := R.L_spec_l03Commit_0 K }
noncomputable def Sg.f_spec_l03Commit : Fw.PFn := Fw.PFn.get Try.f57
noncomputable def Sg.i_spec_l03Commit : List (Nat × Fw.PFn) := []
noncomputable def Sg.s_spec_l03Commit (K : Nat) : Fw.Sig := { ins := [.val false (.sl (.pair (.sl (.int .i64)) (.sl (.pair .str (.int .i64))))), .val true (.pair (.sl (.int .i64)) (.sl (.pair .str (.int .i64))))], outs := [⟨false, .bool, false⟩], F := fun x => R.spec_l03Commit K x.1 x.2.1 }
noncomputable def Sg.c_spec_l03Commit (K : Nat) : Fw.Cfg := { tab := Sg.tab, eqs := Sg.eqs, sig := [(56, Sg.s_spec_l01In K), (67, Sg.s_spec_l01OK K)], inl := [], lo := Sg.p_spec_l03Commit_0 K :: [], K := K, jo := ⟨57, 0, 6, 0, 7, none⟩ :: [], opn := [7, 21, 22, 39, 40] }
def Sg.h_spec_l03OK_0 : Fw.StSh := ⟨[(0, (.d (.sl (.pair (.sl (.int .i64)) (.sl (.pair .str (.int .i64))))))), (2, (.d .bool)), (3, (.d (.int .i64)))], [], 0, 23, ⟨0, []⟩⟩
def Sg.o_spec_l03OK_0 : Fw.StSh := ⟨[(2, (.d .bool))], [], 0, 23, ⟨0, []⟩⟩
def Sg.r_spec_l03OK_0 : Fw.StSh := ⟨[(2, (.d .bool))], [], 0, 23, ⟨0, []⟩⟩
noncomputable def Sg.p_spec_l03OK_0 (K : Nat) : Fw.LSpec := { g := 46, b := 0, lv := 6, l0 := 0, li := 0, head := Sg.h_spec_l03OK_0, post := Sg.o_spec_l03OK_0, retn := Sg.r_spec_l03OK_0, ex := 0, L := R.L_spec_l03OK_0 K }
noncomputable def Sg.f_spec_l03OK : Fw.PFn := Fw.PFn.get Try.f46
noncomputable def Sg.i_spec_l03OK : List (Nat × Fw.PFn) := []
noncomputable def Sg.s_spec_l03OK (K : Nat) : Fw.Sig := { ins := [.val false (.sl (.pair (.sl (.int .i64)) (.sl (.pair .str (.int .i64)))))], outs := [⟨false, .bool, false⟩], F := fun x => R.spec_l03OK K x.1 }
noncomputable def Sg.c_spec_l03OK (K : Nat) : Fw.Cfg := { tab := Sg.tab, eqs := Sg.eqs, sig := [(56, Sg.s_spec_l01In K), (57, Sg.s_spec_l03Commit K)], inl := [], lo := Sg.p_spec_l03OK_0 K :: [], K := K, jo := ⟨46, 0, 6, 0, 6, none⟩ :: [], opn := [7, 21, 22, 39, 40] }
def Sg.h_spec_l04At_0 : Fw.StSh := ⟨[(0, (.d (.sl (.pair .str (.pair (.int .i64) (.pair (.int .i64) .bool)))))), (1, (.d .str)), (4, (.d (.int .i64))), (5, (.d (.int .i64)))], [], 0, 20, ⟨0, []⟩⟩
def Sg.o_spec_l04At_0 : Fw.StSh := ⟨[(4, (.d (.int .i64)))], [], 0, 20, ⟨0, []⟩⟩
def Sg.r_spec_l04At_0 : Fw.StSh := ⟨[(4, (.d (.int .i64)))], [], 0, 20, ⟨0, []⟩⟩
noncomputable def Sg.p_spec_l04At_0 (K : Nat) : Fw.LSpec := { g := 59, b := 0, lv := 6, l0 := 0, li := 0, head := Sg.h_spec_l04At_0, post := Sg.o_spec_l04At_0, retn := Sg.r_spec_l04At_0, ex := 0, L := R.L_spec_l04At_0 K }
noncomputable def Sg.f_spec_l04At : Fw.PFn := Fw.PFn.get Try.f59
noncomputable def Sg.i_spec_l04At : List (Nat × Fw.PFn) := []
noncomputable def Sg.s_spec_l04At (K : Nat) : Fw.Sig := { ins := [.val false (.sl (.pair .str (.pair (.int .i64) (.pair (.int .i64) .bool)))), .val false .str], outs := [⟨false, (.int .i64), false⟩], F := fun x => R.spec_l04At K x.1 x.2.1 }
noncomputable def Sg.c_spec_l04At (K : Nat) : Fw.Cfg := { tab := Sg.tab, eqs := Sg.eqs, sig := [], inl := [], lo := Sg.p_spec_l04At_0 K :: [], K := K, jo := [], opn := [7, 21, 22, 39, 40] }
def Sg.h_spec_l04OK_0 : Fw.StSh := ⟨[(0, (.d (.sl (.pair .str (.pair (.int .i64) (.pair (.int .i64) .bool)))))), (2, (.d .bool)), (3, (.d (.int .i64)))], [], 0, 56, ⟨0, []⟩⟩
def Sg.o_spec_l04OK_0 : Fw.StSh := ⟨[(2, (.d .bool))], [], 0, 56, ⟨0, []⟩⟩
def Sg.r_spec_l04OK_0 : Fw.StSh := ⟨[(2, (.d .bool))], [], 1, 56, ⟨0, []⟩⟩
noncomputable def Sg.p_spec_l04OK_0 (K : Nat) : Fw.LSpec := { g := 47, b := 0, lv := 6, l0 := 0, li := 0, head := Sg.h_spec_l04OK_0, post := Sg.o_spec_l04OK_0, retn := Sg.r_spec_l04OK_0, ex := 0, L := R.L_spec_l04OK_0 K }
noncomputable def Sg.f_spec_l04OK : Fw.PFn := Fw.PFn.get Try.f47
noncomputable def Sg.i_spec_l04OK : List (Nat × Fw.PFn) := []
noncomputable def Sg.s_spec_l04OK (K : Nat) : Fw.Sig := { ins := [.val false (.sl (.pair .str (.pair (.int .i64) (.pair (.int .i64) .bool))))], outs := [⟨false, .bool, false⟩], F := fun x => R.spec_l04OK K x.1 }
noncomputable def Sg.c_spec_l04OK (K : Nat) : Fw.Cfg := { tab := Sg.tab, eqs := Sg.eqs, sig := [(56, Sg.s_spec_l01In K), (58, Sg.s_spec_l00Word K), (59, Sg.s_spec_l04At K)], inl := [], lo := Sg.p_spec_l04OK_0 K :: [], K := K, jo := [], opn := [7, 21, 22, 39, 40] }
def Sg.h_spec_l05OK_0 : Fw.StSh := ⟨[(1, (.ref 0 0)), (2, (.d .bool)), (3, (.d (.int .i64)))], [(0, (.box [(.d (.sl (.pair (.sl (.int .i64)) (.sl (.pair .str (.int .i64)))))), (.d (.sl (.pair .str (.pair (.int .i64) (.pair (.int .i64) .bool)))))]))], 1, 31, ⟨0, []⟩⟩
def Sg.o_spec_l05OK_0 : Fw.StSh := ⟨[(2, (.d .bool))], [], 1, 31, ⟨0, []⟩⟩
def Sg.r_spec_l05OK_0 : Fw.StSh := ⟨[(2, (.d .bool))], [], 1, 31, ⟨0, []⟩⟩
noncomputable def Sg.p_spec_l05OK_0 (K : Nat) : Fw.LSpec := { g := 30, b := 0, lv := 6, l0 := 0, li := 0, head := Sg.h_spec_l05OK_0, post := Sg.o_spec_l05OK_0, retn := Sg.r_spec_l05OK_0, ex := 0, L := R.L_spec_l05OK_0 K }
noncomputable def Sg.f_spec_l05OK : Fw.PFn := Fw.PFn.get Try.f30
noncomputable def Sg.i_spec_l05OK : List (Nat × Fw.PFn) := []
noncomputable def Sg.s_spec_l05OK (K : Nat) : Fw.Sig := { ins := [.val true (.pair (.sl (.pair (.sl (.int .i64)) (.sl (.pair .str (.int .i64))))) (.sl (.pair .str (.pair (.int .i64) (.pair (.int .i64) .bool)))))], outs := [⟨false, .bool, false⟩], F := fun x => R.spec_l05OK K x.1 }
noncomputable def Sg.c_spec_l05OK (K : Nat) : Fw.Cfg := { tab := Sg.tab, eqs := Sg.eqs, sig := [(46, Sg.s_spec_l03OK K), (47, Sg.s_spec_l04OK K)], inl := [], lo := Sg.p_spec_l05OK_0 K :: [], K := K, jo := ⟨30, 0, 6, 0, 6, none⟩ :: [], opn := [7, 21, 22, 39, 40] }
def Sg.h_spec_l11Read_0 : Fw.StSh := ⟨[(0, (.d .str)), (2, (.ref 2 0)), (3, (.d (.int .i64))), (4, (.ref 3 0)), (5, (.ref 10 0)), (6, (.d (.int .i64)))], [(2, (.box [(.row 0), (.row 1)])), (3, (.box [(.d .str), (.d (.int .i64)), (.d .bool)])), (10, (.box [(.row 4), (.row 5)])), (0, (.row (.pair (.sl (.int .i64)) (.sl (.pair .str (.int .i64)))) true)), (1, (.row (.pair .str (.pair (.int .i64) (.pair (.int .i64) .bool))) true)), (4, (.row (.pair (.sl (.int .i64)) (.sl (.pair .str (.int .i64)))) true)), (5, (.row (.pair .str (.pair (.int .i64) (.pair (.int .i64) .bool))) true))], 11, 108, ⟨0, []⟩⟩
def Sg.o_spec_l11Read_0 : Fw.StSh := ⟨[(0, (.d .str)), (2, (.ref 2 0)), (3, (.d (.int .i64))), (4, (.ref 3 0)), (5, (.ref 10 0))], [(2, (.box [(.row 0), (.row 1)])), (3, (.box [(.d .str), (.d (.int .i64)), (.d .bool)])), (10, (.box [(.row 4), (.row 5)])), (0, (.row (.pair (.sl (.int .i64)) (.sl (.pair .str (.int .i64)))) true)), (1, (.row (.pair .str (.pair (.int .i64) (.pair (.int .i64) .bool))) true)), (4, (.row (.pair (.sl (.int .i64)) (.sl (.pair .str (.int .i64)))) true)), (5, (.row (.pair .str (.pair (.int .i64) (.pair (.int .i64) .bool))) true))], 11, 108, ⟨0, []⟩⟩
def Sg.r_spec_l11Read_0 : Fw.StSh := ⟨[], [], 11, 108, ⟨0, []⟩⟩
noncomputable def Sg.p_spec_l11Read_0 (K : Nat) : Fw.LSpec := { g := 9, b := 0, lv := 6, l0 := 0, li := 0, head := Sg.h_spec_l11Read_0, post := Sg.o_spec_l11Read_0, retn := Sg.r_spec_l11Read_0, ex := 0, L := R.L_spec_l11Read_0 K }
def Sg.h_spec_l11Read_1 : Fw.StSh := ⟨[(0, (.d .str)), (2, (.ref 2 0)), (3, (.d (.int .i64))), (4, (.ref 3 0)), (5, (.ref 10 0)), (7, (.d (.int .i64)))], [(2, (.box [(.row 0), (.row 1)])), (3, (.box [(.d .str), (.d (.int .i64)), (.d .bool)])), (10, (.box [(.row 4), (.row 5)])), (0, (.row (.pair (.sl (.int .i64)) (.sl (.pair .str (.int .i64)))) true)), (1, (.row (.pair .str (.pair (.int .i64) (.pair (.int .i64) .bool))) true)), (4, (.row (.pair (.sl (.int .i64)) (.sl (.pair .str (.int .i64)))) true)), (5, (.row (.pair .str (.pair (.int .i64) (.pair (.int .i64) .bool))) true))], 11, 108, ⟨0, []⟩⟩
def Sg.o_spec_l11Read_1 : Fw.StSh := ⟨[(0, (.d .str)), (2, (.ref 2 0)), (3, (.d (.int .i64))), (4, (.ref 3 0)), (5, (.ref 10 0))], [(2, (.box [(.row 0), (.row 1)])), (3, (.box [(.d .str), (.d (.int .i64)), (.d .bool)])), (10, (.box [(.row 4), (.row 5)])), (0, (.row (.pair (.sl (.int .i64)) (.sl (.pair .str (.int .i64)))) true)), (1, (.row (.pair .str (.pair (.int .i64) (.pair (.int .i64) .bool))) true)), (4, (.row (.pair (.sl (.int .i64)) (.sl (.pair .str (.int .i64)))) true)), (5, (.row (.pair .str (.pair (.int .i64) (.pair (.int .i64) .bool))) true))], 11, 108, ⟨0, []⟩⟩
def Sg.r_spec_l11Read_1 : Fw.StSh := ⟨[], [], 11, 108, ⟨0, []⟩⟩
noncomputable def Sg.p_spec_l11Read_1 (K : Nat) : Fw.LSpec := { g := 9, b := 0, lv := 6, l0 := 0, li := 1, head := Sg.h_spec_l11Read_1, post := Sg.o_spec_l11Read_1, retn := Sg.r_spec_l11Read_1, ex := 2, L := R.L_spec_l11Read_1 K }
noncomputable def Sg.f_spec_l11Read : Fw.PFn := Fw.PFn.get Try.f9
noncomputable def Sg.i_spec_l11Read : List (Nat × Fw.PFn) := []
noncomputable def Sg.s_spec_l11Read (K : Nat) : Fw.Sig := { ins := [.val false .str], outs := [⟨true, (.pair (.sl (.pair (.sl (.int .i64)) (.sl (.pair .str (.int .i64))))) (.sl (.pair .str (.pair (.int .i64) (.pair (.int .i64) .bool))))), true⟩, ⟨false, (.int .i64), false⟩], F := fun x => R.spec_l11Read K x.1 }
noncomputable def Sg.c_spec_l11Read (K : Nat) : Fw.Cfg := { tab := Sg.tab, eqs := Sg.eqs, sig := [(28, Sg.s_spec_l11Reader_number K), (25, Sg.s_spec_l11Reader_count K), (27, Sg.s_spec_l11Reader_word K), (26, Sg.s_spec_l11Reader_commit K), (29, Sg.s_spec_l11Sum K), (30, Sg.s_spec_l05OK K)], inl := [], lo := Sg.p_spec_l11Read_0 K :: Sg.p_spec_l11Read_1 K :: [], K := K, jo := ⟨9, 0, 6, 0, 8, none⟩ :: [], opn := [7, 21, 22, 39, 40] }
noncomputable def Sg.f_spec_DecodeBase : Fw.PFn := Fw.PFn.get Try.f4
noncomputable def Sg.i_spec_DecodeBase : List (Nat × Fw.PFn) := []
noncomputable def Sg.s_spec_DecodeBase (K : Nat) : Fw.Sig := { ins := [.val false .str], outs := [⟨true, (.pair (.sl (.pair (.sl (.int .i64)) (.sl (.pair .str (.int .i64))))) (.sl (.pair .str (.pair (.int .i64) (.pair (.int .i64) .bool))))), true⟩, ⟨false, (.int .i64), false⟩], F := fun x => R.spec_DecodeBase K x.1 }
noncomputable def Sg.c_spec_DecodeBase (K : Nat) : Fw.Cfg := { tab := Sg.tab, eqs := Sg.eqs, sig := [(9, Sg.s_spec_l11Read K)], inl := [], lo := [], K := K, jo := [], opn := [7, 21, 22, 39, 40] }
noncomputable def Sg.f_impl_isText : Fw.PFn := Fw.PFn.get Try.f10
noncomputable def Sg.i_impl_isText : List (Nat × Fw.PFn) := []
noncomputable def Sg.s_impl_isText (K : Nat) : Fw.Sig := { ins := [.val false .str], outs := [⟨false, .bool, false⟩], F := fun x => R.impl_isText K x.1 }
noncomputable def Sg.c_impl_isText (K : Nat) : Fw.Cfg := { tab := Sg.tab, eqs := Sg.eqs, sig := [], inl := [], lo := [], K := K, jo := [], opn := [7, 21, 22, 39, 40] }
noncomputable def Sg.f_internal_stringslite_HasPrefix : Fw.PFn := Fw.PFn.get Try.f31
noncomputable def Sg.i_internal_stringslite_HasPrefix : List (Nat × Fw.PFn) := []
noncomputable def Sg.s_internal_stringslite_HasPrefix (K : Nat) : Fw.Sig := { ins := [.val false .str, .val false .str], outs := [⟨false, .bool, false⟩], F := fun x => R.internal_stringslite_HasPrefix K x.1 x.2.1 }
noncomputable def Sg.c_internal_stringslite_HasPrefix (K : Nat) : Fw.Cfg := { tab := Sg.tab, eqs := Sg.eqs, sig := [], inl := [], lo := [], K := K, jo := [], opn := [7, 21, 22, 39, 40] }
noncomputable def Sg.f_strings_HasPrefix : Fw.PFn := Fw.PFn.get Try.f11
noncomputable def Sg.i_strings_HasPrefix : List (Nat × Fw.PFn) := []
noncomputable def Sg.s_strings_HasPrefix (K : Nat) : Fw.Sig := { ins := [.val false .str, .val false .str], outs := [⟨false, .bool, false⟩], F := fun x => R.strings_HasPrefix K x.1 x.2.1 }
noncomputable def Sg.c_strings_HasPrefix (K : Nat) : Fw.Cfg := { tab := Sg.tab, eqs := Sg.eqs, sig := [(31, Sg.s_internal_stringslite_HasPrefix K)], inl := [], lo := [], K := K, jo := [], opn := [7, 21, 22, 39, 40] }
def Sg.h_impl_reader_number_0 : Fw.StSh := ⟨[(0, (.ref 0 0)), (2, (.d (.int .i64))), (3, (.d (.int .i64))), (6, (.d (.int .i64)))], [(0, (.box [(.d .str), (.d (.int .i64)), (.d .bool)]))], 1, 72, ⟨0, []⟩⟩
def Sg.o_impl_reader_number_0 : Fw.StSh := ⟨[(0, (.ref 0 0)), (2, (.d (.int .i64)))], [(0, (.box [(.d .str), (.d (.int .i64)), (.d .bool)]))], 1, 72, ⟨0, []⟩⟩
def Sg.r_impl_reader_number_0 : Fw.StSh := ⟨[(2, (.d (.int .i64)))], [(0, (.box [(.d .str), (.d (.int .i64)), (.d .bool)]))], 1, 72, ⟨0, []⟩⟩
noncomputable def Sg.p_impl_reader_number_0 (K : Nat) : Fw.LSpec := { g := 15, b := 0, lv := 6, l0 := 1, li := 0, head := Sg.h_impl_reader_number_0, post := Sg.o_impl_reader_number_0, retn := Sg.r_impl_reader_number_0, ex := 0, L := R.L_impl_reader_number_0 K }
noncomputable def Sg.f_impl_reader_number : Fw.PFn := Fw.PFn.get Try.f15
noncomputable def Sg.i_impl_reader_number : List (Nat × Fw.PFn) := []
noncomputable def Sg.s_impl_reader_number (K : Nat) : Fw.Sig := { ins := [.ptr (.pair .str (.pair (.int .i64) .bool))], outs := [⟨false, (.int .i64), false⟩], F := fun x => R.impl_reader_number K x.1 }
noncomputable def Sg.c_impl_reader_number (K : Nat) : Fw.Cfg := { tab := Sg.tab, eqs := Sg.eqs, sig := [], inl := [], lo := Sg.p_impl_reader_number_0 K :: [], K := K, jo := ⟨15, 0, 6, 1, 5, none⟩ :: ⟨15, 0, 6, 1, 6, none⟩ :: [], opn := [7, 21, 22, 39, 40] }
noncomputable def Sg.f_impl_reader_few : Fw.PFn := Fw.PFn.get Try.f12
noncomputable def Sg.i_impl_reader_few : List (Nat × Fw.PFn) := []
noncomputable def Sg.s_impl_reader_few (K : Nat) : Fw.Sig := { ins := [.ptr (.pair .str (.pair (.int .i64) .bool)), .val false (.int .i64)], outs := [⟨false, (.int .i64), false⟩], F := fun x => R.impl_reader_few K x.1 x.2.1 }
noncomputable def Sg.c_impl_reader_few (K : Nat) : Fw.Cfg := { tab := Sg.tab, eqs := Sg.eqs, sig := [(15, Sg.s_impl_reader_number K)], inl := [], lo := [], K := K, jo := [], opn := [7, 21, 22, 39, 40] }
noncomputable def Sg.f_impl_reader_text : Fw.PFn := Fw.PFn.get Try.f14
noncomputable def Sg.i_impl_reader_text : List (Nat × Fw.PFn) := []
noncomputable def Sg.s_impl_reader_text (K : Nat) : Fw.Sig := { ins := [.ptr (.pair .str (.pair (.int .i64) .bool)), .val false (.int .i64)], outs := [⟨false, .str, false⟩], F := fun x => R.impl_reader_text K x.1 x.2.1 }
noncomputable def Sg.c_impl_reader_text (K : Nat) : Fw.Cfg := { tab := Sg.tab, eqs := Sg.eqs, sig := [(12, Sg.s_impl_reader_few K)], inl := [], lo := [], K := K, jo := ⟨14, 0, 6, 1, 2, none⟩ :: ⟨14, 0, 6, 1, 6, none⟩ :: [], opn := [7, 21, 22, 39, 40] }
noncomputable def Sg.f_impl_reader_value : Fw.PFn := Fw.PFn.get Try.f32
noncomputable def Sg.i_impl_reader_value : List (Nat × Fw.PFn) := []
noncomputable def Sg.s_impl_reader_value (K : Nat) : Fw.Sig := { ins := [.ptr (.pair .str (.pair (.int .i64) .bool))], outs := [⟨false, (.int .i64), false⟩], F := fun x => R.impl_reader_value K x.1 }
noncomputable def Sg.c_impl_reader_value (K : Nat) : Fw.Cfg := { tab := Sg.tab, eqs := Sg.eqs, sig := [(15, Sg.s_impl_reader_number K)], inl := [], lo := [], K := K, jo := [], opn := [7, 21, 22, 39, 40] }
def Sg.h_impl_reader_commit_0 : Fw.StSh := ⟨[(0, (.ref 0 0)), (2, (.ref 3 0)), (3, (.ref 6 0)), (6, (.d (.int .i64))), (7, (.d (.int .i64)))], [(0, (.box [(.d .str), (.d (.int .i64)), (.d .bool)])), (3, (.box [(.row 1), (.row 2)])), (6, (.box [(.row 4), (.row 5)])), (1, (.row (.int .i64) true)), (2, (.row (.pair .str (.int .i64)) true)), (4, (.row (.int .i64) true)), (5, (.row (.pair .str (.int .i64)) true))], 7, 34, ⟨0, []⟩⟩
def Sg.o_impl_reader_commit_0 : Fw.StSh := ⟨[(0, (.ref 0 0)), (2, (.ref 3 0)), (3, (.ref 6 0))], [(0, (.box [(.d .str), (.d (.int .i64)), (.d .bool)])), (3, (.box [(.row 1), (.row 2)])), (6, (.box [(.row 4), (.row 5)])), (1, (.row (.int .i64) true)), (2, (.row (.pair .str (.int .i64)) true)), (4, (.row (.int .i64) true)), (5, (.row (.pair .str (.int .i64)) true))], 7, 34, ⟨0, []⟩⟩
def Sg.r_impl_reader_commit_0 : Fw.StSh := ⟨[], [], 7, 34, ⟨0, []⟩⟩
noncomputable def Sg.p_impl_reader_commit_0 (K : Nat) : Fw.LSpec := { g := 13, b := 0, lv := 6, l0 := 1, li := 0, head := Sg.h_impl_reader_commit_0, post := Sg.o_impl_reader_commit_0, retn := Sg.r_impl_reader_commit_0, ex := 0, L := R.L_impl_reader_commit_0 K }
def Sg.h_impl_reader_commit_1 : Fw.StSh := ⟨[(0, (.ref 0 0)), (2, (.ref 3 0)), (3, (.ref 6 0)), (18, (.d (.int .i64))), (19, (.d (.int .i64)))], [(0, (.box [(.d .str), (.d (.int .i64)), (.d .bool)])), (3, (.box [(.row 1), (.row 2)])), (6, (.box [(.row 4), (.row 5)])), (1, (.row (.int .i64) true)), (2, (.row (.pair .str (.int .i64)) true)), (4, (.row (.int .i64) true)), (5, (.row (.pair .str (.int .i64)) true))], 7, 34, ⟨0, []⟩⟩
def Sg.o_impl_reader_commit_1 : Fw.StSh := ⟨[(2, (.ref 3 0)), (3, (.ref 6 0))], [(3, (.box [(.row 1), (.row 2)])), (6, (.box [(.row 4), (.row 5)])), (0, (.box [(.d .str), (.d (.int .i64)), (.d .bool)])), (1, (.row (.int .i64) true)), (2, (.row (.pair .str (.int .i64)) true)), (4, (.row (.int .i64) true)), (5, (.row (.pair .str (.int .i64)) true))], 7, 34, ⟨0, []⟩⟩
def Sg.r_impl_reader_commit_1 : Fw.StSh := ⟨[], [], 7, 34, ⟨0, []⟩⟩
noncomputable def Sg.p_impl_reader_commit_1 (K : Nat) : Fw.LSpec := { g := 13, b := 0, lv := 6, l0 := 1, li := 1, head := Sg.h_impl_reader_commit_1, post := Sg.o_impl_reader_commit_1, retn := Sg.r_impl_reader_commit_1, ex := 2, L := R.L_impl_reader_commit_1 K }
noncomputable def Sg.f_impl_reader_commit : Fw.PFn := Fw.PFn.get Try.f13
noncomputable def Sg.i_impl_reader_commit : List (Nat × Fw.PFn) := []
noncomputable def Sg.s_impl_reader_commit (K : Nat) : Fw.Sig := { ins := [.ptr (.pair .str (.pair (.int .i64) .bool))], outs := [⟨true, (.pair (.sl (.int .i64)) (.sl (.pair .str (.int .i64)))), true⟩], F := fun x => R.impl_reader_commit K x.1 }
noncomputable def Sg.c_impl_reader_commit (K : Nat) : Fw.Cfg := { tab := Sg.tab, eqs := Sg.eqs, sig := [(15, Sg.s_impl_reader_number K), (12, Sg.s_impl_reader_few K), (14, Sg.s_impl_reader_text K), (32, Sg.s_impl_reader_value K)], inl := [], lo := Sg.p_impl_reader_commit_0 K :: Sg.p_impl_reader_commit_1 K :: [], K := K, jo := ⟨13, 0, 6, 1, 4, none⟩ :: ⟨13, 0, 6, 1, 9, none⟩ :: [], opn := [7, 21, 22, 39, 40] }
noncomputable def Sg.f_impl_reader_ends : Fw.PFn := Fw.PFn.get Try.f16
noncomputable def Sg.i_impl_reader_ends : List (Nat × Fw.PFn) := []
noncomputable def Sg.s_impl_reader_ends (K : Nat) : Fw.Sig := { ins := [.ptr (.pair .str (.pair (.int .i64) .bool))], outs := [⟨false, .bool, false⟩], F := fun x => R.impl_reader_ends K x.1 }
noncomputable def Sg.c_impl_reader_ends (K : Nat) : Fw.Cfg := { tab := Sg.tab, eqs := Sg.eqs, sig := [], inl := [], lo := [], K := K, jo := ⟨16, 0, 6, 1, 1, none⟩ :: [], opn := [7, 21, 22, 39, 40] }
def Sg.h_impl_sumOf_0 : Fw.StSh := ⟨[(2, (.d (.int .i64))), (3, (.d (.int .i64))), (7, (.row 0)), (8, (.d (.int .i64))), (9, (.d (.int .i64)))], [(0, (.row (.int .u8) true))], 1, 22, ⟨0, []⟩⟩
def Sg.o_impl_sumOf_0 : Fw.StSh := ⟨[(2, (.d (.int .i64))), (3, (.d (.int .i64)))], [], 1, 22, ⟨0, []⟩⟩
def Sg.r_impl_sumOf_0 : Fw.StSh := ⟨[], [], 1, 22, ⟨0, []⟩⟩
noncomputable def Sg.p_impl_sumOf_0 (K : Nat) : Fw.LSpec := { g := 17, b := 0, lv := 6, l0 := 0, li := 0, head := Sg.h_impl_sumOf_0, post := Sg.o_impl_sumOf_0, retn := Sg.r_impl_sumOf_0, ex := 0, L := R.L_impl_sumOf_0 K }
noncomputable def Sg.f_impl_sumOf : Fw.PFn := Fw.PFn.get Try.f17
noncomputable def Sg.i_impl_sumOf : List (Nat × Fw.PFn) := []
noncomputable def Sg.s_impl_sumOf (K : Nat) : Fw.Sig := { ins := [.val false .str], outs := [⟨false, (.int .i64), false⟩], F := fun x => R.impl_sumOf K x.1 }
noncomputable def Sg.c_impl_sumOf (K : Nat) : Fw.Cfg := { tab := Sg.tab, eqs := Sg.eqs, sig := [], inl := [], lo := Sg.p_impl_sumOf_0 K :: [], K := K, jo := [], opn := [7, 21, 22, 39, 40] }
noncomputable def Sg.f_impl_isList_impl_Commit : Fw.PFn := Fw.PFn.get Try.f48
noncomputable def Sg.i_impl_isList_impl_Commit : List (Nat × Fw.PFn) := []
noncomputable def Sg.s_impl_isList_impl_Commit (K : Nat) : Fw.Sig := { ins := [.val false (.sl (.pair (.sl (.int .i64)) (.sl (.pair .str (.int .i64)))))], outs := [⟨false, .bool, false⟩], F := fun x => R.impl_isList_impl_Commit K x.1 }
noncomputable def Sg.c_impl_isList_impl_Commit (K : Nat) : Fw.Cfg := { tab := Sg.tab, eqs := Sg.eqs, sig := [], inl := [], lo := [], K := K, jo := [], opn := [7, 21, 22, 39, 40] }
noncomputable def Sg.f_impl_within : Fw.PFn := Fw.PFn.get Try.f62
noncomputable def Sg.i_impl_within : List (Nat × Fw.PFn) := []
noncomputable def Sg.s_impl_within (K : Nat) : Fw.Sig := { ins := [.val false (.int .i64), .val false (.int .i64), .val false (.int .i64)], outs := [⟨false, .bool, false⟩], F := fun x => R.impl_within K x.1 x.2.1 x.2.2.1 }
noncomputable def Sg.c_impl_within (K : Nat) : Fw.Cfg := { tab := Sg.tab, eqs := Sg.eqs, sig := [], inl := [], lo := [], K := K, jo := [], opn := [7, 21, 22, 39, 40] }
noncomputable def Sg.f_impl_isLetter : Fw.PFn := Fw.PFn.get Try.f73
noncomputable def Sg.i_impl_isLetter : List (Nat × Fw.PFn) := []
noncomputable def Sg.s_impl_isLetter (K : Nat) : Fw.Sig := { ins := [.val false (.int .u8)], outs := [⟨false, .bool, false⟩], F := fun x => R.impl_isLetter K x.1 }
noncomputable def Sg.c_impl_isLetter (K : Nat) : Fw.Cfg := { tab := Sg.tab, eqs := Sg.eqs, sig := [], inl := [], lo := [], K := K, jo := [], opn := [7, 21, 22, 39, 40] }
noncomputable def Sg.f_impl_areAll_byte_1 : Fw.PFn := Fw.PFn.get Try.f81
noncomputable def Sg.f_slices_IndexFunc_byte : Fw.PFn := Fw.PFn.get Try.f83
noncomputable def Sg.f_slices_ContainsFunc_byte : Fw.PFn := Fw.PFn.get Try.f80
noncomputable def Sg.f_impl_areAll_byte : Fw.PFn := Fw.PFn.get Try.f74
noncomputable def Sg.f_impl_isDigit : Fw.PFn := Fw.PFn.get Try.f76
noncomputable def Sg.i_impl_isDigit : List (Nat × Fw.PFn) := []
noncomputable def Sg.s_impl_isDigit (K : Nat) : Fw.Sig := { ins := [.val false (.int .u8)], outs := [⟨false, .bool, false⟩], F := fun x => R.impl_isDigit K x.1 }
noncomputable def Sg.c_impl_isDigit (K : Nat) : Fw.Cfg := { tab := Sg.tab, eqs := Sg.eqs, sig := [], inl := [], lo := [], K := K, jo := [], opn := [7, 21, 22, 39, 40] }
noncomputable def Sg.f_impl_NameOK_1 : Fw.PFn := Fw.PFn.get Try.f75
noncomputable def Sg.i_impl_NameOK_1 : List (Nat × Fw.PFn) := []
noncomputable def Sg.s_impl_NameOK_1 (K : Nat) : Fw.Sig := { ins := [.val false (.int .u8)], outs := [⟨false, .bool, false⟩], F := fun x => R.impl_NameOK_1 K x.1 }
noncomputable def Sg.c_impl_NameOK_1 (K : Nat) : Fw.Cfg := { tab := Sg.tab, eqs := Sg.eqs, sig := [(73, Sg.s_impl_isLetter K), (76, Sg.s_impl_isDigit K)], inl := [], lo := [], K := K, jo := [], opn := [7, 21, 22, 39, 40] }
def Sg.h_impl_areAll_byte__impl_NameOK_1_0 : Fw.StSh := ⟨[(0, (.d (.sl (.int .u8)))), (1, (.fn 75 [])), (3, (.ref 0 0)), (4, (.d .bool)), (5, (.d (.sl (.int .u8)))), (6, (.fn 81 [(.ref 0 0)])), (9, (.d (.sl (.int .u8)))), (10, (.fn 81 [(.ref 0 0)])), (13, (.d .bool)), (14, (.d (.sl (.int .u8)))), (15, (.fn 81 [(.ref 0 0)])), (18, (.d (.sl (.int .u8)))), (19, (.fn 81 [(.ref 0 0)])), (22, (.d (.int .i64))), (25, (.d (.int .i64))), (26, (.d (.int .i64)))], [(0, (.box [(.fn 75 [])]))], 1, 37, ⟨0, []⟩⟩
def Sg.o_impl_areAll_byte__impl_NameOK_1_0 : Fw.StSh := ⟨[(0, (.d (.sl (.int .u8)))), (1, (.fn 75 [])), (3, (.ref 0 0)), (4, (.d .bool)), (5, (.d (.sl (.int .u8)))), (6, (.fn 81 [(.ref 0 0)])), (9, (.d (.sl (.int .u8)))), (10, (.fn 81 [(.ref 0 0)])), (13, (.d .bool)), (14, (.d (.sl (.int .u8)))), (15, (.fn 81 [(.ref 0 0)])), (22, (.d (.int .i64)))], [(0, (.box [(.fn 75 [])]))], 1, 37, ⟨0, []⟩⟩
def Sg.r_impl_areAll_byte__impl_NameOK_1_0 : Fw.StSh := ⟨[(0, (.d (.sl (.int .u8)))), (1, (.fn 75 [])), (3, (.ref 0 0)), (4, (.d .bool)), (5, (.d (.sl (.int .u8)))), (6, (.fn 81 [(.ref 0 0)])), (9, (.d (.sl (.int .u8)))), (10, (.fn 81 [(.ref 0 0)])), (13, (.d .bool)), (14, (.d (.sl (.int .u8)))), (15, (.fn 81 [(.ref 0 0)])), (22, (.d (.int .i64)))], [(0, (.box [(.fn 75 [])]))], 1, 45, ⟨0, []⟩⟩
noncomputable def Sg.p_impl_areAll_byte__impl_NameOK_1_0 (K : Nat) : Fw.LSpec := { g := 83, b := 18, lv := 4, l0 := 1, li := 0, head := Sg.h_impl_areAll_byte__impl_NameOK_1_0, post := Sg.o_impl_areAll_byte__impl_NameOK_1_0, retn := Sg.r_impl_areAll_byte__impl_NameOK_1_0, ex := 0, L := R.L_impl_areAll_byte__impl_NameOK_1_0 K }
noncomputable def Sg.i_impl_areAll_byte__impl_NameOK_1 : List (Nat × Fw.PFn) := [(81, Sg.f_impl_areAll_byte_1), (83, Sg.f_slices_IndexFunc_byte), (80, Sg.f_slices_ContainsFunc_byte)]
noncomputable def Sg.s_impl_areAll_byte__impl_NameOK_1 (K : Nat) : Fw.Sig := { ins := [.val false (.sl (.int .u8)), .fn 75 []], outs := [⟨false, .bool, false⟩], F := fun x => R.impl_areAll_byte__impl_NameOK_1 K x.1 }
noncomputable def Sg.c_impl_areAll_byte__impl_NameOK_1 (K : Nat) : Fw.Cfg := { tab := Sg.tab, eqs := Sg.eqs, sig := [(75, Sg.s_impl_NameOK_1 K)], inl := [(81, Try.f81), (83, Try.f83), (80, Try.f80)], lo := Sg.p_impl_areAll_byte__impl_NameOK_1_0 K :: [], K := K, jo := [], opn := [7, 21, 22, 39, 40] }
noncomputable def Sg.f_impl_NameOK : Fw.PFn := Fw.PFn.get Try.f61
noncomputable def Sg.i_impl_NameOK : List (Nat × Fw.PFn) := [(81, Sg.f_impl_areAll_byte_1), (83, Sg.f_slices_IndexFunc_byte), (80, Sg.f_slices_ContainsFunc_byte), (74, Sg.f_impl_areAll_byte)]
noncomputable def Sg.s_impl_NameOK (K : Nat) : Fw.Sig := { ins := [.val false .str], outs := [⟨false, .bool, false⟩], F := fun x => R.impl_NameOK K x.1 }
noncomputable def Sg.c_impl_NameOK (K : Nat) : Fw.Cfg := { tab := Sg.tab, eqs := Sg.eqs, sig := [(62, Sg.s_impl_within K), (73, Sg.s_impl_isLetter K), (75, Sg.s_impl_NameOK_1 K), (74, Sg.s_impl_areAll_byte__impl_NameOK_1 K)], inl := [(81, Try.f81), (83, Try.f83), (80, Try.f80), (74, Try.f74)], lo := [], K := K, jo := [], opn := [7, 21, 22, 39, 40] }
noncomputable def Sg.f_impl_isValue : Fw.PFn := Fw.PFn.get Try.f77
noncomputable def Sg.i_impl_isValue : List (Nat × Fw.PFn) := []
noncomputable def Sg.s_impl_isValue (K : Nat) : Fw.Sig := { ins := [.val false (.int .i64)], outs := [⟨false, .bool, false⟩], F := fun x => R.impl_isValue K x.1 }
noncomputable def Sg.c_impl_isValue (K : Nat) : Fw.Cfg := { tab := Sg.tab, eqs := Sg.eqs, sig := [(62, Sg.s_impl_within K)], inl := [], lo := [], K := K, jo := [], opn := [7, 21, 22, 39, 40] }
def Sg.h_impl_MapOK_0 : Fw.StSh := ⟨[(0, (.d (.sl (.pair .str (.int .i64))))), (2, (.d .bool)), (5, (.d (.sl (.pair .str (.int .i64))))), (6, (.d (.int .i64))), (7, (.d (.int .i64)))], [], 0, 41, ⟨0, []⟩⟩
def Sg.o_impl_MapOK_0 : Fw.StSh := ⟨[(0, (.d (.sl (.pair .str (.int .i64))))), (2, (.d .bool))], [], 0, 41, ⟨0, []⟩⟩
def Sg.r_impl_MapOK_0 : Fw.StSh := ⟨[(2, (.d .bool))], [], 1, 41, ⟨0, []⟩⟩
noncomputable def Sg.p_impl_MapOK_0 (K : Nat) : Fw.LSpec := { g := 70, b := 0, lv := 6, l0 := 0, li := 0, head := Sg.h_impl_MapOK_0, post := Sg.o_impl_MapOK_0, retn := Sg.r_impl_MapOK_0, ex := 0, L := R.L_impl_MapOK_0 K }
noncomputable def Sg.f_impl_MapOK : Fw.PFn := Fw.PFn.get Try.f70
noncomputable def Sg.i_impl_MapOK : List (Nat × Fw.PFn) := []
noncomputable def Sg.s_impl_MapOK (K : Nat) : Fw.Sig := { ins := [.val false (.sl (.pair .str (.int .i64)))], outs := [⟨false, .bool, false⟩], F := fun x => R.impl_MapOK K x.1 }
noncomputable def Sg.c_impl_MapOK (K : Nat) : Fw.Cfg := { tab := Sg.tab, eqs := Sg.eqs, sig := [(61, Sg.s_impl_NameOK K), (77, Sg.s_impl_isValue K)], inl := [], lo := Sg.p_impl_MapOK_0 K :: [], K := K, jo := ⟨70, 0, 6, 0, 4, none⟩ :: [], opn := [7, 21, 22, 39, 40] }
noncomputable def Sg.f_impl_Commit_isAt_1 : Fw.PFn := Fw.PFn.get Try.f72
noncomputable def Sg.f_impl_areAll_int_1 : Fw.PFn := Fw.PFn.get Try.f79
noncomputable def Sg.f_slices_IndexFunc_int : Fw.PFn := Fw.PFn.get Try.f82
noncomputable def Sg.f_slices_ContainsFunc_int : Fw.PFn := Fw.PFn.get Try.f78
noncomputable def Sg.f_impl_areAll_int : Fw.PFn := Fw.PFn.get Try.f71
def Sg.h_impl_areAll_int__impl_Commit_isAt_1_0 : Fw.StSh := ⟨[(0, (.d (.sl (.int .i64)))), (1, (.fn 72 [(.dref (.int .i64) 0)])), (3, (.ref 0 0)), (4, (.d .bool)), (5, (.d (.sl (.int .i64)))), (6, (.fn 79 [(.ref 0 0)])), (9, (.d (.sl (.int .i64)))), (10, (.fn 79 [(.ref 0 0)])), (13, (.d .bool)), (14, (.d (.sl (.int .i64)))), (15, (.fn 79 [(.ref 0 0)])), (18, (.d (.sl (.int .i64)))), (19, (.fn 79 [(.ref 0 0)])), (22, (.d (.int .i64))), (25, (.d (.int .i64))), (26, (.d (.int .i64)))], [(0, (.box [(.fn 72 [(.dref (.int .i64) 0)])]))], 1, 37, ⟨0, []⟩⟩
def Sg.o_impl_areAll_int__impl_Commit_isAt_1_0 : Fw.StSh := ⟨[(0, (.d (.sl (.int .i64)))), (1, (.fn 72 [(.dref (.int .i64) 0)])), (3, (.ref 0 0)), (4, (.d .bool)), (5, (.d (.sl (.int .i64)))), (6, (.fn 79 [(.ref 0 0)])), (9, (.d (.sl (.int .i64)))), (10, (.fn 79 [(.ref 0 0)])), (13, (.d .bool)), (14, (.d (.sl (.int .i64)))), (15, (.fn 79 [(.ref 0 0)])), (22, (.d (.int .i64)))], [(0, (.box [(.fn 72 [(.dref (.int .i64) 0)])]))], 1, 37, ⟨0, []⟩⟩
def Sg.r_impl_areAll_int__impl_Commit_isAt_1_0 : Fw.StSh := ⟨[(0, (.d (.sl (.int .i64)))), (1, (.fn 72 [(.dref (.int .i64) 0)])), (3, (.ref 0 0)), (4, (.d .bool)), (5, (.d (.sl (.int .i64)))), (6, (.fn 79 [(.ref 0 0)])), (9, (.d (.sl (.int .i64)))), (10, (.fn 79 [(.ref 0 0)])), (13, (.d .bool)), (14, (.d (.sl (.int .i64)))), (15, (.fn 79 [(.ref 0 0)])), (22, (.d (.int .i64)))], [(0, (.box [(.fn 72 [(.dref (.int .i64) 0)])]))], 1, 53, ⟨0, []⟩⟩
noncomputable def Sg.p_impl_areAll_int__impl_Commit_isAt_1_0 (K : Nat) : Fw.LSpec := { g := 82, b := 18, lv := 4, l0 := 1, li := 0, head := Sg.h_impl_areAll_int__impl_Commit_isAt_1_0, post := Sg.o_impl_areAll_int__impl_Commit_isAt_1_0, retn := Sg.r_impl_areAll_int__impl_Commit_isAt_1_0, ex := 0, L := R.L_impl_areAll_int__impl_Commit_isAt_1_0 K }
noncomputable def Sg.i_impl_areAll_int__impl_Commit_isAt_1 : List (Nat × Fw.PFn) := [(72, Sg.f_impl_Commit_isAt_1), (79, Sg.f_impl_areAll_int_1), (82, Sg.f_slices_IndexFunc_int), (78, Sg.f_slices_ContainsFunc_int)]
noncomputable def Sg.s_impl_areAll_int__impl_Commit_isAt_1 (K : Nat) : Fw.Sig := { ins := [.val false (.sl (.int .i64)), .fn 72 [(.int .i64)]], outs := [⟨false, .bool, false⟩], F := fun x => R.impl_areAll_int__impl_Commit_isAt_1 K x.1 x.2.1.1 }
noncomputable def Sg.c_impl_areAll_int__impl_Commit_isAt_1 (K : Nat) : Fw.Cfg := { tab := Sg.tab, eqs := Sg.eqs, sig := [(62, Sg.s_impl_within K)], inl := [(72, Try.f72), (79, Try.f79), (82, Try.f82), (78, Try.f78)], lo := Sg.p_impl_areAll_int__impl_Commit_isAt_1_0 K :: [], K := K, jo := [], opn := [7, 21, 22, 39, 40] }
noncomputable def Sg.f_impl_Commit_isAt : Fw.PFn := Fw.PFn.get Try.f60
noncomputable def Sg.i_impl_Commit_isAt : List (Nat × Fw.PFn) := [(72, Sg.f_impl_Commit_isAt_1), (79, Sg.f_impl_areAll_int_1), (82, Sg.f_slices_IndexFunc_int), (78, Sg.f_slices_ContainsFunc_int), (71, Sg.f_impl_areAll_int)]
noncomputable def Sg.s_impl_Commit_isAt (K : Nat) : Fw.Sig := { ins := [.val true (.pair (.sl (.int .i64)) (.sl (.pair .str (.int .i64)))), .val false (.int .i64)], outs := [⟨false, .bool, false⟩], F := fun x => R.impl_Commit_isAt K x.1 x.2.1 }
noncomputable def Sg.c_impl_Commit_isAt (K : Nat) : Fw.Cfg := { tab := Sg.tab, eqs := Sg.eqs, sig := [(62, Sg.s_impl_within K), (70, Sg.s_impl_MapOK K), (71, Sg.s_impl_areAll_int__impl_Commit_isAt_1 K)], inl := [(72, Try.f72), (79, Try.f79), (82, Try.f82), (78, Try.f78), (71, Try.f71)], lo := [], K := K, jo := ⟨60, 0, 6, 0, 2, none⟩ :: [], opn := [7, 21, 22, 39, 40] }
def Sg.h_impl_areCommits_0 : Fw.StSh := ⟨[(0, (.d (.sl (.pair (.sl (.int .i64)) (.sl (.pair .str (.int .i64))))))), (2, (.d .bool)), (5, (.d (.sl (.pair (.sl (.int .i64)) (.sl (.pair .str (.int .i64))))))), (6, (.d (.int .i64))), (7, (.d (.int .i64)))], [], 0, 21, ⟨0, []⟩⟩
def Sg.o_impl_areCommits_0 : Fw.StSh := ⟨[(0, (.d (.sl (.pair (.sl (.int .i64)) (.sl (.pair .str (.int .i64))))))), (2, (.d .bool))], [], 0, 21, ⟨0, []⟩⟩
def Sg.r_impl_areCommits_0 : Fw.StSh := ⟨[(2, (.d .bool))], [], 3, 21, ⟨0, []⟩⟩
noncomputable def Sg.p_impl_areCommits_0 (K : Nat) : Fw.LSpec := { g := 49, b := 0, lv := 6, l0 := 0, li := 0, head := Sg.h_impl_areCommits_0, post := Sg.o_impl_areCommits_0, retn := Sg.r_impl_areCommits_0, ex := 0, L := R.L_impl_areCommits_0 K }
noncomputable def Sg.f_impl_areCommits : Fw.PFn := Fw.PFn.get Try.f49
noncomputable def Sg.i_impl_areCommits : List (Nat × Fw.PFn) := []
noncomputable def Sg.s_impl_areCommits (K : Nat) : Fw.Sig := { ins := [.val false (.sl (.pair (.sl (.int .i64)) (.sl (.pair .str (.int .i64)))))], outs := [⟨false, .bool, false⟩], F := fun x => R.impl_areCommits K x.1 }
noncomputable def Sg.c_impl_areCommits (K : Nat) : Fw.Cfg := { tab := Sg.tab, eqs := Sg.eqs, sig := [(60, Sg.s_impl_Commit_isAt K)], inl := [], lo := Sg.p_impl_areCommits_0 K :: [], K := K, jo := [], opn := [7, 21, 22, 39, 40] }
noncomputable def Sg.f_impl_StoreOK : Fw.PFn := Fw.PFn.get Try.f33
noncomputable def Sg.i_impl_StoreOK : List (Nat × Fw.PFn) := []
noncomputable def Sg.s_impl_StoreOK (K : Nat) : Fw.Sig := { ins := [.val false (.sl (.pair (.sl (.int .i64)) (.sl (.pair .str (.int .i64)))))], outs := [⟨false, .bool, false⟩], F := fun x => R.impl_StoreOK K x.1 }
noncomputable def Sg.c_impl_StoreOK (K : Nat) : Fw.Cfg := { tab := Sg.tab, eqs := Sg.eqs, sig := [(48, Sg.s_impl_isList_impl_Commit K), (49, Sg.s_impl_areCommits K)], inl := [], lo := [], K := K, jo := [], opn := [7, 21, 22, 39, 40] }
noncomputable def Sg.f_impl_areAll_impl_Ref_1 : Fw.PFn := Fw.PFn.get Try.f53
noncomputable def Sg.f_slices_IndexFunc_impl_Ref : Fw.PFn := Fw.PFn.get Try.f64
noncomputable def Sg.f_slices_ContainsFunc_impl_Ref : Fw.PFn := Fw.PFn.get Try.f52
noncomputable def Sg.f_impl_areAll_impl_Ref : Fw.PFn := Fw.PFn.get Try.f35
noncomputable def Sg.f_impl_isHead : Fw.PFn := Fw.PFn.get Try.f63
noncomputable def Sg.i_impl_isHead : List (Nat × Fw.PFn) := []
noncomputable def Sg.s_impl_isHead (K : Nat) : Fw.Sig := { ins := [.val false (.int .i64)], outs := [⟨false, .bool, false⟩], F := fun x => R.impl_isHead K x.1 }
noncomputable def Sg.c_impl_isHead (K : Nat) : Fw.Cfg := { tab := Sg.tab, eqs := Sg.eqs, sig := [(62, Sg.s_impl_within K)], inl := [], lo := [], K := K, jo := [], opn := [7, 21, 22, 39, 40] }
noncomputable def Sg.f_impl_isRef : Fw.PFn := Fw.PFn.get Try.f50
noncomputable def Sg.i_impl_isRef : List (Nat × Fw.PFn) := []
noncomputable def Sg.s_impl_isRef (K : Nat) : Fw.Sig := { ins := [.val true (.pair .str (.pair (.int .i64) (.pair (.int .i64) .bool)))], outs := [⟨false, .bool, false⟩], F := fun x => R.impl_isRef K x.1 }
noncomputable def Sg.c_impl_isRef (K : Nat) : Fw.Cfg := { tab := Sg.tab, eqs := Sg.eqs, sig := [(62, Sg.s_impl_within K), (61, Sg.s_impl_NameOK K), (63, Sg.s_impl_isHead K)], inl := [], lo := [], K := K, jo := [], opn := [7, 21, 22, 39, 40] }
noncomputable def Sg.f_impl_place_1 : Fw.PFn := Fw.PFn.get Try.f65
def Sg.h_slices_IndexFunc_impl_Ref__impl_place_1_0 : Fw.StSh := ⟨[(0, (.d (.sl (.pair .str (.pair (.int .i64) (.pair (.int .i64) .bool)))))), (1, (.fn 65 [(.dref .str 0)])), (4, (.d (.int .i64))), (7, (.d (.int .i64))), (8, (.d (.int .i64)))], [], 0, 19, ⟨0, []⟩⟩
def Sg.o_slices_IndexFunc_impl_Ref__impl_place_1_0 : Fw.StSh := ⟨[(4, (.d (.int .i64)))], [], 0, 19, ⟨0, []⟩⟩
def Sg.r_slices_IndexFunc_impl_Ref__impl_place_1_0 : Fw.StSh := ⟨[(4, (.d (.int .i64)))], [], 1, 27, ⟨0, []⟩⟩
noncomputable def Sg.p_slices_IndexFunc_impl_Ref__impl_place_1_0 (K : Nat) : Fw.LSpec := { g := 64, b := 0, lv := 6, l0 := 0, li := 0, head := Sg.h_slices_IndexFunc_impl_Ref__impl_place_1_0, post := Sg.o_slices_IndexFunc_impl_Ref__impl_place_1_0, retn := Sg.r_slices_IndexFunc_impl_Ref__impl_place_1_0, ex := 0, L := R.L_slices_IndexFunc_impl_Ref__impl_place_1_0 K }
noncomputable def Sg.i_slices_IndexFunc_impl_Ref__impl_place_1 : List (Nat × Fw.PFn) := [(65, Sg.f_impl_place_1)]
noncomputable def Sg.s_slices_IndexFunc_impl_Ref__impl_place_1 (K : Nat) : Fw.Sig := { ins := [.val false (.sl (.pair .str (.pair (.int .i64) (.pair (.int .i64) .bool)))), .fn 65 [.str]], outs := [⟨false, (.int .i64), false⟩], F := fun x => R.slices_IndexFunc_impl_Ref__impl_place_1 K x.1 x.2.1.1 }
noncomputable def Sg.c_slices_IndexFunc_impl_Ref__impl_place_1 (K : Nat) : Fw.Cfg := { tab := Sg.tab, eqs := Sg.eqs, sig := [], inl := [(65, Try.f65)], lo := Sg.p_slices_IndexFunc_impl_Ref__impl_place_1_0 K :: [], K := K, jo := [], opn := [7, 21, 22, 39, 40] }
noncomputable def Sg.f_impl_place : Fw.PFn := Fw.PFn.get Try.f51
noncomputable def Sg.i_impl_place : List (Nat × Fw.PFn) := [(64, Sg.f_slices_IndexFunc_impl_Ref), (65, Sg.f_impl_place_1)]
noncomputable def Sg.s_impl_place (K : Nat) : Fw.Sig := { ins := [.val false (.sl (.pair .str (.pair (.int .i64) (.pair (.int .i64) .bool)))), .val false .str], outs := [⟨false, (.int .i64), false⟩], F := fun x => R.impl_place K x.1 x.2.1 }
noncomputable def Sg.c_impl_place (K : Nat) : Fw.Cfg := { tab := Sg.tab, eqs := Sg.eqs, sig := [(64, Sg.s_slices_IndexFunc_impl_Ref__impl_place_1 K)], inl := [(64, Try.f64), (65, Try.f65)], lo := [], K := K, jo := [], opn := [7, 21, 22, 39, 40] }
def Sg.h_impl_areAll_impl_Ref__impl_isRef_0 : Fw.StSh := ⟨[(0, (.d (.sl (.pair .str (.pair (.int .i64) (.pair (.int .i64) .bool)))))), (1, (.fn 50 [])), (3, (.ref 0 0)), (4, (.d .bool)), (5, (.d (.sl (.pair .str (.pair (.int .i64) (.pair (.int .i64) .bool)))))), (6, (.fn 53 [(.ref 0 0)])), (9, (.d (.sl (.pair .str (.pair (.int .i64) (.pair (.int .i64) .bool)))))), (10, (.fn 53 [(.ref 0 0)])), (13, (.d .bool)), (14, (.d (.sl (.pair .str (.pair (.int .i64) (.pair (.int .i64) .bool)))))), (15, (.fn 53 [(.ref 0 0)])), (18, (.d (.sl (.pair .str (.pair (.int .i64) (.pair (.int .i64) .bool)))))), (19, (.fn 53 [(.ref 0 0)])), (22, (.d (.int .i64))), (25, (.d (.int .i64))), (26, (.d (.int .i64)))], [(0, (.box [(.fn 50 [])]))], 1, 37, ⟨0, []⟩⟩
def Sg.o_impl_areAll_impl_Ref__impl_isRef_0 : Fw.StSh := ⟨[(0, (.d (.sl (.pair .str (.pair (.int .i64) (.pair (.int .i64) .bool)))))), (1, (.fn 50 [])), (3, (.ref 0 0)), (4, (.d .bool)), (5, (.d (.sl (.pair .str (.pair (.int .i64) (.pair (.int .i64) .bool)))))), (6, (.fn 53 [(.ref 0 0)])), (9, (.d (.sl (.pair .str (.pair (.int .i64) (.pair (.int .i64) .bool)))))), (10, (.fn 53 [(.ref 0 0)])), (13, (.d .bool)), (14, (.d (.sl (.pair .str (.pair (.int .i64) (.pair (.int .i64) .bool)))))), (15, (.fn 53 [(.ref 0 0)])), (22, (.d (.int .i64)))], [(0, (.box [(.fn 50 [])]))], 1, 37, ⟨0, []⟩⟩
def Sg.r_impl_areAll_impl_Ref__impl_isRef_0 : Fw.StSh := ⟨[(0, (.d (.sl (.pair .str (.pair (.int .i64) (.pair (.int .i64) .bool)))))), (1, (.fn 50 [])), (3, (.ref 0 0)), (4, (.d .bool)), (5, (.d (.sl (.pair .str (.pair (.int .i64) (.pair (.int .i64) .bool)))))), (6, (.fn 53 [(.ref 0 0)])), (9, (.d (.sl (.pair .str (.pair (.int .i64) (.pair (.int .i64) .bool)))))), (10, (.fn 53 [(.ref 0 0)])), (13, (.d .bool)), (14, (.d (.sl (.pair .str (.pair (.int .i64) (.pair (.int .i64) .bool)))))), (15, (.fn 53 [(.ref 0 0)])), (22, (.d (.int .i64)))], [(0, (.box [(.fn 50 [])]))], 2, 45, ⟨0, []⟩⟩
noncomputable def Sg.p_impl_areAll_impl_Ref__impl_isRef_0 (K : Nat) : Fw.LSpec := { g := 64, b := 18, lv := 4, l0 := 1, li := 0, head := Sg.h_impl_areAll_impl_Ref__impl_isRef_0, post := Sg.o_impl_areAll_impl_Ref__impl_isRef_0, retn := Sg.r_impl_areAll_impl_Ref__impl_isRef_0, ex := 0, L := R.L_impl_areAll_impl_Ref__impl_isRef_0 K }
noncomputable def Sg.i_impl_areAll_impl_Ref__impl_isRef : List (Nat × Fw.PFn) := [(53, Sg.f_impl_areAll_impl_Ref_1), (64, Sg.f_slices_IndexFunc_impl_Ref), (52, Sg.f_slices_ContainsFunc_impl_Ref)]
noncomputable def Sg.s_impl_areAll_impl_Ref__impl_isRef (K : Nat) : Fw.Sig := { ins := [.val false (.sl (.pair .str (.pair (.int .i64) (.pair (.int .i64) .bool)))), .fn 50 []], outs := [⟨false, .bool, false⟩], F := fun x => R.impl_areAll_impl_Ref__impl_isRef K x.1 }
noncomputable def Sg.c_impl_areAll_impl_Ref__impl_isRef (K : Nat) : Fw.Cfg := { tab := Sg.tab, eqs := Sg.eqs, sig := [(50, Sg.s_impl_isRef K)], inl := [(53, Try.f53), (64, Try.f64), (52, Try.f52)], lo := Sg.p_impl_areAll_impl_Ref__impl_isRef_0 K :: [], K := K, jo := [], opn := [7, 21, 22, 39, 40] }
def Sg.h_impl_RefsOK_0 : Fw.StSh := ⟨[(0, (.d (.sl (.pair .str (.pair (.int .i64) (.pair (.int .i64) .bool)))))), (2, (.d .bool)), (13, (.d (.sl (.pair .str (.pair (.int .i64) (.pair (.int .i64) .bool)))))), (14, (.d (.int .i64))), (15, (.d (.int .i64)))], [], 0, 28, ⟨0, []⟩⟩
def Sg.o_impl_RefsOK_0 : Fw.StSh := ⟨[(2, (.d .bool))], [], 0, 28, ⟨0, []⟩⟩
def Sg.r_impl_RefsOK_0 : Fw.StSh := ⟨[(2, (.d .bool))], [], 1, 28, ⟨0, []⟩⟩
noncomputable def Sg.p_impl_RefsOK_0 (K : Nat) : Fw.LSpec := { g := 34, b := 0, lv := 6, l0 := 0, li := 0, head := Sg.h_impl_RefsOK_0, post := Sg.o_impl_RefsOK_0, retn := Sg.r_impl_RefsOK_0, ex := 0, L := R.L_impl_RefsOK_0 K }
noncomputable def Sg.f_impl_RefsOK : Fw.PFn := Fw.PFn.get Try.f34
noncomputable def Sg.i_impl_RefsOK : List (Nat × Fw.PFn) := [(53, Sg.f_impl_areAll_impl_Ref_1), (64, Sg.f_slices_IndexFunc_impl_Ref), (52, Sg.f_slices_ContainsFunc_impl_Ref), (35, Sg.f_impl_areAll_impl_Ref)]
noncomputable def Sg.s_impl_RefsOK (K : Nat) : Fw.Sig := { ins := [.val false (.sl (.pair .str (.pair (.int .i64) (.pair (.int .i64) .bool))))], outs := [⟨false, .bool, false⟩], F := fun x => R.impl_RefsOK K x.1 }
noncomputable def Sg.c_impl_RefsOK (K : Nat) : Fw.Cfg := { tab := Sg.tab, eqs := Sg.eqs, sig := [(50, Sg.s_impl_isRef K), (51, Sg.s_impl_place K), (35, Sg.s_impl_areAll_impl_Ref__impl_isRef K)], inl := [(53, Try.f53), (64, Try.f64), (52, Try.f52), (35, Try.f35)], lo := Sg.p_impl_RefsOK_0 K :: [], K := K, jo := ⟨34, 0, 6, 0, 6, none⟩ :: [], opn := [7, 21, 22, 39, 40] }
noncomputable def Sg.f_impl_BaseOK_1 : Fw.PFn := Fw.PFn.get Try.f36
def Sg.h_impl_areAll_impl_Ref__impl_BaseOK_1_0 : Fw.StSh := ⟨[(0, (.d (.sl (.pair .str (.pair (.int .i64) (.pair (.int .i64) .bool)))))), (1, (.fn 36 [(.dref (.pair (.sl (.pair (.sl (.int .i64)) (.sl (.pair .str (.int .i64))))) (.sl (.pair .str (.pair (.int .i64) (.pair (.int .i64) .bool))))) 0)])), (3, (.ref 0 0)), (4, (.d .bool)), (5, (.d (.sl (.pair .str (.pair (.int .i64) (.pair (.int .i64) .bool)))))), (6, (.fn 53 [(.ref 0 0)])), (9, (.d (.sl (.pair .str (.pair (.int .i64) (.pair (.int .i64) .bool)))))), (10, (.fn 53 [(.ref 0 0)])), (13, (.d .bool)), (14, (.d (.sl (.pair .str (.pair (.int .i64) (.pair (.int .i64) .bool)))))), (15, (.fn 53 [(.ref 0 0)])), (18, (.d (.sl (.pair .str (.pair (.int .i64) (.pair (.int .i64) .bool)))))), (19, (.fn 53 [(.ref 0 0)])), (22, (.d (.int .i64))), (25, (.d (.int .i64))), (26, (.d (.int .i64)))], [(0, (.box [(.fn 36 [(.dref (.pair (.sl (.pair (.sl (.int .i64)) (.sl (.pair .str (.int .i64))))) (.sl (.pair .str (.pair (.int .i64) (.pair (.int .i64) .bool))))) 0)])]))], 1, 37, ⟨0, []⟩⟩
def Sg.o_impl_areAll_impl_Ref__impl_BaseOK_1_0 : Fw.StSh := ⟨[(0, (.d (.sl (.pair .str (.pair (.int .i64) (.pair (.int .i64) .bool)))))), (1, (.fn 36 [(.dref (.pair (.sl (.pair (.sl (.int .i64)) (.sl (.pair .str (.int .i64))))) (.sl (.pair .str (.pair (.int .i64) (.pair (.int .i64) .bool))))) 0)])), (3, (.ref 0 0)), (4, (.d .bool)), (5, (.d (.sl (.pair .str (.pair (.int .i64) (.pair (.int .i64) .bool)))))), (6, (.fn 53 [(.ref 0 0)])), (9, (.d (.sl (.pair .str (.pair (.int .i64) (.pair (.int .i64) .bool)))))), (10, (.fn 53 [(.ref 0 0)])), (13, (.d .bool)), (14, (.d (.sl (.pair .str (.pair (.int .i64) (.pair (.int .i64) .bool)))))), (15, (.fn 53 [(.ref 0 0)])), (22, (.d (.int .i64)))], [(0, (.box [(.fn 36 [(.dref (.pair (.sl (.pair (.sl (.int .i64)) (.sl (.pair .str (.int .i64))))) (.sl (.pair .str (.pair (.int .i64) (.pair (.int .i64) .bool))))) 0)])]))], 1, 37, ⟨0, []⟩⟩
def Sg.r_impl_areAll_impl_Ref__impl_BaseOK_1_0 : Fw.StSh := ⟨[(0, (.d (.sl (.pair .str (.pair (.int .i64) (.pair (.int .i64) .bool)))))), (1, (.fn 36 [(.dref (.pair (.sl (.pair (.sl (.int .i64)) (.sl (.pair .str (.int .i64))))) (.sl (.pair .str (.pair (.int .i64) (.pair (.int .i64) .bool))))) 0)])), (3, (.ref 0 0)), (4, (.d .bool)), (5, (.d (.sl (.pair .str (.pair (.int .i64) (.pair (.int .i64) .bool)))))), (6, (.fn 53 [(.ref 0 0)])), (9, (.d (.sl (.pair .str (.pair (.int .i64) (.pair (.int .i64) .bool)))))), (10, (.fn 53 [(.ref 0 0)])), (13, (.d .bool)), (14, (.d (.sl (.pair .str (.pair (.int .i64) (.pair (.int .i64) .bool)))))), (15, (.fn 53 [(.ref 0 0)])), (22, (.d (.int .i64)))], [(0, (.box [(.fn 36 [(.dref (.pair (.sl (.pair (.sl (.int .i64)) (.sl (.pair .str (.int .i64))))) (.sl (.pair .str (.pair (.int .i64) (.pair (.int .i64) .bool))))) 0)])]))], 3, 55, ⟨0, []⟩⟩
noncomputable def Sg.p_impl_areAll_impl_Ref__impl_BaseOK_1_0 (K : Nat) : Fw.LSpec := { g := 64, b := 18, lv := 4, l0 := 1, li := 0, head := Sg.h_impl_areAll_impl_Ref__impl_BaseOK_1_0, post := Sg.o_impl_areAll_impl_Ref__impl_BaseOK_1_0, retn := Sg.r_impl_areAll_impl_Ref__impl_BaseOK_1_0, ex := 0, L := R.L_impl_areAll_impl_Ref__impl_BaseOK_1_0 K }
noncomputable def Sg.i_impl_areAll_impl_Ref__impl_BaseOK_1 : List (Nat × Fw.PFn) := [(53, Sg.f_impl_areAll_impl_Ref_1), (64, Sg.f_slices_IndexFunc_impl_Ref), (52, Sg.f_slices_ContainsFunc_impl_Ref), (36, Sg.f_impl_BaseOK_1)]
noncomputable def Sg.s_impl_areAll_impl_Ref__impl_BaseOK_1 (K : Nat) : Fw.Sig := { ins := [.val false (.sl (.pair .str (.pair (.int .i64) (.pair (.int .i64) .bool)))), .fn 36 [(.pair (.sl (.pair (.sl (.int .i64)) (.sl (.pair .str (.int .i64))))) (.sl (.pair .str (.pair (.int .i64) (.pair (.int .i64) .bool)))))]], outs := [⟨false, .bool, false⟩], F := fun x => R.impl_areAll_impl_Ref__impl_BaseOK_1 K x.1 x.2.1.1 }
noncomputable def Sg.c_impl_areAll_impl_Ref__impl_BaseOK_1 (K : Nat) : Fw.Cfg := { tab := Sg.tab, eqs := Sg.eqs, sig := [], inl := [(53, Try.f53), (64, Try.f64), (52, Try.f52), (36, Try.f36)], lo := Sg.p_impl_areAll_impl_Ref__impl_BaseOK_1_0 K :: [], K := K, jo := [], opn := [7, 21, 22, 39, 40] }
noncomputable def Sg.f_impl_BaseOK : Fw.PFn := Fw.PFn.get Try.f18
noncomputable def Sg.i_impl_BaseOK : List (Nat × Fw.PFn) := [(53, Sg.f_impl_areAll_impl_Ref_1), (64, Sg.f_slices_IndexFunc_impl_Ref), (52, Sg.f_slices_ContainsFunc_impl_Ref), (35, Sg.f_impl_areAll_impl_Ref), (36, Sg.f_impl_BaseOK_1)]
noncomputable def Sg.s_impl_BaseOK (K : Nat) : Fw.Sig := { ins := [.val true (.pair (.sl (.pair (.sl (.int .i64)) (.sl (.pair .str (.int .i64))))) (.sl (.pair .str (.pair (.int .i64) (.pair (.int .i64) .bool)))))], outs := [⟨false, .bool, false⟩], F := fun x => R.impl_BaseOK K x.1 }
noncomputable def Sg.c_impl_BaseOK (K : Nat) : Fw.Cfg := { tab := Sg.tab, eqs := Sg.eqs, sig := [(33, Sg.s_impl_StoreOK K), (34, Sg.s_impl_RefsOK K), (35, Sg.s_impl_areAll_impl_Ref__impl_BaseOK_1 K)], inl := [(53, Try.f53), (64, Try.f64), (52, Try.f52), (35, Try.f35), (36, Try.f36)], lo := [], K := K, jo := [], opn := [7, 21, 22, 39, 40] }
def Sg.h_impl_DecodeBase_0 : Fw.StSh := ⟨[(0, (.d .str)), (2, (.ref 2 0)), (3, (.d (.int .i64))), (4, (.ref 3 0)), (5, (.ref 6 0)), (21, (.d (.int .i64))), (22, (.d (.int .i64)))], [(2, (.box [(.row 0), (.row 1)])), (3, (.box [(.d .str), (.d (.int .i64)), (.d .bool)])), (6, (.box [(.row 4), (.row 5)])), (0, (.row (.pair (.sl (.int .i64)) (.sl (.pair .str (.int .i64)))) true)), (1, (.row (.pair .str (.pair (.int .i64) (.pair (.int .i64) .bool))) true)), (4, (.row (.pair (.sl (.int .i64)) (.sl (.pair .str (.int .i64)))) true)), (5, (.row (.pair .str (.pair (.int .i64) (.pair (.int .i64) .bool))) true))], 7, 80, ⟨0, []⟩⟩
def Sg.o_impl_DecodeBase_0 : Fw.StSh := ⟨[(0, (.d .str)), (2, (.ref 2 0)), (3, (.d (.int .i64))), (4, (.ref 3 0)), (5, (.ref 6 0))], [(2, (.box [(.row 0), (.row 1)])), (3, (.box [(.d .str), (.d (.int .i64)), (.d .bool)])), (6, (.box [(.row 4), (.row 5)])), (0, (.row (.pair (.sl (.int .i64)) (.sl (.pair .str (.int .i64)))) true)), (1, (.row (.pair .str (.pair (.int .i64) (.pair (.int .i64) .bool))) true)), (4, (.row (.pair (.sl (.int .i64)) (.sl (.pair .str (.int .i64)))) true)), (5, (.row (.pair .str (.pair (.int .i64) (.pair (.int .i64) .bool))) true))], 7, 80, ⟨0, []⟩⟩
def Sg.r_impl_DecodeBase_0 : Fw.StSh := ⟨[], [], 7, 80, ⟨0, []⟩⟩
noncomputable def Sg.p_impl_DecodeBase_0 (K : Nat) : Fw.LSpec := { g := 5, b := 0, lv := 6, l0 := 0, li := 0, head := Sg.h_impl_DecodeBase_0, post := Sg.o_impl_DecodeBase_0, retn := Sg.r_impl_DecodeBase_0, ex := 0, L := R.L_impl_DecodeBase_0 K }
def Sg.h_impl_DecodeBase_1 : Fw.StSh := ⟨[(0, (.d .str)), (2, (.ref 2 0)), (3, (.d (.int .i64))), (4, (.ref 3 0)), (5, (.ref 6 0)), (33, (.d (.int .i64))), (34, (.d (.int .i64)))], [(2, (.box [(.row 0), (.row 1)])), (3, (.box [(.d .str), (.d (.int .i64)), (.d .bool)])), (6, (.box [(.row 4), (.row 5)])), (0, (.row (.pair (.sl (.int .i64)) (.sl (.pair .str (.int .i64)))) true)), (1, (.row (.pair .str (.pair (.int .i64) (.pair (.int .i64) .bool))) true)), (4, (.row (.pair (.sl (.int .i64)) (.sl (.pair .str (.int .i64)))) true)), (5, (.row (.pair .str (.pair (.int .i64) (.pair (.int .i64) .bool))) true))], 7, 80, ⟨0, []⟩⟩
def Sg.o_impl_DecodeBase_1 : Fw.StSh := ⟨[(0, (.d .str)), (2, (.ref 2 0)), (3, (.d (.int .i64))), (4, (.ref 3 0)), (5, (.ref 6 0))], [(2, (.box [(.row 0), (.row 1)])), (3, (.box [(.d .str), (.d (.int .i64)), (.d .bool)])), (6, (.box [(.row 4), (.row 5)])), (0, (.row (.pair (.sl (.int .i64)) (.sl (.pair .str (.int .i64)))) true)), (1, (.row (.pair .str (.pair (.int .i64) (.pair (.int .i64) .bool))) true)), (4, (.row (.pair (.sl (.int .i64)) (.sl (.pair .str (.int .i64)))) true)), (5, (.row (.pair .str (.pair (.int .i64) (.pair (.int .i64) .bool))) true))], 7, 80, ⟨0, []⟩⟩
def Sg.r_impl_DecodeBase_1 : Fw.StSh := ⟨[], [], 7, 80, ⟨0, []⟩⟩
noncomputable def Sg.p_impl_DecodeBase_1 (K : Nat) : Fw.LSpec := { g := 5, b := 0, lv := 6, l0 := 0, li := 1, head := Sg.h_impl_DecodeBase_1, post := Sg.o_impl_DecodeBase_1, retn := Sg.r_impl_DecodeBase_1, ex := 2, L := R.L_impl_DecodeBase_1 K }
noncomputable def Sg.f_impl_DecodeBase : Fw.PFn := Fw.PFn.get Try.f5
noncomputable def Sg.i_impl_DecodeBase : List (Nat × Fw.PFn) := []
noncomputable def Sg.s_impl_DecodeBase (K : Nat) : Fw.Sig := { ins := [.val false .str], outs := [⟨true, (.pair (.sl (.pair (.sl (.int .i64)) (.sl (.pair .str (.int .i64))))) (.sl (.pair .str (.pair (.int .i64) (.pair (.int .i64) .bool))))), true⟩, ⟨false, (.int .i64), false⟩], F := fun x => R.impl_DecodeBase K x.1 }
noncomputable def Sg.c_impl_DecodeBase (K : Nat) : Fw.Cfg := { tab := Sg.tab, eqs := Sg.eqs, sig := [(10, Sg.s_impl_isText K), (11, Sg.s_strings_HasPrefix K), (15, Sg.s_impl_reader_number K), (12, Sg.s_impl_reader_few K), (14, Sg.s_impl_reader_text K), (13, Sg.s_impl_reader_commit K), (16, Sg.s_impl_reader_ends K), (17, Sg.s_impl_sumOf K), (18, Sg.s_impl_BaseOK K)], inl := [], lo := Sg.p_impl_DecodeBase_0 K :: Sg.p_impl_DecodeBase_1 K :: [], K := K, jo := ⟨5, 0, 6, 0, 9, none⟩ :: [], opn := [7, 21, 22, 39, 40] }
def Sg.h_laws_eqIntS_0 : Fw.StSh := ⟨[(0, (.d (.sl (.int .i64)))), (1, (.d (.sl (.int .i64)))), (4, (.d .bool)), (5, (.d (.int .i64)))], [], 0, 26, ⟨0, []⟩⟩
def Sg.o_laws_eqIntS_0 : Fw.StSh := ⟨[(4, (.d .bool))], [], 0, 26, ⟨0, []⟩⟩
def Sg.r_laws_eqIntS_0 : Fw.StSh := ⟨[(4, (.d .bool))], [], 0, 26, ⟨0, []⟩⟩
noncomputable def Sg.p_laws_eqIntS_0 (K : Nat) : Fw.LSpec := { g := 54, b := 0, lv := 6, l0 := 0, li := 0, head := Sg.h_laws_eqIntS_0, post := Sg.o_laws_eqIntS_0, retn := Sg.r_laws_eqIntS_0, ex := 0, L := R.L_laws_eqIntS_0 K }
noncomputable def Sg.f_laws_eqIntS : Fw.PFn := Fw.PFn.get Try.f54
noncomputable def Sg.i_laws_eqIntS : List (Nat × Fw.PFn) := []
noncomputable def Sg.s_laws_eqIntS (K : Nat) : Fw.Sig := { ins := [.val false (.sl (.int .i64)), .val false (.sl (.int .i64))], outs := [⟨false, .bool, false⟩], F := fun x => R.laws_eqIntS K x.1 x.2.1 }
noncomputable def Sg.c_laws_eqIntS (K : Nat) : Fw.Cfg := { tab := Sg.tab, eqs := Sg.eqs, sig := [], inl := [], lo := Sg.p_laws_eqIntS_0 K :: [], K := K, jo := ⟨54, 0, 6, 0, 6, none⟩ :: [], opn := [7, 21, 22, 39, 40] }
noncomputable def Sg.f_laws_eqEntry : Fw.PFn := Fw.PFn.get Try.f66
noncomputable def Sg.i_laws_eqEntry : List (Nat × Fw.PFn) := []
noncomputable def Sg.s_laws_eqEntry (K : Nat) : Fw.Sig := { ins := [.val true (.pair .str (.int .i64)), .val true (.pair .str (.int .i64))], outs := [⟨false, .bool, false⟩], F := fun x => R.laws_eqEntry K x.1 x.2.1 }
noncomputable def Sg.c_laws_eqEntry (K : Nat) : Fw.Cfg := { tab := Sg.tab, eqs := Sg.eqs, sig := [], inl := [], lo := [], K := K, jo := [], opn := [7, 21, 22, 39, 40] }
def Sg.h_laws_eqEntryS_0 : Fw.StSh := ⟨[(0, (.d (.sl (.pair .str (.int .i64))))), (1, (.d (.sl (.pair .str (.int .i64))))), (4, (.d .bool)), (5, (.d (.int .i64)))], [], 0, 27, ⟨0, []⟩⟩
def Sg.o_laws_eqEntryS_0 : Fw.StSh := ⟨[(4, (.d .bool))], [], 0, 27, ⟨0, []⟩⟩
def Sg.r_laws_eqEntryS_0 : Fw.StSh := ⟨[(4, (.d .bool))], [], 0, 27, ⟨0, []⟩⟩
noncomputable def Sg.p_laws_eqEntryS_0 (K : Nat) : Fw.LSpec := { g := 55, b := 0, lv := 6, l0 := 0, li := 0, head := Sg.h_laws_eqEntryS_0, post := Sg.o_laws_eqEntryS_0, retn := Sg.r_laws_eqEntryS_0, ex := 0, L := R.L_laws_eqEntryS_0 K }
noncomputable def Sg.f_laws_eqEntryS : Fw.PFn := Fw.PFn.get Try.f55
noncomputable def Sg.i_laws_eqEntryS : List (Nat × Fw.PFn) := []
noncomputable def Sg.s_laws_eqEntryS (K : Nat) : Fw.Sig := { ins := [.val false (.sl (.pair .str (.int .i64))), .val false (.sl (.pair .str (.int .i64)))], outs := [⟨false, .bool, false⟩], F := fun x => R.laws_eqEntryS K x.1 x.2.1 }
noncomputable def Sg.c_laws_eqEntryS (K : Nat) : Fw.Cfg := { tab := Sg.tab, eqs := Sg.eqs, sig := [(66, Sg.s_laws_eqEntry K)], inl := [], lo := Sg.p_laws_eqEntryS_0 K :: [], K := K, jo := ⟨55, 0, 6, 0, 6, none⟩ :: [], opn := [7, 21, 22, 39, 40] }
noncomputable def Sg.f_laws_eqCommit : Fw.PFn := Fw.PFn.get Try.f37
noncomputable def Sg.i_laws_eqCommit : List (Nat × Fw.PFn) := []
noncomputable def Sg.s_laws_eqCommit (K : Nat) : Fw.Sig := { ins := [.val true (.pair (.sl (.int .i64)) (.sl (.pair .str (.int .i64)))), .val true (.pair (.sl (.int .i64)) (.sl (.pair .str (.int .i64))))], outs := [⟨false, .bool, false⟩], F := fun x => R.laws_eqCommit K x.1 x.2.1 }
noncomputable def Sg.c_laws_eqCommit (K : Nat) : Fw.Cfg := { tab := Sg.tab, eqs := Sg.eqs, sig := [(54, Sg.s_laws_eqIntS K), (55, Sg.s_laws_eqEntryS K)], inl := [], lo := [], K := K, jo := [], opn := [7, 21, 22, 39, 40] }
def Sg.h_laws_eqCommitS_0 : Fw.StSh := ⟨[(0, (.d (.sl (.pair (.sl (.int .i64)) (.sl (.pair .str (.int .i64))))))), (1, (.d (.sl (.pair (.sl (.int .i64)) (.sl (.pair .str (.int .i64))))))), (4, (.d .bool)), (5, (.d (.int .i64)))], [], 0, 27, ⟨0, []⟩⟩
def Sg.o_laws_eqCommitS_0 : Fw.StSh := ⟨[(4, (.d .bool))], [], 0, 27, ⟨0, []⟩⟩
def Sg.r_laws_eqCommitS_0 : Fw.StSh := ⟨[(4, (.d .bool))], [], 0, 27, ⟨0, []⟩⟩
noncomputable def Sg.p_laws_eqCommitS_0 (K : Nat) : Fw.LSpec := { g := 19, b := 0, lv := 6, l0 := 0, li := 0, head := Sg.h_laws_eqCommitS_0, post := Sg.o_laws_eqCommitS_0, retn := Sg.r_laws_eqCommitS_0, ex := 0, L := R.L_laws_eqCommitS_0 K }
noncomputable def Sg.f_laws_eqCommitS : Fw.PFn := Fw.PFn.get Try.f19
noncomputable def Sg.i_laws_eqCommitS : List (Nat × Fw.PFn) := []
noncomputable def Sg.s_laws_eqCommitS (K : Nat) : Fw.Sig := { ins := [.val false (.sl (.pair (.sl (.int .i64)) (.sl (.pair .str (.int .i64))))), .val false (.sl (.pair (.sl (.int .i64)) (.sl (.pair .str (.int .i64)))))], outs := [⟨false, .bool, false⟩], F := fun x => R.laws_eqCommitS K x.1 x.2.1 }
noncomputable def Sg.c_laws_eqCommitS (K : Nat) : Fw.Cfg := { tab := Sg.tab, eqs := Sg.eqs, sig := [(37, Sg.s_laws_eqCommit K)], inl := [], lo := Sg.p_laws_eqCommitS_0 K :: [], K := K, jo := ⟨19, 0, 6, 0, 6, none⟩ :: [], opn := [7, 21, 22, 39, 40] }
noncomputable def Sg.f_laws_eqRef : Fw.PFn := Fw.PFn.get Try.f38
noncomputable def Sg.i_laws_eqRef : List (Nat × Fw.PFn) := []
noncomputable def Sg.s_laws_eqRef (K : Nat) : Fw.Sig := { ins := [.val true (.pair .str (.pair (.int .i64) (.pair (.int .i64) .bool))), .val true (.pair .str (.pair (.int .i64) (.pair (.int .i64) .bool)))], outs := [⟨false, .bool, false⟩], F := fun x => R.laws_eqRef K x.1 x.2.1 }
noncomputable def Sg.c_laws_eqRef (K : Nat) : Fw.Cfg := { tab := Sg.tab, eqs := Sg.eqs, sig := [], inl := [], lo := [], K := K, jo := [], opn := [7, 21, 22, 39, 40] }
def Sg.h_laws_eqRefS_0 : Fw.StSh := ⟨[(0, (.d (.sl (.pair .str (.pair (.int .i64) (.pair (.int .i64) .bool)))))), (1, (.d (.sl (.pair .str (.pair (.int .i64) (.pair (.int .i64) .bool)))))), (4, (.d .bool)), (5, (.d (.int .i64)))], [], 0, 27, ⟨0, []⟩⟩
def Sg.o_laws_eqRefS_0 : Fw.StSh := ⟨[(4, (.d .bool))], [], 0, 27, ⟨0, []⟩⟩
def Sg.r_laws_eqRefS_0 : Fw.StSh := ⟨[(4, (.d .bool))], [], 0, 27, ⟨0, []⟩⟩
noncomputable def Sg.p_laws_eqRefS_0 (K : Nat) : Fw.LSpec := { g := 20, b := 0, lv := 6, l0 := 0, li := 0, head := Sg.h_laws_eqRefS_0, post := Sg.o_laws_eqRefS_0, retn := Sg.r_laws_eqRefS_0, ex := 0, L := R.L_laws_eqRefS_0 K }
noncomputable def Sg.f_laws_eqRefS : Fw.PFn := Fw.PFn.get Try.f20
noncomputable def Sg.i_laws_eqRefS : List (Nat × Fw.PFn) := []
noncomputable def Sg.s_laws_eqRefS (K : Nat) : Fw.Sig := { ins := [.val false (.sl (.pair .str (.pair (.int .i64) (.pair (.int .i64) .bool)))), .val false (.sl (.pair .str (.pair (.int .i64) (.pair (.int .i64) .bool))))], outs := [⟨false, .bool, false⟩], F := fun x => R.laws_eqRefS K x.1 x.2.1 }
noncomputable def Sg.c_laws_eqRefS (K : Nat) : Fw.Cfg := { tab := Sg.tab, eqs := Sg.eqs, sig := [(38, Sg.s_laws_eqRef K)], inl := [], lo := Sg.p_laws_eqRefS_0 K :: [], K := K, jo := ⟨20, 0, 6, 0, 6, none⟩ :: [], opn := [7, 21, 22, 39, 40] }
noncomputable def Sg.f_laws_eqBase : Fw.PFn := Fw.PFn.get Try.f6
noncomputable def Sg.i_laws_eqBase : List (Nat × Fw.PFn) := []
noncomputable def Sg.s_laws_eqBase (K : Nat) : Fw.Sig := { ins := [.val true (.pair (.sl (.pair (.sl (.int .i64)) (.sl (.pair .str (.int .i64))))) (.sl (.pair .str (.pair (.int .i64) (.pair (.int .i64) .bool))))), .val true (.pair (.sl (.pair (.sl (.int .i64)) (.sl (.pair .str (.int .i64))))) (.sl (.pair .str (.pair (.int .i64) (.pair (.int .i64) .bool)))))], outs := [⟨false, .bool, false⟩], F := fun x => R.laws_eqBase K x.1 x.2.1 }
noncomputable def Sg.c_laws_eqBase (K : Nat) : Fw.Cfg := { tab := Sg.tab, eqs := Sg.eqs, sig := [(19, Sg.s_laws_eqCommitS K), (20, Sg.s_laws_eqRefS K)], inl := [], lo := [], K := K, jo := [], opn := [7, 21, 22, 39, 40] }
def Sg.h_laws_markIntS_0 : Fw.StSh := ⟨[(0, (.row 0)), (1, (.row 0)), (2, (.d (.int .i64))), (5, (.d (.int .i64))), (6, (.d (.int .i64)))], [(0, (.row (.int .i64) true))], 1, 20, ⟨0, []⟩⟩
def Sg.o_laws_markIntS_0 : Fw.StSh := ⟨[(0, (.row 0)), (2, (.d (.int .i64))), (5, (.d (.int .i64)))], [(0, (.row (.int .i64) true))], 1, 20, ⟨0, []⟩⟩
def Sg.r_laws_markIntS_0 : Fw.StSh := ⟨[], [], 1, 20, ⟨0, []⟩⟩
noncomputable def Sg.p_laws_markIntS_0 (K : Nat) : Fw.LSpec := { g := 39, b := 1, lv := 6, l0 := 1, li := 0, head := Sg.h_laws_markIntS_0, post := Sg.o_laws_markIntS_0, retn := Sg.r_laws_markIntS_0, ex := 0, L := R.L_laws_markIntS_0 K }
noncomputable def Sg.f_laws_markIntS : Fw.PFn := Fw.PFn.get Try.f39
noncomputable def Sg.i_laws_markIntS : List (Nat × Fw.PFn) := []
noncomputable def Sg.s_laws_markIntS (K : Nat) : Fw.Sig := { ins := [.mut false (.sl (.int .i64)), .val false (.int .i64)], outs := [⟨false, (.int .i64), false⟩], F := fun x => R.laws_markIntS K x.1 x.2.1 }
noncomputable def Sg.c_laws_markIntS (K : Nat) : Fw.Cfg := { tab := Sg.tab, eqs := Sg.eqs, sig := [], inl := [], lo := Sg.p_laws_markIntS_0 K :: [], K := K, jo := [], opn := [7, 21, 22, 39, 40] }
def Sg.h_laws_markText_0 : Fw.StSh := ⟨[(0, (.d (.int .i64))), (2, (.d .str)), (3, (.d .str))], [], 0, 20, ⟨0, []⟩⟩
def Sg.o_laws_markText_0 : Fw.StSh := ⟨[(2, (.d .str)), (3, (.d .str))], [], 0, 20, ⟨0, []⟩⟩
def Sg.r_laws_markText_0 : Fw.StSh := ⟨[], [], 0, 20, ⟨0, []⟩⟩
noncomputable def Sg.p_laws_markText_0 (K : Nat) : Fw.LSpec := { g := 41, b := 0, lv := 6, l0 := 0, li := 0, head := Sg.h_laws_markText_0, post := Sg.o_laws_markText_0, retn := Sg.r_laws_markText_0, ex := 0, L := R.L_laws_markText_0 K }
noncomputable def Sg.f_laws_markText : Fw.PFn := Fw.PFn.get Try.f41
noncomputable def Sg.i_laws_markText : List (Nat × Fw.PFn) := []
noncomputable def Sg.s_laws_markText (K : Nat) : Fw.Sig := { ins := [.val false (.int .i64)], outs := [⟨false, .str, false⟩], F := fun x => R.laws_markText K x.1 }
noncomputable def Sg.c_laws_markText (K : Nat) : Fw.Cfg := { tab := Sg.tab, eqs := Sg.eqs, sig := [], inl := [], lo := Sg.p_laws_markText_0 K :: [], K := K, jo := [], opn := [7, 21, 22, 39, 40] }
def Sg.h_laws_markEntryS_0 : Fw.StSh := ⟨[(0, (.row 0)), (1, (.row 0)), (2, (.d (.int .i64))), (5, (.d (.int .i64))), (6, (.d (.int .i64)))], [(0, (.row (.pair .str (.int .i64)) true))], 1, 29, ⟨0, []⟩⟩
def Sg.o_laws_markEntryS_0 : Fw.StSh := ⟨[(0, (.row 0)), (2, (.d (.int .i64))), (5, (.d (.int .i64)))], [(0, (.row (.pair .str (.int .i64)) true))], 1, 29, ⟨0, []⟩⟩
def Sg.r_laws_markEntryS_0 : Fw.StSh := ⟨[], [], 1, 29, ⟨0, []⟩⟩
noncomputable def Sg.p_laws_markEntryS_0 (K : Nat) : Fw.LSpec := { g := 40, b := 1, lv := 6, l0 := 1, li := 0, head := Sg.h_laws_markEntryS_0, post := Sg.o_laws_markEntryS_0, retn := Sg.r_laws_markEntryS_0, ex := 0, L := R.L_laws_markEntryS_0 K }
noncomputable def Sg.f_laws_markEntryS : Fw.PFn := Fw.PFn.get Try.f40
noncomputable def Sg.i_laws_markEntryS : List (Nat × Fw.PFn) := []
noncomputable def Sg.s_laws_markEntryS (K : Nat) : Fw.Sig := { ins := [.mut false (.sl (.pair .str (.int .i64))), .val false (.int .i64)], outs := [⟨false, (.int .i64), false⟩], F := fun x => R.laws_markEntryS K x.1 x.2.1 }
noncomputable def Sg.c_laws_markEntryS (K : Nat) : Fw.Cfg := { tab := Sg.tab, eqs := Sg.eqs, sig := [(41, Sg.s_laws_markText K)], inl := [], lo := Sg.p_laws_markEntryS_0 K :: [], K := K, jo := [], opn := [7, 21, 22, 39, 40] }
def Sg.h_laws_markCommitS_0 : Fw.StSh := ⟨[(0, (.row 0)), (1, (.row 0)), (2, (.d (.int .i64))), (5, (.d (.int .i64))), (6, (.d (.int .i64)))], [(0, (.row (.pair (.sl (.int .i64)) (.sl (.pair .str (.int .i64)))) true))], 1, 28, ⟨0, []⟩⟩
def Sg.o_laws_markCommitS_0 : Fw.StSh := ⟨[(0, (.row 0)), (2, (.d (.int .i64))), (5, (.d (.int .i64)))], [(0, (.row (.pair (.sl (.int .i64)) (.sl (.pair .str (.int .i64)))) true))], 1, 28, ⟨0, []⟩⟩
def Sg.r_laws_markCommitS_0 : Fw.StSh := ⟨[], [], 1, 28, ⟨0, []⟩⟩
noncomputable def Sg.p_laws_markCommitS_0 (K : Nat) : Fw.LSpec := { g := 21, b := 1, lv := 6, l0 := 1, li := 0, head := Sg.h_laws_markCommitS_0, post := Sg.o_laws_markCommitS_0, retn := Sg.r_laws_markCommitS_0, ex := 0, L := R.L_laws_markCommitS_0 K }
noncomputable def Sg.f_laws_markCommitS : Fw.PFn := Fw.PFn.get Try.f21
noncomputable def Sg.i_laws_markCommitS : List (Nat × Fw.PFn) := []
noncomputable def Sg.s_laws_markCommitS (K : Nat) : Fw.Sig := { ins := [.mut false (.sl (.pair (.sl (.int .i64)) (.sl (.pair .str (.int .i64))))), .val false (.int .i64)], outs := [⟨false, (.int .i64), false⟩], F := fun x => R.laws_markCommitS K x.1 x.2.1 }
noncomputable def Sg.c_laws_markCommitS (K : Nat) : Fw.Cfg := { tab := Sg.tab, eqs := Sg.eqs, sig := [(39, Sg.s_laws_markIntS K), (40, Sg.s_laws_markEntryS K)], inl := [], lo := Sg.p_laws_markCommitS_0 K :: [], K := K, jo := [], opn := [7, 21, 22, 39, 40] }
def Sg.h_laws_markRefS_0 : Fw.StSh := ⟨[(0, (.row 0)), (1, (.row 0)), (2, (.d (.int .i64))), (5, (.d (.int .i64))), (6, (.d (.int .i64)))], [(0, (.row (.pair .str (.pair (.int .i64) (.pair (.int .i64) .bool))) true))], 1, 45, ⟨0, []⟩⟩
def Sg.o_laws_markRefS_0 : Fw.StSh := ⟨[(0, (.row 0)), (2, (.d (.int .i64))), (5, (.d (.int .i64)))], [(0, (.row (.pair .str (.pair (.int .i64) (.pair (.int .i64) .bool))) true))], 1, 45, ⟨0, []⟩⟩
def Sg.r_laws_markRefS_0 : Fw.StSh := ⟨[], [], 1, 45, ⟨0, []⟩⟩
noncomputable def Sg.p_laws_markRefS_0 (K : Nat) : Fw.LSpec := { g := 22, b := 1, lv := 6, l0 := 1, li := 0, head := Sg.h_laws_markRefS_0, post := Sg.o_laws_markRefS_0, retn := Sg.r_laws_markRefS_0, ex := 0, L := R.L_laws_markRefS_0 K }
noncomputable def Sg.f_laws_markRefS : Fw.PFn := Fw.PFn.get Try.f22
noncomputable def Sg.i_laws_markRefS : List (Nat × Fw.PFn) := []
noncomputable def Sg.s_laws_markRefS (K : Nat) : Fw.Sig := { ins := [.mut false (.sl (.pair .str (.pair (.int .i64) (.pair (.int .i64) .bool)))), .val false (.int .i64)], outs := [⟨false, (.int .i64), false⟩], F := fun x => R.laws_markRefS K x.1 x.2.1 }
noncomputable def Sg.c_laws_markRefS (K : Nat) : Fw.Cfg := { tab := Sg.tab, eqs := Sg.eqs, sig := [(41, Sg.s_laws_markText K)], inl := [], lo := Sg.p_laws_markRefS_0 K :: [], K := K, jo := [], opn := [7, 21, 22, 39, 40] }
noncomputable def Sg.f_laws_markBase : Fw.PFn := Fw.PFn.get Try.f7
noncomputable def Sg.i_laws_markBase : List (Nat × Fw.PFn) := []
noncomputable def Sg.s_laws_markBase (K : Nat) : Fw.Sig := { ins := [.mut true (.pair (.sl (.pair (.sl (.int .i64)) (.sl (.pair .str (.int .i64))))) (.sl (.pair .str (.pair (.int .i64) (.pair (.int .i64) .bool))))), .val false (.int .i64)], outs := [⟨false, (.int .i64), false⟩], F := fun x => R.laws_markBase K x.1 x.2.1 }
noncomputable def Sg.c_laws_markBase (K : Nat) : Fw.Cfg := { tab := Sg.tab, eqs := Sg.eqs, sig := [(21, Sg.s_laws_markCommitS K), (22, Sg.s_laws_markRefS K)], inl := [], lo := [], K := K, jo := [], opn := [7, 21, 22, 39, 40] }
def Sg.h_laws_heldIntS_0 : Fw.StSh := ⟨[(0, (.d (.sl (.int .i64)))), (1, (.d (.int .i64))), (4, (.d (.int .i64))), (5, (.d (.int .i64)))], [], 0, 21, ⟨0, []⟩⟩
def Sg.o_laws_heldIntS_0 : Fw.StSh := ⟨[(1, (.d (.int .i64))), (4, (.d (.int .i64)))], [], 0, 21, ⟨0, []⟩⟩
def Sg.r_laws_heldIntS_0 : Fw.StSh := ⟨[(4, (.d (.int .i64)))], [], 0, 21, ⟨0, []⟩⟩
noncomputable def Sg.p_laws_heldIntS_0 (K : Nat) : Fw.LSpec := { g := 42, b := 0, lv := 6, l0 := 0, li := 0, head := Sg.h_laws_heldIntS_0, post := Sg.o_laws_heldIntS_0, retn := Sg.r_laws_heldIntS_0, ex := 0, L := R.L_laws_heldIntS_0 K }
noncomputable def Sg.f_laws_heldIntS : Fw.PFn := Fw.PFn.get Try.f42
noncomputable def Sg.i_laws_heldIntS : List (Nat × Fw.PFn) := []
noncomputable def Sg.s_laws_heldIntS (K : Nat) : Fw.Sig := { ins := [.val false (.sl (.int .i64)), .val false (.int .i64)], outs := [⟨false, (.int .i64), false⟩], F := fun x => R.laws_heldIntS K x.1 x.2.1 }
noncomputable def Sg.c_laws_heldIntS (K : Nat) : Fw.Cfg := { tab := Sg.tab, eqs := Sg.eqs, sig := [], inl := [], lo := Sg.p_laws_heldIntS_0 K :: [], K := K, jo := [], opn := [7, 21, 22, 39, 40] }
def Sg.h_laws_heldEntryS_0 : Fw.StSh := ⟨[(0, (.d (.sl (.pair .str (.int .i64))))), (1, (.d (.int .i64))), (4, (.d (.int .i64))), (5, (.d (.int .i64)))], [], 0, 32, ⟨0, []⟩⟩
def Sg.o_laws_heldEntryS_0 : Fw.StSh := ⟨[(1, (.d (.int .i64))), (4, (.d (.int .i64)))], [], 0, 32, ⟨0, []⟩⟩
def Sg.r_laws_heldEntryS_0 : Fw.StSh := ⟨[(4, (.d (.int .i64)))], [], 0, 32, ⟨0, []⟩⟩
noncomputable def Sg.p_laws_heldEntryS_0 (K : Nat) : Fw.LSpec := { g := 43, b := 0, lv := 6, l0 := 0, li := 0, head := Sg.h_laws_heldEntryS_0, post := Sg.o_laws_heldEntryS_0, retn := Sg.r_laws_heldEntryS_0, ex := 0, L := R.L_laws_heldEntryS_0 K }
noncomputable def Sg.f_laws_heldEntryS : Fw.PFn := Fw.PFn.get Try.f43
noncomputable def Sg.i_laws_heldEntryS : List (Nat × Fw.PFn) := []
noncomputable def Sg.s_laws_heldEntryS (K : Nat) : Fw.Sig := { ins := [.val false (.sl (.pair .str (.int .i64))), .val false (.int .i64)], outs := [⟨false, (.int .i64), false⟩], F := fun x => R.laws_heldEntryS K x.1 x.2.1 }
noncomputable def Sg.c_laws_heldEntryS (K : Nat) : Fw.Cfg := { tab := Sg.tab, eqs := Sg.eqs, sig := [(41, Sg.s_laws_markText K)], inl := [], lo := Sg.p_laws_heldEntryS_0 K :: [], K := K, jo := ⟨43, 0, 6, 0, 4, none⟩ :: [], opn := [7, 21, 22, 39, 40] }
def Sg.h_laws_heldCommitS_0 : Fw.StSh := ⟨[(0, (.d (.sl (.pair (.sl (.int .i64)) (.sl (.pair .str (.int .i64))))))), (1, (.d (.int .i64))), (4, (.d (.int .i64))), (5, (.d (.int .i64)))], [], 0, 31, ⟨0, []⟩⟩
def Sg.o_laws_heldCommitS_0 : Fw.StSh := ⟨[(1, (.d (.int .i64))), (4, (.d (.int .i64)))], [], 0, 31, ⟨0, []⟩⟩
def Sg.r_laws_heldCommitS_0 : Fw.StSh := ⟨[(4, (.d (.int .i64)))], [], 0, 31, ⟨0, []⟩⟩
noncomputable def Sg.p_laws_heldCommitS_0 (K : Nat) : Fw.LSpec := { g := 23, b := 0, lv := 6, l0 := 0, li := 0, head := Sg.h_laws_heldCommitS_0, post := Sg.o_laws_heldCommitS_0, retn := Sg.r_laws_heldCommitS_0, ex := 0, L := R.L_laws_heldCommitS_0 K }
noncomputable def Sg.f_laws_heldCommitS : Fw.PFn := Fw.PFn.get Try.f23
noncomputable def Sg.i_laws_heldCommitS : List (Nat × Fw.PFn) := []
noncomputable def Sg.s_laws_heldCommitS (K : Nat) : Fw.Sig := { ins := [.val false (.sl (.pair (.sl (.int .i64)) (.sl (.pair .str (.int .i64))))), .val false (.int .i64)], outs := [⟨false, (.int .i64), false⟩], F := fun x => R.laws_heldCommitS K x.1 x.2.1 }
noncomputable def Sg.c_laws_heldCommitS (K : Nat) : Fw.Cfg := { tab := Sg.tab, eqs := Sg.eqs, sig := [(42, Sg.s_laws_heldIntS K), (43, Sg.s_laws_heldEntryS K)], inl := [], lo := Sg.p_laws_heldCommitS_0 K :: [], K := K, jo := [], opn := [7, 21, 22, 39, 40] }
def Sg.h_laws_heldRefS_0 : Fw.StSh := ⟨[(0, (.d (.sl (.pair .str (.pair (.int .i64) (.pair (.int .i64) .bool)))))), (1, (.d (.int .i64))), (4, (.d (.int .i64))), (5, (.d (.int .i64)))], [], 0, 52, ⟨0, []⟩⟩
def Sg.o_laws_heldRefS_0 : Fw.StSh := ⟨[(1, (.d (.int .i64))), (4, (.d (.int .i64)))], [], 0, 52, ⟨0, []⟩⟩
def Sg.r_laws_heldRefS_0 : Fw.StSh := ⟨[(4, (.d (.int .i64)))], [], 0, 52, ⟨0, []⟩⟩
noncomputable def Sg.p_laws_heldRefS_0 (K : Nat) : Fw.LSpec := { g := 24, b := 0, lv := 6, l0 := 0, li := 0, head := Sg.h_laws_heldRefS_0, post := Sg.o_laws_heldRefS_0, retn := Sg.r_laws_heldRefS_0, ex := 0, L := R.L_laws_heldRefS_0 K }
noncomputable def Sg.f_laws_heldRefS : Fw.PFn := Fw.PFn.get Try.f24
noncomputable def Sg.i_laws_heldRefS : List (Nat × Fw.PFn) := []
noncomputable def Sg.s_laws_heldRefS (K : Nat) : Fw.Sig := { ins := [.val false (.sl (.pair .str (.pair (.int .i64) (.pair (.int .i64) .bool)))), .val false (.int .i64)], outs := [⟨false, (.int .i64), false⟩], F := fun x => R.laws_heldRefS K x.1 x.2.1 }
noncomputable def Sg.c_laws_heldRefS (K : Nat) : Fw.Cfg := { tab := Sg.tab, eqs := Sg.eqs, sig := [(41, Sg.s_laws_markText K)], inl := [], lo := Sg.p_laws_heldRefS_0 K :: [], K := K, jo := ⟨24, 0, 6, 0, 4, none⟩ :: [], opn := [7, 21, 22, 39, 40] }
noncomputable def Sg.f_laws_heldBase : Fw.PFn := Fw.PFn.get Try.f8
noncomputable def Sg.i_laws_heldBase : List (Nat × Fw.PFn) := []
noncomputable def Sg.s_laws_heldBase (K : Nat) : Fw.Sig := { ins := [.val true (.pair (.sl (.pair (.sl (.int .i64)) (.sl (.pair .str (.int .i64))))) (.sl (.pair .str (.pair (.int .i64) (.pair (.int .i64) .bool))))), .val false (.int .i64)], outs := [⟨false, (.int .i64), false⟩], F := fun x => R.laws_heldBase K x.1 x.2.1 }
noncomputable def Sg.c_laws_heldBase (K : Nat) : Fw.Cfg := { tab := Sg.tab, eqs := Sg.eqs, sig := [(23, Sg.s_laws_heldCommitS K), (24, Sg.s_laws_heldRefS K)], inl := [], lo := [], K := K, jo := [], opn := [7, 21, 22, 39, 40] }
noncomputable def Sg.f_laws_FnExactDecodeBase : Fw.PFn := Fw.PFn.get Try.f3
noncomputable def Sg.i_laws_FnExactDecodeBase : List (Nat × Fw.PFn) := []
noncomputable def Sg.s_laws_FnExactDecodeBase (K : Nat) : Fw.Sig := { ins := [.val false .str], outs := [⟨false, .bool, false⟩], F := fun x => R.laws_FnExactDecodeBase K x.1 }
noncomputable def Sg.c_laws_FnExactDecodeBase (K : Nat) : Fw.Cfg := { tab := Sg.tab, eqs := Sg.eqs, sig := [(4, Sg.s_spec_DecodeBase K), (5, Sg.s_impl_DecodeBase K), (6, Sg.s_laws_eqBase K), (7, Sg.s_laws_markBase K), (8, Sg.s_laws_heldBase K)], inl := [], lo := [], K := K, jo := [], opn := [7, 21, 22, 39, 40] }
theorem fun_spec_l11Take : Try.prog.funcs[45]? = some Try.f45 := by kernel_rfl
theorem call_spec_l11Take : Fw.Callable Try.prog 45 := Fw.callable_of fun_spec_l11Take (by kernel_rfl) (by kernel_rfl)
theorem pf_spec_l11Take : Fw.PFn.of Try.f45 = some Sg.f_spec_l11Take := Fw.PFn.of_get (by kernel_rfl)
theorem l_spec_l11Take_0 (K : Nat) : Fw.LoopP (Sg.c_spec_l11Take K) Sg.i_spec_l11Take Sg.f_spec_l11Take (Sg.p_spec_l11Take_0 K) := ⟨fun _ => by kernel_rfl, fun n p => by kernel_rfl⟩
theorem ok_spec_l11Take (K : Nat) : Fw.Ok Try.prog 45 (Sg.s_spec_l11Take K) := Fw.funP_ok (c := Sg.c_spec_l11Take K) (pi := Sg.i_spec_l11Take) (depth := 6) (Fw.cfgP_ok (pi := Sg.i_spec_l11Take) Sg.tabOK Sg.eqsOK Sg.mixOK trivial trivial trivial pf_spec_l11Take ⟨⟨_, rfl, l_spec_l11Take_0 K⟩, trivial⟩ rfl) trivial pf_spec_l11Take fun_spec_l11Take call_spec_l11Take (fun x => by kernel_rfl)
theorem fun_spec_l11Reader_number : Try.prog.funcs[28]? = some Try.f28 := by kernel_rfl
theorem call_spec_l11Reader_number : Fw.Callable Try.prog 28 := Fw.callable_of fun_spec_l11Reader_number (by kernel_rfl) (by kernel_rfl)
theorem pf_spec_l11Reader_number : Fw.PFn.of Try.f28 = some Sg.f_spec_l11Reader_number := Fw.PFn.of_get (by kernel_rfl)
theorem ok_spec_l11Reader_number (K : Nat) : Fw.Ok Try.prog 28 (Sg.s_spec_l11Reader_number K) := Fw.funP_ok (c := Sg.c_spec_l11Reader_number K) (pi := Sg.i_spec_l11Reader_number) (depth := 6) (Fw.cfgP_ok (pi := Sg.i_spec_l11Reader_number) Sg.tabOK Sg.eqsOK Sg.mixOK ⟨ok_spec_l11Take K, trivial⟩ trivial trivial pf_spec_l11Reader_number trivial rfl) trivial pf_spec_l11Reader_number fun_spec_l11Reader_number call_spec_l11Reader_number (fun x => by kernel_rfl)
theorem fun_spec_l11Reader_count : Try.prog.funcs[25]? = some Try.f25 := by kernel_rfl
theorem call_spec_l11Reader_count : Fw.Callable Try.prog 25 := Fw.callable_of fun_spec_l11Reader_count (by kernel_rfl) (by kernel_rfl)
theorem pf_spec_l11Reader_count : Fw.PFn.of Try.f25 = some Sg.f_spec_l11Reader_count := Fw.PFn.of_get (by kernel_rfl)
theorem ok_spec_l11Reader_count (K : Nat) : Fw.Ok Try.prog 25 (Sg.s_spec_l11Reader_count K) := Fw.funP_ok (c := Sg.c_spec_l11Reader_count K) (pi := Sg.i_spec_l11Reader_count) (depth := 6) (Fw.cfgP_ok (pi := Sg.i_spec_l11Reader_count) Sg.tabOK Sg.eqsOK Sg.mixOK ⟨ok_spec_l11Reader_number K, trivial⟩ trivial trivial pf_spec_l11Reader_count trivial rfl) trivial pf_spec_l11Reader_count fun_spec_l11Reader_count call_spec_l11Reader_count (fun x => by kernel_rfl)
theorem fun_spec_l11Reader_word : Try.prog.funcs[27]? = some Try.f27 := by kernel_rfl
theorem call_spec_l11Reader_word : Fw.Callable Try.prog 27 := Fw.callable_of fun_spec_l11Reader_word (by kernel_rfl) (by kernel_rfl)
theorem pf_spec_l11Reader_word : Fw.PFn.of Try.f27 = some Sg.f_spec_l11Reader_word := Fw.PFn.of_get (by kernel_rfl)
theorem ok_spec_l11Reader_word (K : Nat) : Fw.Ok Try.prog 27 (Sg.s_spec_l11Reader_word K) := Fw.funP_ok (c := Sg.c_spec_l11Reader_word K) (pi := Sg.i_spec_l11Reader_word) (depth := 6) (Fw.cfgP_ok (pi := Sg.i_spec_l11Reader_word) Sg.tabOK Sg.eqsOK Sg.mixOK ⟨ok_spec_l11Reader_count K, trivial⟩ trivial trivial pf_spec_l11Reader_word trivial rfl) trivial pf_spec_l11Reader_word fun_spec_l11Reader_word call_spec_l11Reader_word (fun x => by kernel_rfl)
theorem fun_spec_l11Reader_signed : Try.prog.funcs[44]? = some Try.f44 := by kernel_rfl
theorem call_spec_l11Reader_signed : Fw.Callable Try.prog 44 := Fw.callable_of fun_spec_l11Reader_signed (by kernel_rfl) (by kernel_rfl)
theorem pf_spec_l11Reader_signed : Fw.PFn.of Try.f44 = some Sg.f_spec_l11Reader_signed := Fw.PFn.of_get (by kernel_rfl)
theorem ok_spec_l11Reader_signed (K : Nat) : Fw.Ok Try.prog 44 (Sg.s_spec_l11Reader_signed K) := Fw.funP_ok (c := Sg.c_spec_l11Reader_signed K) (pi := Sg.i_spec_l11Reader_signed) (depth := 6) (Fw.cfgP_ok (pi := Sg.i_spec_l11Reader_signed) Sg.tabOK Sg.eqsOK Sg.mixOK ⟨ok_spec_l11Reader_number K, trivial⟩ trivial trivial pf_spec_l11Reader_signed trivial rfl) trivial pf_spec_l11Reader_signed fun_spec_l11Reader_signed call_spec_l11Reader_signed (fun x => by kernel_rfl)
theorem fun_spec_l11Reader_commit : Try.prog.funcs[26]? = some Try.f26 := by kernel_rfl
theorem call_spec_l11Reader_commit : Fw.Callable Try.prog 26 := Fw.callable_of fun_spec_l11Reader_commit (by kernel_rfl) (by kernel_rfl)
theorem pf_spec_l11Reader_commit : Fw.PFn.of Try.f26 = some Sg.f_spec_l11Reader_commit := Fw.PFn.of_get (by kernel_rfl)
theorem l_spec_l11Reader_commit_0 (K : Nat) : Fw.LoopP (Sg.c_spec_l11Reader_commit K) Sg.i_spec_l11Reader_commit Sg.f_spec_l11Reader_commit (Sg.p_spec_l11Reader_commit_0 K) := ⟨fun _ => by kernel_rfl, fun n p => by kernel_rfl⟩
theorem l_spec_l11Reader_commit_1 (K : Nat) : Fw.LoopP (Sg.c_spec_l11Reader_commit K) Sg.i_spec_l11Reader_commit Sg.f_spec_l11Reader_commit (Sg.p_spec_l11Reader_commit_1 K) := ⟨fun _ => by kernel_rfl, fun n p => by kernel_rfl⟩
theorem ok_spec_l11Reader_commit (K : Nat) : Fw.Ok Try.prog 26 (Sg.s_spec_l11Reader_commit K) := Fw.funP_ok (c := Sg.c_spec_l11Reader_commit K) (pi := Sg.i_spec_l11Reader_commit) (depth := 6) (Fw.cfgP_ok (pi := Sg.i_spec_l11Reader_commit) Sg.tabOK Sg.eqsOK Sg.mixOK ⟨ok_spec_l11Reader_number K, ok_spec_l11Reader_count K, ok_spec_l11Reader_word K, ok_spec_l11Reader_signed K, trivial⟩ trivial trivial pf_spec_l11Reader_commit ⟨⟨_, rfl, l_spec_l11Reader_commit_0 K⟩, ⟨_, rfl, l_spec_l11Reader_commit_1 K⟩, trivial⟩ rfl) trivial pf_spec_l11Reader_commit fun_spec_l11Reader_commit call_spec_l11Reader_commit (fun x => by kernel_rfl)
theorem fun_spec_l11Sum : Try.prog.funcs[29]? = some Try.f29 := by kernel_rfl
theorem call_spec_l11Sum : Fw.Callable Try.prog 29 := Fw.callable_of fun_spec_l11Sum (by kernel_rfl) (by kernel_rfl)
theorem pf_spec_l11Sum : Fw.PFn.of Try.f29 = some Sg.f_spec_l11Sum := Fw.PFn.of_get (by kernel_rfl)
theorem l_spec_l11Sum_0 (K : Nat) : Fw.LoopP (Sg.c_spec_l11Sum K) Sg.i_spec_l11Sum Sg.f_spec_l11Sum (Sg.p_spec_l11Sum_0 K) := ⟨fun _ => by kernel_rfl, fun n p => by kernel_rfl⟩
theorem ok_spec_l11Sum (K : Nat) : Fw.Ok Try.prog 29 (Sg.s_spec_l11Sum K) := Fw.funP_ok (c := Sg.c_spec_l11Sum K) (pi := Sg.i_spec_l11Sum) (depth := 6) (Fw.cfgP_ok (pi := Sg.i_spec_l11Sum) Sg.tabOK Sg.eqsOK Sg.mixOK trivial trivial trivial pf_spec_l11Sum ⟨⟨_, rfl, l_spec_l11Sum_0 K⟩, trivial⟩ rfl) trivial pf_spec_l11Sum fun_spec_l11Sum call_spec_l11Sum (fun x => by kernel_rfl)
theorem fun_spec_l01In : Try.prog.funcs[56]? = some Try.f56 := by kernel_rfl
theorem call_spec_l01In : Fw.Callable Try.prog 56 := Fw.callable_of fun_spec_l01In (by kernel_rfl) (by kernel_rfl)
theorem pf_spec_l01In : Fw.PFn.of Try.f56 = some Sg.f_spec_l01In := Fw.PFn.of_get (by kernel_rfl)
theorem ok_spec_l01In (K : Nat) : Fw.Ok Try.prog 56 (Sg.s_spec_l01In K) := Fw.funP_ok (c := Sg.c_spec_l01In K) (pi := Sg.i_spec_l01In) (depth := 6) (Fw.cfgP_ok (pi := Sg.i_spec_l01In) Sg.tabOK Sg.eqsOK Sg.mixOK trivial trivial trivial pf_spec_l01In trivial rfl) trivial pf_spec_l01In fun_spec_l01In call_spec_l01In (fun x => by kernel_rfl)
theorem fun_spec_l00Letter : Try.prog.funcs[68]? = some Try.f68 := by kernel_rfl
theorem call_spec_l00Letter : Fw.Callable Try.prog 68 := Fw.callable_of fun_spec_l00Letter (by kernel_rfl) (by kernel_rfl)
theorem pf_spec_l00Letter : Fw.PFn.of Try.f68 = some Sg.f_spec_l00Letter := Fw.PFn.of_get (by kernel_rfl)
theorem ok_spec_l00Letter (K : Nat) : Fw.Ok Try.prog 68 (Sg.s_spec_l00Letter K) := Fw.funP_ok (c := Sg.c_spec_l00Letter K) (pi := Sg.i_spec_l00Letter) (depth := 6) (Fw.cfgP_ok (pi := Sg.i_spec_l00Letter) Sg.tabOK Sg.eqsOK Sg.mixOK trivial trivial trivial pf_spec_l00Letter trivial rfl) trivial pf_spec_l00Letter fun_spec_l00Letter call_spec_l00Letter (fun x => by kernel_rfl)
theorem fun_spec_l00Digit : Try.prog.funcs[69]? = some Try.f69 := by kernel_rfl
theorem call_spec_l00Digit : Fw.Callable Try.prog 69 := Fw.callable_of fun_spec_l00Digit (by kernel_rfl) (by kernel_rfl)
theorem pf_spec_l00Digit : Fw.PFn.of Try.f69 = some Sg.f_spec_l00Digit := Fw.PFn.of_get (by kernel_rfl)
theorem ok_spec_l00Digit (K : Nat) : Fw.Ok Try.prog 69 (Sg.s_spec_l00Digit K) := Fw.funP_ok (c := Sg.c_spec_l00Digit K) (pi := Sg.i_spec_l00Digit) (depth := 6) (Fw.cfgP_ok (pi := Sg.i_spec_l00Digit) Sg.tabOK Sg.eqsOK Sg.mixOK trivial trivial trivial pf_spec_l00Digit trivial rfl) trivial pf_spec_l00Digit fun_spec_l00Digit call_spec_l00Digit (fun x => by kernel_rfl)
theorem fun_spec_l00Word : Try.prog.funcs[58]? = some Try.f58 := by kernel_rfl
theorem call_spec_l00Word : Fw.Callable Try.prog 58 := Fw.callable_of fun_spec_l00Word (by kernel_rfl) (by kernel_rfl)
theorem pf_spec_l00Word : Fw.PFn.of Try.f58 = some Sg.f_spec_l00Word := Fw.PFn.of_get (by kernel_rfl)
theorem l_spec_l00Word_0 (K : Nat) : Fw.LoopP (Sg.c_spec_l00Word K) Sg.i_spec_l00Word Sg.f_spec_l00Word (Sg.p_spec_l00Word_0 K) := ⟨fun _ => by kernel_rfl, fun n p => by kernel_rfl⟩
theorem ok_spec_l00Word (K : Nat) : Fw.Ok Try.prog 58 (Sg.s_spec_l00Word K) := Fw.funP_ok (c := Sg.c_spec_l00Word K) (pi := Sg.i_spec_l00Word) (depth := 6) (Fw.cfgP_ok (pi := Sg.i_spec_l00Word) Sg.tabOK Sg.eqsOK Sg.mixOK ⟨ok_spec_l00Letter K, ok_spec_l00Digit K, trivial⟩ trivial trivial pf_spec_l00Word ⟨⟨_, rfl, l_spec_l00Word_0 K⟩, trivial⟩ rfl) trivial pf_spec_l00Word fun_spec_l00Word call_spec_l00Word (fun x => by kernel_rfl)
theorem fun_spec_l01OK : Try.prog.funcs[67]? = some Try.f67 := by kernel_rfl
theorem call_spec_l01OK : Fw.Callable Try.prog 67 := Fw.callable_of fun_spec_l01OK (by kernel_rfl) (by kernel_rfl)
theorem pf_spec_l01OK : Fw.PFn.of Try.f67 = some Sg.f_spec_l01OK := Fw.PFn.of_get (by kernel_rfl)
theorem l_spec_l01OK_0 (K : Nat) : Fw.LoopP (Sg.c_spec_l01OK K) Sg.i_spec_l01OK Sg.f_spec_l01OK (Sg.p_spec_l01OK_0 K) := ⟨fun _ => by kernel_rfl, fun n p => by kernel_rfl⟩
theorem ok_spec_l01OK (K : Nat) : Fw.Ok Try.prog 67 (Sg.s_spec_l01OK K) := Fw.funP_ok (c := Sg.c_spec_l01OK K) (pi := Sg.i_spec_l01OK) (depth := 6) (Fw.cfgP_ok (pi := Sg.i_spec_l01OK) Sg.tabOK Sg.eqsOK Sg.mixOK ⟨ok_spec_l01In K, ok_spec_l00Word K, trivial⟩ trivial trivial pf_spec_l01OK ⟨⟨_, rfl, l_spec_l01OK_0 K⟩, trivial⟩ rfl) trivial pf_spec_l01OK fun_spec_l01OK call_spec_l01OK (fun x => by kernel_rfl)
theorem fun_spec_l03Commit : Try.prog.funcs[57]? = some Try.f57 := by kernel_rfl
theorem call_spec_l03Commit : Fw.Callable Try.prog 57 := Fw.callable_of fun_spec_l03Commit (by kernel_rfl) (by kernel_rfl)
theorem pf_spec_l03Commit : Fw.PFn.of Try.f57 = some Sg.f_spec_l03Commit := Fw.PFn.of_get (by kernel_rfl)
theorem l_spec_l03Commit_0 (K : Nat) : Fw.LoopP (Sg.c_spec_l03Commit K) Sg.i_spec_l03Commit Sg.f_spec_l03Commit (Sg.p_spec_l03Commit_0 K) := ⟨fun _ => by kernel_rfl, fun n p => by kernel_rfl⟩
theorem ok_spec_l03Commit (K : Nat) : Fw.Ok Try.prog 57 (Sg.s_spec_l03Commit K) := Fw.funP_ok (c := Sg.c_spec_l03Commit K) (pi := Sg.i_spec_l03Commit) (depth := 6) (Fw.cfgP_ok (pi := Sg.i_spec_l03Commit) Sg.tabOK Sg.eqsOK Sg.mixOK ⟨ok_spec_l01In K, ok_spec_l01OK K, trivial⟩ trivial trivial pf_spec_l03Commit ⟨⟨_, rfl, l_spec_l03Commit_0 K⟩, trivial⟩ rfl) trivial pf_spec_l03Commit fun_spec_l03Commit call_spec_l03Commit (fun x => by kernel_rfl)
theorem fun_spec_l03OK : Try.prog.funcs[46]? = some Try.f46 := by kernel_rfl
theorem call_spec_l03OK : Fw.Callable Try.prog 46 := Fw.callable_of fun_spec_l03OK (by kernel_rfl) (by kernel_rfl)
theorem pf_spec_l03OK : Fw.PFn.of Try.f46 = some Sg.f_spec_l03OK := Fw.PFn.of_get (by kernel_rfl)
theorem l_spec_l03OK_0 (K : Nat) : Fw.LoopP (Sg.c_spec_l03OK K) Sg.i_spec_l03OK Sg.f_spec_l03OK (Sg.p_spec_l03OK_0 K) := ⟨fun _ => by kernel_rfl, fun n p => by kernel_rfl⟩
theorem ok_spec_l03OK (K : Nat) : Fw.Ok Try.prog 46 (Sg.s_spec_l03OK K) := Fw.funP_ok (c := Sg.c_spec_l03OK K) (pi := Sg.i_spec_l03OK) (depth := 6) (Fw.cfgP_ok (pi := Sg.i_spec_l03OK) Sg.tabOK Sg.eqsOK Sg.mixOK ⟨ok_spec_l01In K, ok_spec_l03Commit K, trivial⟩ trivial trivial pf_spec_l03OK ⟨⟨_, rfl, l_spec_l03OK_0 K⟩, trivial⟩ rfl) trivial pf_spec_l03OK fun_spec_l03OK call_spec_l03OK (fun x => by kernel_rfl)
theorem fun_spec_l04At : Try.prog.funcs[59]? = some Try.f59 := by kernel_rfl
theorem call_spec_l04At : Fw.Callable Try.prog 59 := Fw.callable_of fun_spec_l04At (by kernel_rfl) (by kernel_rfl)
theorem pf_spec_l04At : Fw.PFn.of Try.f59 = some Sg.f_spec_l04At := Fw.PFn.of_get (by kernel_rfl)
theorem l_spec_l04At_0 (K : Nat) : Fw.LoopP (Sg.c_spec_l04At K) Sg.i_spec_l04At Sg.f_spec_l04At (Sg.p_spec_l04At_0 K) := ⟨fun _ => by kernel_rfl, fun n p => by kernel_rfl⟩
theorem ok_spec_l04At (K : Nat) : Fw.Ok Try.prog 59 (Sg.s_spec_l04At K) := Fw.funP_ok (c := Sg.c_spec_l04At K) (pi := Sg.i_spec_l04At) (depth := 6) (Fw.cfgP_ok (pi := Sg.i_spec_l04At) Sg.tabOK Sg.eqsOK Sg.mixOK trivial trivial trivial pf_spec_l04At ⟨⟨_, rfl, l_spec_l04At_0 K⟩, trivial⟩ rfl) trivial pf_spec_l04At fun_spec_l04At call_spec_l04At (fun x => by kernel_rfl)
theorem fun_spec_l04OK : Try.prog.funcs[47]? = some Try.f47 := by kernel_rfl
theorem call_spec_l04OK : Fw.Callable Try.prog 47 := Fw.callable_of fun_spec_l04OK (by kernel_rfl) (by kernel_rfl)
theorem pf_spec_l04OK : Fw.PFn.of Try.f47 = some Sg.f_spec_l04OK := Fw.PFn.of_get (by kernel_rfl)
theorem l_spec_l04OK_0 (K : Nat) : Fw.LoopP (Sg.c_spec_l04OK K) Sg.i_spec_l04OK Sg.f_spec_l04OK (Sg.p_spec_l04OK_0 K) := ⟨fun _ => by kernel_rfl, fun n p => by kernel_rfl⟩
theorem ok_spec_l04OK (K : Nat) : Fw.Ok Try.prog 47 (Sg.s_spec_l04OK K) := Fw.funP_ok (c := Sg.c_spec_l04OK K) (pi := Sg.i_spec_l04OK) (depth := 6) (Fw.cfgP_ok (pi := Sg.i_spec_l04OK) Sg.tabOK Sg.eqsOK Sg.mixOK ⟨ok_spec_l01In K, ok_spec_l00Word K, ok_spec_l04At K, trivial⟩ trivial trivial pf_spec_l04OK ⟨⟨_, rfl, l_spec_l04OK_0 K⟩, trivial⟩ rfl) trivial pf_spec_l04OK fun_spec_l04OK call_spec_l04OK (fun x => by kernel_rfl)
theorem fun_spec_l05OK : Try.prog.funcs[30]? = some Try.f30 := by kernel_rfl
theorem call_spec_l05OK : Fw.Callable Try.prog 30 := Fw.callable_of fun_spec_l05OK (by kernel_rfl) (by kernel_rfl)
theorem pf_spec_l05OK : Fw.PFn.of Try.f30 = some Sg.f_spec_l05OK := Fw.PFn.of_get (by kernel_rfl)
theorem l_spec_l05OK_0 (K : Nat) : Fw.LoopP (Sg.c_spec_l05OK K) Sg.i_spec_l05OK Sg.f_spec_l05OK (Sg.p_spec_l05OK_0 K) := ⟨fun _ => by kernel_rfl, fun n p => by kernel_rfl⟩
theorem ok_spec_l05OK (K : Nat) : Fw.Ok Try.prog 30 (Sg.s_spec_l05OK K) := Fw.funP_ok (c := Sg.c_spec_l05OK K) (pi := Sg.i_spec_l05OK) (depth := 6) (Fw.cfgP_ok (pi := Sg.i_spec_l05OK) Sg.tabOK Sg.eqsOK Sg.mixOK ⟨ok_spec_l03OK K, ok_spec_l04OK K, trivial⟩ trivial trivial pf_spec_l05OK ⟨⟨_, rfl, l_spec_l05OK_0 K⟩, trivial⟩ rfl) trivial pf_spec_l05OK fun_spec_l05OK call_spec_l05OK (fun x => by kernel_rfl)
theorem fun_spec_l11Read : Try.prog.funcs[9]? = some Try.f9 := by kernel_rfl
theorem call_spec_l11Read : Fw.Callable Try.prog 9 := Fw.callable_of fun_spec_l11Read (by kernel_rfl) (by kernel_rfl)
theorem pf_spec_l11Read : Fw.PFn.of Try.f9 = some Sg.f_spec_l11Read := Fw.PFn.of_get (by kernel_rfl)
theorem l_spec_l11Read_0 (K : Nat) : Fw.LoopP (Sg.c_spec_l11Read K) Sg.i_spec_l11Read Sg.f_spec_l11Read (Sg.p_spec_l11Read_0 K) := ⟨fun _ => by kernel_rfl, fun n p => by kernel_rfl⟩
theorem l_spec_l11Read_1 (K : Nat) : Fw.LoopP (Sg.c_spec_l11Read K) Sg.i_spec_l11Read Sg.f_spec_l11Read (Sg.p_spec_l11Read_1 K) := ⟨fun _ => by kernel_rfl, fun n p => by kernel_rfl⟩
theorem ok_spec_l11Read (K : Nat) : Fw.Ok Try.prog 9 (Sg.s_spec_l11Read K) := Fw.funP_ok (c := Sg.c_spec_l11Read K) (pi := Sg.i_spec_l11Read) (depth := 6) (Fw.cfgP_ok (pi := Sg.i_spec_l11Read) Sg.tabOK Sg.eqsOK Sg.mixOK ⟨ok_spec_l11Reader_number K, ok_spec_l11Reader_count K, ok_spec_l11Reader_word K, ok_spec_l11Reader_commit K, ok_spec_l11Sum K, ok_spec_l05OK K, trivial⟩ trivial trivial pf_spec_l11Read ⟨⟨_, rfl, l_spec_l11Read_0 K⟩, ⟨_, rfl, l_spec_l11Read_1 K⟩, trivial⟩ rfl) trivial pf_spec_l11Read fun_spec_l11Read call_spec_l11Read (fun x => by kernel_rfl)
theorem fun_spec_DecodeBase : Try.prog.funcs[4]? = some Try.f4 := by kernel_rfl
theorem call_spec_DecodeBase : Fw.Callable Try.prog 4 := Fw.callable_of fun_spec_DecodeBase (by kernel_rfl) (by kernel_rfl)
theorem pf_spec_DecodeBase : Fw.PFn.of Try.f4 = some Sg.f_spec_DecodeBase := Fw.PFn.of_get (by kernel_rfl)
theorem ok_spec_DecodeBase (K : Nat) : Fw.Ok Try.prog 4 (Sg.s_spec_DecodeBase K) := Fw.funP_ok (c := Sg.c_spec_DecodeBase K) (pi := Sg.i_spec_DecodeBase) (depth := 6) (Fw.cfgP_ok (pi := Sg.i_spec_DecodeBase) Sg.tabOK Sg.eqsOK Sg.mixOK ⟨ok_spec_l11Read K, trivial⟩ trivial trivial pf_spec_DecodeBase trivial rfl) trivial pf_spec_DecodeBase fun_spec_DecodeBase call_spec_DecodeBase (fun x => by kernel_rfl)
theorem fun_impl_isText : Try.prog.funcs[10]? = some Try.f10 := by kernel_rfl
theorem call_impl_isText : Fw.Callable Try.prog 10 := Fw.callable_of fun_impl_isText (by kernel_rfl) (by kernel_rfl)
theorem pf_impl_isText : Fw.PFn.of Try.f10 = some Sg.f_impl_isText := Fw.PFn.of_get (by kernel_rfl)
theorem ok_impl_isText (K : Nat) : Fw.Ok Try.prog 10 (Sg.s_impl_isText K) := Fw.funP_ok (c := Sg.c_impl_isText K) (pi := Sg.i_impl_isText) (depth := 6) (Fw.cfgP_ok (pi := Sg.i_impl_isText) Sg.tabOK Sg.eqsOK Sg.mixOK trivial trivial trivial pf_impl_isText trivial rfl) trivial pf_impl_isText fun_impl_isText call_impl_isText (fun x => by kernel_rfl)
theorem fun_internal_stringslite_HasPrefix : Try.prog.funcs[31]? = some Try.f31 := by kernel_rfl
theorem call_internal_stringslite_HasPrefix : Fw.Callable Try.prog 31 := Fw.callable_of fun_internal_stringslite_HasPrefix (by kernel_rfl) (by kernel_rfl)
theorem pf_internal_stringslite_HasPrefix : Fw.PFn.of Try.f31 = some Sg.f_internal_stringslite_HasPrefix := Fw.PFn.of_get (by kernel_rfl)
theorem ok_internal_stringslite_HasPrefix (K : Nat) : Fw.Ok Try.prog 31 (Sg.s_internal_stringslite_HasPrefix K) := Fw.funP_ok (c := Sg.c_internal_stringslite_HasPrefix K) (pi := Sg.i_internal_stringslite_HasPrefix) (depth := 6) (Fw.cfgP_ok (pi := Sg.i_internal_stringslite_HasPrefix) Sg.tabOK Sg.eqsOK Sg.mixOK trivial trivial trivial pf_internal_stringslite_HasPrefix trivial rfl) trivial pf_internal_stringslite_HasPrefix fun_internal_stringslite_HasPrefix call_internal_stringslite_HasPrefix (fun x => by kernel_rfl)
theorem fun_strings_HasPrefix : Try.prog.funcs[11]? = some Try.f11 := by kernel_rfl
theorem call_strings_HasPrefix : Fw.Callable Try.prog 11 := Fw.callable_of fun_strings_HasPrefix (by kernel_rfl) (by kernel_rfl)
theorem pf_strings_HasPrefix : Fw.PFn.of Try.f11 = some Sg.f_strings_HasPrefix := Fw.PFn.of_get (by kernel_rfl)
theorem ok_strings_HasPrefix (K : Nat) : Fw.Ok Try.prog 11 (Sg.s_strings_HasPrefix K) := Fw.funP_ok (c := Sg.c_strings_HasPrefix K) (pi := Sg.i_strings_HasPrefix) (depth := 6) (Fw.cfgP_ok (pi := Sg.i_strings_HasPrefix) Sg.tabOK Sg.eqsOK Sg.mixOK ⟨ok_internal_stringslite_HasPrefix K, trivial⟩ trivial trivial pf_strings_HasPrefix trivial rfl) trivial pf_strings_HasPrefix fun_strings_HasPrefix call_strings_HasPrefix (fun x => by kernel_rfl)
theorem fun_impl_reader_number : Try.prog.funcs[15]? = some Try.f15 := by kernel_rfl
theorem call_impl_reader_number : Fw.Callable Try.prog 15 := Fw.callable_of fun_impl_reader_number (by kernel_rfl) (by kernel_rfl)
theorem pf_impl_reader_number : Fw.PFn.of Try.f15 = some Sg.f_impl_reader_number := Fw.PFn.of_get (by kernel_rfl)
theorem l_impl_reader_number_0 (K : Nat) : Fw.LoopP (Sg.c_impl_reader_number K) Sg.i_impl_reader_number Sg.f_impl_reader_number (Sg.p_impl_reader_number_0 K) := ⟨fun _ => by kernel_rfl, fun n p => by kernel_rfl⟩
theorem ok_impl_reader_number (K : Nat) : Fw.Ok Try.prog 15 (Sg.s_impl_reader_number K) := Fw.funP_ok (c := Sg.c_impl_reader_number K) (pi := Sg.i_impl_reader_number) (depth := 6) (Fw.cfgP_ok (pi := Sg.i_impl_reader_number) Sg.tabOK Sg.eqsOK Sg.mixOK trivial trivial trivial pf_impl_reader_number ⟨⟨_, rfl, l_impl_reader_number_0 K⟩, trivial⟩ rfl) trivial pf_impl_reader_number fun_impl_reader_number call_impl_reader_number (fun x => by kernel_rfl)
theorem fun_impl_reader_few : Try.prog.funcs[12]? = some Try.f12 := by kernel_rfl
theorem call_impl_reader_few : Fw.Callable Try.prog 12 := Fw.callable_of fun_impl_reader_few (by kernel_rfl) (by kernel_rfl)
theorem pf_impl_reader_few : Fw.PFn.of Try.f12 = some Sg.f_impl_reader_few := Fw.PFn.of_get (by kernel_rfl)
theorem ok_impl_reader_few (K : Nat) : Fw.Ok Try.prog 12 (Sg.s_impl_reader_few K) := Fw.funP_ok (c := Sg.c_impl_reader_few K) (pi := Sg.i_impl_reader_few) (depth := 6) (Fw.cfgP_ok (pi := Sg.i_impl_reader_few) Sg.tabOK Sg.eqsOK Sg.mixOK ⟨ok_impl_reader_number K, trivial⟩ trivial trivial pf_impl_reader_few trivial rfl) trivial pf_impl_reader_few fun_impl_reader_few call_impl_reader_few (fun x => by kernel_rfl)
theorem fun_impl_reader_text : Try.prog.funcs[14]? = some Try.f14 := by kernel_rfl
theorem call_impl_reader_text : Fw.Callable Try.prog 14 := Fw.callable_of fun_impl_reader_text (by kernel_rfl) (by kernel_rfl)
theorem pf_impl_reader_text : Fw.PFn.of Try.f14 = some Sg.f_impl_reader_text := Fw.PFn.of_get (by kernel_rfl)
theorem ok_impl_reader_text (K : Nat) : Fw.Ok Try.prog 14 (Sg.s_impl_reader_text K) := Fw.funP_ok (c := Sg.c_impl_reader_text K) (pi := Sg.i_impl_reader_text) (depth := 6) (Fw.cfgP_ok (pi := Sg.i_impl_reader_text) Sg.tabOK Sg.eqsOK Sg.mixOK ⟨ok_impl_reader_few K, trivial⟩ trivial trivial pf_impl_reader_text trivial rfl) trivial pf_impl_reader_text fun_impl_reader_text call_impl_reader_text (fun x => by kernel_rfl)
theorem fun_impl_reader_value : Try.prog.funcs[32]? = some Try.f32 := by kernel_rfl
theorem call_impl_reader_value : Fw.Callable Try.prog 32 := Fw.callable_of fun_impl_reader_value (by kernel_rfl) (by kernel_rfl)
theorem pf_impl_reader_value : Fw.PFn.of Try.f32 = some Sg.f_impl_reader_value := Fw.PFn.of_get (by kernel_rfl)
theorem ok_impl_reader_value (K : Nat) : Fw.Ok Try.prog 32 (Sg.s_impl_reader_value K) := Fw.funP_ok (c := Sg.c_impl_reader_value K) (pi := Sg.i_impl_reader_value) (depth := 6) (Fw.cfgP_ok (pi := Sg.i_impl_reader_value) Sg.tabOK Sg.eqsOK Sg.mixOK ⟨ok_impl_reader_number K, trivial⟩ trivial trivial pf_impl_reader_value trivial rfl) trivial pf_impl_reader_value fun_impl_reader_value call_impl_reader_value (fun x => by kernel_rfl)
theorem fun_impl_reader_commit : Try.prog.funcs[13]? = some Try.f13 := by kernel_rfl
theorem call_impl_reader_commit : Fw.Callable Try.prog 13 := Fw.callable_of fun_impl_reader_commit (by kernel_rfl) (by kernel_rfl)
theorem pf_impl_reader_commit : Fw.PFn.of Try.f13 = some Sg.f_impl_reader_commit := Fw.PFn.of_get (by kernel_rfl)
theorem l_impl_reader_commit_0 (K : Nat) : Fw.LoopP (Sg.c_impl_reader_commit K) Sg.i_impl_reader_commit Sg.f_impl_reader_commit (Sg.p_impl_reader_commit_0 K) := ⟨fun _ => by kernel_rfl, fun n p => by kernel_rfl⟩
theorem l_impl_reader_commit_1 (K : Nat) : Fw.LoopP (Sg.c_impl_reader_commit K) Sg.i_impl_reader_commit Sg.f_impl_reader_commit (Sg.p_impl_reader_commit_1 K) := ⟨fun _ => by kernel_rfl, fun n p => by kernel_rfl⟩
theorem ok_impl_reader_commit (K : Nat) : Fw.Ok Try.prog 13 (Sg.s_impl_reader_commit K) := Fw.funP_ok (c := Sg.c_impl_reader_commit K) (pi := Sg.i_impl_reader_commit) (depth := 6) (Fw.cfgP_ok (pi := Sg.i_impl_reader_commit) Sg.tabOK Sg.eqsOK Sg.mixOK ⟨ok_impl_reader_number K, ok_impl_reader_few K, ok_impl_reader_text K, ok_impl_reader_value K, trivial⟩ trivial trivial pf_impl_reader_commit ⟨⟨_, rfl, l_impl_reader_commit_0 K⟩, ⟨_, rfl, l_impl_reader_commit_1 K⟩, trivial⟩ rfl) trivial pf_impl_reader_commit fun_impl_reader_commit call_impl_reader_commit (fun x => by kernel_rfl)
theorem fun_impl_reader_ends : Try.prog.funcs[16]? = some Try.f16 := by kernel_rfl
theorem call_impl_reader_ends : Fw.Callable Try.prog 16 := Fw.callable_of fun_impl_reader_ends (by kernel_rfl) (by kernel_rfl)
theorem pf_impl_reader_ends : Fw.PFn.of Try.f16 = some Sg.f_impl_reader_ends := Fw.PFn.of_get (by kernel_rfl)
theorem ok_impl_reader_ends (K : Nat) : Fw.Ok Try.prog 16 (Sg.s_impl_reader_ends K) := Fw.funP_ok (c := Sg.c_impl_reader_ends K) (pi := Sg.i_impl_reader_ends) (depth := 6) (Fw.cfgP_ok (pi := Sg.i_impl_reader_ends) Sg.tabOK Sg.eqsOK Sg.mixOK trivial trivial trivial pf_impl_reader_ends trivial rfl) trivial pf_impl_reader_ends fun_impl_reader_ends call_impl_reader_ends (fun x => by kernel_rfl)
theorem fun_impl_sumOf : Try.prog.funcs[17]? = some Try.f17 := by kernel_rfl
theorem call_impl_sumOf : Fw.Callable Try.prog 17 := Fw.callable_of fun_impl_sumOf (by kernel_rfl) (by kernel_rfl)
theorem pf_impl_sumOf : Fw.PFn.of Try.f17 = some Sg.f_impl_sumOf := Fw.PFn.of_get (by kernel_rfl)
theorem l_impl_sumOf_0 (K : Nat) : Fw.LoopP (Sg.c_impl_sumOf K) Sg.i_impl_sumOf Sg.f_impl_sumOf (Sg.p_impl_sumOf_0 K) := ⟨fun _ => by kernel_rfl, fun n p => by kernel_rfl⟩
theorem ok_impl_sumOf (K : Nat) : Fw.Ok Try.prog 17 (Sg.s_impl_sumOf K) := Fw.funP_ok (c := Sg.c_impl_sumOf K) (pi := Sg.i_impl_sumOf) (depth := 6) (Fw.cfgP_ok (pi := Sg.i_impl_sumOf) Sg.tabOK Sg.eqsOK Sg.mixOK trivial trivial trivial pf_impl_sumOf ⟨⟨_, rfl, l_impl_sumOf_0 K⟩, trivial⟩ rfl) trivial pf_impl_sumOf fun_impl_sumOf call_impl_sumOf (fun x => by kernel_rfl)
theorem fun_impl_isList_impl_Commit : Try.prog.funcs[48]? = some Try.f48 := by kernel_rfl
theorem call_impl_isList_impl_Commit : Fw.Callable Try.prog 48 := Fw.callable_of fun_impl_isList_impl_Commit (by kernel_rfl) (by kernel_rfl)
theorem pf_impl_isList_impl_Commit : Fw.PFn.of Try.f48 = some Sg.f_impl_isList_impl_Commit := Fw.PFn.of_get (by kernel_rfl)
theorem ok_impl_isList_impl_Commit (K : Nat) : Fw.Ok Try.prog 48 (Sg.s_impl_isList_impl_Commit K) := Fw.funP_ok (c := Sg.c_impl_isList_impl_Commit K) (pi := Sg.i_impl_isList_impl_Commit) (depth := 6) (Fw.cfgP_ok (pi := Sg.i_impl_isList_impl_Commit) Sg.tabOK Sg.eqsOK Sg.mixOK trivial trivial trivial pf_impl_isList_impl_Commit trivial rfl) trivial pf_impl_isList_impl_Commit fun_impl_isList_impl_Commit call_impl_isList_impl_Commit (fun x => by kernel_rfl)
theorem fun_impl_within : Try.prog.funcs[62]? = some Try.f62 := by kernel_rfl
theorem call_impl_within : Fw.Callable Try.prog 62 := Fw.callable_of fun_impl_within (by kernel_rfl) (by kernel_rfl)
theorem pf_impl_within : Fw.PFn.of Try.f62 = some Sg.f_impl_within := Fw.PFn.of_get (by kernel_rfl)
theorem ok_impl_within (K : Nat) : Fw.Ok Try.prog 62 (Sg.s_impl_within K) := Fw.funP_ok (c := Sg.c_impl_within K) (pi := Sg.i_impl_within) (depth := 6) (Fw.cfgP_ok (pi := Sg.i_impl_within) Sg.tabOK Sg.eqsOK Sg.mixOK trivial trivial trivial pf_impl_within trivial rfl) trivial pf_impl_within fun_impl_within call_impl_within (fun x => by kernel_rfl)
theorem fun_impl_isLetter : Try.prog.funcs[73]? = some Try.f73 := by kernel_rfl
theorem call_impl_isLetter : Fw.Callable Try.prog 73 := Fw.callable_of fun_impl_isLetter (by kernel_rfl) (by kernel_rfl)
theorem pf_impl_isLetter : Fw.PFn.of Try.f73 = some Sg.f_impl_isLetter := Fw.PFn.of_get (by kernel_rfl)
theorem ok_impl_isLetter (K : Nat) : Fw.Ok Try.prog 73 (Sg.s_impl_isLetter K) := Fw.funP_ok (c := Sg.c_impl_isLetter K) (pi := Sg.i_impl_isLetter) (depth := 6) (Fw.cfgP_ok (pi := Sg.i_impl_isLetter) Sg.tabOK Sg.eqsOK Sg.mixOK trivial trivial trivial pf_impl_isLetter trivial rfl) trivial pf_impl_isLetter fun_impl_isLetter call_impl_isLetter (fun x => by kernel_rfl)
theorem fun_impl_areAll_byte_1 : Try.prog.funcs[81]? = some Try.f81 := by kernel_rfl
theorem call_impl_areAll_byte_1 : Fw.Callable Try.prog 81 := Fw.callable_of fun_impl_areAll_byte_1 (by kernel_rfl) (by kernel_rfl)
theorem pf_impl_areAll_byte_1 : Fw.PFn.of Try.f81 = some Sg.f_impl_areAll_byte_1 := Fw.PFn.of_get (by kernel_rfl)
theorem fun_slices_IndexFunc_byte : Try.prog.funcs[83]? = some Try.f83 := by kernel_rfl
theorem call_slices_IndexFunc_byte : Fw.Callable Try.prog 83 := Fw.callable_of fun_slices_IndexFunc_byte (by kernel_rfl) (by kernel_rfl)
theorem pf_slices_IndexFunc_byte : Fw.PFn.of Try.f83 = some Sg.f_slices_IndexFunc_byte := Fw.PFn.of_get (by kernel_rfl)
theorem fun_slices_ContainsFunc_byte : Try.prog.funcs[80]? = some Try.f80 := by kernel_rfl
theorem call_slices_ContainsFunc_byte : Fw.Callable Try.prog 80 := Fw.callable_of fun_slices_ContainsFunc_byte (by kernel_rfl) (by kernel_rfl)
theorem pf_slices_ContainsFunc_byte : Fw.PFn.of Try.f80 = some Sg.f_slices_ContainsFunc_byte := Fw.PFn.of_get (by kernel_rfl)
theorem fun_impl_areAll_byte : Try.prog.funcs[74]? = some Try.f74 := by kernel_rfl
theorem call_impl_areAll_byte : Fw.Callable Try.prog 74 := Fw.callable_of fun_impl_areAll_byte (by kernel_rfl) (by kernel_rfl)
theorem pf_impl_areAll_byte : Fw.PFn.of Try.f74 = some Sg.f_impl_areAll_byte := Fw.PFn.of_get (by kernel_rfl)
theorem fun_impl_isDigit : Try.prog.funcs[76]? = some Try.f76 := by kernel_rfl
theorem call_impl_isDigit : Fw.Callable Try.prog 76 := Fw.callable_of fun_impl_isDigit (by kernel_rfl) (by kernel_rfl)
theorem pf_impl_isDigit : Fw.PFn.of Try.f76 = some Sg.f_impl_isDigit := Fw.PFn.of_get (by kernel_rfl)
theorem ok_impl_isDigit (K : Nat) : Fw.Ok Try.prog 76 (Sg.s_impl_isDigit K) := Fw.funP_ok (c := Sg.c_impl_isDigit K) (pi := Sg.i_impl_isDigit) (depth := 6) (Fw.cfgP_ok (pi := Sg.i_impl_isDigit) Sg.tabOK Sg.eqsOK Sg.mixOK trivial trivial trivial pf_impl_isDigit trivial rfl) trivial pf_impl_isDigit fun_impl_isDigit call_impl_isDigit (fun x => by kernel_rfl)
theorem fun_impl_NameOK_1 : Try.prog.funcs[75]? = some Try.f75 := by kernel_rfl
theorem call_impl_NameOK_1 : Fw.Callable Try.prog 75 := Fw.callable_of fun_impl_NameOK_1 (by kernel_rfl) (by kernel_rfl)
theorem pf_impl_NameOK_1 : Fw.PFn.of Try.f75 = some Sg.f_impl_NameOK_1 := Fw.PFn.of_get (by kernel_rfl)
theorem ok_impl_NameOK_1 (K : Nat) : Fw.Ok Try.prog 75 (Sg.s_impl_NameOK_1 K) := Fw.funP_ok (c := Sg.c_impl_NameOK_1 K) (pi := Sg.i_impl_NameOK_1) (depth := 6) (Fw.cfgP_ok (pi := Sg.i_impl_NameOK_1) Sg.tabOK Sg.eqsOK Sg.mixOK ⟨ok_impl_isLetter K, ok_impl_isDigit K, trivial⟩ trivial trivial pf_impl_NameOK_1 trivial rfl) trivial pf_impl_NameOK_1 fun_impl_NameOK_1 call_impl_NameOK_1 (fun x => by kernel_rfl)
theorem l_impl_areAll_byte__impl_NameOK_1_0 (K : Nat) : Fw.LoopP (Sg.c_impl_areAll_byte__impl_NameOK_1 K) Sg.i_impl_areAll_byte__impl_NameOK_1 Sg.f_slices_IndexFunc_byte (Sg.p_impl_areAll_byte__impl_NameOK_1_0 K) := ⟨fun _ => by kernel_rfl, fun n p => by kernel_rfl⟩
theorem ok_impl_areAll_byte__impl_NameOK_1 (K : Nat) : Fw.Ok Try.prog 74 (Sg.s_impl_areAll_byte__impl_NameOK_1 K) := Fw.funP_ok (c := Sg.c_impl_areAll_byte__impl_NameOK_1 K) (pi := Sg.i_impl_areAll_byte__impl_NameOK_1) (depth := 6) (Fw.cfgP_ok (pi := Sg.i_impl_areAll_byte__impl_NameOK_1) Sg.tabOK Sg.eqsOK Sg.mixOK ⟨ok_impl_NameOK_1 K, trivial⟩ ⟨⟨fun_impl_areAll_byte_1, call_impl_areAll_byte_1⟩, ⟨fun_slices_IndexFunc_byte, call_slices_IndexFunc_byte⟩, ⟨fun_slices_ContainsFunc_byte, call_slices_ContainsFunc_byte⟩, trivial⟩ ⟨⟨rfl, pf_impl_areAll_byte_1⟩, ⟨rfl, pf_slices_IndexFunc_byte⟩, ⟨rfl, pf_slices_ContainsFunc_byte⟩, trivial⟩ pf_impl_areAll_byte ⟨⟨_, rfl, l_impl_areAll_byte__impl_NameOK_1_0 K⟩, trivial⟩ rfl) ⟨⟨rfl, pf_impl_areAll_byte_1⟩, ⟨rfl, pf_slices_IndexFunc_byte⟩, ⟨rfl, pf_slices_ContainsFunc_byte⟩, trivial⟩ pf_impl_areAll_byte fun_impl_areAll_byte call_impl_areAll_byte (fun x => by kernel_rfl)
theorem fun_impl_NameOK : Try.prog.funcs[61]? = some Try.f61 := by kernel_rfl
theorem call_impl_NameOK : Fw.Callable Try.prog 61 := Fw.callable_of fun_impl_NameOK (by kernel_rfl) (by kernel_rfl)
theorem pf_impl_NameOK : Fw.PFn.of Try.f61 = some Sg.f_impl_NameOK := Fw.PFn.of_get (by kernel_rfl)
theorem ok_impl_NameOK (K : Nat) : Fw.Ok Try.prog 61 (Sg.s_impl_NameOK K) := Fw.funP_ok (c := Sg.c_impl_NameOK K) (pi := Sg.i_impl_NameOK) (depth := 6) (Fw.cfgP_ok (pi := Sg.i_impl_NameOK) Sg.tabOK Sg.eqsOK Sg.mixOK ⟨ok_impl_within K, ok_impl_isLetter K, ok_impl_NameOK_1 K, ok_impl_areAll_byte__impl_NameOK_1 K, trivial⟩ ⟨⟨fun_impl_areAll_byte_1, call_impl_areAll_byte_1⟩, ⟨fun_slices_IndexFunc_byte, call_slices_IndexFunc_byte⟩, ⟨fun_slices_ContainsFunc_byte, call_slices_ContainsFunc_byte⟩, ⟨fun_impl_areAll_byte, call_impl_areAll_byte⟩, trivial⟩ ⟨⟨rfl, pf_impl_areAll_byte_1⟩, ⟨rfl, pf_slices_IndexFunc_byte⟩, ⟨rfl, pf_slices_ContainsFunc_byte⟩, ⟨rfl, pf_impl_areAll_byte⟩, trivial⟩ pf_impl_NameOK trivial rfl) ⟨⟨rfl, pf_impl_areAll_byte_1⟩, ⟨rfl, pf_slices_IndexFunc_byte⟩, ⟨rfl, pf_slices_ContainsFunc_byte⟩, ⟨rfl, pf_impl_areAll_byte⟩, trivial⟩ pf_impl_NameOK fun_impl_NameOK call_impl_NameOK (fun x => by kernel_rfl)
theorem fun_impl_isValue : Try.prog.funcs[77]? = some Try.f77 := by kernel_rfl
theorem call_impl_isValue : Fw.Callable Try.prog 77 := Fw.callable_of fun_impl_isValue (by kernel_rfl) (by kernel_rfl)
theorem pf_impl_isValue : Fw.PFn.of Try.f77 = some Sg.f_impl_isValue := Fw.PFn.of_get (by kernel_rfl)
theorem ok_impl_isValue (K : Nat) : Fw.Ok Try.prog 77 (Sg.s_impl_isValue K) := Fw.funP_ok (c := Sg.c_impl_isValue K) (pi := Sg.i_impl_isValue) (depth := 6) (Fw.cfgP_ok (pi := Sg.i_impl_isValue) Sg.tabOK Sg.eqsOK Sg.mixOK ⟨ok_impl_within K, trivial⟩ trivial trivial pf_impl_isValue trivial rfl) trivial pf_impl_isValue fun_impl_isValue call_impl_isValue (fun x => by kernel_rfl)
theorem fun_impl_MapOK : Try.prog.funcs[70]? = some Try.f70 := by kernel_rfl
theorem call_impl_MapOK : Fw.Callable Try.prog 70 := Fw.callable_of fun_impl_MapOK (by kernel_rfl) (by kernel_rfl)
theorem pf_impl_MapOK : Fw.PFn.of Try.f70 = some Sg.f_impl_MapOK := Fw.PFn.of_get (by kernel_rfl)
theorem l_impl_MapOK_0 (K : Nat) : Fw.LoopP (Sg.c_impl_MapOK K) Sg.i_impl_MapOK Sg.f_impl_MapOK (Sg.p_impl_MapOK_0 K) := ⟨fun _ => by kernel_rfl, fun n p => by kernel_rfl⟩
theorem ok_impl_MapOK (K : Nat) : Fw.Ok Try.prog 70 (Sg.s_impl_MapOK K) := Fw.funP_ok (c := Sg.c_impl_MapOK K) (pi := Sg.i_impl_MapOK) (depth := 6) (Fw.cfgP_ok (pi := Sg.i_impl_MapOK) Sg.tabOK Sg.eqsOK Sg.mixOK ⟨ok_impl_NameOK K, ok_impl_isValue K, trivial⟩ trivial trivial pf_impl_MapOK ⟨⟨_, rfl, l_impl_MapOK_0 K⟩, trivial⟩ rfl) trivial pf_impl_MapOK fun_impl_MapOK call_impl_MapOK (fun x => by kernel_rfl)
theorem fun_impl_Commit_isAt_1 : Try.prog.funcs[72]? = some Try.f72 := by kernel_rfl
theorem call_impl_Commit_isAt_1 : Fw.Callable Try.prog 72 := Fw.callable_of fun_impl_Commit_isAt_1 (by kernel_rfl) (by kernel_rfl)
theorem pf_impl_Commit_isAt_1 : Fw.PFn.of Try.f72 = some Sg.f_impl_Commit_isAt_1 := Fw.PFn.of_get (by kernel_rfl)
theorem fun_impl_areAll_int_1 : Try.prog.funcs[79]? = some Try.f79 := by kernel_rfl
theorem call_impl_areAll_int_1 : Fw.Callable Try.prog 79 := Fw.callable_of fun_impl_areAll_int_1 (by kernel_rfl) (by kernel_rfl)
theorem pf_impl_areAll_int_1 : Fw.PFn.of Try.f79 = some Sg.f_impl_areAll_int_1 := Fw.PFn.of_get (by kernel_rfl)
theorem fun_slices_IndexFunc_int : Try.prog.funcs[82]? = some Try.f82 := by kernel_rfl
theorem call_slices_IndexFunc_int : Fw.Callable Try.prog 82 := Fw.callable_of fun_slices_IndexFunc_int (by kernel_rfl) (by kernel_rfl)
theorem pf_slices_IndexFunc_int : Fw.PFn.of Try.f82 = some Sg.f_slices_IndexFunc_int := Fw.PFn.of_get (by kernel_rfl)
theorem fun_slices_ContainsFunc_int : Try.prog.funcs[78]? = some Try.f78 := by kernel_rfl
theorem call_slices_ContainsFunc_int : Fw.Callable Try.prog 78 := Fw.callable_of fun_slices_ContainsFunc_int (by kernel_rfl) (by kernel_rfl)
theorem pf_slices_ContainsFunc_int : Fw.PFn.of Try.f78 = some Sg.f_slices_ContainsFunc_int := Fw.PFn.of_get (by kernel_rfl)
theorem fun_impl_areAll_int : Try.prog.funcs[71]? = some Try.f71 := by kernel_rfl
theorem call_impl_areAll_int : Fw.Callable Try.prog 71 := Fw.callable_of fun_impl_areAll_int (by kernel_rfl) (by kernel_rfl)
theorem pf_impl_areAll_int : Fw.PFn.of Try.f71 = some Sg.f_impl_areAll_int := Fw.PFn.of_get (by kernel_rfl)
theorem l_impl_areAll_int__impl_Commit_isAt_1_0 (K : Nat) : Fw.LoopP (Sg.c_impl_areAll_int__impl_Commit_isAt_1 K) Sg.i_impl_areAll_int__impl_Commit_isAt_1 Sg.f_slices_IndexFunc_int (Sg.p_impl_areAll_int__impl_Commit_isAt_1_0 K) := ⟨fun _ => by kernel_rfl, fun n p => by kernel_rfl⟩
theorem ok_impl_areAll_int__impl_Commit_isAt_1 (K : Nat) : Fw.Ok Try.prog 71 (Sg.s_impl_areAll_int__impl_Commit_isAt_1 K) := Fw.funP_ok (c := Sg.c_impl_areAll_int__impl_Commit_isAt_1 K) (pi := Sg.i_impl_areAll_int__impl_Commit_isAt_1) (depth := 6) (Fw.cfgP_ok (pi := Sg.i_impl_areAll_int__impl_Commit_isAt_1) Sg.tabOK Sg.eqsOK Sg.mixOK ⟨ok_impl_within K, trivial⟩ ⟨⟨fun_impl_Commit_isAt_1, call_impl_Commit_isAt_1⟩, ⟨fun_impl_areAll_int_1, call_impl_areAll_int_1⟩, ⟨fun_slices_IndexFunc_int, call_slices_IndexFunc_int⟩, ⟨fun_slices_ContainsFunc_int, call_slices_ContainsFunc_int⟩, trivial⟩ ⟨⟨rfl, pf_impl_Commit_isAt_1⟩, ⟨rfl, pf_impl_areAll_int_1⟩, ⟨rfl, pf_slices_IndexFunc_int⟩, ⟨rfl, pf_slices_ContainsFunc_int⟩, trivial⟩ pf_impl_areAll_int ⟨⟨_, rfl, l_impl_areAll_int__impl_Commit_isAt_1_0 K⟩, trivial⟩ rfl) ⟨⟨rfl, pf_impl_Commit_isAt_1⟩, ⟨rfl, pf_impl_areAll_int_1⟩, ⟨rfl, pf_slices_IndexFunc_int⟩, ⟨rfl, pf_slices_ContainsFunc_int⟩, trivial⟩ pf_impl_areAll_int fun_impl_areAll_int call_impl_areAll_int (fun x => by kernel_rfl)
theorem fun_impl_Commit_isAt : Try.prog.funcs[60]? = some Try.f60 := by kernel_rfl
theorem call_impl_Commit_isAt : Fw.Callable Try.prog 60 := Fw.callable_of fun_impl_Commit_isAt (by kernel_rfl) (by kernel_rfl)
theorem pf_impl_Commit_isAt : Fw.PFn.of Try.f60 = some Sg.f_impl_Commit_isAt := Fw.PFn.of_get (by kernel_rfl)
theorem ok_impl_Commit_isAt (K : Nat) : Fw.Ok Try.prog 60 (Sg.s_impl_Commit_isAt K) := Fw.funP_ok (c := Sg.c_impl_Commit_isAt K) (pi := Sg.i_impl_Commit_isAt) (depth := 6) (Fw.cfgP_ok (pi := Sg.i_impl_Commit_isAt) Sg.tabOK Sg.eqsOK Sg.mixOK ⟨ok_impl_within K, ok_impl_MapOK K, ok_impl_areAll_int__impl_Commit_isAt_1 K, trivial⟩ ⟨⟨fun_impl_Commit_isAt_1, call_impl_Commit_isAt_1⟩, ⟨fun_impl_areAll_int_1, call_impl_areAll_int_1⟩, ⟨fun_slices_IndexFunc_int, call_slices_IndexFunc_int⟩, ⟨fun_slices_ContainsFunc_int, call_slices_ContainsFunc_int⟩, ⟨fun_impl_areAll_int, call_impl_areAll_int⟩, trivial⟩ ⟨⟨rfl, pf_impl_Commit_isAt_1⟩, ⟨rfl, pf_impl_areAll_int_1⟩, ⟨rfl, pf_slices_IndexFunc_int⟩, ⟨rfl, pf_slices_ContainsFunc_int⟩, ⟨rfl, pf_impl_areAll_int⟩, trivial⟩ pf_impl_Commit_isAt trivial rfl) ⟨⟨rfl, pf_impl_Commit_isAt_1⟩, ⟨rfl, pf_impl_areAll_int_1⟩, ⟨rfl, pf_slices_IndexFunc_int⟩, ⟨rfl, pf_slices_ContainsFunc_int⟩, ⟨rfl, pf_impl_areAll_int⟩, trivial⟩ pf_impl_Commit_isAt fun_impl_Commit_isAt call_impl_Commit_isAt (fun x => by kernel_rfl)
theorem fun_impl_areCommits : Try.prog.funcs[49]? = some Try.f49 := by kernel_rfl
theorem call_impl_areCommits : Fw.Callable Try.prog 49 := Fw.callable_of fun_impl_areCommits (by kernel_rfl) (by kernel_rfl)
theorem pf_impl_areCommits : Fw.PFn.of Try.f49 = some Sg.f_impl_areCommits := Fw.PFn.of_get (by kernel_rfl)
theorem l_impl_areCommits_0 (K : Nat) : Fw.LoopP (Sg.c_impl_areCommits K) Sg.i_impl_areCommits Sg.f_impl_areCommits (Sg.p_impl_areCommits_0 K) := ⟨fun _ => by kernel_rfl, fun n p => by kernel_rfl⟩
theorem ok_impl_areCommits (K : Nat) : Fw.Ok Try.prog 49 (Sg.s_impl_areCommits K) := Fw.funP_ok (c := Sg.c_impl_areCommits K) (pi := Sg.i_impl_areCommits) (depth := 6) (Fw.cfgP_ok (pi := Sg.i_impl_areCommits) Sg.tabOK Sg.eqsOK Sg.mixOK ⟨ok_impl_Commit_isAt K, trivial⟩ trivial trivial pf_impl_areCommits ⟨⟨_, rfl, l_impl_areCommits_0 K⟩, trivial⟩ rfl) trivial pf_impl_areCommits fun_impl_areCommits call_impl_areCommits (fun x => by kernel_rfl)
theorem fun_impl_StoreOK : Try.prog.funcs[33]? = some Try.f33 := by kernel_rfl
theorem call_impl_StoreOK : Fw.Callable Try.prog 33 := Fw.callable_of fun_impl_StoreOK (by kernel_rfl) (by kernel_rfl)
theorem pf_impl_StoreOK : Fw.PFn.of Try.f33 = some Sg.f_impl_StoreOK := Fw.PFn.of_get (by kernel_rfl)
theorem ok_impl_StoreOK (K : Nat) : Fw.Ok Try.prog 33 (Sg.s_impl_StoreOK K) := Fw.funP_ok (c := Sg.c_impl_StoreOK K) (pi := Sg.i_impl_StoreOK) (depth := 6) (Fw.cfgP_ok (pi := Sg.i_impl_StoreOK) Sg.tabOK Sg.eqsOK Sg.mixOK ⟨ok_impl_isList_impl_Commit K, ok_impl_areCommits K, trivial⟩ trivial trivial pf_impl_StoreOK trivial rfl) trivial pf_impl_StoreOK fun_impl_StoreOK call_impl_StoreOK (fun x => by kernel_rfl)
theorem fun_impl_areAll_impl_Ref_1 : Try.prog.funcs[53]? = some Try.f53 := by kernel_rfl
theorem call_impl_areAll_impl_Ref_1 : Fw.Callable Try.prog 53 := Fw.callable_of fun_impl_areAll_impl_Ref_1 (by kernel_rfl) (by kernel_rfl)
theorem pf_impl_areAll_impl_Ref_1 : Fw.PFn.of Try.f53 = some Sg.f_impl_areAll_impl_Ref_1 := Fw.PFn.of_get (by kernel_rfl)
theorem fun_slices_IndexFunc_impl_Ref : Try.prog.funcs[64]? = some Try.f64 := by kernel_rfl
theorem call_slices_IndexFunc_impl_Ref : Fw.Callable Try.prog 64 := Fw.callable_of fun_slices_IndexFunc_impl_Ref (by kernel_rfl) (by kernel_rfl)
theorem pf_slices_IndexFunc_impl_Ref : Fw.PFn.of Try.f64 = some Sg.f_slices_IndexFunc_impl_Ref := Fw.PFn.of_get (by kernel_rfl)
theorem fun_slices_ContainsFunc_impl_Ref : Try.prog.funcs[52]? = some Try.f52 := by kernel_rfl
theorem call_slices_ContainsFunc_impl_Ref : Fw.Callable Try.prog 52 := Fw.callable_of fun_slices_ContainsFunc_impl_Ref (by kernel_rfl) (by kernel_rfl)
theorem pf_slices_ContainsFunc_impl_Ref : Fw.PFn.of Try.f52 = some Sg.f_slices_ContainsFunc_impl_Ref := Fw.PFn.of_get (by kernel_rfl)
theorem fun_impl_areAll_impl_Ref : Try.prog.funcs[35]? = some Try.f35 := by kernel_rfl
theorem call_impl_areAll_impl_Ref : Fw.Callable Try.prog 35 := Fw.callable_of fun_impl_areAll_impl_Ref (by kernel_rfl) (by kernel_rfl)
theorem pf_impl_areAll_impl_Ref : Fw.PFn.of Try.f35 = some Sg.f_impl_areAll_impl_Ref := Fw.PFn.of_get (by kernel_rfl)
theorem fun_impl_isHead : Try.prog.funcs[63]? = some Try.f63 := by kernel_rfl
theorem call_impl_isHead : Fw.Callable Try.prog 63 := Fw.callable_of fun_impl_isHead (by kernel_rfl) (by kernel_rfl)
theorem pf_impl_isHead : Fw.PFn.of Try.f63 = some Sg.f_impl_isHead := Fw.PFn.of_get (by kernel_rfl)
theorem ok_impl_isHead (K : Nat) : Fw.Ok Try.prog 63 (Sg.s_impl_isHead K) := Fw.funP_ok (c := Sg.c_impl_isHead K) (pi := Sg.i_impl_isHead) (depth := 6) (Fw.cfgP_ok (pi := Sg.i_impl_isHead) Sg.tabOK Sg.eqsOK Sg.mixOK ⟨ok_impl_within K, trivial⟩ trivial trivial pf_impl_isHead trivial rfl) trivial pf_impl_isHead fun_impl_isHead call_impl_isHead (fun x => by kernel_rfl)
theorem fun_impl_isRef : Try.prog.funcs[50]? = some Try.f50 := by kernel_rfl
theorem call_impl_isRef : Fw.Callable Try.prog 50 := Fw.callable_of fun_impl_isRef (by kernel_rfl) (by kernel_rfl)
theorem pf_impl_isRef : Fw.PFn.of Try.f50 = some Sg.f_impl_isRef := Fw.PFn.of_get (by kernel_rfl)
theorem ok_impl_isRef (K : Nat) : Fw.Ok Try.prog 50 (Sg.s_impl_isRef K) := Fw.funP_ok (c := Sg.c_impl_isRef K) (pi := Sg.i_impl_isRef) (depth := 6) (Fw.cfgP_ok (pi := Sg.i_impl_isRef) Sg.tabOK Sg.eqsOK Sg.mixOK ⟨ok_impl_within K, ok_impl_NameOK K, ok_impl_isHead K, trivial⟩ trivial trivial pf_impl_isRef trivial rfl) trivial pf_impl_isRef fun_impl_isRef call_impl_isRef (fun x => by kernel_rfl)
theorem fun_impl_place_1 : Try.prog.funcs[65]? = some Try.f65 := by kernel_rfl
theorem call_impl_place_1 : Fw.Callable Try.prog 65 := Fw.callable_of fun_impl_place_1 (by kernel_rfl) (by kernel_rfl)
theorem pf_impl_place_1 : Fw.PFn.of Try.f65 = some Sg.f_impl_place_1 := Fw.PFn.of_get (by kernel_rfl)
theorem l_slices_IndexFunc_impl_Ref__impl_place_1_0 (K : Nat) : Fw.LoopP (Sg.c_slices_IndexFunc_impl_Ref__impl_place_1 K) Sg.i_slices_IndexFunc_impl_Ref__impl_place_1 Sg.f_slices_IndexFunc_impl_Ref (Sg.p_slices_IndexFunc_impl_Ref__impl_place_1_0 K) := ⟨fun _ => by kernel_rfl, fun n p => by kernel_rfl⟩
theorem ok_slices_IndexFunc_impl_Ref__impl_place_1 (K : Nat) : Fw.Ok Try.prog 64 (Sg.s_slices_IndexFunc_impl_Ref__impl_place_1 K) := Fw.funP_ok (c := Sg.c_slices_IndexFunc_impl_Ref__impl_place_1 K) (pi := Sg.i_slices_IndexFunc_impl_Ref__impl_place_1) (depth := 6) (Fw.cfgP_ok (pi := Sg.i_slices_IndexFunc_impl_Ref__impl_place_1) Sg.tabOK Sg.eqsOK Sg.mixOK trivial ⟨⟨fun_impl_place_1, call_impl_place_1⟩, trivial⟩ ⟨⟨rfl, pf_impl_place_1⟩, trivial⟩ pf_slices_IndexFunc_impl_Ref ⟨⟨_, rfl, l_slices_IndexFunc_impl_Ref__impl_place_1_0 K⟩, trivial⟩ rfl) ⟨⟨rfl, pf_impl_place_1⟩, trivial⟩ pf_slices_IndexFunc_impl_Ref fun_slices_IndexFunc_impl_Ref call_slices_IndexFunc_impl_Ref (fun x => by kernel_rfl)
theorem fun_impl_place : Try.prog.funcs[51]? = some Try.f51 := by kernel_rfl
theorem call_impl_place : Fw.Callable Try.prog 51 := Fw.callable_of fun_impl_place (by kernel_rfl) (by kernel_rfl)
theorem pf_impl_place : Fw.PFn.of Try.f51 = some Sg.f_impl_place := Fw.PFn.of_get (by kernel_rfl)
theorem ok_impl_place (K : Nat) : Fw.Ok Try.prog 51 (Sg.s_impl_place K) := Fw.funP_ok (c := Sg.c_impl_place K) (pi := Sg.i_impl_place) (depth := 6) (Fw.cfgP_ok (pi := Sg.i_impl_place) Sg.tabOK Sg.eqsOK Sg.mixOK ⟨ok_slices_IndexFunc_impl_Ref__impl_place_1 K, trivial⟩ ⟨⟨fun_slices_IndexFunc_impl_Ref, call_slices_IndexFunc_impl_Ref⟩, ⟨fun_impl_place_1, call_impl_place_1⟩, trivial⟩ ⟨⟨rfl, pf_slices_IndexFunc_impl_Ref⟩, ⟨rfl, pf_impl_place_1⟩, trivial⟩ pf_impl_place trivial rfl) ⟨⟨rfl, pf_slices_IndexFunc_impl_Ref⟩, ⟨rfl, pf_impl_place_1⟩, trivial⟩ pf_impl_place fun_impl_place call_impl_place (fun x => by kernel_rfl)
theorem l_impl_areAll_impl_Ref__impl_isRef_0 (K : Nat) : Fw.LoopP (Sg.c_impl_areAll_impl_Ref__impl_isRef K) Sg.i_impl_areAll_impl_Ref__impl_isRef Sg.f_slices_IndexFunc_impl_Ref (Sg.p_impl_areAll_impl_Ref__impl_isRef_0 K) := ⟨fun _ => by kernel_rfl, fun n p => by kernel_rfl⟩
theorem ok_impl_areAll_impl_Ref__impl_isRef (K : Nat) : Fw.Ok Try.prog 35 (Sg.s_impl_areAll_impl_Ref__impl_isRef K) := Fw.funP_ok (c := Sg.c_impl_areAll_impl_Ref__impl_isRef K) (pi := Sg.i_impl_areAll_impl_Ref__impl_isRef) (depth := 6) (Fw.cfgP_ok (pi := Sg.i_impl_areAll_impl_Ref__impl_isRef) Sg.tabOK Sg.eqsOK Sg.mixOK ⟨ok_impl_isRef K, trivial⟩ ⟨⟨fun_impl_areAll_impl_Ref_1, call_impl_areAll_impl_Ref_1⟩, ⟨fun_slices_IndexFunc_impl_Ref, call_slices_IndexFunc_impl_Ref⟩, ⟨fun_slices_ContainsFunc_impl_Ref, call_slices_ContainsFunc_impl_Ref⟩, trivial⟩ ⟨⟨rfl, pf_impl_areAll_impl_Ref_1⟩, ⟨rfl, pf_slices_IndexFunc_impl_Ref⟩, ⟨rfl, pf_slices_ContainsFunc_impl_Ref⟩, trivial⟩ pf_impl_areAll_impl_Ref ⟨⟨_, rfl, l_impl_areAll_impl_Ref__impl_isRef_0 K⟩, trivial⟩ rfl) ⟨⟨rfl, pf_impl_areAll_impl_Ref_1⟩, ⟨rfl, pf_slices_IndexFunc_impl_Ref⟩, ⟨rfl, pf_slices_ContainsFunc_impl_Ref⟩, trivial⟩ pf_impl_areAll_impl_Ref fun_impl_areAll_impl_Ref call_impl_areAll_impl_Ref (fun x => by kernel_rfl)
theorem fun_impl_RefsOK : Try.prog.funcs[34]? = some Try.f34 := by kernel_rfl
theorem call_impl_RefsOK : Fw.Callable Try.prog 34 := Fw.callable_of fun_impl_RefsOK (by kernel_rfl) (by kernel_rfl)
theorem pf_impl_RefsOK : Fw.PFn.of Try.f34 = some Sg.f_impl_RefsOK := Fw.PFn.of_get (by kernel_rfl)
theorem l_impl_RefsOK_0 (K : Nat) : Fw.LoopP (Sg.c_impl_RefsOK K) Sg.i_impl_RefsOK Sg.f_impl_RefsOK (Sg.p_impl_RefsOK_0 K) := ⟨fun _ => by kernel_rfl, fun n p => by kernel_rfl⟩
theorem ok_impl_RefsOK (K : Nat) : Fw.Ok Try.prog 34 (Sg.s_impl_RefsOK K) := Fw.funP_ok (c := Sg.c_impl_RefsOK K) (pi := Sg.i_impl_RefsOK) (depth := 6) (Fw.cfgP_ok (pi := Sg.i_impl_RefsOK) Sg.tabOK Sg.eqsOK Sg.mixOK ⟨ok_impl_isRef K, ok_impl_place K, ok_impl_areAll_impl_Ref__impl_isRef K, trivial⟩ ⟨⟨fun_impl_areAll_impl_Ref_1, call_impl_areAll_impl_Ref_1⟩, ⟨fun_slices_IndexFunc_impl_Ref, call_slices_IndexFunc_impl_Ref⟩, ⟨fun_slices_ContainsFunc_impl_Ref, call_slices_ContainsFunc_impl_Ref⟩, ⟨fun_impl_areAll_impl_Ref, call_impl_areAll_impl_Ref⟩, trivial⟩ ⟨⟨rfl, pf_impl_areAll_impl_Ref_1⟩, ⟨rfl, pf_slices_IndexFunc_impl_Ref⟩, ⟨rfl, pf_slices_ContainsFunc_impl_Ref⟩, ⟨rfl, pf_impl_areAll_impl_Ref⟩, trivial⟩ pf_impl_RefsOK ⟨⟨_, rfl, l_impl_RefsOK_0 K⟩, trivial⟩ rfl) ⟨⟨rfl, pf_impl_areAll_impl_Ref_1⟩, ⟨rfl, pf_slices_IndexFunc_impl_Ref⟩, ⟨rfl, pf_slices_ContainsFunc_impl_Ref⟩, ⟨rfl, pf_impl_areAll_impl_Ref⟩, trivial⟩ pf_impl_RefsOK fun_impl_RefsOK call_impl_RefsOK (fun x => by kernel_rfl)
theorem fun_impl_BaseOK_1 : Try.prog.funcs[36]? = some Try.f36 := by kernel_rfl
theorem call_impl_BaseOK_1 : Fw.Callable Try.prog 36 := Fw.callable_of fun_impl_BaseOK_1 (by kernel_rfl) (by kernel_rfl)
theorem pf_impl_BaseOK_1 : Fw.PFn.of Try.f36 = some Sg.f_impl_BaseOK_1 := Fw.PFn.of_get (by kernel_rfl)
theorem l_impl_areAll_impl_Ref__impl_BaseOK_1_0 (K : Nat) : Fw.LoopP (Sg.c_impl_areAll_impl_Ref__impl_BaseOK_1 K) Sg.i_impl_areAll_impl_Ref__impl_BaseOK_1 Sg.f_slices_IndexFunc_impl_Ref (Sg.p_impl_areAll_impl_Ref__impl_BaseOK_1_0 K) := ⟨fun _ => by kernel_rfl, fun n p => by kernel_rfl⟩
theorem ok_impl_areAll_impl_Ref__impl_BaseOK_1 (K : Nat) : Fw.Ok Try.prog 35 (Sg.s_impl_areAll_impl_Ref__impl_BaseOK_1 K) := Fw.funP_ok (c := Sg.c_impl_areAll_impl_Ref__impl_BaseOK_1 K) (pi := Sg.i_impl_areAll_impl_Ref__impl_BaseOK_1) (depth := 6) (Fw.cfgP_ok (pi := Sg.i_impl_areAll_impl_Ref__impl_BaseOK_1) Sg.tabOK Sg.eqsOK Sg.mixOK trivial ⟨⟨fun_impl_areAll_impl_Ref_1, call_impl_areAll_impl_Ref_1⟩, ⟨fun_slices_IndexFunc_impl_Ref, call_slices_IndexFunc_impl_Ref⟩, ⟨fun_slices_ContainsFunc_impl_Ref, call_slices_ContainsFunc_impl_Ref⟩, ⟨fun_impl_BaseOK_1, call_impl_BaseOK_1⟩, trivial⟩ ⟨⟨rfl, pf_impl_areAll_impl_Ref_1⟩, ⟨rfl, pf_slices_IndexFunc_impl_Ref⟩, ⟨rfl, pf_slices_ContainsFunc_impl_Ref⟩, ⟨rfl, pf_impl_BaseOK_1⟩, trivial⟩ pf_impl_areAll_impl_Ref ⟨⟨_, rfl, l_impl_areAll_impl_Ref__impl_BaseOK_1_0 K⟩, trivial⟩ rfl) ⟨⟨rfl, pf_impl_areAll_impl_Ref_1⟩, ⟨rfl, pf_slices_IndexFunc_impl_Ref⟩, ⟨rfl, pf_slices_ContainsFunc_impl_Ref⟩, ⟨rfl, pf_impl_BaseOK_1⟩, trivial⟩ pf_impl_areAll_impl_Ref fun_impl_areAll_impl_Ref call_impl_areAll_impl_Ref (fun x => by kernel_rfl)
theorem fun_impl_BaseOK : Try.prog.funcs[18]? = some Try.f18 := by kernel_rfl
theorem call_impl_BaseOK : Fw.Callable Try.prog 18 := Fw.callable_of fun_impl_BaseOK (by kernel_rfl) (by kernel_rfl)
theorem pf_impl_BaseOK : Fw.PFn.of Try.f18 = some Sg.f_impl_BaseOK := Fw.PFn.of_get (by kernel_rfl)
theorem ok_impl_BaseOK (K : Nat) : Fw.Ok Try.prog 18 (Sg.s_impl_BaseOK K) := Fw.funP_ok (c := Sg.c_impl_BaseOK K) (pi := Sg.i_impl_BaseOK) (depth := 6) (Fw.cfgP_ok (pi := Sg.i_impl_BaseOK) Sg.tabOK Sg.eqsOK Sg.mixOK ⟨ok_impl_StoreOK K, ok_impl_RefsOK K, ok_impl_areAll_impl_Ref__impl_BaseOK_1 K, trivial⟩ ⟨⟨fun_impl_areAll_impl_Ref_1, call_impl_areAll_impl_Ref_1⟩, ⟨fun_slices_IndexFunc_impl_Ref, call_slices_IndexFunc_impl_Ref⟩, ⟨fun_slices_ContainsFunc_impl_Ref, call_slices_ContainsFunc_impl_Ref⟩, ⟨fun_impl_areAll_impl_Ref, call_impl_areAll_impl_Ref⟩, ⟨fun_impl_BaseOK_1, call_impl_BaseOK_1⟩, trivial⟩ ⟨⟨rfl, pf_impl_areAll_impl_Ref_1⟩, ⟨rfl, pf_slices_IndexFunc_impl_Ref⟩, ⟨rfl, pf_slices_ContainsFunc_impl_Ref⟩, ⟨rfl, pf_impl_areAll_impl_Ref⟩, ⟨rfl, pf_impl_BaseOK_1⟩, trivial⟩ pf_impl_BaseOK trivial rfl) ⟨⟨rfl, pf_impl_areAll_impl_Ref_1⟩, ⟨rfl, pf_slices_IndexFunc_impl_Ref⟩, ⟨rfl, pf_slices_ContainsFunc_impl_Ref⟩, ⟨rfl, pf_impl_areAll_impl_Ref⟩, ⟨rfl, pf_impl_BaseOK_1⟩, trivial⟩ pf_impl_BaseOK fun_impl_BaseOK call_impl_BaseOK (fun x => by kernel_rfl)
theorem fun_impl_DecodeBase : Try.prog.funcs[5]? = some Try.f5 := by kernel_rfl
theorem call_impl_DecodeBase : Fw.Callable Try.prog 5 := Fw.callable_of fun_impl_DecodeBase (by kernel_rfl) (by kernel_rfl)
theorem pf_impl_DecodeBase : Fw.PFn.of Try.f5 = some Sg.f_impl_DecodeBase := Fw.PFn.of_get (by kernel_rfl)
theorem l_impl_DecodeBase_0 (K : Nat) : Fw.LoopP (Sg.c_impl_DecodeBase K) Sg.i_impl_DecodeBase Sg.f_impl_DecodeBase (Sg.p_impl_DecodeBase_0 K) := ⟨fun _ => by kernel_rfl, fun n p => by kernel_rfl⟩
theorem l_impl_DecodeBase_1 (K : Nat) : Fw.LoopP (Sg.c_impl_DecodeBase K) Sg.i_impl_DecodeBase Sg.f_impl_DecodeBase (Sg.p_impl_DecodeBase_1 K) := ⟨fun _ => by kernel_rfl, fun n p => by kernel_rfl⟩
theorem ok_impl_DecodeBase (K : Nat) : Fw.Ok Try.prog 5 (Sg.s_impl_DecodeBase K) := Fw.funP_ok (c := Sg.c_impl_DecodeBase K) (pi := Sg.i_impl_DecodeBase) (depth := 6) (Fw.cfgP_ok (pi := Sg.i_impl_DecodeBase) Sg.tabOK Sg.eqsOK Sg.mixOK ⟨ok_impl_isText K, ok_strings_HasPrefix K, ok_impl_reader_number K, ok_impl_reader_few K, ok_impl_reader_text K, ok_impl_reader_commit K, ok_impl_reader_ends K, ok_impl_sumOf K, ok_impl_BaseOK K, trivial⟩ trivial trivial pf_impl_DecodeBase ⟨⟨_, rfl, l_impl_DecodeBase_0 K⟩, ⟨_, rfl, l_impl_DecodeBase_1 K⟩, trivial⟩ rfl) trivial pf_impl_DecodeBase fun_impl_DecodeBase call_impl_DecodeBase (fun x => by kernel_rfl)
theorem fun_laws_eqIntS : Try.prog.funcs[54]? = some Try.f54 := by kernel_rfl
theorem call_laws_eqIntS : Fw.Callable Try.prog 54 := Fw.callable_of fun_laws_eqIntS (by kernel_rfl) (by kernel_rfl)
theorem pf_laws_eqIntS : Fw.PFn.of Try.f54 = some Sg.f_laws_eqIntS := Fw.PFn.of_get (by kernel_rfl)
theorem l_laws_eqIntS_0 (K : Nat) : Fw.LoopP (Sg.c_laws_eqIntS K) Sg.i_laws_eqIntS Sg.f_laws_eqIntS (Sg.p_laws_eqIntS_0 K) := ⟨fun _ => by kernel_rfl, fun n p => by kernel_rfl⟩
theorem ok_laws_eqIntS (K : Nat) : Fw.Ok Try.prog 54 (Sg.s_laws_eqIntS K) := Fw.funP_ok (c := Sg.c_laws_eqIntS K) (pi := Sg.i_laws_eqIntS) (depth := 6) (Fw.cfgP_ok (pi := Sg.i_laws_eqIntS) Sg.tabOK Sg.eqsOK Sg.mixOK trivial trivial trivial pf_laws_eqIntS ⟨⟨_, rfl, l_laws_eqIntS_0 K⟩, trivial⟩ rfl) trivial pf_laws_eqIntS fun_laws_eqIntS call_laws_eqIntS (fun x => by kernel_rfl)
theorem fun_laws_eqEntry : Try.prog.funcs[66]? = some Try.f66 := by kernel_rfl
theorem call_laws_eqEntry : Fw.Callable Try.prog 66 := Fw.callable_of fun_laws_eqEntry (by kernel_rfl) (by kernel_rfl)
theorem pf_laws_eqEntry : Fw.PFn.of Try.f66 = some Sg.f_laws_eqEntry := Fw.PFn.of_get (by kernel_rfl)
theorem ok_laws_eqEntry (K : Nat) : Fw.Ok Try.prog 66 (Sg.s_laws_eqEntry K) := Fw.funP_ok (c := Sg.c_laws_eqEntry K) (pi := Sg.i_laws_eqEntry) (depth := 6) (Fw.cfgP_ok (pi := Sg.i_laws_eqEntry) Sg.tabOK Sg.eqsOK Sg.mixOK trivial trivial trivial pf_laws_eqEntry trivial rfl) trivial pf_laws_eqEntry fun_laws_eqEntry call_laws_eqEntry (fun x => by kernel_rfl)
theorem fun_laws_eqEntryS : Try.prog.funcs[55]? = some Try.f55 := by kernel_rfl
theorem call_laws_eqEntryS : Fw.Callable Try.prog 55 := Fw.callable_of fun_laws_eqEntryS (by kernel_rfl) (by kernel_rfl)
theorem pf_laws_eqEntryS : Fw.PFn.of Try.f55 = some Sg.f_laws_eqEntryS := Fw.PFn.of_get (by kernel_rfl)
theorem l_laws_eqEntryS_0 (K : Nat) : Fw.LoopP (Sg.c_laws_eqEntryS K) Sg.i_laws_eqEntryS Sg.f_laws_eqEntryS (Sg.p_laws_eqEntryS_0 K) := ⟨fun _ => by kernel_rfl, fun n p => by kernel_rfl⟩
theorem ok_laws_eqEntryS (K : Nat) : Fw.Ok Try.prog 55 (Sg.s_laws_eqEntryS K) := Fw.funP_ok (c := Sg.c_laws_eqEntryS K) (pi := Sg.i_laws_eqEntryS) (depth := 6) (Fw.cfgP_ok (pi := Sg.i_laws_eqEntryS) Sg.tabOK Sg.eqsOK Sg.mixOK ⟨ok_laws_eqEntry K, trivial⟩ trivial trivial pf_laws_eqEntryS ⟨⟨_, rfl, l_laws_eqEntryS_0 K⟩, trivial⟩ rfl) trivial pf_laws_eqEntryS fun_laws_eqEntryS call_laws_eqEntryS (fun x => by kernel_rfl)
theorem fun_laws_eqCommit : Try.prog.funcs[37]? = some Try.f37 := by kernel_rfl
theorem call_laws_eqCommit : Fw.Callable Try.prog 37 := Fw.callable_of fun_laws_eqCommit (by kernel_rfl) (by kernel_rfl)
theorem pf_laws_eqCommit : Fw.PFn.of Try.f37 = some Sg.f_laws_eqCommit := Fw.PFn.of_get (by kernel_rfl)
theorem ok_laws_eqCommit (K : Nat) : Fw.Ok Try.prog 37 (Sg.s_laws_eqCommit K) := Fw.funP_ok (c := Sg.c_laws_eqCommit K) (pi := Sg.i_laws_eqCommit) (depth := 6) (Fw.cfgP_ok (pi := Sg.i_laws_eqCommit) Sg.tabOK Sg.eqsOK Sg.mixOK ⟨ok_laws_eqIntS K, ok_laws_eqEntryS K, trivial⟩ trivial trivial pf_laws_eqCommit trivial rfl) trivial pf_laws_eqCommit fun_laws_eqCommit call_laws_eqCommit (fun x => by kernel_rfl)
theorem fun_laws_eqCommitS : Try.prog.funcs[19]? = some Try.f19 := by kernel_rfl
theorem call_laws_eqCommitS : Fw.Callable Try.prog 19 := Fw.callable_of fun_laws_eqCommitS (by kernel_rfl) (by kernel_rfl)
theorem pf_laws_eqCommitS : Fw.PFn.of Try.f19 = some Sg.f_laws_eqCommitS := Fw.PFn.of_get (by kernel_rfl)
theorem l_laws_eqCommitS_0 (K : Nat) : Fw.LoopP (Sg.c_laws_eqCommitS K) Sg.i_laws_eqCommitS Sg.f_laws_eqCommitS (Sg.p_laws_eqCommitS_0 K) := ⟨fun _ => by kernel_rfl, fun n p => by kernel_rfl⟩
theorem ok_laws_eqCommitS (K : Nat) : Fw.Ok Try.prog 19 (Sg.s_laws_eqCommitS K) := Fw.funP_ok (c := Sg.c_laws_eqCommitS K) (pi := Sg.i_laws_eqCommitS) (depth := 6) (Fw.cfgP_ok (pi := Sg.i_laws_eqCommitS) Sg.tabOK Sg.eqsOK Sg.mixOK ⟨ok_laws_eqCommit K, trivial⟩ trivial trivial pf_laws_eqCommitS ⟨⟨_, rfl, l_laws_eqCommitS_0 K⟩, trivial⟩ rfl) trivial pf_laws_eqCommitS fun_laws_eqCommitS call_laws_eqCommitS (fun x => by kernel_rfl)
theorem fun_laws_eqRef : Try.prog.funcs[38]? = some Try.f38 := by kernel_rfl
theorem call_laws_eqRef : Fw.Callable Try.prog 38 := Fw.callable_of fun_laws_eqRef (by kernel_rfl) (by kernel_rfl)
theorem pf_laws_eqRef : Fw.PFn.of Try.f38 = some Sg.f_laws_eqRef := Fw.PFn.of_get (by kernel_rfl)
theorem ok_laws_eqRef (K : Nat) : Fw.Ok Try.prog 38 (Sg.s_laws_eqRef K) := Fw.funP_ok (c := Sg.c_laws_eqRef K) (pi := Sg.i_laws_eqRef) (depth := 6) (Fw.cfgP_ok (pi := Sg.i_laws_eqRef) Sg.tabOK Sg.eqsOK Sg.mixOK trivial trivial trivial pf_laws_eqRef trivial rfl) trivial pf_laws_eqRef fun_laws_eqRef call_laws_eqRef (fun x => by kernel_rfl)
theorem fun_laws_eqRefS : Try.prog.funcs[20]? = some Try.f20 := by kernel_rfl
theorem call_laws_eqRefS : Fw.Callable Try.prog 20 := Fw.callable_of fun_laws_eqRefS (by kernel_rfl) (by kernel_rfl)
theorem pf_laws_eqRefS : Fw.PFn.of Try.f20 = some Sg.f_laws_eqRefS := Fw.PFn.of_get (by kernel_rfl)
theorem l_laws_eqRefS_0 (K : Nat) : Fw.LoopP (Sg.c_laws_eqRefS K) Sg.i_laws_eqRefS Sg.f_laws_eqRefS (Sg.p_laws_eqRefS_0 K) := ⟨fun _ => by kernel_rfl, fun n p => by kernel_rfl⟩
theorem ok_laws_eqRefS (K : Nat) : Fw.Ok Try.prog 20 (Sg.s_laws_eqRefS K) := Fw.funP_ok (c := Sg.c_laws_eqRefS K) (pi := Sg.i_laws_eqRefS) (depth := 6) (Fw.cfgP_ok (pi := Sg.i_laws_eqRefS) Sg.tabOK Sg.eqsOK Sg.mixOK ⟨ok_laws_eqRef K, trivial⟩ trivial trivial pf_laws_eqRefS ⟨⟨_, rfl, l_laws_eqRefS_0 K⟩, trivial⟩ rfl) trivial pf_laws_eqRefS fun_laws_eqRefS call_laws_eqRefS (fun x => by kernel_rfl)
theorem fun_laws_eqBase : Try.prog.funcs[6]? = some Try.f6 := by kernel_rfl
theorem call_laws_eqBase : Fw.Callable Try.prog 6 := Fw.callable_of fun_laws_eqBase (by kernel_rfl) (by kernel_rfl)
theorem pf_laws_eqBase : Fw.PFn.of Try.f6 = some Sg.f_laws_eqBase := Fw.PFn.of_get (by kernel_rfl)
theorem ok_laws_eqBase (K : Nat) : Fw.Ok Try.prog 6 (Sg.s_laws_eqBase K) := Fw.funP_ok (c := Sg.c_laws_eqBase K) (pi := Sg.i_laws_eqBase) (depth := 6) (Fw.cfgP_ok (pi := Sg.i_laws_eqBase) Sg.tabOK Sg.eqsOK Sg.mixOK ⟨ok_laws_eqCommitS K, ok_laws_eqRefS K, trivial⟩ trivial trivial pf_laws_eqBase trivial rfl) trivial pf_laws_eqBase fun_laws_eqBase call_laws_eqBase (fun x => by kernel_rfl)
theorem fun_laws_markIntS : Try.prog.funcs[39]? = some Try.f39 := by kernel_rfl
theorem call_laws_markIntS : Fw.Callable Try.prog 39 := Fw.callable_of fun_laws_markIntS (by kernel_rfl) (by kernel_rfl)
theorem pf_laws_markIntS : Fw.PFn.of Try.f39 = some Sg.f_laws_markIntS := Fw.PFn.of_get (by kernel_rfl)
theorem l_laws_markIntS_0 (K : Nat) : Fw.LoopP (Sg.c_laws_markIntS K) Sg.i_laws_markIntS Sg.f_laws_markIntS (Sg.p_laws_markIntS_0 K) := ⟨fun _ => by kernel_rfl, fun n p => by kernel_rfl⟩
theorem ok_laws_markIntS (K : Nat) : Fw.Ok Try.prog 39 (Sg.s_laws_markIntS K) := Fw.funP_ok (c := Sg.c_laws_markIntS K) (pi := Sg.i_laws_markIntS) (depth := 6) (Fw.cfgP_ok (pi := Sg.i_laws_markIntS) Sg.tabOK Sg.eqsOK Sg.mixOK trivial trivial trivial pf_laws_markIntS ⟨⟨_, rfl, l_laws_markIntS_0 K⟩, trivial⟩ rfl) trivial pf_laws_markIntS fun_laws_markIntS call_laws_markIntS (fun x => by kernel_rfl)
theorem fun_laws_markText : Try.prog.funcs[41]? = some Try.f41 := by kernel_rfl
theorem call_laws_markText : Fw.Callable Try.prog 41 := Fw.callable_of fun_laws_markText (by kernel_rfl) (by kernel_rfl)
theorem pf_laws_markText : Fw.PFn.of Try.f41 = some Sg.f_laws_markText := Fw.PFn.of_get (by kernel_rfl)
theorem l_laws_markText_0 (K : Nat) : Fw.LoopP (Sg.c_laws_markText K) Sg.i_laws_markText Sg.f_laws_markText (Sg.p_laws_markText_0 K) := ⟨fun _ => by kernel_rfl, fun n p => by kernel_rfl⟩
theorem ok_laws_markText (K : Nat) : Fw.Ok Try.prog 41 (Sg.s_laws_markText K) := Fw.funP_ok (c := Sg.c_laws_markText K) (pi := Sg.i_laws_markText) (depth := 6) (Fw.cfgP_ok (pi := Sg.i_laws_markText) Sg.tabOK Sg.eqsOK Sg.mixOK trivial trivial trivial pf_laws_markText ⟨⟨_, rfl, l_laws_markText_0 K⟩, trivial⟩ rfl) trivial pf_laws_markText fun_laws_markText call_laws_markText (fun x => by kernel_rfl)
theorem fun_laws_markEntryS : Try.prog.funcs[40]? = some Try.f40 := by kernel_rfl
theorem call_laws_markEntryS : Fw.Callable Try.prog 40 := Fw.callable_of fun_laws_markEntryS (by kernel_rfl) (by kernel_rfl)
theorem pf_laws_markEntryS : Fw.PFn.of Try.f40 = some Sg.f_laws_markEntryS := Fw.PFn.of_get (by kernel_rfl)
theorem l_laws_markEntryS_0 (K : Nat) : Fw.LoopP (Sg.c_laws_markEntryS K) Sg.i_laws_markEntryS Sg.f_laws_markEntryS (Sg.p_laws_markEntryS_0 K) := ⟨fun _ => by kernel_rfl, fun n p => by kernel_rfl⟩
theorem ok_laws_markEntryS (K : Nat) : Fw.Ok Try.prog 40 (Sg.s_laws_markEntryS K) := Fw.funP_ok (c := Sg.c_laws_markEntryS K) (pi := Sg.i_laws_markEntryS) (depth := 6) (Fw.cfgP_ok (pi := Sg.i_laws_markEntryS) Sg.tabOK Sg.eqsOK Sg.mixOK ⟨ok_laws_markText K, trivial⟩ trivial trivial pf_laws_markEntryS ⟨⟨_, rfl, l_laws_markEntryS_0 K⟩, trivial⟩ rfl) trivial pf_laws_markEntryS fun_laws_markEntryS call_laws_markEntryS (fun x => by kernel_rfl)
theorem fun_laws_markCommitS : Try.prog.funcs[21]? = some Try.f21 := by kernel_rfl
theorem call_laws_markCommitS : Fw.Callable Try.prog 21 := Fw.callable_of fun_laws_markCommitS (by kernel_rfl) (by kernel_rfl)
theorem pf_laws_markCommitS : Fw.PFn.of Try.f21 = some Sg.f_laws_markCommitS := Fw.PFn.of_get (by kernel_rfl)
theorem l_laws_markCommitS_0 (K : Nat) : Fw.LoopP (Sg.c_laws_markCommitS K) Sg.i_laws_markCommitS Sg.f_laws_markCommitS (Sg.p_laws_markCommitS_0 K) := ⟨fun _ => by kernel_rfl, fun n p => by kernel_rfl⟩
theorem ok_laws_markCommitS (K : Nat) : Fw.Ok Try.prog 21 (Sg.s_laws_markCommitS K) := Fw.funP_ok (c := Sg.c_laws_markCommitS K) (pi := Sg.i_laws_markCommitS) (depth := 6) (Fw.cfgP_ok (pi := Sg.i_laws_markCommitS) Sg.tabOK Sg.eqsOK Sg.mixOK ⟨ok_laws_markIntS K, ok_laws_markEntryS K, trivial⟩ trivial trivial pf_laws_markCommitS ⟨⟨_, rfl, l_laws_markCommitS_0 K⟩, trivial⟩ rfl) trivial pf_laws_markCommitS fun_laws_markCommitS call_laws_markCommitS (fun x => by kernel_rfl)
theorem fun_laws_markRefS : Try.prog.funcs[22]? = some Try.f22 := by kernel_rfl
theorem call_laws_markRefS : Fw.Callable Try.prog 22 := Fw.callable_of fun_laws_markRefS (by kernel_rfl) (by kernel_rfl)
theorem pf_laws_markRefS : Fw.PFn.of Try.f22 = some Sg.f_laws_markRefS := Fw.PFn.of_get (by kernel_rfl)
theorem l_laws_markRefS_0 (K : Nat) : Fw.LoopP (Sg.c_laws_markRefS K) Sg.i_laws_markRefS Sg.f_laws_markRefS (Sg.p_laws_markRefS_0 K) := ⟨fun _ => by kernel_rfl, fun n p => by kernel_rfl⟩
theorem ok_laws_markRefS (K : Nat) : Fw.Ok Try.prog 22 (Sg.s_laws_markRefS K) := Fw.funP_ok (c := Sg.c_laws_markRefS K) (pi := Sg.i_laws_markRefS) (depth := 6) (Fw.cfgP_ok (pi := Sg.i_laws_markRefS) Sg.tabOK Sg.eqsOK Sg.mixOK ⟨ok_laws_markText K, trivial⟩ trivial trivial pf_laws_markRefS ⟨⟨_, rfl, l_laws_markRefS_0 K⟩, trivial⟩ rfl) trivial pf_laws_markRefS fun_laws_markRefS call_laws_markRefS (fun x => by kernel_rfl)
theorem fun_laws_markBase : Try.prog.funcs[7]? = some Try.f7 := by kernel_rfl
theorem call_laws_markBase : Fw.Callable Try.prog 7 := Fw.callable_of fun_laws_markBase (by kernel_rfl) (by kernel_rfl)
theorem pf_laws_markBase : Fw.PFn.of Try.f7 = some Sg.f_laws_markBase := Fw.PFn.of_get (by kernel_rfl)
theorem ok_laws_markBase (K : Nat) : Fw.Ok Try.prog 7 (Sg.s_laws_markBase K) := Fw.funP_ok (c := Sg.c_laws_markBase K) (pi := Sg.i_laws_markBase) (depth := 6) (Fw.cfgP_ok (pi := Sg.i_laws_markBase) Sg.tabOK Sg.eqsOK Sg.mixOK ⟨ok_laws_markCommitS K, ok_laws_markRefS K, trivial⟩ trivial trivial pf_laws_markBase trivial rfl) trivial pf_laws_markBase fun_laws_markBase call_laws_markBase (fun x => by kernel_rfl)
theorem fun_laws_heldIntS : Try.prog.funcs[42]? = some Try.f42 := by kernel_rfl
theorem call_laws_heldIntS : Fw.Callable Try.prog 42 := Fw.callable_of fun_laws_heldIntS (by kernel_rfl) (by kernel_rfl)
theorem pf_laws_heldIntS : Fw.PFn.of Try.f42 = some Sg.f_laws_heldIntS := Fw.PFn.of_get (by kernel_rfl)
theorem l_laws_heldIntS_0 (K : Nat) : Fw.LoopP (Sg.c_laws_heldIntS K) Sg.i_laws_heldIntS Sg.f_laws_heldIntS (Sg.p_laws_heldIntS_0 K) := ⟨fun _ => by kernel_rfl, fun n p => by kernel_rfl⟩
theorem ok_laws_heldIntS (K : Nat) : Fw.Ok Try.prog 42 (Sg.s_laws_heldIntS K) := Fw.funP_ok (c := Sg.c_laws_heldIntS K) (pi := Sg.i_laws_heldIntS) (depth := 6) (Fw.cfgP_ok (pi := Sg.i_laws_heldIntS) Sg.tabOK Sg.eqsOK Sg.mixOK trivial trivial trivial pf_laws_heldIntS ⟨⟨_, rfl, l_laws_heldIntS_0 K⟩, trivial⟩ rfl) trivial pf_laws_heldIntS fun_laws_heldIntS call_laws_heldIntS (fun x => by kernel_rfl)
theorem fun_laws_heldEntryS : Try.prog.funcs[43]? = some Try.f43 := by kernel_rfl
theorem call_laws_heldEntryS : Fw.Callable Try.prog 43 := Fw.callable_of fun_laws_heldEntryS (by kernel_rfl) (by kernel_rfl)
theorem pf_laws_heldEntryS : Fw.PFn.of Try.f43 = some Sg.f_laws_heldEntryS := Fw.PFn.of_get (by kernel_rfl)
theorem l_laws_heldEntryS_0 (K : Nat) : Fw.LoopP (Sg.c_laws_heldEntryS K) Sg.i_laws_heldEntryS Sg.f_laws_heldEntryS (Sg.p_laws_heldEntryS_0 K) := ⟨fun _ => by kernel_rfl, fun n p => by kernel_rfl⟩
theorem ok_laws_heldEntryS (K : Nat) : Fw.Ok Try.prog 43 (Sg.s_laws_heldEntryS K) := Fw.funP_ok (c := Sg.c_laws_heldEntryS K) (pi := Sg.i_laws_heldEntryS) (depth := 6) (Fw.cfgP_ok (pi := Sg.i_laws_heldEntryS) Sg.tabOK Sg.eqsOK Sg.mixOK ⟨ok_laws_markText K, trivial⟩ trivial trivial pf_laws_heldEntryS ⟨⟨_, rfl, l_laws_heldEntryS_0 K⟩, trivial⟩ rfl) trivial pf_laws_heldEntryS fun_laws_heldEntryS call_laws_heldEntryS (fun x => by kernel_rfl)
theorem fun_laws_heldCommitS : Try.prog.funcs[23]? = some Try.f23 := by kernel_rfl
theorem call_laws_heldCommitS : Fw.Callable Try.prog 23 := Fw.callable_of fun_laws_heldCommitS (by kernel_rfl) (by kernel_rfl)
theorem pf_laws_heldCommitS : Fw.PFn.of Try.f23 = some Sg.f_laws_heldCommitS := Fw.PFn.of_get (by kernel_rfl)
theorem l_laws_heldCommitS_0 (K : Nat) : Fw.LoopP (Sg.c_laws_heldCommitS K) Sg.i_laws_heldCommitS Sg.f_laws_heldCommitS (Sg.p_laws_heldCommitS_0 K) := ⟨fun _ => by kernel_rfl, fun n p => by kernel_rfl⟩
theorem ok_laws_heldCommitS (K : Nat) : Fw.Ok Try.prog 23 (Sg.s_laws_heldCommitS K) := Fw.funP_ok (c := Sg.c_laws_heldCommitS K) (pi := Sg.i_laws_heldCommitS) (depth := 6) (Fw.cfgP_ok (pi := Sg.i_laws_heldCommitS) Sg.tabOK Sg.eqsOK Sg.mixOK ⟨ok_laws_heldIntS K, ok_laws_heldEntryS K, trivial⟩ trivial trivial pf_laws_heldCommitS ⟨⟨_, rfl, l_laws_heldCommitS_0 K⟩, trivial⟩ rfl) trivial pf_laws_heldCommitS fun_laws_heldCommitS call_laws_heldCommitS (fun x => by kernel_rfl)
theorem fun_laws_heldRefS : Try.prog.funcs[24]? = some Try.f24 := by kernel_rfl
theorem call_laws_heldRefS : Fw.Callable Try.prog 24 := Fw.callable_of fun_laws_heldRefS (by kernel_rfl) (by kernel_rfl)
theorem pf_laws_heldRefS : Fw.PFn.of Try.f24 = some Sg.f_laws_heldRefS := Fw.PFn.of_get (by kernel_rfl)
theorem l_laws_heldRefS_0 (K : Nat) : Fw.LoopP (Sg.c_laws_heldRefS K) Sg.i_laws_heldRefS Sg.f_laws_heldRefS (Sg.p_laws_heldRefS_0 K) := ⟨fun _ => by kernel_rfl, fun n p => by kernel_rfl⟩
theorem ok_laws_heldRefS (K : Nat) : Fw.Ok Try.prog 24 (Sg.s_laws_heldRefS K) := Fw.funP_ok (c := Sg.c_laws_heldRefS K) (pi := Sg.i_laws_heldRefS) (depth := 6) (Fw.cfgP_ok (pi := Sg.i_laws_heldRefS) Sg.tabOK Sg.eqsOK Sg.mixOK ⟨ok_laws_markText K, trivial⟩ trivial trivial pf_laws_heldRefS ⟨⟨_, rfl, l_laws_heldRefS_0 K⟩, trivial⟩ rfl) trivial pf_laws_heldRefS fun_laws_heldRefS call_laws_heldRefS (fun x => by kernel_rfl)
theorem fun_laws_heldBase : Try.prog.funcs[8]? = some Try.f8 := by kernel_rfl
theorem call_laws_heldBase : Fw.Callable Try.prog 8 := Fw.callable_of fun_laws_heldBase (by kernel_rfl) (by kernel_rfl)
theorem pf_laws_heldBase : Fw.PFn.of Try.f8 = some Sg.f_laws_heldBase := Fw.PFn.of_get (by kernel_rfl)
theorem ok_laws_heldBase (K : Nat) : Fw.Ok Try.prog 8 (Sg.s_laws_heldBase K) := Fw.funP_ok (c := Sg.c_laws_heldBase K) (pi := Sg.i_laws_heldBase) (depth := 6) (Fw.cfgP_ok (pi := Sg.i_laws_heldBase) Sg.tabOK Sg.eqsOK Sg.mixOK ⟨ok_laws_heldCommitS K, ok_laws_heldRefS K, trivial⟩ trivial trivial pf_laws_heldBase trivial rfl) trivial pf_laws_heldBase fun_laws_heldBase call_laws_heldBase (fun x => by kernel_rfl)
theorem fun_laws_FnExactDecodeBase : Try.prog.funcs[3]? = some Try.f3 := by kernel_rfl
theorem call_laws_FnExactDecodeBase : Fw.Callable Try.prog 3 := Fw.callable_of fun_laws_FnExactDecodeBase (by kernel_rfl) (by kernel_rfl)
theorem pf_laws_FnExactDecodeBase : Fw.PFn.of Try.f3 = some Sg.f_laws_FnExactDecodeBase := Fw.PFn.of_get (by kernel_rfl)
theorem ok_laws_FnExactDecodeBase (K : Nat) : Fw.Ok Try.prog 3 (Sg.s_laws_FnExactDecodeBase K) := Fw.funP_ok (c := Sg.c_laws_FnExactDecodeBase K) (pi := Sg.i_laws_FnExactDecodeBase) (depth := 6) (Fw.cfgP_ok (pi := Sg.i_laws_FnExactDecodeBase) Sg.tabOK Sg.eqsOK Sg.mixOK ⟨ok_spec_DecodeBase K, ok_impl_DecodeBase K, ok_laws_eqBase K, ok_laws_markBase K, ok_laws_heldBase K, trivial⟩ trivial trivial pf_laws_FnExactDecodeBase trivial rfl) trivial pf_laws_FnExactDecodeBase fun_laws_FnExactDecodeBase call_laws_FnExactDecodeBase (fun x => by kernel_rfl)
end Go.Proofs
