/- The functions' contracts, printed by a program of the prover's own. -/
import Derived.Test.YtpfkncmaeamacaaDoorAR
import Derived.Test.YtpfkncmaeamacaaDoorProg
import Derived.Test.YtpfkncmaeamacaaDoorShelf
set_option linter.all false
namespace Go.Proofs
open Go Fw
set_option maxRecDepth 100000
def Sg.eqs : List Nat := [39, 42, 48, 51]
def Sg.tab : List (Nat × Fw.TyI) := [
(1, .one),
(2, .leaf (.int .i64)),
(3, .leaf (.int .i64)),
(4, .leaf .bool),
(5, .leaf (.int .u8)),
(6, .leaf (.int .u8)),
(7, .struct (.pair (.int .i64) (.pair (.int .i64) (.pair .bool (.int .u8)))) [(0, 2), (1, 3), (2, 4), (3, 6)]),
(8, .struct (.pair (.int .i64) (.pair (.int .i64) (.pair .bool (.int .u8)))) [(0, 2), (1, 3), (2, 4), (3, 6)]),
(9, .leaf .str),
(10, .leaf .str),
(11, .leaf .str),
(12, .leaf (.int .u64)),
(13, .struct (.pair .str (.int .u64)) [(0, 9), (1, 12)]),
(14, .struct (.pair .str (.int .u64)) [(0, 9), (1, 12)]),
(21, .leaf (.int .i32)),
(22, .slice 39 (.pair .str (.int .i64)) 0),
(23, .one),
(25, .one),
(26, .slice 42 (.pair .str (.int .i64)) 0),
(27, .one),
(28, .one),
(29, .one),
(30, .slice 48 (.pair .str (.pair (.int .i64) .bool)) 0),
(31, .one),
(32, .one),
(33, .slice 51 (.pair .str (.pair (.int .i64) .bool)) 0),
(34, .one),
(35, .one),
(36, .one),
(37, .one),
(38, .struct (.pair .str (.int .i64)) [(0, 9), (1, 3)]),
(39, .struct (.pair .str (.int .i64)) [(0, 9), (1, 3)]),
(40, .one),
(41, .one),
(42, .struct (.pair .str (.int .i64)) [(0, 9), (1, 3)]),
(43, .one),
(44, .one),
(45, .one),
(46, .one),
(47, .struct (.pair .str (.pair (.int .i64) .bool)) [(0, 9), (1, 3), (2, 4)]),
(48, .struct (.pair .str (.pair (.int .i64) .bool)) [(0, 9), (1, 3), (2, 4)]),
(49, .one),
(50, .one),
(51, .struct (.pair .str (.pair (.int .i64) .bool)) [(0, 9), (1, 3), (2, 4)]),
(52, .one),
(53, .one),
(54, .one),
(55, .one),
(56, .one),
(57, .slice 26 (.sl (.pair .str (.int .i64))) 0),
(58, .one),
(59, .slice 9 .str 0),
(60, .one),
(61, .one),
(62, .one),
(63, .slice 5 (.int .u8) 0),
(64, .one),
(65, .one),
(66, .one),
(67, .one),
(71, .one),
(73, .leaf .err),
(75, .one),
(76, .one),
(78, .leaf (.int .u64)),
(79, .one),
(80, .one),
(82, .one),
(84, .one),
(85, .one),
(86, .one),
(88, .leaf (.int .u32)),
(90, .leaf (.int .u64)),
(91, .one),
(93, .one),
(94, .one),
(95, .one),
(103, .one),
(104, .leaf (.int .u8)),
(105, .leaf (.int .u8)),
(106, .one),
(107, .leaf (.int .i32)),
(108, .leaf (.int .i32))]
def Sg.ptrs : List (Nat × Fw.Ty) := []
theorem Sg.tabOK : Fw.chkAll Tryd.prog Sg.tab = true := by kernel_rfl
theorem Sg.eqsOK : Fw.eqFacts Tryd.prog Sg.tab Sg.eqs = true := by kernel_rfl
theorem Sg.mixOK : Tryd.prog.follows .mixedOrders = true := by kernel_rfl
instance Sg.glob : Fw.GInv := ⟨fun w => Lib.TabIs Tryd.prog w "internal/strconv.uint64pow10" .u64 Lib.pow10Tab, fun b => Tryd.prog.globalNamed "internal/strconv.uint64pow10" = some b, fun w w' h hw => by
  unfold Lib.TabIs World.var? at hw ⊢
  cases e : Tryd.prog.globalNamed "internal/strconv.uint64pow10" with
  | none => rw [e] at hw; cases hw
  | some b =>
    rw [e] at hw
    simp only [Option.bind_some, h b e] at hw ⊢
    exact hw⟩
noncomputable def Sg.f_laws_szEntry : Fw.PFn := Fw.PFn.get Tryd.f15
noncomputable def Sg.i_laws_szEntry : List (Nat × Fw.PFn) := []
noncomputable def Sg.s_laws_szEntry (K : Nat) : Fw.Sig := { ins := [.val true (.pair .str (.int .i64)), .val false (.int .i64)], outs := [⟨false, (.int .i64), false⟩], F := fun x => R.laws_szEntry K x.1 x.2.1 }
noncomputable def Sg.c_laws_szEntry (K : Nat) : Fw.Cfg := { tab := Sg.tab, eqs := Sg.eqs, sig := [], inl := [], lo := [], K := K, jo := [] }
def Sg.h_laws_szEntryS_0 : Fw.StSh := ⟨[(0, (.d (.sl (.pair .str (.int .i64))))), (1, (.d (.int .i64))), (4, (.d (.int .i64))), (5, (.d (.int .i64)))], [], 0, 27, ⟨0, []⟩⟩
def Sg.o_laws_szEntryS_0 : Fw.StSh := ⟨[(1, (.d (.int .i64))), (4, (.d (.int .i64)))], [], 0, 27, ⟨0, []⟩⟩
def Sg.r_laws_szEntryS_0 : Fw.StSh := ⟨[(4, (.d (.int .i64)))], [], 0, 27, ⟨0, []⟩⟩
noncomputable def Sg.p_laws_szEntryS_0 (K : Nat) : Fw.LSpec := { g := 5, b := 0, lv := 6, l0 := 0, li := 0, head := Sg.h_laws_szEntryS_0, post := Sg.o_laws_szEntryS_0, retn := Sg.r_laws_szEntryS_0, ex := 0, L := R.L_laws_szEntryS_0 K }
noncomputable def Sg.f_laws_szEntryS : Fw.PFn := Fw.PFn.get Tryd.f5
noncomputable def Sg.i_laws_szEntryS : List (Nat × Fw.PFn) := []
noncomputable def Sg.s_laws_szEntryS (K : Nat) : Fw.Sig := { ins := [.val false (.sl (.pair .str (.int .i64))), .val false (.int .i64)], outs := [⟨false, (.int .i64), false⟩], F := fun x => R.laws_szEntryS K x.1 x.2.1 }
noncomputable def Sg.c_laws_szEntryS (K : Nat) : Fw.Cfg := { tab := Sg.tab, eqs := Sg.eqs, sig := [(15, Sg.s_laws_szEntry K)], inl := [], lo := Sg.p_laws_szEntryS_0 K :: [], K := K, jo := [] }
noncomputable def Sg.f_laws_toEntry : Fw.PFn := Fw.PFn.get Tryd.f18
noncomputable def Sg.i_laws_toEntry : List (Nat × Fw.PFn) := []
noncomputable def Sg.s_laws_toEntry (K : Nat) : Fw.Sig := { ins := [.val true (.pair .str (.int .i64))], outs := [⟨true, (.pair .str (.int .i64)), false⟩], F := fun x => R.laws_toEntry K x.1 }
noncomputable def Sg.c_laws_toEntry (K : Nat) : Fw.Cfg := { tab := Sg.tab, eqs := Sg.eqs, sig := [], inl := [], lo := [], K := K, jo := [] }
def Sg.h_laws_toEntryS_0 : Fw.StSh := ⟨[(0, (.d (.sl (.pair .str (.int .i64))))), (2, (.row 0)), (3, (.row 1)), (4, (.d (.int .i64)))], [(0, (.row (.pair .str (.int .i64)) true)), (1, (.row (.pair .str (.int .i64)) true))], 2, 23, ⟨0, []⟩⟩
def Sg.o_laws_toEntryS_0 : Fw.StSh := ⟨[(2, (.row 0)), (3, (.row 1))], [(0, (.row (.pair .str (.int .i64)) true)), (1, (.row (.pair .str (.int .i64)) true))], 2, 23, ⟨0, []⟩⟩
def Sg.r_laws_toEntryS_0 : Fw.StSh := ⟨[], [], 2, 23, ⟨0, []⟩⟩
noncomputable def Sg.p_laws_toEntryS_0 (K : Nat) : Fw.LSpec := { g := 7, b := 0, lv := 6, l0 := 0, li := 0, head := Sg.h_laws_toEntryS_0, post := Sg.o_laws_toEntryS_0, retn := Sg.r_laws_toEntryS_0, ex := 0, L := R.L_laws_toEntryS_0 K }
noncomputable def Sg.f_laws_toEntryS : Fw.PFn := Fw.PFn.get Tryd.f7
noncomputable def Sg.i_laws_toEntryS : List (Nat × Fw.PFn) := []
noncomputable def Sg.s_laws_toEntryS (K : Nat) : Fw.Sig := { ins := [.val false (.sl (.pair .str (.int .i64)))], outs := [⟨false, (.sl (.pair .str (.int .i64))), true⟩], F := fun x => R.laws_toEntryS K x.1 }
noncomputable def Sg.c_laws_toEntryS (K : Nat) : Fw.Cfg := { tab := Sg.tab, eqs := Sg.eqs, sig := [(18, Sg.s_laws_toEntry K)], inl := [], lo := Sg.p_laws_toEntryS_0 K :: [], K := K, jo := [] }
noncomputable def Sg.f_spec_l00Letter : Fw.PFn := Fw.PFn.get Tryd.f40
noncomputable def Sg.i_spec_l00Letter : List (Nat × Fw.PFn) := []
noncomputable def Sg.s_spec_l00Letter (K : Nat) : Fw.Sig := { ins := [.val false (.int .u8)], outs := [⟨false, .bool, false⟩], F := fun x => R.spec_l00Letter K x.1 }
noncomputable def Sg.c_spec_l00Letter (K : Nat) : Fw.Cfg := { tab := Sg.tab, eqs := Sg.eqs, sig := [], inl := [], lo := [], K := K, jo := [] }
noncomputable def Sg.f_spec_l00Digit : Fw.PFn := Fw.PFn.get Tryd.f41
noncomputable def Sg.i_spec_l00Digit : List (Nat × Fw.PFn) := []
noncomputable def Sg.s_spec_l00Digit (K : Nat) : Fw.Sig := { ins := [.val false (.int .u8)], outs := [⟨false, .bool, false⟩], F := fun x => R.spec_l00Digit K x.1 }
noncomputable def Sg.c_spec_l00Digit (K : Nat) : Fw.Cfg := { tab := Sg.tab, eqs := Sg.eqs, sig := [], inl := [], lo := [], K := K, jo := [] }
def Sg.h_spec_l00Word_0 : Fw.StSh := ⟨[(0, (.d .str)), (2, (.d .bool)), (3, (.d (.int .i64)))], [], 0, 36, ⟨0, []⟩⟩
def Sg.o_spec_l00Word_0 : Fw.StSh := ⟨[(2, (.d .bool))], [], 0, 36, ⟨0, []⟩⟩
def Sg.r_spec_l00Word_0 : Fw.StSh := ⟨[(2, (.d .bool))], [], 0, 36, ⟨0, []⟩⟩
noncomputable def Sg.p_spec_l00Word_0 (K : Nat) : Fw.LSpec := { g := 30, b := 0, lv := 6, l0 := 0, li := 0, head := Sg.h_spec_l00Word_0, post := Sg.o_spec_l00Word_0, retn := Sg.r_spec_l00Word_0, ex := 0, L := R.L_spec_l00Word_0 K }
noncomputable def Sg.f_spec_l00Word : Fw.PFn := Fw.PFn.get Tryd.f30
noncomputable def Sg.i_spec_l00Word : List (Nat × Fw.PFn) := []
noncomputable def Sg.s_spec_l00Word (K : Nat) : Fw.Sig := { ins := [.val false .str], outs := [⟨false, .bool, false⟩], F := fun x => R.spec_l00Word K x.1 }
noncomputable def Sg.c_spec_l00Word (K : Nat) : Fw.Cfg := { tab := Sg.tab, eqs := Sg.eqs, sig := [(40, Sg.s_spec_l00Letter K), (41, Sg.s_spec_l00Digit K)], inl := [], lo := Sg.p_spec_l00Word_0 K :: [], K := K, jo := [] }
noncomputable def Sg.f_spec_l01In : Fw.PFn := Fw.PFn.get Tryd.f31
noncomputable def Sg.i_spec_l01In : List (Nat × Fw.PFn) := []
noncomputable def Sg.s_spec_l01In (K : Nat) : Fw.Sig := { ins := [.val false (.int .i64), .val false (.int .i64), .val false (.int .i64)], outs := [⟨false, .bool, false⟩], F := fun x => R.spec_l01In K x.1 x.2.1 x.2.2.1 }
noncomputable def Sg.c_spec_l01In (K : Nat) : Fw.Cfg := { tab := Sg.tab, eqs := Sg.eqs, sig := [], inl := [], lo := [], K := K, jo := [] }
def Sg.h_spec_l01OK_0 : Fw.StSh := ⟨[(0, (.d (.sl (.pair .str (.int .i64))))), (2, (.d .bool)), (3, (.d (.int .i64)))], [], 0, 47, ⟨0, []⟩⟩
def Sg.o_spec_l01OK_0 : Fw.StSh := ⟨[(2, (.d .bool))], [], 0, 47, ⟨0, []⟩⟩
def Sg.r_spec_l01OK_0 : Fw.StSh := ⟨[(2, (.d .bool))], [], 0, 47, ⟨0, []⟩⟩
noncomputable def Sg.p_spec_l01OK_0 (K : Nat) : Fw.LSpec := { g := 16, b := 0, lv := 6, l0 := 0, li := 0, head := Sg.h_spec_l01OK_0, post := Sg.o_spec_l01OK_0, retn := Sg.r_spec_l01OK_0, ex := 0, L := R.L_spec_l01OK_0 K }
noncomputable def Sg.f_spec_l01OK : Fw.PFn := Fw.PFn.get Tryd.f16
noncomputable def Sg.i_spec_l01OK : List (Nat × Fw.PFn) := []
noncomputable def Sg.s_spec_l01OK (K : Nat) : Fw.Sig := { ins := [.val false (.sl (.pair .str (.int .i64)))], outs := [⟨false, .bool, false⟩], F := fun x => R.spec_l01OK K x.1 }
noncomputable def Sg.c_spec_l01OK (K : Nat) : Fw.Cfg := { tab := Sg.tab, eqs := Sg.eqs, sig := [(30, Sg.s_spec_l00Word K), (31, Sg.s_spec_l01In K)], inl := [], lo := Sg.p_spec_l01OK_0 K :: [], K := K, jo := ⟨16, 0, 6, 0, 6, none⟩ :: [] }
def Sg.j_spec_l00Digits_0 : Fw.StSh := ⟨[(2, (.d .str))], [], 1, 28, ⟨0, []⟩⟩
noncomputable def Sg.f_spec_l00Digits : Fw.PFn := Fw.PFn.get Tryd.f32
noncomputable def Sg.i_spec_l00Digits : List (Nat × Fw.PFn) := []
noncomputable def Sg.s_spec_l00Digits (K n : Nat) : Fw.Sig := { ins := [.val false (.int .i64)], outs := [⟨false, .str, false⟩], F := fun x => R.spec_l00Digits K n x.1 }
noncomputable def Sg.c_spec_l00Digits (K : Nat) (rec : (Int) → Option (((List UInt8) × Unit) × Unit)) : Fw.Cfg := { tab := Sg.tab, eqs := Sg.eqs, sig := [(32, { ins := [.val false (.int .i64)], outs := [⟨false, .str, false⟩], F := fun x => rec x.1 })], inl := [], lo := [], K := K, jo := ⟨32, 0, 6, 0, 7, some Sg.j_spec_l00Digits_0⟩ :: [] }
def Sg.h_spec_l13Map_0 : Fw.StSh := ⟨[(0, (.d (.sl (.pair .str (.int .i64))))), (2, (.d .str)), (3, (.d .str)), (4, (.d (.int .i64)))], [], 0, 34, ⟨0, []⟩⟩
def Sg.o_spec_l13Map_0 : Fw.StSh := ⟨[(2, (.d .str)), (3, (.d .str))], [], 0, 34, ⟨0, []⟩⟩
def Sg.r_spec_l13Map_0 : Fw.StSh := ⟨[], [], 0, 34, ⟨0, []⟩⟩
noncomputable def Sg.p_spec_l13Map_0 (K : Nat) : Fw.LSpec := { g := 17, b := 0, lv := 6, l0 := 0, li := 0, head := Sg.h_spec_l13Map_0, post := Sg.o_spec_l13Map_0, retn := Sg.r_spec_l13Map_0, ex := 0, L := R.L_spec_l13Map_0 K }
noncomputable def Sg.f_spec_l13Map : Fw.PFn := Fw.PFn.get Tryd.f17
noncomputable def Sg.i_spec_l13Map : List (Nat × Fw.PFn) := []
noncomputable def Sg.s_spec_l13Map (K : Nat) : Fw.Sig := { ins := [.val false (.sl (.pair .str (.int .i64)))], outs := [⟨false, .str, false⟩], F := fun x => R.spec_l13Map K x.1 }
noncomputable def Sg.c_spec_l13Map (K : Nat) : Fw.Cfg := { tab := Sg.tab, eqs := Sg.eqs, sig := [(32, Sg.s_spec_l00Digits K K)], inl := [], lo := Sg.p_spec_l13Map_0 K :: [], K := K, jo := ⟨17, 0, 6, 0, 9, none⟩ :: [] }
noncomputable def Sg.f_spec_MapText : Fw.PFn := Fw.PFn.get Tryd.f6
noncomputable def Sg.i_spec_MapText : List (Nat × Fw.PFn) := []
noncomputable def Sg.s_spec_MapText (K : Nat) : Fw.Sig := { ins := [.val false (.sl (.pair .str (.int .i64)))], outs := [⟨false, .str, false⟩, ⟨false, (.int .i64), false⟩], F := fun x => R.spec_MapText K x.1 }
noncomputable def Sg.c_spec_MapText (K : Nat) : Fw.Cfg := { tab := Sg.tab, eqs := Sg.eqs, sig := [(16, Sg.s_spec_l01OK K), (17, Sg.s_spec_l13Map K)], inl := [], lo := [], K := K, jo := [] }
noncomputable def Sg.f_impl_areAll_simpl_Entry_1 : Fw.PFn := Fw.PFn.get Tryd.f43
noncomputable def Sg.f_slices_IndexFunc_simpl_Entry : Fw.PFn := Fw.PFn.get Tryd.f51
noncomputable def Sg.f_slices_ContainsFunc_simpl_Entry : Fw.PFn := Fw.PFn.get Tryd.f42
noncomputable def Sg.f_impl_areAll_simpl_Entry : Fw.PFn := Fw.PFn.get Tryd.f33
noncomputable def Sg.f_impl_isList_impl_Entry : Fw.PFn := Fw.PFn.get Tryd.f34
noncomputable def Sg.i_impl_isList_impl_Entry : List (Nat × Fw.PFn) := []
noncomputable def Sg.s_impl_isList_impl_Entry (K : Nat) : Fw.Sig := { ins := [.val false (.sl (.pair .str (.int .i64)))], outs := [⟨false, .bool, false⟩], F := fun x => R.impl_isList_impl_Entry K x.1 }
noncomputable def Sg.c_impl_isList_impl_Entry (K : Nat) : Fw.Cfg := { tab := Sg.tab, eqs := Sg.eqs, sig := [], inl := [], lo := [], K := K, jo := [] }
noncomputable def Sg.f_impl_within : Fw.PFn := Fw.PFn.get Tryd.f46
noncomputable def Sg.i_impl_within : List (Nat × Fw.PFn) := []
noncomputable def Sg.s_impl_within (K : Nat) : Fw.Sig := { ins := [.val false (.int .i64), .val false (.int .i64), .val false (.int .i64)], outs := [⟨false, .bool, false⟩], F := fun x => R.impl_within K x.1 x.2.1 x.2.2.1 }
noncomputable def Sg.c_impl_within (K : Nat) : Fw.Cfg := { tab := Sg.tab, eqs := Sg.eqs, sig := [], inl := [], lo := [], K := K, jo := [] }
noncomputable def Sg.f_impl_isLetter : Fw.PFn := Fw.PFn.get Tryd.f47
noncomputable def Sg.i_impl_isLetter : List (Nat × Fw.PFn) := []
noncomputable def Sg.s_impl_isLetter (K : Nat) : Fw.Sig := { ins := [.val false (.int .u8)], outs := [⟨false, .bool, false⟩], F := fun x => R.impl_isLetter K x.1 }
noncomputable def Sg.c_impl_isLetter (K : Nat) : Fw.Cfg := { tab := Sg.tab, eqs := Sg.eqs, sig := [], inl := [], lo := [], K := K, jo := [] }
noncomputable def Sg.f_impl_areAll_byte_1 : Fw.PFn := Fw.PFn.get Tryd.f57
noncomputable def Sg.f_slices_IndexFunc_byte : Fw.PFn := Fw.PFn.get Tryd.f64
noncomputable def Sg.f_slices_ContainsFunc_byte : Fw.PFn := Fw.PFn.get Tryd.f56
noncomputable def Sg.f_impl_areAll_byte : Fw.PFn := Fw.PFn.get Tryd.f48
noncomputable def Sg.f_impl_isDigit : Fw.PFn := Fw.PFn.get Tryd.f50
noncomputable def Sg.i_impl_isDigit : List (Nat × Fw.PFn) := []
noncomputable def Sg.s_impl_isDigit (K : Nat) : Fw.Sig := { ins := [.val false (.int .u8)], outs := [⟨false, .bool, false⟩], F := fun x => R.impl_isDigit K x.1 }
noncomputable def Sg.c_impl_isDigit (K : Nat) : Fw.Cfg := { tab := Sg.tab, eqs := Sg.eqs, sig := [], inl := [], lo := [], K := K, jo := [] }
noncomputable def Sg.f_impl_NameOK_1 : Fw.PFn := Fw.PFn.get Tryd.f49
noncomputable def Sg.i_impl_NameOK_1 : List (Nat × Fw.PFn) := []
noncomputable def Sg.s_impl_NameOK_1 (K : Nat) : Fw.Sig := { ins := [.val false (.int .u8)], outs := [⟨false, .bool, false⟩], F := fun x => R.impl_NameOK_1 K x.1 }
noncomputable def Sg.c_impl_NameOK_1 (K : Nat) : Fw.Cfg := { tab := Sg.tab, eqs := Sg.eqs, sig := [(47, Sg.s_impl_isLetter K), (50, Sg.s_impl_isDigit K)], inl := [], lo := [], K := K, jo := [] }
def Sg.h_impl_areAll_byte__impl_NameOK_1_0 : Fw.StSh := ⟨[(0, (.d (.sl (.int .u8)))), (1, (.fn 49 [])), (3, (.ref 0 0)), (4, (.d .bool)), (5, (.d (.sl (.int .u8)))), (6, (.fn 57 [(.ref 0 0)])), (9, (.d (.sl (.int .u8)))), (10, (.fn 57 [(.ref 0 0)])), (13, (.d .bool)), (14, (.d (.sl (.int .u8)))), (15, (.fn 57 [(.ref 0 0)])), (18, (.d (.sl (.int .u8)))), (19, (.fn 57 [(.ref 0 0)])), (22, (.d (.int .i64))), (25, (.d (.int .i64))), (26, (.d (.int .i64)))], [(0, (.box [(.fn 49 [])]))], 1, 37, ⟨0, []⟩⟩
def Sg.o_impl_areAll_byte__impl_NameOK_1_0 : Fw.StSh := ⟨[(0, (.d (.sl (.int .u8)))), (1, (.fn 49 [])), (3, (.ref 0 0)), (4, (.d .bool)), (5, (.d (.sl (.int .u8)))), (6, (.fn 57 [(.ref 0 0)])), (9, (.d (.sl (.int .u8)))), (10, (.fn 57 [(.ref 0 0)])), (13, (.d .bool)), (14, (.d (.sl (.int .u8)))), (15, (.fn 57 [(.ref 0 0)])), (22, (.d (.int .i64)))], [(0, (.box [(.fn 49 [])]))], 1, 37, ⟨0, []⟩⟩
def Sg.r_impl_areAll_byte__impl_NameOK_1_0 : Fw.StSh := ⟨[(0, (.d (.sl (.int .u8)))), (1, (.fn 49 [])), (3, (.ref 0 0)), (4, (.d .bool)), (5, (.d (.sl (.int .u8)))), (6, (.fn 57 [(.ref 0 0)])), (9, (.d (.sl (.int .u8)))), (10, (.fn 57 [(.ref 0 0)])), (13, (.d .bool)), (14, (.d (.sl (.int .u8)))), (15, (.fn 57 [(.ref 0 0)])), (22, (.d (.int .i64)))], [(0, (.box [(.fn 49 [])]))], 1, 45, ⟨0, []⟩⟩
noncomputable def Sg.p_impl_areAll_byte__impl_NameOK_1_0 (K : Nat) : Fw.LSpec := { g := 64, b := 18, lv := 4, l0 := 1, li := 0, head := Sg.h_impl_areAll_byte__impl_NameOK_1_0, post := Sg.o_impl_areAll_byte__impl_NameOK_1_0, retn := Sg.r_impl_areAll_byte__impl_NameOK_1_0, ex := 0, L := R.L_impl_areAll_byte__impl_NameOK_1_0 K }
noncomputable def Sg.i_impl_areAll_byte__impl_NameOK_1 : List (Nat × Fw.PFn) := [(57, Sg.f_impl_areAll_byte_1), (64, Sg.f_slices_IndexFunc_byte), (56, Sg.f_slices_ContainsFunc_byte)]
noncomputable def Sg.s_impl_areAll_byte__impl_NameOK_1 (K : Nat) : Fw.Sig := { ins := [.val false (.sl (.int .u8)), .fn 49 []], outs := [⟨false, .bool, false⟩], F := fun x => R.impl_areAll_byte__impl_NameOK_1 K x.1 }
noncomputable def Sg.c_impl_areAll_byte__impl_NameOK_1 (K : Nat) : Fw.Cfg := { tab := Sg.tab, eqs := Sg.eqs, sig := [(49, Sg.s_impl_NameOK_1 K)], inl := [(57, Tryd.f57), (64, Tryd.f64), (56, Tryd.f56)], lo := Sg.p_impl_areAll_byte__impl_NameOK_1_0 K :: [], K := K, jo := [] }
noncomputable def Sg.f_impl_NameOK : Fw.PFn := Fw.PFn.get Tryd.f38
noncomputable def Sg.i_impl_NameOK : List (Nat × Fw.PFn) := [(57, Sg.f_impl_areAll_byte_1), (64, Sg.f_slices_IndexFunc_byte), (56, Sg.f_slices_ContainsFunc_byte), (48, Sg.f_impl_areAll_byte)]
noncomputable def Sg.s_impl_NameOK (K : Nat) : Fw.Sig := { ins := [.val false .str], outs := [⟨false, .bool, false⟩], F := fun x => R.impl_NameOK K x.1 }
noncomputable def Sg.c_impl_NameOK (K : Nat) : Fw.Cfg := { tab := Sg.tab, eqs := Sg.eqs, sig := [(46, Sg.s_impl_within K), (47, Sg.s_impl_isLetter K), (49, Sg.s_impl_NameOK_1 K), (48, Sg.s_impl_areAll_byte__impl_NameOK_1 K)], inl := [(57, Tryd.f57), (64, Tryd.f64), (56, Tryd.f56), (48, Tryd.f48)], lo := [], K := K, jo := [] }
noncomputable def Sg.f_impl_isValue : Fw.PFn := Fw.PFn.get Tryd.f39
noncomputable def Sg.i_impl_isValue : List (Nat × Fw.PFn) := []
noncomputable def Sg.s_impl_isValue (K : Nat) : Fw.Sig := { ins := [.val false (.int .i64)], outs := [⟨false, .bool, false⟩], F := fun x => R.impl_isValue K x.1 }
noncomputable def Sg.c_impl_isValue (K : Nat) : Fw.Cfg := { tab := Sg.tab, eqs := Sg.eqs, sig := [(46, Sg.s_impl_within K)], inl := [], lo := [], K := K, jo := [] }
def Sg.h_impl_MapOK_0 : Fw.StSh := ⟨[(0, (.d (.sl (.pair .str (.int .i64))))), (2, (.d .bool)), (5, (.d (.sl (.pair .str (.int .i64))))), (6, (.d (.int .i64))), (7, (.d (.int .i64)))], [], 0, 41, ⟨0, []⟩⟩
def Sg.o_impl_MapOK_0 : Fw.StSh := ⟨[(0, (.d (.sl (.pair .str (.int .i64))))), (2, (.d .bool))], [], 0, 41, ⟨0, []⟩⟩
def Sg.r_impl_MapOK_0 : Fw.StSh := ⟨[(2, (.d .bool))], [], 1, 41, ⟨0, []⟩⟩
noncomputable def Sg.p_impl_MapOK_0 (K : Nat) : Fw.LSpec := { g := 35, b := 0, lv := 6, l0 := 0, li := 0, head := Sg.h_impl_MapOK_0, post := Sg.o_impl_MapOK_0, retn := Sg.r_impl_MapOK_0, ex := 0, L := R.L_impl_MapOK_0 K }
noncomputable def Sg.f_impl_MapOK : Fw.PFn := Fw.PFn.get Tryd.f35
noncomputable def Sg.i_impl_MapOK : List (Nat × Fw.PFn) := []
noncomputable def Sg.s_impl_MapOK (K : Nat) : Fw.Sig := { ins := [.val false (.sl (.pair .str (.int .i64)))], outs := [⟨false, .bool, false⟩], F := fun x => R.impl_MapOK K x.1 }
noncomputable def Sg.c_impl_MapOK (K : Nat) : Fw.Cfg := { tab := Sg.tab, eqs := Sg.eqs, sig := [(38, Sg.s_impl_NameOK K), (39, Sg.s_impl_isValue K)], inl := [], lo := Sg.p_impl_MapOK_0 K :: [], K := K, jo := ⟨35, 0, 6, 0, 4, none⟩ :: [] }
def Sg.h_impl_areAll_simpl_Entry__impl_MapOK_0 : Fw.StSh := ⟨[(0, (.d (.sl (.sl (.pair .str (.int .i64)))))), (1, (.fn 35 [])), (3, (.ref 0 0)), (4, (.d .bool)), (5, (.d (.sl (.sl (.pair .str (.int .i64)))))), (6, (.fn 43 [(.ref 0 0)])), (9, (.d (.sl (.sl (.pair .str (.int .i64)))))), (10, (.fn 43 [(.ref 0 0)])), (13, (.d .bool)), (14, (.d (.sl (.sl (.pair .str (.int .i64)))))), (15, (.fn 43 [(.ref 0 0)])), (18, (.d (.sl (.sl (.pair .str (.int .i64)))))), (19, (.fn 43 [(.ref 0 0)])), (22, (.d (.int .i64))), (25, (.d (.int .i64))), (26, (.d (.int .i64)))], [(0, (.box [(.fn 35 [])]))], 1, 37, ⟨0, []⟩⟩
def Sg.o_impl_areAll_simpl_Entry__impl_MapOK_0 : Fw.StSh := ⟨[(0, (.d (.sl (.sl (.pair .str (.int .i64)))))), (1, (.fn 35 [])), (3, (.ref 0 0)), (4, (.d .bool)), (5, (.d (.sl (.sl (.pair .str (.int .i64)))))), (6, (.fn 43 [(.ref 0 0)])), (9, (.d (.sl (.sl (.pair .str (.int .i64)))))), (10, (.fn 43 [(.ref 0 0)])), (13, (.d .bool)), (14, (.d (.sl (.sl (.pair .str (.int .i64)))))), (15, (.fn 43 [(.ref 0 0)])), (22, (.d (.int .i64)))], [(0, (.box [(.fn 35 [])]))], 1, 37, ⟨0, []⟩⟩
def Sg.r_impl_areAll_simpl_Entry__impl_MapOK_0 : Fw.StSh := ⟨[(0, (.d (.sl (.sl (.pair .str (.int .i64)))))), (1, (.fn 35 [])), (3, (.ref 0 0)), (4, (.d .bool)), (5, (.d (.sl (.sl (.pair .str (.int .i64)))))), (6, (.fn 43 [(.ref 0 0)])), (9, (.d (.sl (.sl (.pair .str (.int .i64)))))), (10, (.fn 43 [(.ref 0 0)])), (13, (.d .bool)), (14, (.d (.sl (.sl (.pair .str (.int .i64)))))), (15, (.fn 43 [(.ref 0 0)])), (22, (.d (.int .i64)))], [(0, (.box [(.fn 35 [])]))], 1, 45, ⟨0, []⟩⟩
noncomputable def Sg.p_impl_areAll_simpl_Entry__impl_MapOK_0 (K : Nat) : Fw.LSpec := { g := 51, b := 18, lv := 4, l0 := 1, li := 0, head := Sg.h_impl_areAll_simpl_Entry__impl_MapOK_0, post := Sg.o_impl_areAll_simpl_Entry__impl_MapOK_0, retn := Sg.r_impl_areAll_simpl_Entry__impl_MapOK_0, ex := 0, L := R.L_impl_areAll_simpl_Entry__impl_MapOK_0 K }
noncomputable def Sg.i_impl_areAll_simpl_Entry__impl_MapOK : List (Nat × Fw.PFn) := [(43, Sg.f_impl_areAll_simpl_Entry_1), (51, Sg.f_slices_IndexFunc_simpl_Entry), (42, Sg.f_slices_ContainsFunc_simpl_Entry)]
noncomputable def Sg.s_impl_areAll_simpl_Entry__impl_MapOK (K : Nat) : Fw.Sig := { ins := [.val false (.sl (.sl (.pair .str (.int .i64)))), .fn 35 []], outs := [⟨false, .bool, false⟩], F := fun x => R.impl_areAll_simpl_Entry__impl_MapOK K x.1 }
noncomputable def Sg.c_impl_areAll_simpl_Entry__impl_MapOK (K : Nat) : Fw.Cfg := { tab := Sg.tab, eqs := Sg.eqs, sig := [(35, Sg.s_impl_MapOK K)], inl := [(43, Tryd.f43), (51, Tryd.f51), (42, Tryd.f42)], lo := Sg.p_impl_areAll_simpl_Entry__impl_MapOK_0 K :: [], K := K, jo := [] }
def Sg.h_impl_areAll_simpl_Entry__impl_isList_impl_Entry_0 : Fw.StSh := ⟨[(0, (.d (.sl (.sl (.pair .str (.int .i64)))))), (1, (.fn 34 [])), (3, (.ref 0 0)), (4, (.d .bool)), (5, (.d (.sl (.sl (.pair .str (.int .i64)))))), (6, (.fn 43 [(.ref 0 0)])), (9, (.d (.sl (.sl (.pair .str (.int .i64)))))), (10, (.fn 43 [(.ref 0 0)])), (13, (.d .bool)), (14, (.d (.sl (.sl (.pair .str (.int .i64)))))), (15, (.fn 43 [(.ref 0 0)])), (18, (.d (.sl (.sl (.pair .str (.int .i64)))))), (19, (.fn 43 [(.ref 0 0)])), (22, (.d (.int .i64))), (25, (.d (.int .i64))), (26, (.d (.int .i64)))], [(0, (.box [(.fn 34 [])]))], 1, 37, ⟨0, []⟩⟩
def Sg.o_impl_areAll_simpl_Entry__impl_isList_impl_Entry_0 : Fw.StSh := ⟨[(0, (.d (.sl (.sl (.pair .str (.int .i64)))))), (1, (.fn 34 [])), (3, (.ref 0 0)), (4, (.d .bool)), (5, (.d (.sl (.sl (.pair .str (.int .i64)))))), (6, (.fn 43 [(.ref 0 0)])), (9, (.d (.sl (.sl (.pair .str (.int .i64)))))), (10, (.fn 43 [(.ref 0 0)])), (13, (.d .bool)), (14, (.d (.sl (.sl (.pair .str (.int .i64)))))), (15, (.fn 43 [(.ref 0 0)])), (22, (.d (.int .i64)))], [(0, (.box [(.fn 34 [])]))], 1, 37, ⟨0, []⟩⟩
def Sg.r_impl_areAll_simpl_Entry__impl_isList_impl_Entry_0 : Fw.StSh := ⟨[(0, (.d (.sl (.sl (.pair .str (.int .i64)))))), (1, (.fn 34 [])), (3, (.ref 0 0)), (4, (.d .bool)), (5, (.d (.sl (.sl (.pair .str (.int .i64)))))), (6, (.fn 43 [(.ref 0 0)])), (9, (.d (.sl (.sl (.pair .str (.int .i64)))))), (10, (.fn 43 [(.ref 0 0)])), (13, (.d .bool)), (14, (.d (.sl (.sl (.pair .str (.int .i64)))))), (15, (.fn 43 [(.ref 0 0)])), (22, (.d (.int .i64)))], [(0, (.box [(.fn 34 [])]))], 1, 45, ⟨0, []⟩⟩
noncomputable def Sg.p_impl_areAll_simpl_Entry__impl_isList_impl_Entry_0 (K : Nat) : Fw.LSpec := { g := 51, b := 18, lv := 4, l0 := 1, li := 0, head := Sg.h_impl_areAll_simpl_Entry__impl_isList_impl_Entry_0, post := Sg.o_impl_areAll_simpl_Entry__impl_isList_impl_Entry_0, retn := Sg.r_impl_areAll_simpl_Entry__impl_isList_impl_Entry_0, ex := 0, L := R.L_impl_areAll_simpl_Entry__impl_isList_impl_Entry_0 K }
noncomputable def Sg.i_impl_areAll_simpl_Entry__impl_isList_impl_Entry : List (Nat × Fw.PFn) := [(43, Sg.f_impl_areAll_simpl_Entry_1), (51, Sg.f_slices_IndexFunc_simpl_Entry), (42, Sg.f_slices_ContainsFunc_simpl_Entry)]
noncomputable def Sg.s_impl_areAll_simpl_Entry__impl_isList_impl_Entry (K : Nat) : Fw.Sig := { ins := [.val false (.sl (.sl (.pair .str (.int .i64)))), .fn 34 []], outs := [⟨false, .bool, false⟩], F := fun x => R.impl_areAll_simpl_Entry__impl_isList_impl_Entry K x.1 }
noncomputable def Sg.c_impl_areAll_simpl_Entry__impl_isList_impl_Entry (K : Nat) : Fw.Cfg := { tab := Sg.tab, eqs := Sg.eqs, sig := [(34, Sg.s_impl_isList_impl_Entry K)], inl := [(43, Tryd.f43), (51, Tryd.f51), (42, Tryd.f42)], lo := Sg.p_impl_areAll_simpl_Entry__impl_isList_impl_Entry_0 K :: [], K := K, jo := [] }
noncomputable def Sg.f_impl_areMaps : Fw.PFn := Fw.PFn.get Tryd.f19
noncomputable def Sg.i_impl_areMaps : List (Nat × Fw.PFn) := [(43, Sg.f_impl_areAll_simpl_Entry_1), (51, Sg.f_slices_IndexFunc_simpl_Entry), (42, Sg.f_slices_ContainsFunc_simpl_Entry), (33, Sg.f_impl_areAll_simpl_Entry)]
noncomputable def Sg.s_impl_areMaps (K : Nat) : Fw.Sig := { ins := [.val false (.sl (.sl (.pair .str (.int .i64))))], outs := [⟨false, (.int .i64), false⟩], F := fun x => R.impl_areMaps K x.1 }
noncomputable def Sg.c_impl_areMaps (K : Nat) : Fw.Cfg := { tab := Sg.tab, eqs := Sg.eqs, sig := [(34, Sg.s_impl_isList_impl_Entry K), (35, Sg.s_impl_MapOK K), (33, Sg.s_impl_areAll_simpl_Entry__impl_MapOK K), (33, Sg.s_impl_areAll_simpl_Entry__impl_isList_impl_Entry K)], inl := [(43, Tryd.f43), (51, Tryd.f51), (42, Tryd.f42), (33, Tryd.f33)], lo := [], K := K, jo := [] }
noncomputable def Sg.s_strconv_Itoa (K : Nat) : Fw.Sig := { ins := [.val false (.int .i64)], outs := [⟨false, .str, false⟩], F := fun x => R.strconv_Itoa K x.1 }
noncomputable def Sg.s_strings_Join (K : Nat) : Fw.Sig := { ins := [.val false (.sl .str), .val false .str], outs := [⟨false, .str, false⟩], F := fun x => R.strings_Join K x.1 x.2.1 }
noncomputable def Sg.f_impl_listed : Fw.PFn := Fw.PFn.get Tryd.f37
noncomputable def Sg.i_impl_listed : List (Nat × Fw.PFn) := []
noncomputable def Sg.s_impl_listed (K : Nat) : Fw.Sig := { ins := [.val false (.sl .str)], outs := [⟨false, .str, false⟩], F := fun x => R.impl_listed K x.1 }
noncomputable def Sg.c_impl_listed (K : Nat) : Fw.Cfg := { tab := Sg.tab, eqs := Sg.eqs, sig := [(45, Sg.s_strings_Join K)], inl := [], lo := [], K := K, jo := [] }
def Sg.h_impl_mapText_0 : Fw.StSh := ⟨[(2, (.d .str)), (3, (.row 0)), (6, (.d (.sl (.pair .str (.int .i64))))), (7, (.d (.int .i64))), (8, (.d (.int .i64)))], [(0, (.row .str true))], 1, 25, ⟨0, []⟩⟩
def Sg.o_impl_mapText_0 : Fw.StSh := ⟨[(2, (.d .str)), (3, (.row 0))], [(0, (.row .str true))], 1, 25, ⟨0, []⟩⟩
def Sg.r_impl_mapText_0 : Fw.StSh := ⟨[], [], 1, 25, ⟨0, []⟩⟩
noncomputable def Sg.p_impl_mapText_0 (K : Nat) : Fw.LSpec := { g := 20, b := 0, lv := 6, l0 := 0, li := 0, head := Sg.h_impl_mapText_0, post := Sg.o_impl_mapText_0, retn := Sg.r_impl_mapText_0, ex := 0, L := R.L_impl_mapText_0 K }
noncomputable def Sg.f_impl_mapText : Fw.PFn := Fw.PFn.get Tryd.f20
noncomputable def Sg.i_impl_mapText : List (Nat × Fw.PFn) := []
noncomputable def Sg.s_impl_mapText (K : Nat) : Fw.Sig := { ins := [.val false (.sl (.pair .str (.int .i64)))], outs := [⟨false, .str, false⟩], F := fun x => R.impl_mapText K x.1 }
noncomputable def Sg.c_impl_mapText (K : Nat) : Fw.Cfg := { tab := Sg.tab, eqs := Sg.eqs, sig := [(36, Sg.s_strconv_Itoa K), (37, Sg.s_impl_listed K)], inl := [], lo := Sg.p_impl_mapText_0 K :: [], K := K, jo := ⟨20, 0, 6, 0, 5, none⟩ :: [] }
noncomputable def Sg.f_impl_MapText : Fw.PFn := Fw.PFn.get Tryd.f8
noncomputable def Sg.i_impl_MapText : List (Nat × Fw.PFn) := []
noncomputable def Sg.s_impl_MapText (K : Nat) : Fw.Sig := { ins := [.val false (.sl (.pair .str (.int .i64)))], outs := [⟨false, .str, false⟩, ⟨false, (.int .i64), false⟩], F := fun x => R.impl_MapText K x.1 }
noncomputable def Sg.c_impl_MapText (K : Nat) : Fw.Cfg := { tab := Sg.tab, eqs := Sg.eqs, sig := [(19, Sg.s_impl_areMaps K), (20, Sg.s_impl_mapText K)], inl := [], lo := [], K := K, jo := [] }
noncomputable def Sg.f_laws_eqEntry : Fw.PFn := Fw.PFn.get Tryd.f21
noncomputable def Sg.i_laws_eqEntry : List (Nat × Fw.PFn) := []
noncomputable def Sg.s_laws_eqEntry (K : Nat) : Fw.Sig := { ins := [.val true (.pair .str (.int .i64)), .val true (.pair .str (.int .i64))], outs := [⟨false, .bool, false⟩], F := fun x => R.laws_eqEntry K x.1 x.2.1 }
noncomputable def Sg.c_laws_eqEntry (K : Nat) : Fw.Cfg := { tab := Sg.tab, eqs := Sg.eqs, sig := [], inl := [], lo := [], K := K, jo := [] }
def Sg.h_laws_eqEntryS_0 : Fw.StSh := ⟨[(0, (.d (.sl (.pair .str (.int .i64))))), (1, (.d (.sl (.pair .str (.int .i64))))), (4, (.d .bool)), (5, (.d (.int .i64)))], [], 0, 27, ⟨0, []⟩⟩
def Sg.o_laws_eqEntryS_0 : Fw.StSh := ⟨[(4, (.d .bool))], [], 0, 27, ⟨0, []⟩⟩
def Sg.r_laws_eqEntryS_0 : Fw.StSh := ⟨[(4, (.d .bool))], [], 0, 27, ⟨0, []⟩⟩
noncomputable def Sg.p_laws_eqEntryS_0 (K : Nat) : Fw.LSpec := { g := 9, b := 0, lv := 6, l0 := 0, li := 0, head := Sg.h_laws_eqEntryS_0, post := Sg.o_laws_eqEntryS_0, retn := Sg.r_laws_eqEntryS_0, ex := 0, L := R.L_laws_eqEntryS_0 K }
noncomputable def Sg.f_laws_eqEntryS : Fw.PFn := Fw.PFn.get Tryd.f9
noncomputable def Sg.i_laws_eqEntryS : List (Nat × Fw.PFn) := []
noncomputable def Sg.s_laws_eqEntryS (K : Nat) : Fw.Sig := { ins := [.val false (.sl (.pair .str (.int .i64))), .val false (.sl (.pair .str (.int .i64)))], outs := [⟨false, .bool, false⟩], F := fun x => R.laws_eqEntryS K x.1 x.2.1 }
noncomputable def Sg.c_laws_eqEntryS (K : Nat) : Fw.Cfg := { tab := Sg.tab, eqs := Sg.eqs, sig := [(21, Sg.s_laws_eqEntry K)], inl := [], lo := Sg.p_laws_eqEntryS_0 K :: [], K := K, jo := ⟨9, 0, 6, 0, 6, none⟩ :: [] }
noncomputable def Sg.f_laws_FnExactMapText : Fw.PFn := Fw.PFn.get Tryd.f3
noncomputable def Sg.i_laws_FnExactMapText : List (Nat × Fw.PFn) := []
noncomputable def Sg.s_laws_FnExactMapText (K : Nat) : Fw.Sig := { ins := [.val false (.sl (.pair .str (.int .i64)))], outs := [⟨false, .bool, false⟩], F := fun x => R.laws_FnExactMapText K x.1 }
noncomputable def Sg.c_laws_FnExactMapText (K : Nat) : Fw.Cfg := { tab := Sg.tab, eqs := Sg.eqs, sig := [(5, Sg.s_laws_szEntryS K), (7, Sg.s_laws_toEntryS K), (6, Sg.s_spec_MapText K), (8, Sg.s_impl_MapText K), (9, Sg.s_laws_eqEntryS K)], inl := [], lo := [], K := K, jo := [] }
noncomputable def Sg.f_laws_szEdit : Fw.PFn := Fw.PFn.get Tryd.f22
noncomputable def Sg.i_laws_szEdit : List (Nat × Fw.PFn) := []
noncomputable def Sg.s_laws_szEdit (K : Nat) : Fw.Sig := { ins := [.val true (.pair .str (.pair (.int .i64) .bool)), .val false (.int .i64)], outs := [⟨false, (.int .i64), false⟩], F := fun x => R.laws_szEdit K x.1 x.2.1 }
noncomputable def Sg.c_laws_szEdit (K : Nat) : Fw.Cfg := { tab := Sg.tab, eqs := Sg.eqs, sig := [], inl := [], lo := [], K := K, jo := [] }
def Sg.h_laws_szEditS_0 : Fw.StSh := ⟨[(0, (.d (.sl (.pair .str (.pair (.int .i64) .bool))))), (1, (.d (.int .i64))), (4, (.d (.int .i64))), (5, (.d (.int .i64)))], [], 0, 27, ⟨0, []⟩⟩
def Sg.o_laws_szEditS_0 : Fw.StSh := ⟨[(1, (.d (.int .i64))), (4, (.d (.int .i64)))], [], 0, 27, ⟨0, []⟩⟩
def Sg.r_laws_szEditS_0 : Fw.StSh := ⟨[(4, (.d (.int .i64)))], [], 0, 27, ⟨0, []⟩⟩
noncomputable def Sg.p_laws_szEditS_0 (K : Nat) : Fw.LSpec := { g := 10, b := 0, lv := 6, l0 := 0, li := 0, head := Sg.h_laws_szEditS_0, post := Sg.o_laws_szEditS_0, retn := Sg.r_laws_szEditS_0, ex := 0, L := R.L_laws_szEditS_0 K }
noncomputable def Sg.f_laws_szEditS : Fw.PFn := Fw.PFn.get Tryd.f10
noncomputable def Sg.i_laws_szEditS : List (Nat × Fw.PFn) := []
noncomputable def Sg.s_laws_szEditS (K : Nat) : Fw.Sig := { ins := [.val false (.sl (.pair .str (.pair (.int .i64) .bool))), .val false (.int .i64)], outs := [⟨false, (.int .i64), false⟩], F := fun x => R.laws_szEditS K x.1 x.2.1 }
noncomputable def Sg.c_laws_szEditS (K : Nat) : Fw.Cfg := { tab := Sg.tab, eqs := Sg.eqs, sig := [(22, Sg.s_laws_szEdit K)], inl := [], lo := Sg.p_laws_szEditS_0 K :: [], K := K, jo := [] }
noncomputable def Sg.f_laws_toEdit : Fw.PFn := Fw.PFn.get Tryd.f25
noncomputable def Sg.i_laws_toEdit : List (Nat × Fw.PFn) := []
noncomputable def Sg.s_laws_toEdit (K : Nat) : Fw.Sig := { ins := [.val true (.pair .str (.pair (.int .i64) .bool))], outs := [⟨true, (.pair .str (.pair (.int .i64) .bool)), false⟩], F := fun x => R.laws_toEdit K x.1 }
noncomputable def Sg.c_laws_toEdit (K : Nat) : Fw.Cfg := { tab := Sg.tab, eqs := Sg.eqs, sig := [], inl := [], lo := [], K := K, jo := [] }
def Sg.h_laws_toEditS_0 : Fw.StSh := ⟨[(0, (.d (.sl (.pair .str (.pair (.int .i64) .bool))))), (2, (.row 0)), (3, (.row 1)), (4, (.d (.int .i64)))], [(0, (.row (.pair .str (.pair (.int .i64) .bool)) true)), (1, (.row (.pair .str (.pair (.int .i64) .bool)) true))], 2, 23, ⟨0, []⟩⟩
def Sg.o_laws_toEditS_0 : Fw.StSh := ⟨[(2, (.row 0)), (3, (.row 1))], [(0, (.row (.pair .str (.pair (.int .i64) .bool)) true)), (1, (.row (.pair .str (.pair (.int .i64) .bool)) true))], 2, 23, ⟨0, []⟩⟩
def Sg.r_laws_toEditS_0 : Fw.StSh := ⟨[], [], 2, 23, ⟨0, []⟩⟩
noncomputable def Sg.p_laws_toEditS_0 (K : Nat) : Fw.LSpec := { g := 12, b := 0, lv := 6, l0 := 0, li := 0, head := Sg.h_laws_toEditS_0, post := Sg.o_laws_toEditS_0, retn := Sg.r_laws_toEditS_0, ex := 0, L := R.L_laws_toEditS_0 K }
noncomputable def Sg.f_laws_toEditS : Fw.PFn := Fw.PFn.get Tryd.f12
noncomputable def Sg.i_laws_toEditS : List (Nat × Fw.PFn) := []
noncomputable def Sg.s_laws_toEditS (K : Nat) : Fw.Sig := { ins := [.val false (.sl (.pair .str (.pair (.int .i64) .bool)))], outs := [⟨false, (.sl (.pair .str (.pair (.int .i64) .bool))), true⟩], F := fun x => R.laws_toEditS K x.1 }
noncomputable def Sg.c_laws_toEditS (K : Nat) : Fw.Cfg := { tab := Sg.tab, eqs := Sg.eqs, sig := [(25, Sg.s_laws_toEdit K)], inl := [], lo := Sg.p_laws_toEditS_0 K :: [], K := K, jo := [] }
def Sg.h_spec_l01Edits_0 : Fw.StSh := ⟨[(0, (.d (.sl (.pair .str (.pair (.int .i64) .bool))))), (2, (.d .bool)), (3, (.d (.int .i64)))], [], 0, 52, ⟨0, []⟩⟩
def Sg.o_spec_l01Edits_0 : Fw.StSh := ⟨[(2, (.d .bool))], [], 0, 52, ⟨0, []⟩⟩
def Sg.r_spec_l01Edits_0 : Fw.StSh := ⟨[(2, (.d .bool))], [], 1, 52, ⟨0, []⟩⟩
noncomputable def Sg.p_spec_l01Edits_0 (K : Nat) : Fw.LSpec := { g := 23, b := 0, lv := 6, l0 := 0, li := 0, head := Sg.h_spec_l01Edits_0, post := Sg.o_spec_l01Edits_0, retn := Sg.r_spec_l01Edits_0, ex := 0, L := R.L_spec_l01Edits_0 K }
noncomputable def Sg.f_spec_l01Edits : Fw.PFn := Fw.PFn.get Tryd.f23
noncomputable def Sg.i_spec_l01Edits : List (Nat × Fw.PFn) := []
noncomputable def Sg.s_spec_l01Edits (K : Nat) : Fw.Sig := { ins := [.val false (.sl (.pair .str (.pair (.int .i64) .bool)))], outs := [⟨false, .bool, false⟩], F := fun x => R.spec_l01Edits K x.1 }
noncomputable def Sg.c_spec_l01Edits (K : Nat) : Fw.Cfg := { tab := Sg.tab, eqs := Sg.eqs, sig := [(30, Sg.s_spec_l00Word K), (31, Sg.s_spec_l01In K)], inl := [], lo := Sg.p_spec_l01Edits_0 K :: [], K := K, jo := ⟨23, 0, 6, 0, 7, none⟩ :: [] }
def Sg.h_spec_l13Edits_0 : Fw.StSh := ⟨[(0, (.d (.sl (.pair .str (.pair (.int .i64) .bool))))), (2, (.d .str)), (3, (.d .str)), (4, (.d (.int .i64)))], [], 0, 47, ⟨0, []⟩⟩
def Sg.o_spec_l13Edits_0 : Fw.StSh := ⟨[(2, (.d .str)), (3, (.d .str))], [], 0, 47, ⟨0, []⟩⟩
def Sg.r_spec_l13Edits_0 : Fw.StSh := ⟨[], [], 0, 47, ⟨0, []⟩⟩
noncomputable def Sg.p_spec_l13Edits_0 (K : Nat) : Fw.LSpec := { g := 24, b := 0, lv := 6, l0 := 0, li := 0, head := Sg.h_spec_l13Edits_0, post := Sg.o_spec_l13Edits_0, retn := Sg.r_spec_l13Edits_0, ex := 0, L := R.L_spec_l13Edits_0 K }
noncomputable def Sg.f_spec_l13Edits : Fw.PFn := Fw.PFn.get Tryd.f24
noncomputable def Sg.i_spec_l13Edits : List (Nat × Fw.PFn) := []
noncomputable def Sg.s_spec_l13Edits (K : Nat) : Fw.Sig := { ins := [.val false (.sl (.pair .str (.pair (.int .i64) .bool)))], outs := [⟨false, .str, false⟩], F := fun x => R.spec_l13Edits K x.1 }
noncomputable def Sg.c_spec_l13Edits (K : Nat) : Fw.Cfg := { tab := Sg.tab, eqs := Sg.eqs, sig := [(32, Sg.s_spec_l00Digits K K)], inl := [], lo := Sg.p_spec_l13Edits_0 K :: [], K := K, jo := ⟨24, 0, 6, 0, 11, none⟩ :: [] }
noncomputable def Sg.f_spec_EditsText : Fw.PFn := Fw.PFn.get Tryd.f11
noncomputable def Sg.i_spec_EditsText : List (Nat × Fw.PFn) := []
noncomputable def Sg.s_spec_EditsText (K : Nat) : Fw.Sig := { ins := [.val false (.sl (.pair .str (.pair (.int .i64) .bool)))], outs := [⟨false, .str, false⟩, ⟨false, (.int .i64), false⟩], F := fun x => R.spec_EditsText K x.1 }
noncomputable def Sg.c_spec_EditsText (K : Nat) : Fw.Cfg := { tab := Sg.tab, eqs := Sg.eqs, sig := [(23, Sg.s_spec_l01Edits K), (24, Sg.s_spec_l13Edits K)], inl := [], lo := [], K := K, jo := [] }
noncomputable def Sg.f_impl_isList_impl_Edit : Fw.PFn := Fw.PFn.get Tryd.f26
noncomputable def Sg.i_impl_isList_impl_Edit : List (Nat × Fw.PFn) := []
noncomputable def Sg.s_impl_isList_impl_Edit (K : Nat) : Fw.Sig := { ins := [.val false (.sl (.pair .str (.pair (.int .i64) .bool)))], outs := [⟨false, .bool, false⟩], F := fun x => R.impl_isList_impl_Edit K x.1 }
noncomputable def Sg.c_impl_isList_impl_Edit (K : Nat) : Fw.Cfg := { tab := Sg.tab, eqs := Sg.eqs, sig := [], inl := [], lo := [], K := K, jo := [] }
def Sg.h_impl_EditsOK_0 : Fw.StSh := ⟨[(0, (.d (.sl (.pair .str (.pair (.int .i64) .bool))))), (2, (.d .bool)), (5, (.d (.sl (.pair .str (.pair (.int .i64) .bool))))), (6, (.d (.int .i64))), (7, (.d (.int .i64)))], [], 0, 50, ⟨0, []⟩⟩
def Sg.o_impl_EditsOK_0 : Fw.StSh := ⟨[(0, (.d (.sl (.pair .str (.pair (.int .i64) .bool))))), (2, (.d .bool))], [], 0, 50, ⟨0, []⟩⟩
def Sg.r_impl_EditsOK_0 : Fw.StSh := ⟨[(2, (.d .bool))], [], 1, 50, ⟨0, []⟩⟩
noncomputable def Sg.p_impl_EditsOK_0 (K : Nat) : Fw.LSpec := { g := 27, b := 0, lv := 6, l0 := 0, li := 0, head := Sg.h_impl_EditsOK_0, post := Sg.o_impl_EditsOK_0, retn := Sg.r_impl_EditsOK_0, ex := 0, L := R.L_impl_EditsOK_0 K }
noncomputable def Sg.f_impl_EditsOK : Fw.PFn := Fw.PFn.get Tryd.f27
noncomputable def Sg.i_impl_EditsOK : List (Nat × Fw.PFn) := []
noncomputable def Sg.s_impl_EditsOK (K : Nat) : Fw.Sig := { ins := [.val false (.sl (.pair .str (.pair (.int .i64) .bool)))], outs := [⟨false, .bool, false⟩], F := fun x => R.impl_EditsOK K x.1 }
noncomputable def Sg.c_impl_EditsOK (K : Nat) : Fw.Cfg := { tab := Sg.tab, eqs := Sg.eqs, sig := [(38, Sg.s_impl_NameOK K), (39, Sg.s_impl_isValue K)], inl := [], lo := Sg.p_impl_EditsOK_0 K :: [], K := K, jo := ⟨27, 0, 6, 0, 4, none⟩ :: [] }
def Sg.h_impl_editsText_0 : Fw.StSh := ⟨[(2, (.d .str)), (3, (.row 0)), (6, (.d (.sl (.pair .str (.pair (.int .i64) .bool))))), (7, (.d (.int .i64))), (8, (.d (.int .i64)))], [(0, (.row .str true))], 1, 33, ⟨0, []⟩⟩
def Sg.o_impl_editsText_0 : Fw.StSh := ⟨[(2, (.d .str)), (3, (.row 0))], [(0, (.row .str true))], 1, 33, ⟨0, []⟩⟩
def Sg.r_impl_editsText_0 : Fw.StSh := ⟨[], [], 1, 33, ⟨0, []⟩⟩
noncomputable def Sg.p_impl_editsText_0 (K : Nat) : Fw.LSpec := { g := 28, b := 0, lv := 6, l0 := 0, li := 0, head := Sg.h_impl_editsText_0, post := Sg.o_impl_editsText_0, retn := Sg.r_impl_editsText_0, ex := 0, L := R.L_impl_editsText_0 K }
noncomputable def Sg.f_impl_editsText : Fw.PFn := Fw.PFn.get Tryd.f28
noncomputable def Sg.i_impl_editsText : List (Nat × Fw.PFn) := []
noncomputable def Sg.s_impl_editsText (K : Nat) : Fw.Sig := { ins := [.val false (.sl (.pair .str (.pair (.int .i64) .bool)))], outs := [⟨false, .str, false⟩], F := fun x => R.impl_editsText K x.1 }
noncomputable def Sg.c_impl_editsText (K : Nat) : Fw.Cfg := { tab := Sg.tab, eqs := Sg.eqs, sig := [(36, Sg.s_strconv_Itoa K), (37, Sg.s_impl_listed K)], inl := [], lo := Sg.p_impl_editsText_0 K :: [], K := K, jo := ⟨28, 0, 6, 0, 7, none⟩ :: [] }
noncomputable def Sg.f_impl_EditsText : Fw.PFn := Fw.PFn.get Tryd.f13
noncomputable def Sg.i_impl_EditsText : List (Nat × Fw.PFn) := []
noncomputable def Sg.s_impl_EditsText (K : Nat) : Fw.Sig := { ins := [.val false (.sl (.pair .str (.pair (.int .i64) .bool)))], outs := [⟨false, .str, false⟩, ⟨false, (.int .i64), false⟩], F := fun x => R.impl_EditsText K x.1 }
noncomputable def Sg.c_impl_EditsText (K : Nat) : Fw.Cfg := { tab := Sg.tab, eqs := Sg.eqs, sig := [(26, Sg.s_impl_isList_impl_Edit K), (27, Sg.s_impl_EditsOK K), (28, Sg.s_impl_editsText K)], inl := [], lo := [], K := K, jo := [] }
noncomputable def Sg.f_laws_eqEdit : Fw.PFn := Fw.PFn.get Tryd.f29
noncomputable def Sg.i_laws_eqEdit : List (Nat × Fw.PFn) := []
noncomputable def Sg.s_laws_eqEdit (K : Nat) : Fw.Sig := { ins := [.val true (.pair .str (.pair (.int .i64) .bool)), .val true (.pair .str (.pair (.int .i64) .bool))], outs := [⟨false, .bool, false⟩], F := fun x => R.laws_eqEdit K x.1 x.2.1 }
noncomputable def Sg.c_laws_eqEdit (K : Nat) : Fw.Cfg := { tab := Sg.tab, eqs := Sg.eqs, sig := [], inl := [], lo := [], K := K, jo := [] }
def Sg.h_laws_eqEditS_0 : Fw.StSh := ⟨[(0, (.d (.sl (.pair .str (.pair (.int .i64) .bool))))), (1, (.d (.sl (.pair .str (.pair (.int .i64) .bool))))), (4, (.d .bool)), (5, (.d (.int .i64)))], [], 0, 27, ⟨0, []⟩⟩
def Sg.o_laws_eqEditS_0 : Fw.StSh := ⟨[(4, (.d .bool))], [], 0, 27, ⟨0, []⟩⟩
def Sg.r_laws_eqEditS_0 : Fw.StSh := ⟨[(4, (.d .bool))], [], 0, 27, ⟨0, []⟩⟩
noncomputable def Sg.p_laws_eqEditS_0 (K : Nat) : Fw.LSpec := { g := 14, b := 0, lv := 6, l0 := 0, li := 0, head := Sg.h_laws_eqEditS_0, post := Sg.o_laws_eqEditS_0, retn := Sg.r_laws_eqEditS_0, ex := 0, L := R.L_laws_eqEditS_0 K }
noncomputable def Sg.f_laws_eqEditS : Fw.PFn := Fw.PFn.get Tryd.f14
noncomputable def Sg.i_laws_eqEditS : List (Nat × Fw.PFn) := []
noncomputable def Sg.s_laws_eqEditS (K : Nat) : Fw.Sig := { ins := [.val false (.sl (.pair .str (.pair (.int .i64) .bool))), .val false (.sl (.pair .str (.pair (.int .i64) .bool)))], outs := [⟨false, .bool, false⟩], F := fun x => R.laws_eqEditS K x.1 x.2.1 }
noncomputable def Sg.c_laws_eqEditS (K : Nat) : Fw.Cfg := { tab := Sg.tab, eqs := Sg.eqs, sig := [(29, Sg.s_laws_eqEdit K)], inl := [], lo := Sg.p_laws_eqEditS_0 K :: [], K := K, jo := ⟨14, 0, 6, 0, 6, none⟩ :: [] }
noncomputable def Sg.f_laws_FnExactEditsText : Fw.PFn := Fw.PFn.get Tryd.f4
noncomputable def Sg.i_laws_FnExactEditsText : List (Nat × Fw.PFn) := []
noncomputable def Sg.s_laws_FnExactEditsText (K : Nat) : Fw.Sig := { ins := [.val false (.sl (.pair .str (.pair (.int .i64) .bool)))], outs := [⟨false, .bool, false⟩], F := fun x => R.laws_FnExactEditsText K x.1 }
noncomputable def Sg.c_laws_FnExactEditsText (K : Nat) : Fw.Cfg := { tab := Sg.tab, eqs := Sg.eqs, sig := [(10, Sg.s_laws_szEditS K), (12, Sg.s_laws_toEditS K), (11, Sg.s_spec_EditsText K), (13, Sg.s_impl_EditsText K), (14, Sg.s_laws_eqEditS K)], inl := [], lo := [], K := K, jo := [] }
theorem fun_laws_szEntry : Tryd.prog.funcs[15]? = some Tryd.f15 := by kernel_rfl
theorem call_laws_szEntry : Fw.Callable Tryd.prog 15 := Fw.callable_of fun_laws_szEntry (by kernel_rfl) (by kernel_rfl)
theorem pf_laws_szEntry : Fw.PFn.of Tryd.f15 = some Sg.f_laws_szEntry := Fw.PFn.of_get (by kernel_rfl)
theorem ok_laws_szEntry (K : Nat) : Fw.Ok Tryd.prog 15 (Sg.s_laws_szEntry K) := Fw.funP_ok (c := Sg.c_laws_szEntry K) (pi := Sg.i_laws_szEntry) (depth := 6) (Fw.cfgP_ok (pi := Sg.i_laws_szEntry) Sg.tabOK Sg.eqsOK Sg.mixOK trivial trivial trivial pf_laws_szEntry trivial rfl) trivial pf_laws_szEntry fun_laws_szEntry call_laws_szEntry (fun x => by kernel_rfl)
theorem fun_laws_szEntryS : Tryd.prog.funcs[5]? = some Tryd.f5 := by kernel_rfl
theorem call_laws_szEntryS : Fw.Callable Tryd.prog 5 := Fw.callable_of fun_laws_szEntryS (by kernel_rfl) (by kernel_rfl)
theorem pf_laws_szEntryS : Fw.PFn.of Tryd.f5 = some Sg.f_laws_szEntryS := Fw.PFn.of_get (by kernel_rfl)
theorem l_laws_szEntryS_0 (K : Nat) : Fw.LoopP (Sg.c_laws_szEntryS K) Sg.i_laws_szEntryS Sg.f_laws_szEntryS (Sg.p_laws_szEntryS_0 K) := ⟨fun _ => by kernel_rfl, fun n p => by kernel_rfl⟩
theorem ok_laws_szEntryS (K : Nat) : Fw.Ok Tryd.prog 5 (Sg.s_laws_szEntryS K) := Fw.funP_ok (c := Sg.c_laws_szEntryS K) (pi := Sg.i_laws_szEntryS) (depth := 6) (Fw.cfgP_ok (pi := Sg.i_laws_szEntryS) Sg.tabOK Sg.eqsOK Sg.mixOK ⟨ok_laws_szEntry K, trivial⟩ trivial trivial pf_laws_szEntryS ⟨⟨_, rfl, l_laws_szEntryS_0 K⟩, trivial⟩ rfl) trivial pf_laws_szEntryS fun_laws_szEntryS call_laws_szEntryS (fun x => by kernel_rfl)
theorem fun_laws_toEntry : Tryd.prog.funcs[18]? = some Tryd.f18 := by kernel_rfl
theorem call_laws_toEntry : Fw.Callable Tryd.prog 18 := Fw.callable_of fun_laws_toEntry (by kernel_rfl) (by kernel_rfl)
theorem pf_laws_toEntry : Fw.PFn.of Tryd.f18 = some Sg.f_laws_toEntry := Fw.PFn.of_get (by kernel_rfl)
theorem ok_laws_toEntry (K : Nat) : Fw.Ok Tryd.prog 18 (Sg.s_laws_toEntry K) := Fw.funP_ok (c := Sg.c_laws_toEntry K) (pi := Sg.i_laws_toEntry) (depth := 6) (Fw.cfgP_ok (pi := Sg.i_laws_toEntry) Sg.tabOK Sg.eqsOK Sg.mixOK trivial trivial trivial pf_laws_toEntry trivial rfl) trivial pf_laws_toEntry fun_laws_toEntry call_laws_toEntry (fun x => by kernel_rfl)
theorem fun_laws_toEntryS : Tryd.prog.funcs[7]? = some Tryd.f7 := by kernel_rfl
theorem call_laws_toEntryS : Fw.Callable Tryd.prog 7 := Fw.callable_of fun_laws_toEntryS (by kernel_rfl) (by kernel_rfl)
theorem pf_laws_toEntryS : Fw.PFn.of Tryd.f7 = some Sg.f_laws_toEntryS := Fw.PFn.of_get (by kernel_rfl)
theorem l_laws_toEntryS_0 (K : Nat) : Fw.LoopP (Sg.c_laws_toEntryS K) Sg.i_laws_toEntryS Sg.f_laws_toEntryS (Sg.p_laws_toEntryS_0 K) := ⟨fun _ => by kernel_rfl, fun n p => by kernel_rfl⟩
theorem ok_laws_toEntryS (K : Nat) : Fw.Ok Tryd.prog 7 (Sg.s_laws_toEntryS K) := Fw.funP_ok (c := Sg.c_laws_toEntryS K) (pi := Sg.i_laws_toEntryS) (depth := 6) (Fw.cfgP_ok (pi := Sg.i_laws_toEntryS) Sg.tabOK Sg.eqsOK Sg.mixOK ⟨ok_laws_toEntry K, trivial⟩ trivial trivial pf_laws_toEntryS ⟨⟨_, rfl, l_laws_toEntryS_0 K⟩, trivial⟩ rfl) trivial pf_laws_toEntryS fun_laws_toEntryS call_laws_toEntryS (fun x => by kernel_rfl)
theorem fun_spec_l00Letter : Tryd.prog.funcs[40]? = some Tryd.f40 := by kernel_rfl
theorem call_spec_l00Letter : Fw.Callable Tryd.prog 40 := Fw.callable_of fun_spec_l00Letter (by kernel_rfl) (by kernel_rfl)
theorem pf_spec_l00Letter : Fw.PFn.of Tryd.f40 = some Sg.f_spec_l00Letter := Fw.PFn.of_get (by kernel_rfl)
theorem ok_spec_l00Letter (K : Nat) : Fw.Ok Tryd.prog 40 (Sg.s_spec_l00Letter K) := Fw.funP_ok (c := Sg.c_spec_l00Letter K) (pi := Sg.i_spec_l00Letter) (depth := 6) (Fw.cfgP_ok (pi := Sg.i_spec_l00Letter) Sg.tabOK Sg.eqsOK Sg.mixOK trivial trivial trivial pf_spec_l00Letter trivial rfl) trivial pf_spec_l00Letter fun_spec_l00Letter call_spec_l00Letter (fun x => by kernel_rfl)
theorem fun_spec_l00Digit : Tryd.prog.funcs[41]? = some Tryd.f41 := by kernel_rfl
theorem call_spec_l00Digit : Fw.Callable Tryd.prog 41 := Fw.callable_of fun_spec_l00Digit (by kernel_rfl) (by kernel_rfl)
theorem pf_spec_l00Digit : Fw.PFn.of Tryd.f41 = some Sg.f_spec_l00Digit := Fw.PFn.of_get (by kernel_rfl)
theorem ok_spec_l00Digit (K : Nat) : Fw.Ok Tryd.prog 41 (Sg.s_spec_l00Digit K) := Fw.funP_ok (c := Sg.c_spec_l00Digit K) (pi := Sg.i_spec_l00Digit) (depth := 6) (Fw.cfgP_ok (pi := Sg.i_spec_l00Digit) Sg.tabOK Sg.eqsOK Sg.mixOK trivial trivial trivial pf_spec_l00Digit trivial rfl) trivial pf_spec_l00Digit fun_spec_l00Digit call_spec_l00Digit (fun x => by kernel_rfl)
theorem fun_spec_l00Word : Tryd.prog.funcs[30]? = some Tryd.f30 := by kernel_rfl
theorem call_spec_l00Word : Fw.Callable Tryd.prog 30 := Fw.callable_of fun_spec_l00Word (by kernel_rfl) (by kernel_rfl)
theorem pf_spec_l00Word : Fw.PFn.of Tryd.f30 = some Sg.f_spec_l00Word := Fw.PFn.of_get (by kernel_rfl)
theorem l_spec_l00Word_0 (K : Nat) : Fw.LoopP (Sg.c_spec_l00Word K) Sg.i_spec_l00Word Sg.f_spec_l00Word (Sg.p_spec_l00Word_0 K) := ⟨fun _ => by kernel_rfl, fun n p => by kernel_rfl⟩
theorem ok_spec_l00Word (K : Nat) : Fw.Ok Tryd.prog 30 (Sg.s_spec_l00Word K) := Fw.funP_ok (c := Sg.c_spec_l00Word K) (pi := Sg.i_spec_l00Word) (depth := 6) (Fw.cfgP_ok (pi := Sg.i_spec_l00Word) Sg.tabOK Sg.eqsOK Sg.mixOK ⟨ok_spec_l00Letter K, ok_spec_l00Digit K, trivial⟩ trivial trivial pf_spec_l00Word ⟨⟨_, rfl, l_spec_l00Word_0 K⟩, trivial⟩ rfl) trivial pf_spec_l00Word fun_spec_l00Word call_spec_l00Word (fun x => by kernel_rfl)
theorem fun_spec_l01In : Tryd.prog.funcs[31]? = some Tryd.f31 := by kernel_rfl
theorem call_spec_l01In : Fw.Callable Tryd.prog 31 := Fw.callable_of fun_spec_l01In (by kernel_rfl) (by kernel_rfl)
theorem pf_spec_l01In : Fw.PFn.of Tryd.f31 = some Sg.f_spec_l01In := Fw.PFn.of_get (by kernel_rfl)
theorem ok_spec_l01In (K : Nat) : Fw.Ok Tryd.prog 31 (Sg.s_spec_l01In K) := Fw.funP_ok (c := Sg.c_spec_l01In K) (pi := Sg.i_spec_l01In) (depth := 6) (Fw.cfgP_ok (pi := Sg.i_spec_l01In) Sg.tabOK Sg.eqsOK Sg.mixOK trivial trivial trivial pf_spec_l01In trivial rfl) trivial pf_spec_l01In fun_spec_l01In call_spec_l01In (fun x => by kernel_rfl)
theorem fun_spec_l01OK : Tryd.prog.funcs[16]? = some Tryd.f16 := by kernel_rfl
theorem call_spec_l01OK : Fw.Callable Tryd.prog 16 := Fw.callable_of fun_spec_l01OK (by kernel_rfl) (by kernel_rfl)
theorem pf_spec_l01OK : Fw.PFn.of Tryd.f16 = some Sg.f_spec_l01OK := Fw.PFn.of_get (by kernel_rfl)
theorem l_spec_l01OK_0 (K : Nat) : Fw.LoopP (Sg.c_spec_l01OK K) Sg.i_spec_l01OK Sg.f_spec_l01OK (Sg.p_spec_l01OK_0 K) := ⟨fun _ => by kernel_rfl, fun n p => by kernel_rfl⟩
theorem ok_spec_l01OK (K : Nat) : Fw.Ok Tryd.prog 16 (Sg.s_spec_l01OK K) := Fw.funP_ok (c := Sg.c_spec_l01OK K) (pi := Sg.i_spec_l01OK) (depth := 6) (Fw.cfgP_ok (pi := Sg.i_spec_l01OK) Sg.tabOK Sg.eqsOK Sg.mixOK ⟨ok_spec_l00Word K, ok_spec_l01In K, trivial⟩ trivial trivial pf_spec_l01OK ⟨⟨_, rfl, l_spec_l01OK_0 K⟩, trivial⟩ rfl) trivial pf_spec_l01OK fun_spec_l01OK call_spec_l01OK (fun x => by kernel_rfl)
theorem fun_spec_l00Digits : Tryd.prog.funcs[32]? = some Tryd.f32 := by kernel_rfl
theorem call_spec_l00Digits : Fw.Callable Tryd.prog 32 := Fw.callable_of fun_spec_l00Digits (by kernel_rfl) (by kernel_rfl)
theorem pf_spec_l00Digits : Fw.PFn.of Tryd.f32 = some Sg.f_spec_l00Digits := Fw.PFn.of_get (by kernel_rfl)
theorem okn_spec_l00Digits (K : Nat) : ∀ n : Nat, Fw.Ok Tryd.prog 32 (Sg.s_spec_l00Digits K n)
  | 0 => ⟨call_spec_l00Digits, fun _ _ _ _ _ _ _ _ _ _ _ _ h => by cases h⟩
  | n + 1 => Fw.funP_ok (c := Sg.c_spec_l00Digits K (fun p0 => R.spec_l00Digits K n p0)) (pi := Sg.i_spec_l00Digits) (depth := 6) (Fw.cfgP_ok (pi := Sg.i_spec_l00Digits) Sg.tabOK Sg.eqsOK Sg.mixOK ⟨okn_spec_l00Digits K n, trivial⟩ trivial trivial pf_spec_l00Digits trivial rfl) trivial pf_spec_l00Digits fun_spec_l00Digits call_spec_l00Digits (fun x => by kernel_rfl)
theorem ok_spec_l00Digits (K : Nat) : Fw.Ok Tryd.prog 32 (Sg.s_spec_l00Digits K K) := okn_spec_l00Digits K K
theorem fun_spec_l13Map : Tryd.prog.funcs[17]? = some Tryd.f17 := by kernel_rfl
theorem call_spec_l13Map : Fw.Callable Tryd.prog 17 := Fw.callable_of fun_spec_l13Map (by kernel_rfl) (by kernel_rfl)
theorem pf_spec_l13Map : Fw.PFn.of Tryd.f17 = some Sg.f_spec_l13Map := Fw.PFn.of_get (by kernel_rfl)
theorem l_spec_l13Map_0 (K : Nat) : Fw.LoopP (Sg.c_spec_l13Map K) Sg.i_spec_l13Map Sg.f_spec_l13Map (Sg.p_spec_l13Map_0 K) := ⟨fun _ => by kernel_rfl, fun n p => by kernel_rfl⟩
theorem ok_spec_l13Map (K : Nat) : Fw.Ok Tryd.prog 17 (Sg.s_spec_l13Map K) := Fw.funP_ok (c := Sg.c_spec_l13Map K) (pi := Sg.i_spec_l13Map) (depth := 6) (Fw.cfgP_ok (pi := Sg.i_spec_l13Map) Sg.tabOK Sg.eqsOK Sg.mixOK ⟨ok_spec_l00Digits K, trivial⟩ trivial trivial pf_spec_l13Map ⟨⟨_, rfl, l_spec_l13Map_0 K⟩, trivial⟩ rfl) trivial pf_spec_l13Map fun_spec_l13Map call_spec_l13Map (fun x => by kernel_rfl)
theorem fun_spec_MapText : Tryd.prog.funcs[6]? = some Tryd.f6 := by kernel_rfl
theorem call_spec_MapText : Fw.Callable Tryd.prog 6 := Fw.callable_of fun_spec_MapText (by kernel_rfl) (by kernel_rfl)
theorem pf_spec_MapText : Fw.PFn.of Tryd.f6 = some Sg.f_spec_MapText := Fw.PFn.of_get (by kernel_rfl)
theorem ok_spec_MapText (K : Nat) : Fw.Ok Tryd.prog 6 (Sg.s_spec_MapText K) := Fw.funP_ok (c := Sg.c_spec_MapText K) (pi := Sg.i_spec_MapText) (depth := 6) (Fw.cfgP_ok (pi := Sg.i_spec_MapText) Sg.tabOK Sg.eqsOK Sg.mixOK ⟨ok_spec_l01OK K, ok_spec_l13Map K, trivial⟩ trivial trivial pf_spec_MapText trivial rfl) trivial pf_spec_MapText fun_spec_MapText call_spec_MapText (fun x => by kernel_rfl)
theorem fun_impl_areAll_simpl_Entry_1 : Tryd.prog.funcs[43]? = some Tryd.f43 := by kernel_rfl
theorem call_impl_areAll_simpl_Entry_1 : Fw.Callable Tryd.prog 43 := Fw.callable_of fun_impl_areAll_simpl_Entry_1 (by kernel_rfl) (by kernel_rfl)
theorem pf_impl_areAll_simpl_Entry_1 : Fw.PFn.of Tryd.f43 = some Sg.f_impl_areAll_simpl_Entry_1 := Fw.PFn.of_get (by kernel_rfl)
theorem fun_slices_IndexFunc_simpl_Entry : Tryd.prog.funcs[51]? = some Tryd.f51 := by kernel_rfl
theorem call_slices_IndexFunc_simpl_Entry : Fw.Callable Tryd.prog 51 := Fw.callable_of fun_slices_IndexFunc_simpl_Entry (by kernel_rfl) (by kernel_rfl)
theorem pf_slices_IndexFunc_simpl_Entry : Fw.PFn.of Tryd.f51 = some Sg.f_slices_IndexFunc_simpl_Entry := Fw.PFn.of_get (by kernel_rfl)
theorem fun_slices_ContainsFunc_simpl_Entry : Tryd.prog.funcs[42]? = some Tryd.f42 := by kernel_rfl
theorem call_slices_ContainsFunc_simpl_Entry : Fw.Callable Tryd.prog 42 := Fw.callable_of fun_slices_ContainsFunc_simpl_Entry (by kernel_rfl) (by kernel_rfl)
theorem pf_slices_ContainsFunc_simpl_Entry : Fw.PFn.of Tryd.f42 = some Sg.f_slices_ContainsFunc_simpl_Entry := Fw.PFn.of_get (by kernel_rfl)
theorem fun_impl_areAll_simpl_Entry : Tryd.prog.funcs[33]? = some Tryd.f33 := by kernel_rfl
theorem call_impl_areAll_simpl_Entry : Fw.Callable Tryd.prog 33 := Fw.callable_of fun_impl_areAll_simpl_Entry (by kernel_rfl) (by kernel_rfl)
theorem pf_impl_areAll_simpl_Entry : Fw.PFn.of Tryd.f33 = some Sg.f_impl_areAll_simpl_Entry := Fw.PFn.of_get (by kernel_rfl)
theorem fun_impl_isList_impl_Entry : Tryd.prog.funcs[34]? = some Tryd.f34 := by kernel_rfl
theorem call_impl_isList_impl_Entry : Fw.Callable Tryd.prog 34 := Fw.callable_of fun_impl_isList_impl_Entry (by kernel_rfl) (by kernel_rfl)
theorem pf_impl_isList_impl_Entry : Fw.PFn.of Tryd.f34 = some Sg.f_impl_isList_impl_Entry := Fw.PFn.of_get (by kernel_rfl)
theorem ok_impl_isList_impl_Entry (K : Nat) : Fw.Ok Tryd.prog 34 (Sg.s_impl_isList_impl_Entry K) := Fw.funP_ok (c := Sg.c_impl_isList_impl_Entry K) (pi := Sg.i_impl_isList_impl_Entry) (depth := 6) (Fw.cfgP_ok (pi := Sg.i_impl_isList_impl_Entry) Sg.tabOK Sg.eqsOK Sg.mixOK trivial trivial trivial pf_impl_isList_impl_Entry trivial rfl) trivial pf_impl_isList_impl_Entry fun_impl_isList_impl_Entry call_impl_isList_impl_Entry (fun x => by kernel_rfl)
theorem fun_impl_within : Tryd.prog.funcs[46]? = some Tryd.f46 := by kernel_rfl
theorem call_impl_within : Fw.Callable Tryd.prog 46 := Fw.callable_of fun_impl_within (by kernel_rfl) (by kernel_rfl)
theorem pf_impl_within : Fw.PFn.of Tryd.f46 = some Sg.f_impl_within := Fw.PFn.of_get (by kernel_rfl)
theorem ok_impl_within (K : Nat) : Fw.Ok Tryd.prog 46 (Sg.s_impl_within K) := Fw.funP_ok (c := Sg.c_impl_within K) (pi := Sg.i_impl_within) (depth := 6) (Fw.cfgP_ok (pi := Sg.i_impl_within) Sg.tabOK Sg.eqsOK Sg.mixOK trivial trivial trivial pf_impl_within trivial rfl) trivial pf_impl_within fun_impl_within call_impl_within (fun x => by kernel_rfl)
theorem fun_impl_isLetter : Tryd.prog.funcs[47]? = some Tryd.f47 := by kernel_rfl
theorem call_impl_isLetter : Fw.Callable Tryd.prog 47 := Fw.callable_of fun_impl_isLetter (by kernel_rfl) (by kernel_rfl)
theorem pf_impl_isLetter : Fw.PFn.of Tryd.f47 = some Sg.f_impl_isLetter := Fw.PFn.of_get (by kernel_rfl)
theorem ok_impl_isLetter (K : Nat) : Fw.Ok Tryd.prog 47 (Sg.s_impl_isLetter K) := Fw.funP_ok (c := Sg.c_impl_isLetter K) (pi := Sg.i_impl_isLetter) (depth := 6) (Fw.cfgP_ok (pi := Sg.i_impl_isLetter) Sg.tabOK Sg.eqsOK Sg.mixOK trivial trivial trivial pf_impl_isLetter trivial rfl) trivial pf_impl_isLetter fun_impl_isLetter call_impl_isLetter (fun x => by kernel_rfl)
theorem fun_impl_areAll_byte_1 : Tryd.prog.funcs[57]? = some Tryd.f57 := by kernel_rfl
theorem call_impl_areAll_byte_1 : Fw.Callable Tryd.prog 57 := Fw.callable_of fun_impl_areAll_byte_1 (by kernel_rfl) (by kernel_rfl)
theorem pf_impl_areAll_byte_1 : Fw.PFn.of Tryd.f57 = some Sg.f_impl_areAll_byte_1 := Fw.PFn.of_get (by kernel_rfl)
theorem fun_slices_IndexFunc_byte : Tryd.prog.funcs[64]? = some Tryd.f64 := by kernel_rfl
theorem call_slices_IndexFunc_byte : Fw.Callable Tryd.prog 64 := Fw.callable_of fun_slices_IndexFunc_byte (by kernel_rfl) (by kernel_rfl)
theorem pf_slices_IndexFunc_byte : Fw.PFn.of Tryd.f64 = some Sg.f_slices_IndexFunc_byte := Fw.PFn.of_get (by kernel_rfl)
theorem fun_slices_ContainsFunc_byte : Tryd.prog.funcs[56]? = some Tryd.f56 := by kernel_rfl
theorem call_slices_ContainsFunc_byte : Fw.Callable Tryd.prog 56 := Fw.callable_of fun_slices_ContainsFunc_byte (by kernel_rfl) (by kernel_rfl)
theorem pf_slices_ContainsFunc_byte : Fw.PFn.of Tryd.f56 = some Sg.f_slices_ContainsFunc_byte := Fw.PFn.of_get (by kernel_rfl)
theorem fun_impl_areAll_byte : Tryd.prog.funcs[48]? = some Tryd.f48 := by kernel_rfl
theorem call_impl_areAll_byte : Fw.Callable Tryd.prog 48 := Fw.callable_of fun_impl_areAll_byte (by kernel_rfl) (by kernel_rfl)
theorem pf_impl_areAll_byte : Fw.PFn.of Tryd.f48 = some Sg.f_impl_areAll_byte := Fw.PFn.of_get (by kernel_rfl)
theorem fun_impl_isDigit : Tryd.prog.funcs[50]? = some Tryd.f50 := by kernel_rfl
theorem call_impl_isDigit : Fw.Callable Tryd.prog 50 := Fw.callable_of fun_impl_isDigit (by kernel_rfl) (by kernel_rfl)
theorem pf_impl_isDigit : Fw.PFn.of Tryd.f50 = some Sg.f_impl_isDigit := Fw.PFn.of_get (by kernel_rfl)
theorem ok_impl_isDigit (K : Nat) : Fw.Ok Tryd.prog 50 (Sg.s_impl_isDigit K) := Fw.funP_ok (c := Sg.c_impl_isDigit K) (pi := Sg.i_impl_isDigit) (depth := 6) (Fw.cfgP_ok (pi := Sg.i_impl_isDigit) Sg.tabOK Sg.eqsOK Sg.mixOK trivial trivial trivial pf_impl_isDigit trivial rfl) trivial pf_impl_isDigit fun_impl_isDigit call_impl_isDigit (fun x => by kernel_rfl)
theorem fun_impl_NameOK_1 : Tryd.prog.funcs[49]? = some Tryd.f49 := by kernel_rfl
theorem call_impl_NameOK_1 : Fw.Callable Tryd.prog 49 := Fw.callable_of fun_impl_NameOK_1 (by kernel_rfl) (by kernel_rfl)
theorem pf_impl_NameOK_1 : Fw.PFn.of Tryd.f49 = some Sg.f_impl_NameOK_1 := Fw.PFn.of_get (by kernel_rfl)
theorem ok_impl_NameOK_1 (K : Nat) : Fw.Ok Tryd.prog 49 (Sg.s_impl_NameOK_1 K) := Fw.funP_ok (c := Sg.c_impl_NameOK_1 K) (pi := Sg.i_impl_NameOK_1) (depth := 6) (Fw.cfgP_ok (pi := Sg.i_impl_NameOK_1) Sg.tabOK Sg.eqsOK Sg.mixOK ⟨ok_impl_isLetter K, ok_impl_isDigit K, trivial⟩ trivial trivial pf_impl_NameOK_1 trivial rfl) trivial pf_impl_NameOK_1 fun_impl_NameOK_1 call_impl_NameOK_1 (fun x => by kernel_rfl)
theorem l_impl_areAll_byte__impl_NameOK_1_0 (K : Nat) : Fw.LoopP (Sg.c_impl_areAll_byte__impl_NameOK_1 K) Sg.i_impl_areAll_byte__impl_NameOK_1 Sg.f_slices_IndexFunc_byte (Sg.p_impl_areAll_byte__impl_NameOK_1_0 K) := ⟨fun _ => by kernel_rfl, fun n p => by kernel_rfl⟩
theorem ok_impl_areAll_byte__impl_NameOK_1 (K : Nat) : Fw.Ok Tryd.prog 48 (Sg.s_impl_areAll_byte__impl_NameOK_1 K) := Fw.funP_ok (c := Sg.c_impl_areAll_byte__impl_NameOK_1 K) (pi := Sg.i_impl_areAll_byte__impl_NameOK_1) (depth := 6) (Fw.cfgP_ok (pi := Sg.i_impl_areAll_byte__impl_NameOK_1) Sg.tabOK Sg.eqsOK Sg.mixOK ⟨ok_impl_NameOK_1 K, trivial⟩ ⟨⟨fun_impl_areAll_byte_1, call_impl_areAll_byte_1⟩, ⟨fun_slices_IndexFunc_byte, call_slices_IndexFunc_byte⟩, ⟨fun_slices_ContainsFunc_byte, call_slices_ContainsFunc_byte⟩, trivial⟩ ⟨⟨rfl, pf_impl_areAll_byte_1⟩, ⟨rfl, pf_slices_IndexFunc_byte⟩, ⟨rfl, pf_slices_ContainsFunc_byte⟩, trivial⟩ pf_impl_areAll_byte ⟨⟨_, rfl, l_impl_areAll_byte__impl_NameOK_1_0 K⟩, trivial⟩ rfl) ⟨⟨rfl, pf_impl_areAll_byte_1⟩, ⟨rfl, pf_slices_IndexFunc_byte⟩, ⟨rfl, pf_slices_ContainsFunc_byte⟩, trivial⟩ pf_impl_areAll_byte fun_impl_areAll_byte call_impl_areAll_byte (fun x => by kernel_rfl)
theorem fun_impl_NameOK : Tryd.prog.funcs[38]? = some Tryd.f38 := by kernel_rfl
theorem call_impl_NameOK : Fw.Callable Tryd.prog 38 := Fw.callable_of fun_impl_NameOK (by kernel_rfl) (by kernel_rfl)
theorem pf_impl_NameOK : Fw.PFn.of Tryd.f38 = some Sg.f_impl_NameOK := Fw.PFn.of_get (by kernel_rfl)
theorem ok_impl_NameOK (K : Nat) : Fw.Ok Tryd.prog 38 (Sg.s_impl_NameOK K) := Fw.funP_ok (c := Sg.c_impl_NameOK K) (pi := Sg.i_impl_NameOK) (depth := 6) (Fw.cfgP_ok (pi := Sg.i_impl_NameOK) Sg.tabOK Sg.eqsOK Sg.mixOK ⟨ok_impl_within K, ok_impl_isLetter K, ok_impl_NameOK_1 K, ok_impl_areAll_byte__impl_NameOK_1 K, trivial⟩ ⟨⟨fun_impl_areAll_byte_1, call_impl_areAll_byte_1⟩, ⟨fun_slices_IndexFunc_byte, call_slices_IndexFunc_byte⟩, ⟨fun_slices_ContainsFunc_byte, call_slices_ContainsFunc_byte⟩, ⟨fun_impl_areAll_byte, call_impl_areAll_byte⟩, trivial⟩ ⟨⟨rfl, pf_impl_areAll_byte_1⟩, ⟨rfl, pf_slices_IndexFunc_byte⟩, ⟨rfl, pf_slices_ContainsFunc_byte⟩, ⟨rfl, pf_impl_areAll_byte⟩, trivial⟩ pf_impl_NameOK trivial rfl) ⟨⟨rfl, pf_impl_areAll_byte_1⟩, ⟨rfl, pf_slices_IndexFunc_byte⟩, ⟨rfl, pf_slices_ContainsFunc_byte⟩, ⟨rfl, pf_impl_areAll_byte⟩, trivial⟩ pf_impl_NameOK fun_impl_NameOK call_impl_NameOK (fun x => by kernel_rfl)
theorem fun_impl_isValue : Tryd.prog.funcs[39]? = some Tryd.f39 := by kernel_rfl
theorem call_impl_isValue : Fw.Callable Tryd.prog 39 := Fw.callable_of fun_impl_isValue (by kernel_rfl) (by kernel_rfl)
theorem pf_impl_isValue : Fw.PFn.of Tryd.f39 = some Sg.f_impl_isValue := Fw.PFn.of_get (by kernel_rfl)
theorem ok_impl_isValue (K : Nat) : Fw.Ok Tryd.prog 39 (Sg.s_impl_isValue K) := Fw.funP_ok (c := Sg.c_impl_isValue K) (pi := Sg.i_impl_isValue) (depth := 6) (Fw.cfgP_ok (pi := Sg.i_impl_isValue) Sg.tabOK Sg.eqsOK Sg.mixOK ⟨ok_impl_within K, trivial⟩ trivial trivial pf_impl_isValue trivial rfl) trivial pf_impl_isValue fun_impl_isValue call_impl_isValue (fun x => by kernel_rfl)
theorem fun_impl_MapOK : Tryd.prog.funcs[35]? = some Tryd.f35 := by kernel_rfl
theorem call_impl_MapOK : Fw.Callable Tryd.prog 35 := Fw.callable_of fun_impl_MapOK (by kernel_rfl) (by kernel_rfl)
theorem pf_impl_MapOK : Fw.PFn.of Tryd.f35 = some Sg.f_impl_MapOK := Fw.PFn.of_get (by kernel_rfl)
theorem l_impl_MapOK_0 (K : Nat) : Fw.LoopP (Sg.c_impl_MapOK K) Sg.i_impl_MapOK Sg.f_impl_MapOK (Sg.p_impl_MapOK_0 K) := ⟨fun _ => by kernel_rfl, fun n p => by kernel_rfl⟩
theorem ok_impl_MapOK (K : Nat) : Fw.Ok Tryd.prog 35 (Sg.s_impl_MapOK K) := Fw.funP_ok (c := Sg.c_impl_MapOK K) (pi := Sg.i_impl_MapOK) (depth := 6) (Fw.cfgP_ok (pi := Sg.i_impl_MapOK) Sg.tabOK Sg.eqsOK Sg.mixOK ⟨ok_impl_NameOK K, ok_impl_isValue K, trivial⟩ trivial trivial pf_impl_MapOK ⟨⟨_, rfl, l_impl_MapOK_0 K⟩, trivial⟩ rfl) trivial pf_impl_MapOK fun_impl_MapOK call_impl_MapOK (fun x => by kernel_rfl)
theorem l_impl_areAll_simpl_Entry__impl_MapOK_0 (K : Nat) : Fw.LoopP (Sg.c_impl_areAll_simpl_Entry__impl_MapOK K) Sg.i_impl_areAll_simpl_Entry__impl_MapOK Sg.f_slices_IndexFunc_simpl_Entry (Sg.p_impl_areAll_simpl_Entry__impl_MapOK_0 K) := ⟨fun _ => by kernel_rfl, fun n p => by kernel_rfl⟩
theorem ok_impl_areAll_simpl_Entry__impl_MapOK (K : Nat) : Fw.Ok Tryd.prog 33 (Sg.s_impl_areAll_simpl_Entry__impl_MapOK K) := Fw.funP_ok (c := Sg.c_impl_areAll_simpl_Entry__impl_MapOK K) (pi := Sg.i_impl_areAll_simpl_Entry__impl_MapOK) (depth := 6) (Fw.cfgP_ok (pi := Sg.i_impl_areAll_simpl_Entry__impl_MapOK) Sg.tabOK Sg.eqsOK Sg.mixOK ⟨ok_impl_MapOK K, trivial⟩ ⟨⟨fun_impl_areAll_simpl_Entry_1, call_impl_areAll_simpl_Entry_1⟩, ⟨fun_slices_IndexFunc_simpl_Entry, call_slices_IndexFunc_simpl_Entry⟩, ⟨fun_slices_ContainsFunc_simpl_Entry, call_slices_ContainsFunc_simpl_Entry⟩, trivial⟩ ⟨⟨rfl, pf_impl_areAll_simpl_Entry_1⟩, ⟨rfl, pf_slices_IndexFunc_simpl_Entry⟩, ⟨rfl, pf_slices_ContainsFunc_simpl_Entry⟩, trivial⟩ pf_impl_areAll_simpl_Entry ⟨⟨_, rfl, l_impl_areAll_simpl_Entry__impl_MapOK_0 K⟩, trivial⟩ rfl) ⟨⟨rfl, pf_impl_areAll_simpl_Entry_1⟩, ⟨rfl, pf_slices_IndexFunc_simpl_Entry⟩, ⟨rfl, pf_slices_ContainsFunc_simpl_Entry⟩, trivial⟩ pf_impl_areAll_simpl_Entry fun_impl_areAll_simpl_Entry call_impl_areAll_simpl_Entry (fun x => by kernel_rfl)
theorem l_impl_areAll_simpl_Entry__impl_isList_impl_Entry_0 (K : Nat) : Fw.LoopP (Sg.c_impl_areAll_simpl_Entry__impl_isList_impl_Entry K) Sg.i_impl_areAll_simpl_Entry__impl_isList_impl_Entry Sg.f_slices_IndexFunc_simpl_Entry (Sg.p_impl_areAll_simpl_Entry__impl_isList_impl_Entry_0 K) := ⟨fun _ => by kernel_rfl, fun n p => by kernel_rfl⟩
theorem ok_impl_areAll_simpl_Entry__impl_isList_impl_Entry (K : Nat) : Fw.Ok Tryd.prog 33 (Sg.s_impl_areAll_simpl_Entry__impl_isList_impl_Entry K) := Fw.funP_ok (c := Sg.c_impl_areAll_simpl_Entry__impl_isList_impl_Entry K) (pi := Sg.i_impl_areAll_simpl_Entry__impl_isList_impl_Entry) (depth := 6) (Fw.cfgP_ok (pi := Sg.i_impl_areAll_simpl_Entry__impl_isList_impl_Entry) Sg.tabOK Sg.eqsOK Sg.mixOK ⟨ok_impl_isList_impl_Entry K, trivial⟩ ⟨⟨fun_impl_areAll_simpl_Entry_1, call_impl_areAll_simpl_Entry_1⟩, ⟨fun_slices_IndexFunc_simpl_Entry, call_slices_IndexFunc_simpl_Entry⟩, ⟨fun_slices_ContainsFunc_simpl_Entry, call_slices_ContainsFunc_simpl_Entry⟩, trivial⟩ ⟨⟨rfl, pf_impl_areAll_simpl_Entry_1⟩, ⟨rfl, pf_slices_IndexFunc_simpl_Entry⟩, ⟨rfl, pf_slices_ContainsFunc_simpl_Entry⟩, trivial⟩ pf_impl_areAll_simpl_Entry ⟨⟨_, rfl, l_impl_areAll_simpl_Entry__impl_isList_impl_Entry_0 K⟩, trivial⟩ rfl) ⟨⟨rfl, pf_impl_areAll_simpl_Entry_1⟩, ⟨rfl, pf_slices_IndexFunc_simpl_Entry⟩, ⟨rfl, pf_slices_ContainsFunc_simpl_Entry⟩, trivial⟩ pf_impl_areAll_simpl_Entry fun_impl_areAll_simpl_Entry call_impl_areAll_simpl_Entry (fun x => by kernel_rfl)
theorem fun_impl_areMaps : Tryd.prog.funcs[19]? = some Tryd.f19 := by kernel_rfl
theorem call_impl_areMaps : Fw.Callable Tryd.prog 19 := Fw.callable_of fun_impl_areMaps (by kernel_rfl) (by kernel_rfl)
theorem pf_impl_areMaps : Fw.PFn.of Tryd.f19 = some Sg.f_impl_areMaps := Fw.PFn.of_get (by kernel_rfl)
theorem ok_impl_areMaps (K : Nat) : Fw.Ok Tryd.prog 19 (Sg.s_impl_areMaps K) := Fw.funP_ok (c := Sg.c_impl_areMaps K) (pi := Sg.i_impl_areMaps) (depth := 6) (Fw.cfgP_ok (pi := Sg.i_impl_areMaps) Sg.tabOK Sg.eqsOK Sg.mixOK ⟨ok_impl_isList_impl_Entry K, ok_impl_MapOK K, ok_impl_areAll_simpl_Entry__impl_MapOK K, ok_impl_areAll_simpl_Entry__impl_isList_impl_Entry K, trivial⟩ ⟨⟨fun_impl_areAll_simpl_Entry_1, call_impl_areAll_simpl_Entry_1⟩, ⟨fun_slices_IndexFunc_simpl_Entry, call_slices_IndexFunc_simpl_Entry⟩, ⟨fun_slices_ContainsFunc_simpl_Entry, call_slices_ContainsFunc_simpl_Entry⟩, ⟨fun_impl_areAll_simpl_Entry, call_impl_areAll_simpl_Entry⟩, trivial⟩ ⟨⟨rfl, pf_impl_areAll_simpl_Entry_1⟩, ⟨rfl, pf_slices_IndexFunc_simpl_Entry⟩, ⟨rfl, pf_slices_ContainsFunc_simpl_Entry⟩, ⟨rfl, pf_impl_areAll_simpl_Entry⟩, trivial⟩ pf_impl_areMaps trivial rfl) ⟨⟨rfl, pf_impl_areAll_simpl_Entry_1⟩, ⟨rfl, pf_slices_IndexFunc_simpl_Entry⟩, ⟨rfl, pf_slices_ContainsFunc_simpl_Entry⟩, ⟨rfl, pf_impl_areAll_simpl_Entry⟩, trivial⟩ pf_impl_areMaps fun_impl_areMaps call_impl_areMaps (fun x => by kernel_rfl)
theorem fun_strconv_Itoa : Tryd.prog.funcs[36]? = some Tryd.f36 := by kernel_rfl
theorem call_strconv_Itoa : Fw.Callable Tryd.prog 36 := Fw.callable_of fun_strconv_Itoa (by kernel_rfl) (by kernel_rfl)
theorem ok_strconv_Itoa (K : Nat) : Fw.Ok Tryd.prog 36 (Sg.s_strconv_Itoa K) := Fw.ok_itoa call_strconv_Itoa (fun _ h => h) (fun n h0 h1 w ht => Tryd.strconv_Itoa n h0 h1 w ht)
theorem fun_strings_Join : Tryd.prog.funcs[45]? = some Tryd.f45 := by kernel_rfl
theorem call_strings_Join : Fw.Callable Tryd.prog 45 := Fw.callable_of fun_strings_Join (by kernel_rfl) (by kernel_rfl)
theorem ok_strings_Join (K : Nat) : Fw.Ok Tryd.prog 45 (Sg.s_strings_Join K) := Fw.ok_join call_strings_Join (fun a c sep w => Tryd.strings_Join_none a c sep w) (fun bk o c xs sep w h1 h2 h3 h4 h5 => Tryd.strings_Join bk o c xs sep w h1 h2 h3 h4 h5)
theorem fun_impl_listed : Tryd.prog.funcs[37]? = some Tryd.f37 := by kernel_rfl
theorem call_impl_listed : Fw.Callable Tryd.prog 37 := Fw.callable_of fun_impl_listed (by kernel_rfl) (by kernel_rfl)
theorem pf_impl_listed : Fw.PFn.of Tryd.f37 = some Sg.f_impl_listed := Fw.PFn.of_get (by kernel_rfl)
theorem ok_impl_listed (K : Nat) : Fw.Ok Tryd.prog 37 (Sg.s_impl_listed K) := Fw.funP_ok (c := Sg.c_impl_listed K) (pi := Sg.i_impl_listed) (depth := 6) (Fw.cfgP_ok (pi := Sg.i_impl_listed) Sg.tabOK Sg.eqsOK Sg.mixOK ⟨ok_strings_Join K, trivial⟩ trivial trivial pf_impl_listed trivial rfl) trivial pf_impl_listed fun_impl_listed call_impl_listed (fun x => by kernel_rfl)
theorem fun_impl_mapText : Tryd.prog.funcs[20]? = some Tryd.f20 := by kernel_rfl
theorem call_impl_mapText : Fw.Callable Tryd.prog 20 := Fw.callable_of fun_impl_mapText (by kernel_rfl) (by kernel_rfl)
theorem pf_impl_mapText : Fw.PFn.of Tryd.f20 = some Sg.f_impl_mapText := Fw.PFn.of_get (by kernel_rfl)
theorem l_impl_mapText_0 (K : Nat) : Fw.LoopP (Sg.c_impl_mapText K) Sg.i_impl_mapText Sg.f_impl_mapText (Sg.p_impl_mapText_0 K) := ⟨fun _ => by kernel_rfl, fun n p => by kernel_rfl⟩
theorem ok_impl_mapText (K : Nat) : Fw.Ok Tryd.prog 20 (Sg.s_impl_mapText K) := Fw.funP_ok (c := Sg.c_impl_mapText K) (pi := Sg.i_impl_mapText) (depth := 6) (Fw.cfgP_ok (pi := Sg.i_impl_mapText) Sg.tabOK Sg.eqsOK Sg.mixOK ⟨ok_strconv_Itoa K, ok_impl_listed K, trivial⟩ trivial trivial pf_impl_mapText ⟨⟨_, rfl, l_impl_mapText_0 K⟩, trivial⟩ rfl) trivial pf_impl_mapText fun_impl_mapText call_impl_mapText (fun x => by kernel_rfl)
theorem fun_impl_MapText : Tryd.prog.funcs[8]? = some Tryd.f8 := by kernel_rfl
theorem call_impl_MapText : Fw.Callable Tryd.prog 8 := Fw.callable_of fun_impl_MapText (by kernel_rfl) (by kernel_rfl)
theorem pf_impl_MapText : Fw.PFn.of Tryd.f8 = some Sg.f_impl_MapText := Fw.PFn.of_get (by kernel_rfl)
theorem ok_impl_MapText (K : Nat) : Fw.Ok Tryd.prog 8 (Sg.s_impl_MapText K) := Fw.funP_ok (c := Sg.c_impl_MapText K) (pi := Sg.i_impl_MapText) (depth := 6) (Fw.cfgP_ok (pi := Sg.i_impl_MapText) Sg.tabOK Sg.eqsOK Sg.mixOK ⟨ok_impl_areMaps K, ok_impl_mapText K, trivial⟩ trivial trivial pf_impl_MapText trivial rfl) trivial pf_impl_MapText fun_impl_MapText call_impl_MapText (fun x => by kernel_rfl)
theorem fun_laws_eqEntry : Tryd.prog.funcs[21]? = some Tryd.f21 := by kernel_rfl
theorem call_laws_eqEntry : Fw.Callable Tryd.prog 21 := Fw.callable_of fun_laws_eqEntry (by kernel_rfl) (by kernel_rfl)
theorem pf_laws_eqEntry : Fw.PFn.of Tryd.f21 = some Sg.f_laws_eqEntry := Fw.PFn.of_get (by kernel_rfl)
theorem ok_laws_eqEntry (K : Nat) : Fw.Ok Tryd.prog 21 (Sg.s_laws_eqEntry K) := Fw.funP_ok (c := Sg.c_laws_eqEntry K) (pi := Sg.i_laws_eqEntry) (depth := 6) (Fw.cfgP_ok (pi := Sg.i_laws_eqEntry) Sg.tabOK Sg.eqsOK Sg.mixOK trivial trivial trivial pf_laws_eqEntry trivial rfl) trivial pf_laws_eqEntry fun_laws_eqEntry call_laws_eqEntry (fun x => by kernel_rfl)
theorem fun_laws_eqEntryS : Tryd.prog.funcs[9]? = some Tryd.f9 := by kernel_rfl
theorem call_laws_eqEntryS : Fw.Callable Tryd.prog 9 := Fw.callable_of fun_laws_eqEntryS (by kernel_rfl) (by kernel_rfl)
theorem pf_laws_eqEntryS : Fw.PFn.of Tryd.f9 = some Sg.f_laws_eqEntryS := Fw.PFn.of_get (by kernel_rfl)
theorem l_laws_eqEntryS_0 (K : Nat) : Fw.LoopP (Sg.c_laws_eqEntryS K) Sg.i_laws_eqEntryS Sg.f_laws_eqEntryS (Sg.p_laws_eqEntryS_0 K) := ⟨fun _ => by kernel_rfl, fun n p => by kernel_rfl⟩
theorem ok_laws_eqEntryS (K : Nat) : Fw.Ok Tryd.prog 9 (Sg.s_laws_eqEntryS K) := Fw.funP_ok (c := Sg.c_laws_eqEntryS K) (pi := Sg.i_laws_eqEntryS) (depth := 6) (Fw.cfgP_ok (pi := Sg.i_laws_eqEntryS) Sg.tabOK Sg.eqsOK Sg.mixOK ⟨ok_laws_eqEntry K, trivial⟩ trivial trivial pf_laws_eqEntryS ⟨⟨_, rfl, l_laws_eqEntryS_0 K⟩, trivial⟩ rfl) trivial pf_laws_eqEntryS fun_laws_eqEntryS call_laws_eqEntryS (fun x => by kernel_rfl)
theorem fun_laws_FnExactMapText : Tryd.prog.funcs[3]? = some Tryd.f3 := by kernel_rfl
theorem call_laws_FnExactMapText : Fw.Callable Tryd.prog 3 := Fw.callable_of fun_laws_FnExactMapText (by kernel_rfl) (by kernel_rfl)
theorem pf_laws_FnExactMapText : Fw.PFn.of Tryd.f3 = some Sg.f_laws_FnExactMapText := Fw.PFn.of_get (by kernel_rfl)
theorem ok_laws_FnExactMapText (K : Nat) : Fw.Ok Tryd.prog 3 (Sg.s_laws_FnExactMapText K) := Fw.funP_ok (c := Sg.c_laws_FnExactMapText K) (pi := Sg.i_laws_FnExactMapText) (depth := 6) (Fw.cfgP_ok (pi := Sg.i_laws_FnExactMapText) Sg.tabOK Sg.eqsOK Sg.mixOK ⟨ok_laws_szEntryS K, ok_laws_toEntryS K, ok_spec_MapText K, ok_impl_MapText K, ok_laws_eqEntryS K, trivial⟩ trivial trivial pf_laws_FnExactMapText trivial rfl) trivial pf_laws_FnExactMapText fun_laws_FnExactMapText call_laws_FnExactMapText (fun x => by kernel_rfl)
theorem fun_laws_szEdit : Tryd.prog.funcs[22]? = some Tryd.f22 := by kernel_rfl
theorem call_laws_szEdit : Fw.Callable Tryd.prog 22 := Fw.callable_of fun_laws_szEdit (by kernel_rfl) (by kernel_rfl)
theorem pf_laws_szEdit : Fw.PFn.of Tryd.f22 = some Sg.f_laws_szEdit := Fw.PFn.of_get (by kernel_rfl)
theorem ok_laws_szEdit (K : Nat) : Fw.Ok Tryd.prog 22 (Sg.s_laws_szEdit K) := Fw.funP_ok (c := Sg.c_laws_szEdit K) (pi := Sg.i_laws_szEdit) (depth := 6) (Fw.cfgP_ok (pi := Sg.i_laws_szEdit) Sg.tabOK Sg.eqsOK Sg.mixOK trivial trivial trivial pf_laws_szEdit trivial rfl) trivial pf_laws_szEdit fun_laws_szEdit call_laws_szEdit (fun x => by kernel_rfl)
theorem fun_laws_szEditS : Tryd.prog.funcs[10]? = some Tryd.f10 := by kernel_rfl
theorem call_laws_szEditS : Fw.Callable Tryd.prog 10 := Fw.callable_of fun_laws_szEditS (by kernel_rfl) (by kernel_rfl)
theorem pf_laws_szEditS : Fw.PFn.of Tryd.f10 = some Sg.f_laws_szEditS := Fw.PFn.of_get (by kernel_rfl)
theorem l_laws_szEditS_0 (K : Nat) : Fw.LoopP (Sg.c_laws_szEditS K) Sg.i_laws_szEditS Sg.f_laws_szEditS (Sg.p_laws_szEditS_0 K) := ⟨fun _ => by kernel_rfl, fun n p => by kernel_rfl⟩
theorem ok_laws_szEditS (K : Nat) : Fw.Ok Tryd.prog 10 (Sg.s_laws_szEditS K) := Fw.funP_ok (c := Sg.c_laws_szEditS K) (pi := Sg.i_laws_szEditS) (depth := 6) (Fw.cfgP_ok (pi := Sg.i_laws_szEditS) Sg.tabOK Sg.eqsOK Sg.mixOK ⟨ok_laws_szEdit K, trivial⟩ trivial trivial pf_laws_szEditS ⟨⟨_, rfl, l_laws_szEditS_0 K⟩, trivial⟩ rfl) trivial pf_laws_szEditS fun_laws_szEditS call_laws_szEditS (fun x => by kernel_rfl)
theorem fun_laws_toEdit : Tryd.prog.funcs[25]? = some Tryd.f25 := by kernel_rfl
theorem call_laws_toEdit : Fw.Callable Tryd.prog 25 := Fw.callable_of fun_laws_toEdit (by kernel_rfl) (by kernel_rfl)
theorem pf_laws_toEdit : Fw.PFn.of Tryd.f25 = some Sg.f_laws_toEdit := Fw.PFn.of_get (by kernel_rfl)
theorem ok_laws_toEdit (K : Nat) : Fw.Ok Tryd.prog 25 (Sg.s_laws_toEdit K) := Fw.funP_ok (c := Sg.c_laws_toEdit K) (pi := Sg.i_laws_toEdit) (depth := 6) (Fw.cfgP_ok (pi := Sg.i_laws_toEdit) Sg.tabOK Sg.eqsOK Sg.mixOK trivial trivial trivial pf_laws_toEdit trivial rfl) trivial pf_laws_toEdit fun_laws_toEdit call_laws_toEdit (fun x => by kernel_rfl)
theorem fun_laws_toEditS : Tryd.prog.funcs[12]? = some Tryd.f12 := by kernel_rfl
theorem call_laws_toEditS : Fw.Callable Tryd.prog 12 := Fw.callable_of fun_laws_toEditS (by kernel_rfl) (by kernel_rfl)
theorem pf_laws_toEditS : Fw.PFn.of Tryd.f12 = some Sg.f_laws_toEditS := Fw.PFn.of_get (by kernel_rfl)
theorem l_laws_toEditS_0 (K : Nat) : Fw.LoopP (Sg.c_laws_toEditS K) Sg.i_laws_toEditS Sg.f_laws_toEditS (Sg.p_laws_toEditS_0 K) := ⟨fun _ => by kernel_rfl, fun n p => by kernel_rfl⟩
theorem ok_laws_toEditS (K : Nat) : Fw.Ok Tryd.prog 12 (Sg.s_laws_toEditS K) := Fw.funP_ok (c := Sg.c_laws_toEditS K) (pi := Sg.i_laws_toEditS) (depth := 6) (Fw.cfgP_ok (pi := Sg.i_laws_toEditS) Sg.tabOK Sg.eqsOK Sg.mixOK ⟨ok_laws_toEdit K, trivial⟩ trivial trivial pf_laws_toEditS ⟨⟨_, rfl, l_laws_toEditS_0 K⟩, trivial⟩ rfl) trivial pf_laws_toEditS fun_laws_toEditS call_laws_toEditS (fun x => by kernel_rfl)
theorem fun_spec_l01Edits : Tryd.prog.funcs[23]? = some Tryd.f23 := by kernel_rfl
theorem call_spec_l01Edits : Fw.Callable Tryd.prog 23 := Fw.callable_of fun_spec_l01Edits (by kernel_rfl) (by kernel_rfl)
theorem pf_spec_l01Edits : Fw.PFn.of Tryd.f23 = some Sg.f_spec_l01Edits := Fw.PFn.of_get (by kernel_rfl)
theorem l_spec_l01Edits_0 (K : Nat) : Fw.LoopP (Sg.c_spec_l01Edits K) Sg.i_spec_l01Edits Sg.f_spec_l01Edits (Sg.p_spec_l01Edits_0 K) := ⟨fun _ => by kernel_rfl, fun n p => by kernel_rfl⟩
theorem ok_spec_l01Edits (K : Nat) : Fw.Ok Tryd.prog 23 (Sg.s_spec_l01Edits K) := Fw.funP_ok (c := Sg.c_spec_l01Edits K) (pi := Sg.i_spec_l01Edits) (depth := 6) (Fw.cfgP_ok (pi := Sg.i_spec_l01Edits) Sg.tabOK Sg.eqsOK Sg.mixOK ⟨ok_spec_l00Word K, ok_spec_l01In K, trivial⟩ trivial trivial pf_spec_l01Edits ⟨⟨_, rfl, l_spec_l01Edits_0 K⟩, trivial⟩ rfl) trivial pf_spec_l01Edits fun_spec_l01Edits call_spec_l01Edits (fun x => by kernel_rfl)
theorem fun_spec_l13Edits : Tryd.prog.funcs[24]? = some Tryd.f24 := by kernel_rfl
theorem call_spec_l13Edits : Fw.Callable Tryd.prog 24 := Fw.callable_of fun_spec_l13Edits (by kernel_rfl) (by kernel_rfl)
theorem pf_spec_l13Edits : Fw.PFn.of Tryd.f24 = some Sg.f_spec_l13Edits := Fw.PFn.of_get (by kernel_rfl)
theorem l_spec_l13Edits_0 (K : Nat) : Fw.LoopP (Sg.c_spec_l13Edits K) Sg.i_spec_l13Edits Sg.f_spec_l13Edits (Sg.p_spec_l13Edits_0 K) := ⟨fun _ => by kernel_rfl, fun n p => by kernel_rfl⟩
theorem ok_spec_l13Edits (K : Nat) : Fw.Ok Tryd.prog 24 (Sg.s_spec_l13Edits K) := Fw.funP_ok (c := Sg.c_spec_l13Edits K) (pi := Sg.i_spec_l13Edits) (depth := 6) (Fw.cfgP_ok (pi := Sg.i_spec_l13Edits) Sg.tabOK Sg.eqsOK Sg.mixOK ⟨ok_spec_l00Digits K, trivial⟩ trivial trivial pf_spec_l13Edits ⟨⟨_, rfl, l_spec_l13Edits_0 K⟩, trivial⟩ rfl) trivial pf_spec_l13Edits fun_spec_l13Edits call_spec_l13Edits (fun x => by kernel_rfl)
theorem fun_spec_EditsText : Tryd.prog.funcs[11]? = some Tryd.f11 := by kernel_rfl
theorem call_spec_EditsText : Fw.Callable Tryd.prog 11 := Fw.callable_of fun_spec_EditsText (by kernel_rfl) (by kernel_rfl)
theorem pf_spec_EditsText : Fw.PFn.of Tryd.f11 = some Sg.f_spec_EditsText := Fw.PFn.of_get (by kernel_rfl)
theorem ok_spec_EditsText (K : Nat) : Fw.Ok Tryd.prog 11 (Sg.s_spec_EditsText K) := Fw.funP_ok (c := Sg.c_spec_EditsText K) (pi := Sg.i_spec_EditsText) (depth := 6) (Fw.cfgP_ok (pi := Sg.i_spec_EditsText) Sg.tabOK Sg.eqsOK Sg.mixOK ⟨ok_spec_l01Edits K, ok_spec_l13Edits K, trivial⟩ trivial trivial pf_spec_EditsText trivial rfl) trivial pf_spec_EditsText fun_spec_EditsText call_spec_EditsText (fun x => by kernel_rfl)
theorem fun_impl_isList_impl_Edit : Tryd.prog.funcs[26]? = some Tryd.f26 := by kernel_rfl
theorem call_impl_isList_impl_Edit : Fw.Callable Tryd.prog 26 := Fw.callable_of fun_impl_isList_impl_Edit (by kernel_rfl) (by kernel_rfl)
theorem pf_impl_isList_impl_Edit : Fw.PFn.of Tryd.f26 = some Sg.f_impl_isList_impl_Edit := Fw.PFn.of_get (by kernel_rfl)
theorem ok_impl_isList_impl_Edit (K : Nat) : Fw.Ok Tryd.prog 26 (Sg.s_impl_isList_impl_Edit K) := Fw.funP_ok (c := Sg.c_impl_isList_impl_Edit K) (pi := Sg.i_impl_isList_impl_Edit) (depth := 6) (Fw.cfgP_ok (pi := Sg.i_impl_isList_impl_Edit) Sg.tabOK Sg.eqsOK Sg.mixOK trivial trivial trivial pf_impl_isList_impl_Edit trivial rfl) trivial pf_impl_isList_impl_Edit fun_impl_isList_impl_Edit call_impl_isList_impl_Edit (fun x => by kernel_rfl)
theorem fun_impl_EditsOK : Tryd.prog.funcs[27]? = some Tryd.f27 := by kernel_rfl
theorem call_impl_EditsOK : Fw.Callable Tryd.prog 27 := Fw.callable_of fun_impl_EditsOK (by kernel_rfl) (by kernel_rfl)
theorem pf_impl_EditsOK : Fw.PFn.of Tryd.f27 = some Sg.f_impl_EditsOK := Fw.PFn.of_get (by kernel_rfl)
theorem l_impl_EditsOK_0 (K : Nat) : Fw.LoopP (Sg.c_impl_EditsOK K) Sg.i_impl_EditsOK Sg.f_impl_EditsOK (Sg.p_impl_EditsOK_0 K) := ⟨fun _ => by kernel_rfl, fun n p => by kernel_rfl⟩
theorem ok_impl_EditsOK (K : Nat) : Fw.Ok Tryd.prog 27 (Sg.s_impl_EditsOK K) := Fw.funP_ok (c := Sg.c_impl_EditsOK K) (pi := Sg.i_impl_EditsOK) (depth := 6) (Fw.cfgP_ok (pi := Sg.i_impl_EditsOK) Sg.tabOK Sg.eqsOK Sg.mixOK ⟨ok_impl_NameOK K, ok_impl_isValue K, trivial⟩ trivial trivial pf_impl_EditsOK ⟨⟨_, rfl, l_impl_EditsOK_0 K⟩, trivial⟩ rfl) trivial pf_impl_EditsOK fun_impl_EditsOK call_impl_EditsOK (fun x => by kernel_rfl)
theorem fun_impl_editsText : Tryd.prog.funcs[28]? = some Tryd.f28 := by kernel_rfl
theorem call_impl_editsText : Fw.Callable Tryd.prog 28 := Fw.callable_of fun_impl_editsText (by kernel_rfl) (by kernel_rfl)
theorem pf_impl_editsText : Fw.PFn.of Tryd.f28 = some Sg.f_impl_editsText := Fw.PFn.of_get (by kernel_rfl)
theorem l_impl_editsText_0 (K : Nat) : Fw.LoopP (Sg.c_impl_editsText K) Sg.i_impl_editsText Sg.f_impl_editsText (Sg.p_impl_editsText_0 K) := ⟨fun _ => by kernel_rfl, fun n p => by kernel_rfl⟩
theorem ok_impl_editsText (K : Nat) : Fw.Ok Tryd.prog 28 (Sg.s_impl_editsText K) := Fw.funP_ok (c := Sg.c_impl_editsText K) (pi := Sg.i_impl_editsText) (depth := 6) (Fw.cfgP_ok (pi := Sg.i_impl_editsText) Sg.tabOK Sg.eqsOK Sg.mixOK ⟨ok_strconv_Itoa K, ok_impl_listed K, trivial⟩ trivial trivial pf_impl_editsText ⟨⟨_, rfl, l_impl_editsText_0 K⟩, trivial⟩ rfl) trivial pf_impl_editsText fun_impl_editsText call_impl_editsText (fun x => by kernel_rfl)
theorem fun_impl_EditsText : Tryd.prog.funcs[13]? = some Tryd.f13 := by kernel_rfl
theorem call_impl_EditsText : Fw.Callable Tryd.prog 13 := Fw.callable_of fun_impl_EditsText (by kernel_rfl) (by kernel_rfl)
theorem pf_impl_EditsText : Fw.PFn.of Tryd.f13 = some Sg.f_impl_EditsText := Fw.PFn.of_get (by kernel_rfl)
theorem ok_impl_EditsText (K : Nat) : Fw.Ok Tryd.prog 13 (Sg.s_impl_EditsText K) := Fw.funP_ok (c := Sg.c_impl_EditsText K) (pi := Sg.i_impl_EditsText) (depth := 6) (Fw.cfgP_ok (pi := Sg.i_impl_EditsText) Sg.tabOK Sg.eqsOK Sg.mixOK ⟨ok_impl_isList_impl_Edit K, ok_impl_EditsOK K, ok_impl_editsText K, trivial⟩ trivial trivial pf_impl_EditsText trivial rfl) trivial pf_impl_EditsText fun_impl_EditsText call_impl_EditsText (fun x => by kernel_rfl)
theorem fun_laws_eqEdit : Tryd.prog.funcs[29]? = some Tryd.f29 := by kernel_rfl
theorem call_laws_eqEdit : Fw.Callable Tryd.prog 29 := Fw.callable_of fun_laws_eqEdit (by kernel_rfl) (by kernel_rfl)
theorem pf_laws_eqEdit : Fw.PFn.of Tryd.f29 = some Sg.f_laws_eqEdit := Fw.PFn.of_get (by kernel_rfl)
theorem ok_laws_eqEdit (K : Nat) : Fw.Ok Tryd.prog 29 (Sg.s_laws_eqEdit K) := Fw.funP_ok (c := Sg.c_laws_eqEdit K) (pi := Sg.i_laws_eqEdit) (depth := 6) (Fw.cfgP_ok (pi := Sg.i_laws_eqEdit) Sg.tabOK Sg.eqsOK Sg.mixOK trivial trivial trivial pf_laws_eqEdit trivial rfl) trivial pf_laws_eqEdit fun_laws_eqEdit call_laws_eqEdit (fun x => by kernel_rfl)
theorem fun_laws_eqEditS : Tryd.prog.funcs[14]? = some Tryd.f14 := by kernel_rfl
theorem call_laws_eqEditS : Fw.Callable Tryd.prog 14 := Fw.callable_of fun_laws_eqEditS (by kernel_rfl) (by kernel_rfl)
theorem pf_laws_eqEditS : Fw.PFn.of Tryd.f14 = some Sg.f_laws_eqEditS := Fw.PFn.of_get (by kernel_rfl)
theorem l_laws_eqEditS_0 (K : Nat) : Fw.LoopP (Sg.c_laws_eqEditS K) Sg.i_laws_eqEditS Sg.f_laws_eqEditS (Sg.p_laws_eqEditS_0 K) := ⟨fun _ => by kernel_rfl, fun n p => by kernel_rfl⟩
theorem ok_laws_eqEditS (K : Nat) : Fw.Ok Tryd.prog 14 (Sg.s_laws_eqEditS K) := Fw.funP_ok (c := Sg.c_laws_eqEditS K) (pi := Sg.i_laws_eqEditS) (depth := 6) (Fw.cfgP_ok (pi := Sg.i_laws_eqEditS) Sg.tabOK Sg.eqsOK Sg.mixOK ⟨ok_laws_eqEdit K, trivial⟩ trivial trivial pf_laws_eqEditS ⟨⟨_, rfl, l_laws_eqEditS_0 K⟩, trivial⟩ rfl) trivial pf_laws_eqEditS fun_laws_eqEditS call_laws_eqEditS (fun x => by kernel_rfl)
theorem fun_laws_FnExactEditsText : Tryd.prog.funcs[4]? = some Tryd.f4 := by kernel_rfl
theorem call_laws_FnExactEditsText : Fw.Callable Tryd.prog 4 := Fw.callable_of fun_laws_FnExactEditsText (by kernel_rfl) (by kernel_rfl)
theorem pf_laws_FnExactEditsText : Fw.PFn.of Tryd.f4 = some Sg.f_laws_FnExactEditsText := Fw.PFn.of_get (by kernel_rfl)
theorem ok_laws_FnExactEditsText (K : Nat) : Fw.Ok Tryd.prog 4 (Sg.s_laws_FnExactEditsText K) := Fw.funP_ok (c := Sg.c_laws_FnExactEditsText K) (pi := Sg.i_laws_FnExactEditsText) (depth := 6) (Fw.cfgP_ok (pi := Sg.i_laws_FnExactEditsText) Sg.tabOK Sg.eqsOK Sg.mixOK ⟨ok_laws_szEditS K, ok_laws_toEditS K, ok_spec_EditsText K, ok_impl_EditsText K, ok_laws_eqEditS K, trivial⟩ trivial trivial pf_laws_FnExactEditsText trivial rfl) trivial pf_laws_FnExactEditsText fun_laws_FnExactEditsText call_laws_FnExactEditsText (fun x => by kernel_rfl)
end Go.Proofs
