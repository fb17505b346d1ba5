/- The functions' contracts, printed by a program of the prover's own. -/
import Derived.Test.YtfcldjomdbepjaaGreatAS1
set_option linter.all false
namespace Go.Proofs
open Go Fw
set_option maxRecDepth 100000
theorem pf_impl_BaseOK : Fw.PFn.of Tryz.f51 = some Sg.f_impl_BaseOK := Fw.PFn.of_get (by kernel_rfl)
theorem ok_impl_BaseOK (K : Nat) : Fw.Ok Tryz.prog 51 (Sg.s_impl_BaseOK K) := Fw.funP_ok (c := Sg.c_impl_BaseOK K) (pi := Sg.i_impl_BaseOK) (depth := 6) (Fw.cfgP_ok (pi := Sg.i_impl_BaseOK) Sg.tabOK Sg.eqsOK Sg.mixOK ⟨ok_impl_StoreOK K, ok_impl_RefsOK K, ok_impl_areAll_impl_Ref__impl_BaseOK_1 K, trivial⟩ ⟨⟨fun_impl_areAll_impl_Ref_1, call_impl_areAll_impl_Ref_1⟩, ⟨fun_slices_IndexFunc_impl_Ref, call_slices_IndexFunc_impl_Ref⟩, ⟨fun_slices_ContainsFunc_impl_Ref, call_slices_ContainsFunc_impl_Ref⟩, ⟨fun_impl_areAll_impl_Ref, call_impl_areAll_impl_Ref⟩, ⟨fun_impl_BaseOK_1, call_impl_BaseOK_1⟩, trivial⟩ ⟨⟨rfl, pf_impl_areAll_impl_Ref_1⟩, ⟨rfl, pf_slices_IndexFunc_impl_Ref⟩, ⟨rfl, pf_slices_ContainsFunc_impl_Ref⟩, ⟨rfl, pf_impl_areAll_impl_Ref⟩, ⟨rfl, pf_impl_BaseOK_1⟩, trivial⟩ pf_impl_BaseOK trivial rfl) ⟨⟨rfl, pf_impl_areAll_impl_Ref_1⟩, ⟨rfl, pf_slices_IndexFunc_impl_Ref⟩, ⟨rfl, pf_slices_ContainsFunc_impl_Ref⟩, ⟨rfl, pf_impl_areAll_impl_Ref⟩, ⟨rfl, pf_impl_BaseOK_1⟩, trivial⟩ pf_impl_BaseOK fun_impl_BaseOK call_impl_BaseOK (fun x => by kernel_rfl)
theorem fun_slices_Clone_int : Tryz.prog.funcs[207]? = some Tryz.f207 := by kernel_rfl
theorem call_slices_Clone_int : Fw.Callable Tryz.prog 207 := Fw.callable_of fun_slices_Clone_int (by kernel_rfl) (by kernel_rfl)
theorem pf_slices_Clone_int : Fw.PFn.of Tryz.f207 = some Sg.f_slices_Clone_int := Fw.PFn.of_get (by kernel_rfl)
theorem ok_slices_Clone_int (K : Nat) : Fw.Ok Tryz.prog 207 (Sg.s_slices_Clone_int K) := Fw.funP_ok (c := Sg.c_slices_Clone_int K) (pi := Sg.i_slices_Clone_int) (depth := 6) (Fw.cfgP_ok (pi := Sg.i_slices_Clone_int) Sg.tabOK Sg.eqsOK Sg.mixOK trivial trivial trivial pf_slices_Clone_int trivial rfl) trivial pf_slices_Clone_int fun_slices_Clone_int call_slices_Clone_int (fun x => by kernel_rfl)
theorem fun_slices_Clone_impl_Entry : Tryz.prog.funcs[159]? = some Tryz.f159 := by kernel_rfl
theorem call_slices_Clone_impl_Entry : Fw.Callable Tryz.prog 159 := Fw.callable_of fun_slices_Clone_impl_Entry (by kernel_rfl) (by kernel_rfl)
theorem pf_slices_Clone_impl_Entry : Fw.PFn.of Tryz.f159 = some Sg.f_slices_Clone_impl_Entry := Fw.PFn.of_get (by kernel_rfl)
theorem ok_slices_Clone_impl_Entry (K : Nat) : Fw.Ok Tryz.prog 159 (Sg.s_slices_Clone_impl_Entry K) := Fw.funP_ok (c := Sg.c_slices_Clone_impl_Entry K) (pi := Sg.i_slices_Clone_impl_Entry) (depth := 6) (Fw.cfgP_ok (pi := Sg.i_slices_Clone_impl_Entry) Sg.tabOK Sg.eqsOK Sg.mixOK trivial trivial trivial pf_slices_Clone_impl_Entry trivial rfl) trivial pf_slices_Clone_impl_Entry fun_slices_Clone_impl_Entry call_slices_Clone_impl_Entry (fun x => by kernel_rfl)
theorem fun_impl_Commit_own : Tryz.prog.funcs[173]? = some Tryz.f173 := by kernel_rfl
theorem call_impl_Commit_own : Fw.Callable Tryz.prog 173 := Fw.callable_of fun_impl_Commit_own (by kernel_rfl) (by kernel_rfl)
theorem pf_impl_Commit_own : Fw.PFn.of Tryz.f173 = some Sg.f_impl_Commit_own := Fw.PFn.of_get (by kernel_rfl)
theorem ok_impl_Commit_own (K : Nat) : Fw.Ok Tryz.prog 173 (Sg.s_impl_Commit_own K) := Fw.funP_ok (c := Sg.c_impl_Commit_own K) (pi := Sg.i_impl_Commit_own) (depth := 6) (Fw.cfgP_ok (pi := Sg.i_impl_Commit_own) Sg.tabOK Sg.eqsOK Sg.mixOK ⟨ok_slices_Clone_int K, ok_slices_Clone_impl_Entry K, trivial⟩ trivial trivial pf_impl_Commit_own trivial rfl) trivial pf_impl_Commit_own fun_impl_Commit_own call_impl_Commit_own (fun x => by kernel_rfl)
theorem fun_impl_ownStore : Tryz.prog.funcs[112]? = some Tryz.f112 := by kernel_rfl
theorem call_impl_ownStore : Fw.Callable Tryz.prog 112 := Fw.callable_of fun_impl_ownStore (by kernel_rfl) (by kernel_rfl)
theorem pf_impl_ownStore : Fw.PFn.of Tryz.f112 = some Sg.f_impl_ownStore := Fw.PFn.of_get (by kernel_rfl)
theorem l_impl_ownStore_0 (K : Nat) : Fw.LoopP (Sg.c_impl_ownStore K) Sg.i_impl_ownStore Sg.f_impl_ownStore (Sg.p_impl_ownStore_0 K) := ⟨fun _ => by kernel_rfl, fun n p => by kernel_rfl⟩
theorem ok_impl_ownStore (K : Nat) : Fw.Ok Tryz.prog 112 (Sg.s_impl_ownStore K) := Fw.funP_ok (c := Sg.c_impl_ownStore K) (pi := Sg.i_impl_ownStore) (depth := 6) (Fw.cfgP_ok (pi := Sg.i_impl_ownStore) Sg.tabOK Sg.eqsOK Sg.mixOK ⟨ok_impl_Commit_own K, trivial⟩ trivial trivial pf_impl_ownStore ⟨⟨_, rfl, l_impl_ownStore_0 K⟩, trivial⟩ rfl) trivial pf_impl_ownStore fun_impl_ownStore call_impl_ownStore (fun x => by kernel_rfl)
theorem fun_slices_Clone_impl_Ref : Tryz.prog.funcs[113]? = some Tryz.f113 := by kernel_rfl
theorem call_slices_Clone_impl_Ref : Fw.Callable Tryz.prog 113 := Fw.callable_of fun_slices_Clone_impl_Ref (by kernel_rfl) (by kernel_rfl)
theorem pf_slices_Clone_impl_Ref : Fw.PFn.of Tryz.f113 = some Sg.f_slices_Clone_impl_Ref := Fw.PFn.of_get (by kernel_rfl)
theorem ok_slices_Clone_impl_Ref (K : Nat) : Fw.Ok Tryz.prog 113 (Sg.s_slices_Clone_impl_Ref K) := Fw.funP_ok (c := Sg.c_slices_Clone_impl_Ref K) (pi := Sg.i_slices_Clone_impl_Ref) (depth := 6) (Fw.cfgP_ok (pi := Sg.i_slices_Clone_impl_Ref) Sg.tabOK Sg.eqsOK Sg.mixOK trivial trivial trivial pf_slices_Clone_impl_Ref trivial rfl) trivial pf_slices_Clone_impl_Ref fun_slices_Clone_impl_Ref call_slices_Clone_impl_Ref (fun x => by kernel_rfl)
theorem fun_impl_Base_own : Tryz.prog.funcs[52]? = some Tryz.f52 := by kernel_rfl
theorem call_impl_Base_own : Fw.Callable Tryz.prog 52 := Fw.callable_of fun_impl_Base_own (by kernel_rfl) (by kernel_rfl)
theorem pf_impl_Base_own : Fw.PFn.of Tryz.f52 = some Sg.f_impl_Base_own := Fw.PFn.of_get (by kernel_rfl)
theorem ok_impl_Base_own (K : Nat) : Fw.Ok Tryz.prog 52 (Sg.s_impl_Base_own K) := Fw.funP_ok (c := Sg.c_impl_Base_own K) (pi := Sg.i_impl_Base_own) (depth := 6) (Fw.cfgP_ok (pi := Sg.i_impl_Base_own) Sg.tabOK Sg.eqsOK Sg.mixOK ⟨ok_impl_ownStore K, ok_slices_Clone_impl_Ref K, trivial⟩ trivial trivial pf_impl_Base_own trivial rfl) trivial pf_impl_Base_own fun_impl_Base_own call_impl_Base_own (fun x => by kernel_rfl)
theorem fun_impl_isList_impl_Wish : Tryz.prog.funcs[114]? = some Tryz.f114 := by kernel_rfl
theorem call_impl_isList_impl_Wish : Fw.Callable Tryz.prog 114 := Fw.callable_of fun_impl_isList_impl_Wish (by kernel_rfl) (by kernel_rfl)
theorem pf_impl_isList_impl_Wish : Fw.PFn.of Tryz.f114 = some Sg.f_impl_isList_impl_Wish := Fw.PFn.of_get (by kernel_rfl)
theorem ok_impl_isList_impl_Wish (K : Nat) : Fw.Ok Tryz.prog 114 (Sg.s_impl_isList_impl_Wish K) := Fw.funP_ok (c := Sg.c_impl_isList_impl_Wish K) (pi := Sg.i_impl_isList_impl_Wish) (depth := 6) (Fw.cfgP_ok (pi := Sg.i_impl_isList_impl_Wish) Sg.tabOK Sg.eqsOK Sg.mixOK trivial trivial trivial pf_impl_isList_impl_Wish trivial rfl) trivial pf_impl_isList_impl_Wish fun_impl_isList_impl_Wish call_impl_isList_impl_Wish (fun x => by kernel_rfl)
theorem fun_impl_areAll_impl_Wish_1 : Tryz.prog.funcs[175]? = some Tryz.f175 := by kernel_rfl
theorem call_impl_areAll_impl_Wish_1 : Fw.Callable Tryz.prog 175 := Fw.callable_of fun_impl_areAll_impl_Wish_1 (by kernel_rfl) (by kernel_rfl)
theorem pf_impl_areAll_impl_Wish_1 : Fw.PFn.of Tryz.f175 = some Sg.f_impl_areAll_impl_Wish_1 := Fw.PFn.of_get (by kernel_rfl)
theorem fun_slices_IndexFunc_impl_Wish : Tryz.prog.funcs[208]? = some Tryz.f208 := by kernel_rfl
theorem call_slices_IndexFunc_impl_Wish : Fw.Callable Tryz.prog 208 := Fw.callable_of fun_slices_IndexFunc_impl_Wish (by kernel_rfl) (by kernel_rfl)
theorem pf_slices_IndexFunc_impl_Wish : Fw.PFn.of Tryz.f208 = some Sg.f_slices_IndexFunc_impl_Wish := Fw.PFn.of_get (by kernel_rfl)
theorem fun_slices_ContainsFunc_impl_Wish : Tryz.prog.funcs[174]? = some Tryz.f174 := by kernel_rfl
theorem call_slices_ContainsFunc_impl_Wish : Fw.Callable Tryz.prog 174 := Fw.callable_of fun_slices_ContainsFunc_impl_Wish (by kernel_rfl) (by kernel_rfl)
theorem pf_slices_ContainsFunc_impl_Wish : Fw.PFn.of Tryz.f174 = some Sg.f_slices_ContainsFunc_impl_Wish := Fw.PFn.of_get (by kernel_rfl)
theorem fun_impl_areAll_impl_Wish : Tryz.prog.funcs[115]? = some Tryz.f115 := by kernel_rfl
theorem call_impl_areAll_impl_Wish : Fw.Callable Tryz.prog 115 := Fw.callable_of fun_impl_areAll_impl_Wish (by kernel_rfl) (by kernel_rfl)
theorem pf_impl_areAll_impl_Wish : Fw.PFn.of Tryz.f115 = some Sg.f_impl_areAll_impl_Wish := Fw.PFn.of_get (by kernel_rfl)
theorem fun_impl_hasSource : Tryz.prog.funcs[176]? = some Tryz.f176 := by kernel_rfl
theorem call_impl_hasSource : Fw.Callable Tryz.prog 176 := Fw.callable_of fun_impl_hasSource (by kernel_rfl) (by kernel_rfl)
theorem pf_impl_hasSource : Fw.PFn.of Tryz.f176 = some Sg.f_impl_hasSource := Fw.PFn.of_get (by kernel_rfl)
theorem ok_impl_hasSource (K : Nat) : Fw.Ok Tryz.prog 176 (Sg.s_impl_hasSource K) := Fw.funP_ok (c := Sg.c_impl_hasSource K) (pi := Sg.i_impl_hasSource) (depth := 6) (Fw.cfgP_ok (pi := Sg.i_impl_hasSource) Sg.tabOK Sg.eqsOK Sg.mixOK trivial trivial trivial pf_impl_hasSource trivial rfl) trivial pf_impl_hasSource fun_impl_hasSource call_impl_hasSource (fun x => by kernel_rfl)
theorem fun_slices_Clone_impl_Edit : Tryz.prog.funcs[178]? = some Tryz.f178 := by kernel_rfl
theorem call_slices_Clone_impl_Edit : Fw.Callable Tryz.prog 178 := Fw.callable_of fun_slices_Clone_impl_Edit (by kernel_rfl) (by kernel_rfl)
theorem pf_slices_Clone_impl_Edit : Fw.PFn.of Tryz.f178 = some Sg.f_slices_Clone_impl_Edit := Fw.PFn.of_get (by kernel_rfl)
theorem ok_slices_Clone_impl_Edit (K : Nat) : Fw.Ok Tryz.prog 178 (Sg.s_slices_Clone_impl_Edit K) := Fw.funP_ok (c := Sg.c_slices_Clone_impl_Edit K) (pi := Sg.i_slices_Clone_impl_Edit) (depth := 6) (Fw.cfgP_ok (pi := Sg.i_slices_Clone_impl_Edit) Sg.tabOK Sg.eqsOK Sg.mixOK trivial trivial trivial pf_slices_Clone_impl_Edit trivial rfl) trivial pf_slices_Clone_impl_Edit fun_slices_Clone_impl_Edit call_slices_Clone_impl_Edit (fun x => by kernel_rfl)
theorem fun_impl_Wish_op : Tryz.prog.funcs[177]? = some Tryz.f177 := by kernel_rfl
theorem call_impl_Wish_op : Fw.Callable Tryz.prog 177 := Fw.callable_of fun_impl_Wish_op (by kernel_rfl) (by kernel_rfl)
theorem pf_impl_Wish_op : Fw.PFn.of Tryz.f177 = some Sg.f_impl_Wish_op := Fw.PFn.of_get (by kernel_rfl)
theorem ok_impl_Wish_op (K : Nat) : Fw.Ok Tryz.prog 177 (Sg.s_impl_Wish_op K) := Fw.funP_ok (c := Sg.c_impl_Wish_op K) (pi := Sg.i_impl_Wish_op) (depth := 6) (Fw.cfgP_ok (pi := Sg.i_impl_Wish_op) Sg.tabOK Sg.eqsOK Sg.mixOK ⟨ok_slices_Clone_impl_Edit K, trivial⟩ trivial trivial pf_impl_Wish_op trivial rfl) trivial pf_impl_Wish_op fun_impl_Wish_op call_impl_Wish_op (fun x => by kernel_rfl)
theorem fun_impl_EditsOK : Tryz.prog.funcs[152]? = some Tryz.f152 := by kernel_rfl
theorem call_impl_EditsOK : Fw.Callable Tryz.prog 152 := Fw.callable_of fun_impl_EditsOK (by kernel_rfl) (by kernel_rfl)
theorem pf_impl_EditsOK : Fw.PFn.of Tryz.f152 = some Sg.f_impl_EditsOK := Fw.PFn.of_get (by kernel_rfl)
theorem l_impl_EditsOK_0 (K : Nat) : Fw.LoopP (Sg.c_impl_EditsOK K) Sg.i_impl_EditsOK Sg.f_impl_EditsOK (Sg.p_impl_EditsOK_0 K) := ⟨fun _ => by kernel_rfl, fun n p => by kernel_rfl⟩
theorem ok_impl_EditsOK (K : Nat) : Fw.Ok Tryz.prog 152 (Sg.s_impl_EditsOK K) := Fw.funP_ok (c := Sg.c_impl_EditsOK K) (pi := Sg.i_impl_EditsOK) (depth := 6) (Fw.cfgP_ok (pi := Sg.i_impl_EditsOK) Sg.tabOK Sg.eqsOK Sg.mixOK ⟨ok_impl_NameOK K, ok_impl_isValue K, trivial⟩ trivial trivial pf_impl_EditsOK ⟨⟨_, rfl, l_impl_EditsOK_0 K⟩, trivial⟩ rfl) trivial pf_impl_EditsOK fun_impl_EditsOK call_impl_EditsOK (fun x => by kernel_rfl)
theorem fun_impl_OpOK : Tryz.prog.funcs[83]? = some Tryz.f83 := by kernel_rfl
theorem call_impl_OpOK : Fw.Callable Tryz.prog 83 := Fw.callable_of fun_impl_OpOK (by kernel_rfl) (by kernel_rfl)
theorem pf_impl_OpOK : Fw.PFn.of Tryz.f83 = some Sg.f_impl_OpOK := Fw.PFn.of_get (by kernel_rfl)
theorem ok_impl_OpOK (K : Nat) : Fw.Ok Tryz.prog 83 (Sg.s_impl_OpOK K) := Fw.funP_ok (c := Sg.c_impl_OpOK K) (pi := Sg.i_impl_OpOK) (depth := 6) (Fw.cfgP_ok (pi := Sg.i_impl_OpOK) Sg.tabOK Sg.eqsOK Sg.mixOK ⟨ok_impl_within K, ok_impl_NameOK K, ok_impl_isHead K, ok_impl_EditsOK K, trivial⟩ trivial trivial pf_impl_OpOK trivial rfl) trivial pf_impl_OpOK fun_impl_OpOK call_impl_OpOK (fun x => by kernel_rfl)
theorem fun_impl_WishOK : Tryz.prog.funcs[116]? = some Tryz.f116 := by kernel_rfl
theorem call_impl_WishOK : Fw.Callable Tryz.prog 116 := Fw.callable_of fun_impl_WishOK (by kernel_rfl) (by kernel_rfl)
theorem pf_impl_WishOK : Fw.PFn.of Tryz.f116 = some Sg.f_impl_WishOK := Fw.PFn.of_get (by kernel_rfl)
theorem ok_impl_WishOK (K : Nat) : Fw.Ok Tryz.prog 116 (Sg.s_impl_WishOK K) := Fw.funP_ok (c := Sg.c_impl_WishOK K) (pi := Sg.i_impl_WishOK) (depth := 6) (Fw.cfgP_ok (pi := Sg.i_impl_WishOK) Sg.tabOK Sg.eqsOK Sg.mixOK ⟨ok_impl_NameOK K, ok_impl_hasSource K, ok_impl_Wish_op K, ok_impl_OpOK K, trivial⟩ trivial trivial pf_impl_WishOK trivial rfl) trivial pf_impl_WishOK fun_impl_WishOK call_impl_WishOK (fun x => by kernel_rfl)
theorem fun_impl_ownWishes : Tryz.prog.funcs[117]? = some Tryz.f117 := by kernel_rfl
theorem call_impl_ownWishes : Fw.Callable Tryz.prog 117 := Fw.callable_of fun_impl_ownWishes (by kernel_rfl) (by kernel_rfl)
theorem pf_impl_ownWishes : Fw.PFn.of Tryz.f117 = some Sg.f_impl_ownWishes := Fw.PFn.of_get (by kernel_rfl)
theorem l_impl_ownWishes_0 (K : Nat) : Fw.LoopP (Sg.c_impl_ownWishes K) Sg.i_impl_ownWishes Sg.f_impl_ownWishes (Sg.p_impl_ownWishes_0 K) := ⟨fun _ => by kernel_rfl, fun n p => by kernel_rfl⟩
theorem ok_impl_ownWishes (K : Nat) : Fw.Ok Tryz.prog 117 (Sg.s_impl_ownWishes K) := Fw.funP_ok (c := Sg.c_impl_ownWishes K) (pi := Sg.i_impl_ownWishes) (depth := 6) (Fw.cfgP_ok (pi := Sg.i_impl_ownWishes) Sg.tabOK Sg.eqsOK Sg.mixOK ⟨ok_slices_Clone_impl_Edit K, trivial⟩ trivial trivial pf_impl_ownWishes ⟨⟨_, rfl, l_impl_ownWishes_0 K⟩, trivial⟩ rfl) trivial pf_impl_ownWishes fun_impl_ownWishes call_impl_ownWishes (fun x => by kernel_rfl)
theorem l_impl_areAll_impl_Wish__impl_WishOK_0 (K : Nat) : Fw.LoopP (Sg.c_impl_areAll_impl_Wish__impl_WishOK K) Sg.i_impl_areAll_impl_Wish__impl_WishOK Sg.f_slices_IndexFunc_impl_Wish (Sg.p_impl_areAll_impl_Wish__impl_WishOK_0 K) := ⟨fun _ => by kernel_rfl, fun n p => by kernel_rfl⟩
theorem ok_impl_areAll_impl_Wish__impl_WishOK (K : Nat) : Fw.Ok Tryz.prog 115 (Sg.s_impl_areAll_impl_Wish__impl_WishOK K) := Fw.funP_ok (c := Sg.c_impl_areAll_impl_Wish__impl_WishOK K) (pi := Sg.i_impl_areAll_impl_Wish__impl_WishOK) (depth := 6) (Fw.cfgP_ok (pi := Sg.i_impl_areAll_impl_Wish__impl_WishOK) Sg.tabOK Sg.eqsOK Sg.mixOK ⟨ok_impl_WishOK K, trivial⟩ ⟨⟨fun_impl_areAll_impl_Wish_1, call_impl_areAll_impl_Wish_1⟩, ⟨fun_slices_IndexFunc_impl_Wish, call_slices_IndexFunc_impl_Wish⟩, ⟨fun_slices_ContainsFunc_impl_Wish, call_slices_ContainsFunc_impl_Wish⟩, trivial⟩ ⟨⟨rfl, pf_impl_areAll_impl_Wish_1⟩, ⟨rfl, pf_slices_IndexFunc_impl_Wish⟩, ⟨rfl, pf_slices_ContainsFunc_impl_Wish⟩, trivial⟩ pf_impl_areAll_impl_Wish ⟨⟨_, rfl, l_impl_areAll_impl_Wish__impl_WishOK_0 K⟩, trivial⟩ rfl) ⟨⟨rfl, pf_impl_areAll_impl_Wish_1⟩, ⟨rfl, pf_slices_IndexFunc_impl_Wish⟩, ⟨rfl, pf_slices_ContainsFunc_impl_Wish⟩, trivial⟩ pf_impl_areAll_impl_Wish fun_impl_areAll_impl_Wish call_impl_areAll_impl_Wish (fun x => by kernel_rfl)
theorem fun_impl_NewClient : Tryz.prog.funcs[53]? = some Tryz.f53 := by kernel_rfl
theorem call_impl_NewClient : Fw.Callable Tryz.prog 53 := Fw.callable_of fun_impl_NewClient (by kernel_rfl) (by kernel_rfl)
theorem pf_impl_NewClient : Fw.PFn.of Tryz.f53 = some Sg.f_impl_NewClient := Fw.PFn.of_get (by kernel_rfl)
theorem ok_impl_NewClient (K : Nat) : Fw.Ok Tryz.prog 53 (Sg.s_impl_NewClient K) := Fw.funP_ok (c := Sg.c_impl_NewClient K) (pi := Sg.i_impl_NewClient) (depth := 6) (Fw.cfgP_ok (pi := Sg.i_impl_NewClient) Sg.tabOK Sg.eqsOK Sg.mixOK ⟨ok_impl_isList_impl_Wish K, ok_impl_WishOK K, ok_impl_ownWishes K, ok_impl_areAll_impl_Wish__impl_WishOK K, trivial⟩ ⟨⟨fun_impl_areAll_impl_Wish_1, call_impl_areAll_impl_Wish_1⟩, ⟨fun_slices_IndexFunc_impl_Wish, call_slices_IndexFunc_impl_Wish⟩, ⟨fun_slices_ContainsFunc_impl_Wish, call_slices_ContainsFunc_impl_Wish⟩, ⟨fun_impl_areAll_impl_Wish, call_impl_areAll_impl_Wish⟩, trivial⟩ ⟨⟨rfl, pf_impl_areAll_impl_Wish_1⟩, ⟨rfl, pf_slices_IndexFunc_impl_Wish⟩, ⟨rfl, pf_slices_ContainsFunc_impl_Wish⟩, ⟨rfl, pf_impl_areAll_impl_Wish⟩, trivial⟩ pf_impl_NewClient trivial rfl) ⟨⟨rfl, pf_impl_areAll_impl_Wish_1⟩, ⟨rfl, pf_slices_IndexFunc_impl_Wish⟩, ⟨rfl, pf_slices_ContainsFunc_impl_Wish⟩, ⟨rfl, pf_impl_areAll_impl_Wish⟩, trivial⟩ pf_impl_NewClient fun_impl_NewClient call_impl_NewClient (fun x => by kernel_rfl)
theorem fun_impl_versionOf : Tryz.prog.funcs[55]? = some Tryz.f55 := by kernel_rfl
theorem call_impl_versionOf : Fw.Callable Tryz.prog 55 := Fw.callable_of fun_impl_versionOf (by kernel_rfl) (by kernel_rfl)
theorem pf_impl_versionOf : Fw.PFn.of Tryz.f55 = some Sg.f_impl_versionOf := Fw.PFn.of_get (by kernel_rfl)
theorem ok_impl_versionOf (K : Nat) : Fw.Ok Tryz.prog 55 (Sg.s_impl_versionOf K) := Fw.funP_ok (c := Sg.c_impl_versionOf K) (pi := Sg.i_impl_versionOf) (depth := 6) (Fw.cfgP_ok (pi := Sg.i_impl_versionOf) Sg.tabOK Sg.eqsOK Sg.mixOK ⟨ok_impl_place K, trivial⟩ trivial trivial pf_impl_versionOf trivial rfl) trivial pf_impl_versionOf fun_impl_versionOf call_impl_versionOf (fun x => by kernel_rfl)
theorem fun_impl_NewWorld : Tryz.prog.funcs[13]? = some Tryz.f13 := by kernel_rfl
theorem call_impl_NewWorld : Fw.Callable Tryz.prog 13 := Fw.callable_of fun_impl_NewWorld (by kernel_rfl) (by kernel_rfl)
theorem pf_impl_NewWorld : Fw.PFn.of Tryz.f13 = some Sg.f_impl_NewWorld := Fw.PFn.of_get (by kernel_rfl)
theorem l_impl_NewWorld_0 (K : Nat) : Fw.LoopP (Sg.c_impl_NewWorld K) Sg.i_impl_NewWorld Sg.f_impl_NewWorld (Sg.p_impl_NewWorld_0 K) := ⟨fun _ => by kernel_rfl, fun n p => by kernel_rfl⟩
theorem l_impl_NewWorld_1 (K : Nat) : Fw.LoopP (Sg.c_impl_NewWorld K) Sg.i_impl_NewWorld Sg.f_impl_NewWorld (Sg.p_impl_NewWorld_1 K) := ⟨fun _ => by kernel_rfl, fun n p => by kernel_rfl⟩
theorem ok_impl_NewWorld (K : Nat) : Fw.Ok Tryz.prog 13 (Sg.s_impl_NewWorld K) := Fw.funP_ok (c := Sg.c_impl_NewWorld K) (pi := Sg.i_impl_NewWorld) (depth := 6) (Fw.cfgP_ok (pi := Sg.i_impl_NewWorld) Sg.tabOK Sg.eqsOK Sg.mixOK ⟨ok_impl_isList_simpl_Wish K, ok_impl_isList_string K, ok_impl_NameOK K, ok_impl_BaseOK K, ok_impl_Base_own K, ok_impl_NewClient K, ok_impl_versionOf K, trivial⟩ trivial trivial pf_impl_NewWorld ⟨⟨_, rfl, l_impl_NewWorld_0 K⟩, ⟨_, rfl, l_impl_NewWorld_1 K⟩, trivial⟩ rfl) trivial pf_impl_NewWorld fun_impl_NewWorld call_impl_NewWorld (fun x => by kernel_rfl)
theorem fun_laws_eqIntS : Tryz.prog.funcs[184]? = some Tryz.f184 := by kernel_rfl
theorem call_laws_eqIntS : Fw.Callable Tryz.prog 184 := Fw.callable_of fun_laws_eqIntS (by kernel_rfl) (by kernel_rfl)
theorem pf_laws_eqIntS : Fw.PFn.of Tryz.f184 = some Sg.f_laws_eqIntS := Fw.PFn.of_get (by kernel_rfl)
theorem l_laws_eqIntS_0 (K : Nat) : Fw.LoopP (Sg.c_laws_eqIntS K) Sg.i_laws_eqIntS Sg.f_laws_eqIntS (Sg.p_laws_eqIntS_0 K) := ⟨fun _ => by kernel_rfl, fun n p => by kernel_rfl⟩
theorem ok_laws_eqIntS (K : Nat) : Fw.Ok Tryz.prog 184 (Sg.s_laws_eqIntS K) := Fw.funP_ok (c := Sg.c_laws_eqIntS K) (pi := Sg.i_laws_eqIntS) (depth := 6) (Fw.cfgP_ok (pi := Sg.i_laws_eqIntS) Sg.tabOK Sg.eqsOK Sg.mixOK trivial trivial trivial pf_laws_eqIntS ⟨⟨_, rfl, l_laws_eqIntS_0 K⟩, trivial⟩ rfl) trivial pf_laws_eqIntS fun_laws_eqIntS call_laws_eqIntS (fun x => by kernel_rfl)
theorem fun_laws_eqEntry : Tryz.prog.funcs[139]? = some Tryz.f139 := by kernel_rfl
theorem call_laws_eqEntry : Fw.Callable Tryz.prog 139 := Fw.callable_of fun_laws_eqEntry (by kernel_rfl) (by kernel_rfl)
theorem pf_laws_eqEntry : Fw.PFn.of Tryz.f139 = some Sg.f_laws_eqEntry := Fw.PFn.of_get (by kernel_rfl)
theorem ok_laws_eqEntry (K : Nat) : Fw.Ok Tryz.prog 139 (Sg.s_laws_eqEntry K) := Fw.funP_ok (c := Sg.c_laws_eqEntry K) (pi := Sg.i_laws_eqEntry) (depth := 6) (Fw.cfgP_ok (pi := Sg.i_laws_eqEntry) Sg.tabOK Sg.eqsOK Sg.mixOK trivial trivial trivial pf_laws_eqEntry trivial rfl) trivial pf_laws_eqEntry fun_laws_eqEntry call_laws_eqEntry (fun x => by kernel_rfl)
theorem fun_laws_eqEntryS : Tryz.prog.funcs[76]? = some Tryz.f76 := by kernel_rfl
theorem call_laws_eqEntryS : Fw.Callable Tryz.prog 76 := Fw.callable_of fun_laws_eqEntryS (by kernel_rfl) (by kernel_rfl)
theorem pf_laws_eqEntryS : Fw.PFn.of Tryz.f76 = some Sg.f_laws_eqEntryS := Fw.PFn.of_get (by kernel_rfl)
theorem l_laws_eqEntryS_0 (K : Nat) : Fw.LoopP (Sg.c_laws_eqEntryS K) Sg.i_laws_eqEntryS Sg.f_laws_eqEntryS (Sg.p_laws_eqEntryS_0 K) := ⟨fun _ => by kernel_rfl, fun n p => by kernel_rfl⟩
theorem ok_laws_eqEntryS (K : Nat) : Fw.Ok Tryz.prog 76 (Sg.s_laws_eqEntryS K) := Fw.funP_ok (c := Sg.c_laws_eqEntryS K) (pi := Sg.i_laws_eqEntryS) (depth := 6) (Fw.cfgP_ok (pi := Sg.i_laws_eqEntryS) Sg.tabOK Sg.eqsOK Sg.mixOK ⟨ok_laws_eqEntry K, trivial⟩ trivial trivial pf_laws_eqEntryS ⟨⟨_, rfl, l_laws_eqEntryS_0 K⟩, trivial⟩ rfl) trivial pf_laws_eqEntryS fun_laws_eqEntryS call_laws_eqEntryS (fun x => by kernel_rfl)
theorem fun_laws_eqCommit : Tryz.prog.funcs[126]? = some Tryz.f126 := by kernel_rfl
theorem call_laws_eqCommit : Fw.Callable Tryz.prog 126 := Fw.callable_of fun_laws_eqCommit (by kernel_rfl) (by kernel_rfl)
theorem pf_laws_eqCommit : Fw.PFn.of Tryz.f126 = some Sg.f_laws_eqCommit := Fw.PFn.of_get (by kernel_rfl)
theorem ok_laws_eqCommit (K : Nat) : Fw.Ok Tryz.prog 126 (Sg.s_laws_eqCommit K) := Fw.funP_ok (c := Sg.c_laws_eqCommit K) (pi := Sg.i_laws_eqCommit) (depth := 6) (Fw.cfgP_ok (pi := Sg.i_laws_eqCommit) Sg.tabOK Sg.eqsOK Sg.mixOK ⟨ok_laws_eqIntS K, ok_laws_eqEntryS K, trivial⟩ trivial trivial pf_laws_eqCommit trivial rfl) trivial pf_laws_eqCommit fun_laws_eqCommit call_laws_eqCommit (fun x => by kernel_rfl)
theorem fun_laws_eqCommitS : Tryz.prog.funcs[59]? = some Tryz.f59 := by kernel_rfl
theorem call_laws_eqCommitS : Fw.Callable Tryz.prog 59 := Fw.callable_of fun_laws_eqCommitS (by kernel_rfl) (by kernel_rfl)
theorem pf_laws_eqCommitS : Fw.PFn.of Tryz.f59 = some Sg.f_laws_eqCommitS := Fw.PFn.of_get (by kernel_rfl)
theorem l_laws_eqCommitS_0 (K : Nat) : Fw.LoopP (Sg.c_laws_eqCommitS K) Sg.i_laws_eqCommitS Sg.f_laws_eqCommitS (Sg.p_laws_eqCommitS_0 K) := ⟨fun _ => by kernel_rfl, fun n p => by kernel_rfl⟩
theorem ok_laws_eqCommitS (K : Nat) : Fw.Ok Tryz.prog 59 (Sg.s_laws_eqCommitS K) := Fw.funP_ok (c := Sg.c_laws_eqCommitS K) (pi := Sg.i_laws_eqCommitS) (depth := 6) (Fw.cfgP_ok (pi := Sg.i_laws_eqCommitS) Sg.tabOK Sg.eqsOK Sg.mixOK ⟨ok_laws_eqCommit K, trivial⟩ trivial trivial pf_laws_eqCommitS ⟨⟨_, rfl, l_laws_eqCommitS_0 K⟩, trivial⟩ rfl) trivial pf_laws_eqCommitS fun_laws_eqCommitS call_laws_eqCommitS (fun x => by kernel_rfl)
theorem fun_laws_eqRef : Tryz.prog.funcs[127]? = some Tryz.f127 := by kernel_rfl
theorem call_laws_eqRef : Fw.Callable Tryz.prog 127 := Fw.callable_of fun_laws_eqRef (by kernel_rfl) (by kernel_rfl)
theorem pf_laws_eqRef : Fw.PFn.of Tryz.f127 = some Sg.f_laws_eqRef := Fw.PFn.of_get (by kernel_rfl)
theorem ok_laws_eqRef (K : Nat) : Fw.Ok Tryz.prog 127 (Sg.s_laws_eqRef K) := Fw.funP_ok (c := Sg.c_laws_eqRef K) (pi := Sg.i_laws_eqRef) (depth := 6) (Fw.cfgP_ok (pi := Sg.i_laws_eqRef) Sg.tabOK Sg.eqsOK Sg.mixOK trivial trivial trivial pf_laws_eqRef trivial rfl) trivial pf_laws_eqRef fun_laws_eqRef call_laws_eqRef (fun x => by kernel_rfl)
theorem fun_laws_eqRefS : Tryz.prog.funcs[60]? = some Tryz.f60 := by kernel_rfl
theorem call_laws_eqRefS : Fw.Callable Tryz.prog 60 := Fw.callable_of fun_laws_eqRefS (by kernel_rfl) (by kernel_rfl)
theorem pf_laws_eqRefS : Fw.PFn.of Tryz.f60 = some Sg.f_laws_eqRefS := Fw.PFn.of_get (by kernel_rfl)
theorem l_laws_eqRefS_0 (K : Nat) : Fw.LoopP (Sg.c_laws_eqRefS K) Sg.i_laws_eqRefS Sg.f_laws_eqRefS (Sg.p_laws_eqRefS_0 K) := ⟨fun _ => by kernel_rfl, fun n p => by kernel_rfl⟩
theorem ok_laws_eqRefS (K : Nat) : Fw.Ok Tryz.prog 60 (Sg.s_laws_eqRefS K) := Fw.funP_ok (c := Sg.c_laws_eqRefS K) (pi := Sg.i_laws_eqRefS) (depth := 6) (Fw.cfgP_ok (pi := Sg.i_laws_eqRefS) Sg.tabOK Sg.eqsOK Sg.mixOK ⟨ok_laws_eqRef K, trivial⟩ trivial trivial pf_laws_eqRefS ⟨⟨_, rfl, l_laws_eqRefS_0 K⟩, trivial⟩ rfl) trivial pf_laws_eqRefS fun_laws_eqRefS call_laws_eqRefS (fun x => by kernel_rfl)
theorem fun_laws_eqBase : Tryz.prog.funcs[15]? = some Tryz.f15 := by kernel_rfl
theorem call_laws_eqBase : Fw.Callable Tryz.prog 15 := Fw.callable_of fun_laws_eqBase (by kernel_rfl) (by kernel_rfl)
theorem pf_laws_eqBase : Fw.PFn.of Tryz.f15 = some Sg.f_laws_eqBase := Fw.PFn.of_get (by kernel_rfl)
theorem ok_laws_eqBase (K : Nat) : Fw.Ok Tryz.prog 15 (Sg.s_laws_eqBase K) := Fw.funP_ok (c := Sg.c_laws_eqBase K) (pi := Sg.i_laws_eqBase) (depth := 6) (Fw.cfgP_ok (pi := Sg.i_laws_eqBase) Sg.tabOK Sg.eqsOK Sg.mixOK ⟨ok_laws_eqCommitS K, ok_laws_eqRefS K, trivial⟩ trivial trivial pf_laws_eqBase trivial rfl) trivial pf_laws_eqBase fun_laws_eqBase call_laws_eqBase (fun x => by kernel_rfl)
theorem fun_laws_eqEdit : Tryz.prog.funcs[161]? = some Tryz.f161 := by kernel_rfl
theorem call_laws_eqEdit : Fw.Callable Tryz.prog 161 := Fw.callable_of fun_laws_eqEdit (by kernel_rfl) (by kernel_rfl)
theorem pf_laws_eqEdit : Fw.PFn.of Tryz.f161 = some Sg.f_laws_eqEdit := Fw.PFn.of_get (by kernel_rfl)
theorem ok_laws_eqEdit (K : Nat) : Fw.Ok Tryz.prog 161 (Sg.s_laws_eqEdit K) := Fw.funP_ok (c := Sg.c_laws_eqEdit K) (pi := Sg.i_laws_eqEdit) (depth := 6) (Fw.cfgP_ok (pi := Sg.i_laws_eqEdit) Sg.tabOK Sg.eqsOK Sg.mixOK trivial trivial trivial pf_laws_eqEdit trivial rfl) trivial pf_laws_eqEdit fun_laws_eqEdit call_laws_eqEdit (fun x => by kernel_rfl)
theorem fun_laws_eqEditS : Tryz.prog.funcs[85]? = some Tryz.f85 := by kernel_rfl
theorem call_laws_eqEditS : Fw.Callable Tryz.prog 85 := Fw.callable_of fun_laws_eqEditS (by kernel_rfl) (by kernel_rfl)
theorem pf_laws_eqEditS : Fw.PFn.of Tryz.f85 = some Sg.f_laws_eqEditS := Fw.PFn.of_get (by kernel_rfl)
theorem l_laws_eqEditS_0 (K : Nat) : Fw.LoopP (Sg.c_laws_eqEditS K) Sg.i_laws_eqEditS Sg.f_laws_eqEditS (Sg.p_laws_eqEditS_0 K) := ⟨fun _ => by kernel_rfl, fun n p => by kernel_rfl⟩
theorem ok_laws_eqEditS (K : Nat) : Fw.Ok Tryz.prog 85 (Sg.s_laws_eqEditS K) := Fw.funP_ok (c := Sg.c_laws_eqEditS K) (pi := Sg.i_laws_eqEditS) (depth := 6) (Fw.cfgP_ok (pi := Sg.i_laws_eqEditS) Sg.tabOK Sg.eqsOK Sg.mixOK ⟨ok_laws_eqEdit K, trivial⟩ trivial trivial pf_laws_eqEditS ⟨⟨_, rfl, l_laws_eqEditS_0 K⟩, trivial⟩ rfl) trivial pf_laws_eqEditS fun_laws_eqEditS call_laws_eqEditS (fun x => by kernel_rfl)
theorem fun_laws_eqWish : Tryz.prog.funcs[128]? = some Tryz.f128 := by kernel_rfl
theorem call_laws_eqWish : Fw.Callable Tryz.prog 128 := Fw.callable_of fun_laws_eqWish (by kernel_rfl) (by kernel_rfl)
theorem pf_laws_eqWish : Fw.PFn.of Tryz.f128 = some Sg.f_laws_eqWish := Fw.PFn.of_get (by kernel_rfl)
theorem ok_laws_eqWish (K : Nat) : Fw.Ok Tryz.prog 128 (Sg.s_laws_eqWish K) := Fw.funP_ok (c := Sg.c_laws_eqWish K) (pi := Sg.i_laws_eqWish) (depth := 6) (Fw.cfgP_ok (pi := Sg.i_laws_eqWish) Sg.tabOK Sg.eqsOK Sg.mixOK ⟨ok_laws_eqEditS K, trivial⟩ trivial trivial pf_laws_eqWish trivial rfl) trivial pf_laws_eqWish fun_laws_eqWish call_laws_eqWish (fun x => by kernel_rfl)
theorem fun_laws_eqWishS : Tryz.prog.funcs[61]? = some Tryz.f61 := by kernel_rfl
theorem call_laws_eqWishS : Fw.Callable Tryz.prog 61 := Fw.callable_of fun_laws_eqWishS (by kernel_rfl) (by kernel_rfl)
theorem pf_laws_eqWishS : Fw.PFn.of Tryz.f61 = some Sg.f_laws_eqWishS := Fw.PFn.of_get (by kernel_rfl)
theorem l_laws_eqWishS_0 (K : Nat) : Fw.LoopP (Sg.c_laws_eqWishS K) Sg.i_laws_eqWishS Sg.f_laws_eqWishS (Sg.p_laws_eqWishS_0 K) := ⟨fun _ => by kernel_rfl, fun n p => by kernel_rfl⟩
theorem ok_laws_eqWishS (K : Nat) : Fw.Ok Tryz.prog 61 (Sg.s_laws_eqWishS K) := Fw.funP_ok (c := Sg.c_laws_eqWishS K) (pi := Sg.i_laws_eqWishS) (depth := 6) (Fw.cfgP_ok (pi := Sg.i_laws_eqWishS) Sg.tabOK Sg.eqsOK Sg.mixOK ⟨ok_laws_eqWish K, trivial⟩ trivial trivial pf_laws_eqWishS ⟨⟨_, rfl, l_laws_eqWishS_0 K⟩, trivial⟩ rfl) trivial pf_laws_eqWishS fun_laws_eqWishS call_laws_eqWishS (fun x => by kernel_rfl)
theorem fun_laws_eqClient : Tryz.prog.funcs[27]? = some Tryz.f27 := by kernel_rfl
theorem call_laws_eqClient : Fw.Callable Tryz.prog 27 := Fw.callable_of fun_laws_eqClient (by kernel_rfl) (by kernel_rfl)
theorem pf_laws_eqClient : Fw.PFn.of Tryz.f27 = some Sg.f_laws_eqClient := Fw.PFn.of_get (by kernel_rfl)
theorem ok_laws_eqClient (K : Nat) : Fw.Ok Tryz.prog 27 (Sg.s_laws_eqClient K) := Fw.funP_ok (c := Sg.c_laws_eqClient K) (pi := Sg.i_laws_eqClient) (depth := 6) (Fw.cfgP_ok (pi := Sg.i_laws_eqClient) Sg.tabOK Sg.eqsOK Sg.mixOK ⟨ok_laws_eqEntryS K, ok_laws_eqWishS K, trivial⟩ trivial trivial pf_laws_eqClient trivial rfl) trivial pf_laws_eqClient fun_laws_eqClient call_laws_eqClient (fun x => by kernel_rfl)
theorem fun_laws_eqClientS : Tryz.prog.funcs[56]? = some Tryz.f56 := by kernel_rfl
theorem call_laws_eqClientS : Fw.Callable Tryz.prog 56 := Fw.callable_of fun_laws_eqClientS (by kernel_rfl) (by kernel_rfl)
theorem pf_laws_eqClientS : Fw.PFn.of Tryz.f56 = some Sg.f_laws_eqClientS := Fw.PFn.of_get (by kernel_rfl)
theorem l_laws_eqClientS_0 (K : Nat) : Fw.LoopP (Sg.c_laws_eqClientS K) Sg.i_laws_eqClientS Sg.f_laws_eqClientS (Sg.p_laws_eqClientS_0 K) := ⟨fun _ => by kernel_rfl, fun n p => by kernel_rfl⟩
theorem ok_laws_eqClientS (K : Nat) : Fw.Ok Tryz.prog 56 (Sg.s_laws_eqClientS K) := Fw.funP_ok (c := Sg.c_laws_eqClientS K) (pi := Sg.i_laws_eqClientS) (depth := 6) (Fw.cfgP_ok (pi := Sg.i_laws_eqClientS) Sg.tabOK Sg.eqsOK Sg.mixOK ⟨ok_laws_eqClient K, trivial⟩ trivial trivial pf_laws_eqClientS ⟨⟨_, rfl, l_laws_eqClientS_0 K⟩, trivial⟩ rfl) trivial pf_laws_eqClientS fun_laws_eqClientS call_laws_eqClientS (fun x => by kernel_rfl)
theorem fun_laws_eqEvent : Tryz.prog.funcs[210]? = some Tryz.f210 := by kernel_rfl
theorem call_laws_eqEvent : Fw.Callable Tryz.prog 210 := Fw.callable_of fun_laws_eqEvent (by kernel_rfl) (by kernel_rfl)
theorem pf_laws_eqEvent : Fw.PFn.of Tryz.f210 = some Sg.f_laws_eqEvent := Fw.PFn.of_get (by kernel_rfl)
theorem ok_laws_eqEvent (K : Nat) : Fw.Ok Tryz.prog 210 (Sg.s_laws_eqEvent K) := Fw.funP_ok (c := Sg.c_laws_eqEvent K) (pi := Sg.i_laws_eqEvent) (depth := 6) (Fw.cfgP_ok (pi := Sg.i_laws_eqEvent) Sg.tabOK Sg.eqsOK Sg.mixOK trivial trivial trivial pf_laws_eqEvent trivial rfl) trivial pf_laws_eqEvent fun_laws_eqEvent call_laws_eqEvent (fun x => by kernel_rfl)
theorem fun_laws_eqEventS : Tryz.prog.funcs[183]? = some Tryz.f183 := by kernel_rfl
theorem call_laws_eqEventS : Fw.Callable Tryz.prog 183 := Fw.callable_of fun_laws_eqEventS (by kernel_rfl) (by kernel_rfl)
theorem pf_laws_eqEventS : Fw.PFn.of Tryz.f183 = some Sg.f_laws_eqEventS := Fw.PFn.of_get (by kernel_rfl)
theorem l_laws_eqEventS_0 (K : Nat) : Fw.LoopP (Sg.c_laws_eqEventS K) Sg.i_laws_eqEventS Sg.f_laws_eqEventS (Sg.p_laws_eqEventS_0 K) := ⟨fun _ => by kernel_rfl, fun n p => by kernel_rfl⟩
theorem ok_laws_eqEventS (K : Nat) : Fw.Ok Tryz.prog 183 (Sg.s_laws_eqEventS K) := Fw.funP_ok (c := Sg.c_laws_eqEventS K) (pi := Sg.i_laws_eqEventS) (depth := 6) (Fw.cfgP_ok (pi := Sg.i_laws_eqEventS) Sg.tabOK Sg.eqsOK Sg.mixOK ⟨ok_laws_eqEvent K, trivial⟩ trivial trivial pf_laws_eqEventS ⟨⟨_, rfl, l_laws_eqEventS_0 K⟩, trivial⟩ rfl) trivial pf_laws_eqEventS fun_laws_eqEventS call_laws_eqEventS (fun x => by kernel_rfl)
theorem fun_laws_eqWatch : Tryz.prog.funcs[124]? = some Tryz.f124 := by kernel_rfl
theorem call_laws_eqWatch : Fw.Callable Tryz.prog 124 := Fw.callable_of fun_laws_eqWatch (by kernel_rfl) (by kernel_rfl)
theorem pf_laws_eqWatch : Fw.PFn.of Tryz.f124 = some Sg.f_laws_eqWatch := Fw.PFn.of_get (by kernel_rfl)
theorem ok_laws_eqWatch (K : Nat) : Fw.Ok Tryz.prog 124 (Sg.s_laws_eqWatch K) := Fw.funP_ok (c := Sg.c_laws_eqWatch K) (pi := Sg.i_laws_eqWatch) (depth := 6) (Fw.cfgP_ok (pi := Sg.i_laws_eqWatch) Sg.tabOK Sg.eqsOK Sg.mixOK ⟨ok_laws_eqEventS K, trivial⟩ trivial trivial pf_laws_eqWatch trivial rfl) trivial pf_laws_eqWatch fun_laws_eqWatch call_laws_eqWatch (fun x => by kernel_rfl)
theorem fun_laws_eqWatchS : Tryz.prog.funcs[57]? = some Tryz.f57 := by kernel_rfl
theorem call_laws_eqWatchS : Fw.Callable Tryz.prog 57 := Fw.callable_of fun_laws_eqWatchS (by kernel_rfl) (by kernel_rfl)
theorem pf_laws_eqWatchS : Fw.PFn.of Tryz.f57 = some Sg.f_laws_eqWatchS := Fw.PFn.of_get (by kernel_rfl)
theorem l_laws_eqWatchS_0 (K : Nat) : Fw.LoopP (Sg.c_laws_eqWatchS K) Sg.i_laws_eqWatchS Sg.f_laws_eqWatchS (Sg.p_laws_eqWatchS_0 K) := ⟨fun _ => by kernel_rfl, fun n p => by kernel_rfl⟩
theorem ok_laws_eqWatchS (K : Nat) : Fw.Ok Tryz.prog 57 (Sg.s_laws_eqWatchS K) := Fw.funP_ok (c := Sg.c_laws_eqWatchS K) (pi := Sg.i_laws_eqWatchS) (depth := 6) (Fw.cfgP_ok (pi := Sg.i_laws_eqWatchS) Sg.tabOK Sg.eqsOK Sg.mixOK ⟨ok_laws_eqWatch K, trivial⟩ trivial trivial pf_laws_eqWatchS ⟨⟨_, rfl, l_laws_eqWatchS_0 K⟩, trivial⟩ rfl) trivial pf_laws_eqWatchS fun_laws_eqWatchS call_laws_eqWatchS (fun x => by kernel_rfl)
theorem fun_laws_eqOp : Tryz.prog.funcs[33]? = some Tryz.f33 := by kernel_rfl
theorem call_laws_eqOp : Fw.Callable Tryz.prog 33 := Fw.callable_of fun_laws_eqOp (by kernel_rfl) (by kernel_rfl)
theorem pf_laws_eqOp : Fw.PFn.of Tryz.f33 = some Sg.f_laws_eqOp := Fw.PFn.of_get (by kernel_rfl)
theorem ok_laws_eqOp (K : Nat) : Fw.Ok Tryz.prog 33 (Sg.s_laws_eqOp K) := Fw.funP_ok (c := Sg.c_laws_eqOp K) (pi := Sg.i_laws_eqOp) (depth := 6) (Fw.cfgP_ok (pi := Sg.i_laws_eqOp) Sg.tabOK Sg.eqsOK Sg.mixOK ⟨ok_laws_eqEditS K, trivial⟩ trivial trivial pf_laws_eqOp trivial rfl) trivial pf_laws_eqOp fun_laws_eqOp call_laws_eqOp (fun x => by kernel_rfl)
theorem fun_laws_eqStringS : Tryz.prog.funcs[17]? = some Tryz.f17 := by kernel_rfl
theorem call_laws_eqStringS : Fw.Callable Tryz.prog 17 := Fw.callable_of fun_laws_eqStringS (by kernel_rfl) (by kernel_rfl)
theorem pf_laws_eqStringS : Fw.PFn.of Tryz.f17 = some Sg.f_laws_eqStringS := Fw.PFn.of_get (by kernel_rfl)
theorem l_laws_eqStringS_0 (K : Nat) : Fw.LoopP (Sg.c_laws_eqStringS K) Sg.i_laws_eqStringS Sg.f_laws_eqStringS (Sg.p_laws_eqStringS_0 K) := ⟨fun _ => by kernel_rfl, fun n p => by kernel_rfl⟩
theorem ok_laws_eqStringS (K : Nat) : Fw.Ok Tryz.prog 17 (Sg.s_laws_eqStringS K) := Fw.funP_ok (c := Sg.c_laws_eqStringS K) (pi := Sg.i_laws_eqStringS) (depth := 6) (Fw.cfgP_ok (pi := Sg.i_laws_eqStringS) Sg.tabOK Sg.eqsOK Sg.mixOK trivial trivial trivial pf_laws_eqStringS ⟨⟨_, rfl, l_laws_eqStringS_0 K⟩, trivial⟩ rfl) trivial pf_laws_eqStringS fun_laws_eqStringS call_laws_eqStringS (fun x => by kernel_rfl)
theorem fun_laws_eqResult : Tryz.prog.funcs[32]? = some Tryz.f32 := by kernel_rfl
theorem call_laws_eqResult : Fw.Callable Tryz.prog 32 := Fw.callable_of fun_laws_eqResult (by kernel_rfl) (by kernel_rfl)
theorem pf_laws_eqResult : Fw.PFn.of Tryz.f32 = some Sg.f_laws_eqResult := Fw.PFn.of_get (by kernel_rfl)
theorem ok_laws_eqResult (K : Nat) : Fw.Ok Tryz.prog 32 (Sg.s_laws_eqResult K) := Fw.funP_ok (c := Sg.c_laws_eqResult K) (pi := Sg.i_laws_eqResult) (depth := 6) (Fw.cfgP_ok (pi := Sg.i_laws_eqResult) Sg.tabOK Sg.eqsOK Sg.mixOK ⟨ok_laws_eqEntryS K, ok_laws_eqStringS K, trivial⟩ trivial trivial pf_laws_eqResult trivial rfl) trivial pf_laws_eqResult fun_laws_eqResult call_laws_eqResult (fun x => by kernel_rfl)
theorem fun_laws_eqMoment : Tryz.prog.funcs[125]? = some Tryz.f125 := by kernel_rfl
theorem call_laws_eqMoment : Fw.Callable Tryz.prog 125 := Fw.callable_of fun_laws_eqMoment (by kernel_rfl) (by kernel_rfl)
theorem pf_laws_eqMoment : Fw.PFn.of Tryz.f125 = some Sg.f_laws_eqMoment := Fw.PFn.of_get (by kernel_rfl)
theorem ok_laws_eqMoment (K : Nat) : Fw.Ok Tryz.prog 125 (Sg.s_laws_eqMoment K) := Fw.funP_ok (c := Sg.c_laws_eqMoment K) (pi := Sg.i_laws_eqMoment) (depth := 6) (Fw.cfgP_ok (pi := Sg.i_laws_eqMoment) Sg.tabOK Sg.eqsOK Sg.mixOK ⟨ok_laws_eqOp K, ok_laws_eqResult K, trivial⟩ trivial trivial pf_laws_eqMoment trivial rfl) trivial pf_laws_eqMoment fun_laws_eqMoment call_laws_eqMoment (fun x => by kernel_rfl)
theorem fun_laws_eqMomentS : Tryz.prog.funcs[58]? = some Tryz.f58 := by kernel_rfl
theorem call_laws_eqMomentS : Fw.Callable Tryz.prog 58 := Fw.callable_of fun_laws_eqMomentS (by kernel_rfl) (by kernel_rfl)
theorem pf_laws_eqMomentS : Fw.PFn.of Tryz.f58 = some Sg.f_laws_eqMomentS := Fw.PFn.of_get (by kernel_rfl)
theorem l_laws_eqMomentS_0 (K : Nat) : Fw.LoopP (Sg.c_laws_eqMomentS K) Sg.i_laws_eqMomentS Sg.f_laws_eqMomentS (Sg.p_laws_eqMomentS_0 K) := ⟨fun _ => by kernel_rfl, fun n p => by kernel_rfl⟩
theorem ok_laws_eqMomentS (K : Nat) : Fw.Ok Tryz.prog 58 (Sg.s_laws_eqMomentS K) := Fw.funP_ok (c := Sg.c_laws_eqMomentS K) (pi := Sg.i_laws_eqMomentS) (depth := 6) (Fw.cfgP_ok (pi := Sg.i_laws_eqMomentS) Sg.tabOK Sg.eqsOK Sg.mixOK ⟨ok_laws_eqMoment K, trivial⟩ trivial trivial pf_laws_eqMomentS ⟨⟨_, rfl, l_laws_eqMomentS_0 K⟩, trivial⟩ rfl) trivial pf_laws_eqMomentS fun_laws_eqMomentS call_laws_eqMomentS (fun x => by kernel_rfl)
theorem fun_laws_eqWorld : Tryz.prog.funcs[14]? = some Tryz.f14 := by kernel_rfl
theorem call_laws_eqWorld : Fw.Callable Tryz.prog 14 := Fw.callable_of fun_laws_eqWorld (by kernel_rfl) (by kernel_rfl)
theorem pf_laws_eqWorld : Fw.PFn.of Tryz.f14 = some Sg.f_laws_eqWorld := Fw.PFn.of_get (by kernel_rfl)
theorem ok_laws_eqWorld (K : Nat) : Fw.Ok Tryz.prog 14 (Sg.s_laws_eqWorld K) := Fw.funP_ok (c := Sg.c_laws_eqWorld K) (pi := Sg.i_laws_eqWorld) (depth := 6) (Fw.cfgP_ok (pi := Sg.i_laws_eqWorld) Sg.tabOK Sg.eqsOK Sg.mixOK ⟨ok_laws_eqBase K, ok_laws_eqClientS K, ok_laws_eqWatchS K, ok_laws_eqMomentS K, trivial⟩ trivial trivial pf_laws_eqWorld trivial rfl) trivial pf_laws_eqWorld fun_laws_eqWorld call_laws_eqWorld (fun x => by kernel_rfl)
theorem fun_laws_eqWishSS : Tryz.prog.funcs[16]? = some Tryz.f16 := by kernel_rfl
theorem call_laws_eqWishSS : Fw.Callable Tryz.prog 16 := Fw.callable_of fun_laws_eqWishSS (by kernel_rfl) (by kernel_rfl)
theorem pf_laws_eqWishSS : Fw.PFn.of Tryz.f16 = some Sg.f_laws_eqWishSS := Fw.PFn.of_get (by kernel_rfl)
theorem l_laws_eqWishSS_0 (K : Nat) : Fw.LoopP (Sg.c_laws_eqWishSS K) Sg.i_laws_eqWishSS Sg.f_laws_eqWishSS (Sg.p_laws_eqWishSS_0 K) := ⟨fun _ => by kernel_rfl, fun n p => by kernel_rfl⟩
theorem ok_laws_eqWishSS (K : Nat) : Fw.Ok Tryz.prog 16 (Sg.s_laws_eqWishSS K) := Fw.funP_ok (c := Sg.c_laws_eqWishSS K) (pi := Sg.i_laws_eqWishSS) (depth := 6) (Fw.cfgP_ok (pi := Sg.i_laws_eqWishSS) Sg.tabOK Sg.eqsOK Sg.mixOK ⟨ok_laws_eqWishS K, trivial⟩ trivial trivial pf_laws_eqWishSS ⟨⟨_, rfl, l_laws_eqWishSS_0 K⟩, trivial⟩ rfl) trivial pf_laws_eqWishSS fun_laws_eqWishSS call_laws_eqWishSS (fun x => by kernel_rfl)
theorem fun_laws_markIntS : Tryz.prog.funcs[129]? = some Tryz.f129 := by kernel_rfl
theorem call_laws_markIntS : Fw.Callable Tryz.prog 129 := Fw.callable_of fun_laws_markIntS (by kernel_rfl) (by kernel_rfl)
theorem pf_laws_markIntS : Fw.PFn.of Tryz.f129 = some Sg.f_laws_markIntS := Fw.PFn.of_get (by kernel_rfl)
theorem l_laws_markIntS_0 (K : Nat) : Fw.LoopP (Sg.c_laws_markIntS K) Sg.i_laws_markIntS Sg.f_laws_markIntS (Sg.p_laws_markIntS_0 K) := ⟨fun _ => by kernel_rfl, fun n p => by kernel_rfl⟩
theorem ok_laws_markIntS (K : Nat) : Fw.Ok Tryz.prog 129 (Sg.s_laws_markIntS K) := Fw.funP_ok (c := Sg.c_laws_markIntS K) (pi := Sg.i_laws_markIntS) (depth := 6) (Fw.cfgP_ok (pi := Sg.i_laws_markIntS) Sg.tabOK Sg.eqsOK Sg.mixOK trivial trivial trivial pf_laws_markIntS ⟨⟨_, rfl, l_laws_markIntS_0 K⟩, trivial⟩ rfl) trivial pf_laws_markIntS fun_laws_markIntS call_laws_markIntS (fun x => by kernel_rfl)
theorem fun_laws_markText : Tryz.prog.funcs[65]? = some Tryz.f65 := by kernel_rfl
theorem call_laws_markText : Fw.Callable Tryz.prog 65 := Fw.callable_of fun_laws_markText (by kernel_rfl) (by kernel_rfl)
theorem pf_laws_markText : Fw.PFn.of Tryz.f65 = some Sg.f_laws_markText := Fw.PFn.of_get (by kernel_rfl)
theorem l_laws_markText_0 (K : Nat) : Fw.LoopP (Sg.c_laws_markText K) Sg.i_laws_markText Sg.f_laws_markText (Sg.p_laws_markText_0 K) := ⟨fun _ => by kernel_rfl, fun n p => by kernel_rfl⟩
theorem ok_laws_markText (K : Nat) : Fw.Ok Tryz.prog 65 (Sg.s_laws_markText K) := Fw.funP_ok (c := Sg.c_laws_markText K) (pi := Sg.i_laws_markText) (depth := 6) (Fw.cfgP_ok (pi := Sg.i_laws_markText) Sg.tabOK Sg.eqsOK Sg.mixOK trivial trivial trivial pf_laws_markText ⟨⟨_, rfl, l_laws_markText_0 K⟩, trivial⟩ rfl) trivial pf_laws_markText fun_laws_markText call_laws_markText (fun x => by kernel_rfl)
theorem fun_laws_markEntryS : Tryz.prog.funcs[87]? = some Tryz.f87 := by kernel_rfl
theorem call_laws_markEntryS : Fw.Callable Tryz.prog 87 := Fw.callable_of fun_laws_markEntryS (by kernel_rfl) (by kernel_rfl)
theorem pf_laws_markEntryS : Fw.PFn.of Tryz.f87 = some Sg.f_laws_markEntryS := Fw.PFn.of_get (by kernel_rfl)
theorem l_laws_markEntryS_0 (K : Nat) : Fw.LoopP (Sg.c_laws_markEntryS K) Sg.i_laws_markEntryS Sg.f_laws_markEntryS (Sg.p_laws_markEntryS_0 K) := ⟨fun _ => by kernel_rfl, fun n p => by kernel_rfl⟩
theorem ok_laws_markEntryS (K : Nat) : Fw.Ok Tryz.prog 87 (Sg.s_laws_markEntryS K) := Fw.funP_ok (c := Sg.c_laws_markEntryS K) (pi := Sg.i_laws_markEntryS) (depth := 6) (Fw.cfgP_ok (pi := Sg.i_laws_markEntryS) Sg.tabOK Sg.eqsOK Sg.mixOK ⟨ok_laws_markText K, trivial⟩ trivial trivial pf_laws_markEntryS ⟨⟨_, rfl, l_laws_markEntryS_0 K⟩, trivial⟩ rfl) trivial pf_laws_markEntryS fun_laws_markEntryS call_laws_markEntryS (fun x => by kernel_rfl)
theorem fun_laws_markCommitS : Tryz.prog.funcs[62]? = some Tryz.f62 := by kernel_rfl
theorem call_laws_markCommitS : Fw.Callable Tryz.prog 62 := Fw.callable_of fun_laws_markCommitS (by kernel_rfl) (by kernel_rfl)
theorem pf_laws_markCommitS : Fw.PFn.of Tryz.f62 = some Sg.f_laws_markCommitS := Fw.PFn.of_get (by kernel_rfl)
theorem l_laws_markCommitS_0 (K : Nat) : Fw.LoopP (Sg.c_laws_markCommitS K) Sg.i_laws_markCommitS Sg.f_laws_markCommitS (Sg.p_laws_markCommitS_0 K) := ⟨fun _ => by kernel_rfl, fun n p => by kernel_rfl⟩
theorem ok_laws_markCommitS (K : Nat) : Fw.Ok Tryz.prog 62 (Sg.s_laws_markCommitS K) := Fw.funP_ok (c := Sg.c_laws_markCommitS K) (pi := Sg.i_laws_markCommitS) (depth := 6) (Fw.cfgP_ok (pi := Sg.i_laws_markCommitS) Sg.tabOK Sg.eqsOK Sg.mixOK ⟨ok_laws_markIntS K, ok_laws_markEntryS K, trivial⟩ trivial trivial pf_laws_markCommitS ⟨⟨_, rfl, l_laws_markCommitS_0 K⟩, trivial⟩ rfl) trivial pf_laws_markCommitS fun_laws_markCommitS call_laws_markCommitS (fun x => by kernel_rfl)
theorem fun_laws_markRefS : Tryz.prog.funcs[63]? = some Tryz.f63 := by kernel_rfl
theorem call_laws_markRefS : Fw.Callable Tryz.prog 63 := Fw.callable_of fun_laws_markRefS (by kernel_rfl) (by kernel_rfl)
theorem pf_laws_markRefS : Fw.PFn.of Tryz.f63 = some Sg.f_laws_markRefS := Fw.PFn.of_get (by kernel_rfl)
theorem l_laws_markRefS_0 (K : Nat) : Fw.LoopP (Sg.c_laws_markRefS K) Sg.i_laws_markRefS Sg.f_laws_markRefS (Sg.p_laws_markRefS_0 K) := ⟨fun _ => by kernel_rfl, fun n p => by kernel_rfl⟩
theorem ok_laws_markRefS (K : Nat) : Fw.Ok Tryz.prog 63 (Sg.s_laws_markRefS K) := Fw.funP_ok (c := Sg.c_laws_markRefS K) (pi := Sg.i_laws_markRefS) (depth := 6) (Fw.cfgP_ok (pi := Sg.i_laws_markRefS) Sg.tabOK Sg.eqsOK Sg.mixOK ⟨ok_laws_markText K, trivial⟩ trivial trivial pf_laws_markRefS ⟨⟨_, rfl, l_laws_markRefS_0 K⟩, trivial⟩ rfl) trivial pf_laws_markRefS fun_laws_markRefS call_laws_markRefS (fun x => by kernel_rfl)
theorem fun_laws_markBase : Tryz.prog.funcs[18]? = some Tryz.f18 := by kernel_rfl
theorem call_laws_markBase : Fw.Callable Tryz.prog 18 := Fw.callable_of fun_laws_markBase (by kernel_rfl) (by kernel_rfl)
theorem pf_laws_markBase : Fw.PFn.of Tryz.f18 = some Sg.f_laws_markBase := Fw.PFn.of_get (by kernel_rfl)
theorem ok_laws_markBase (K : Nat) : Fw.Ok Tryz.prog 18 (Sg.s_laws_markBase K) := Fw.funP_ok (c := Sg.c_laws_markBase K) (pi := Sg.i_laws_markBase) (depth := 6) (Fw.cfgP_ok (pi := Sg.i_laws_markBase) Sg.tabOK Sg.eqsOK Sg.mixOK ⟨ok_laws_markCommitS K, ok_laws_markRefS K, trivial⟩ trivial trivial pf_laws_markBase trivial rfl) trivial pf_laws_markBase fun_laws_markBase call_laws_markBase (fun x => by kernel_rfl)
theorem fun_laws_markEditS : Tryz.prog.funcs[86]? = some Tryz.f86 := by kernel_rfl
theorem call_laws_markEditS : Fw.Callable Tryz.prog 86 := Fw.callable_of fun_laws_markEditS (by kernel_rfl) (by kernel_rfl)
theorem pf_laws_markEditS : Fw.PFn.of Tryz.f86 = some Sg.f_laws_markEditS := Fw.PFn.of_get (by kernel_rfl)
theorem l_laws_markEditS_0 (K : Nat) : Fw.LoopP (Sg.c_laws_markEditS K) Sg.i_laws_markEditS Sg.f_laws_markEditS (Sg.p_laws_markEditS_0 K) := ⟨fun _ => by kernel_rfl, fun n p => by kernel_rfl⟩
theorem ok_laws_markEditS (K : Nat) : Fw.Ok Tryz.prog 86 (Sg.s_laws_markEditS K) := Fw.funP_ok (c := Sg.c_laws_markEditS K) (pi := Sg.i_laws_markEditS) (depth := 6) (Fw.cfgP_ok (pi := Sg.i_laws_markEditS) Sg.tabOK Sg.eqsOK Sg.mixOK ⟨ok_laws_markText K, trivial⟩ trivial trivial pf_laws_markEditS ⟨⟨_, rfl, l_laws_markEditS_0 K⟩, trivial⟩ rfl) trivial pf_laws_markEditS fun_laws_markEditS call_laws_markEditS (fun x => by kernel_rfl)
theorem fun_laws_markWishS : Tryz.prog.funcs[64]? = some Tryz.f64 := by kernel_rfl
theorem call_laws_markWishS : Fw.Callable Tryz.prog 64 := Fw.callable_of fun_laws_markWishS (by kernel_rfl) (by kernel_rfl)
theorem pf_laws_markWishS : Fw.PFn.of Tryz.f64 = some Sg.f_laws_markWishS := Fw.PFn.of_get (by kernel_rfl)
theorem l_laws_markWishS_0 (K : Nat) : Fw.LoopP (Sg.c_laws_markWishS K) Sg.i_laws_markWishS Sg.f_laws_markWishS (Sg.p_laws_markWishS_0 K) := ⟨fun _ => by kernel_rfl, fun n p => by kernel_rfl⟩
theorem ok_laws_markWishS (K : Nat) : Fw.Ok Tryz.prog 64 (Sg.s_laws_markWishS K) := Fw.funP_ok (c := Sg.c_laws_markWishS K) (pi := Sg.i_laws_markWishS) (depth := 6) (Fw.cfgP_ok (pi := Sg.i_laws_markWishS) Sg.tabOK Sg.eqsOK Sg.mixOK ⟨ok_laws_markText K, ok_laws_markEditS K, trivial⟩ trivial trivial pf_laws_markWishS ⟨⟨_, rfl, l_laws_markWishS_0 K⟩, trivial⟩ rfl) trivial pf_laws_markWishS fun_laws_markWishS call_laws_markWishS (fun x => by kernel_rfl)
theorem fun_laws_markWishSS : Tryz.prog.funcs[19]? = some Tryz.f19 := by kernel_rfl
theorem call_laws_markWishSS : Fw.Callable Tryz.prog 19 := Fw.callable_of fun_laws_markWishSS (by kernel_rfl) (by kernel_rfl)
theorem pf_laws_markWishSS : Fw.PFn.of Tryz.f19 = some Sg.f_laws_markWishSS := Fw.PFn.of_get (by kernel_rfl)
theorem l_laws_markWishSS_0 (K : Nat) : Fw.LoopP (Sg.c_laws_markWishSS K) Sg.i_laws_markWishSS Sg.f_laws_markWishSS (Sg.p_laws_markWishSS_0 K) := ⟨fun _ => by kernel_rfl, fun n p => by kernel_rfl⟩
theorem ok_laws_markWishSS (K : Nat) : Fw.Ok Tryz.prog 19 (Sg.s_laws_markWishSS K) := Fw.funP_ok (c := Sg.c_laws_markWishSS K) (pi := Sg.i_laws_markWishSS) (depth := 6) (Fw.cfgP_ok (pi := Sg.i_laws_markWishSS) Sg.tabOK Sg.eqsOK Sg.mixOK ⟨ok_laws_markWishS K, trivial⟩ trivial trivial pf_laws_markWishSS ⟨⟨_, rfl, l_laws_markWishSS_0 K⟩, trivial⟩ rfl) trivial pf_laws_markWishSS fun_laws_markWishSS call_laws_markWishSS (fun x => by kernel_rfl)
theorem fun_laws_markStringS : Tryz.prog.funcs[20]? = some Tryz.f20 := by kernel_rfl
theorem call_laws_markStringS : Fw.Callable Tryz.prog 20 := Fw.callable_of fun_laws_markStringS (by kernel_rfl) (by kernel_rfl)
theorem pf_laws_markStringS : Fw.PFn.of Tryz.f20 = some Sg.f_laws_markStringS := Fw.PFn.of_get (by kernel_rfl)
theorem l_laws_markStringS_0 (K : Nat) : Fw.LoopP (Sg.c_laws_markStringS K) Sg.i_laws_markStringS Sg.f_laws_markStringS (Sg.p_laws_markStringS_0 K) := ⟨fun _ => by kernel_rfl, fun n p => by kernel_rfl⟩
theorem ok_laws_markStringS (K : Nat) : Fw.Ok Tryz.prog 20 (Sg.s_laws_markStringS K) := Fw.funP_ok (c := Sg.c_laws_markStringS K) (pi := Sg.i_laws_markStringS) (depth := 6) (Fw.cfgP_ok (pi := Sg.i_laws_markStringS) Sg.tabOK Sg.eqsOK Sg.mixOK ⟨ok_laws_markText K, trivial⟩ trivial trivial pf_laws_markStringS ⟨⟨_, rfl, l_laws_markStringS_0 K⟩, trivial⟩ rfl) trivial pf_laws_markStringS fun_laws_markStringS call_laws_markStringS (fun x => by kernel_rfl)
theorem fun_laws_markClientS : Tryz.prog.funcs[66]? = some Tryz.f66 := by kernel_rfl
theorem call_laws_markClientS : Fw.Callable Tryz.prog 66 := Fw.callable_of fun_laws_markClientS (by kernel_rfl) (by kernel_rfl)
theorem pf_laws_markClientS : Fw.PFn.of Tryz.f66 = some Sg.f_laws_markClientS := Fw.PFn.of_get (by kernel_rfl)
theorem l_laws_markClientS_0 (K : Nat) : Fw.LoopP (Sg.c_laws_markClientS K) Sg.i_laws_markClientS Sg.f_laws_markClientS (Sg.p_laws_markClientS_0 K) := ⟨fun _ => by kernel_rfl, fun n p => by kernel_rfl⟩
theorem ok_laws_markClientS (K : Nat) : Fw.Ok Tryz.prog 66 (Sg.s_laws_markClientS K) := Fw.funP_ok (c := Sg.c_laws_markClientS K) (pi := Sg.i_laws_markClientS) (depth := 6) (Fw.cfgP_ok (pi := Sg.i_laws_markClientS) Sg.tabOK Sg.eqsOK Sg.mixOK ⟨ok_laws_markEntryS K, ok_laws_markWishS K, trivial⟩ trivial trivial pf_laws_markClientS ⟨⟨_, rfl, l_laws_markClientS_0 K⟩, trivial⟩ rfl) trivial pf_laws_markClientS fun_laws_markClientS call_laws_markClientS (fun x => by kernel_rfl)
theorem fun_laws_markEventS : Tryz.prog.funcs[130]? = some Tryz.f130 := by kernel_rfl
theorem call_laws_markEventS : Fw.Callable Tryz.prog 130 := Fw.callable_of fun_laws_markEventS (by kernel_rfl) (by kernel_rfl)
theorem pf_laws_markEventS : Fw.PFn.of Tryz.f130 = some Sg.f_laws_markEventS := Fw.PFn.of_get (by kernel_rfl)
theorem l_laws_markEventS_0 (K : Nat) : Fw.LoopP (Sg.c_laws_markEventS K) Sg.i_laws_markEventS Sg.f_laws_markEventS (Sg.p_laws_markEventS_0 K) := ⟨fun _ => by kernel_rfl, fun n p => by kernel_rfl⟩
theorem ok_laws_markEventS (K : Nat) : Fw.Ok Tryz.prog 130 (Sg.s_laws_markEventS K) := Fw.funP_ok (c := Sg.c_laws_markEventS K) (pi := Sg.i_laws_markEventS) (depth := 6) (Fw.cfgP_ok (pi := Sg.i_laws_markEventS) Sg.tabOK Sg.eqsOK Sg.mixOK trivial trivial trivial pf_laws_markEventS ⟨⟨_, rfl, l_laws_markEventS_0 K⟩, trivial⟩ rfl) trivial pf_laws_markEventS fun_laws_markEventS call_laws_markEventS (fun x => by kernel_rfl)
theorem fun_laws_markWatchS : Tryz.prog.funcs[67]? = some Tryz.f67 := by kernel_rfl
theorem call_laws_markWatchS : Fw.Callable Tryz.prog 67 := Fw.callable_of fun_laws_markWatchS (by kernel_rfl) (by kernel_rfl)
theorem pf_laws_markWatchS : Fw.PFn.of Tryz.f67 = some Sg.f_laws_markWatchS := Fw.PFn.of_get (by kernel_rfl)
theorem l_laws_markWatchS_0 (K : Nat) : Fw.LoopP (Sg.c_laws_markWatchS K) Sg.i_laws_markWatchS Sg.f_laws_markWatchS (Sg.p_laws_markWatchS_0 K) := ⟨fun _ => by kernel_rfl, fun n p => by kernel_rfl⟩
theorem ok_laws_markWatchS (K : Nat) : Fw.Ok Tryz.prog 67 (Sg.s_laws_markWatchS K) := Fw.funP_ok (c := Sg.c_laws_markWatchS K) (pi := Sg.i_laws_markWatchS) (depth := 6) (Fw.cfgP_ok (pi := Sg.i_laws_markWatchS) Sg.tabOK Sg.eqsOK Sg.mixOK ⟨ok_laws_markText K, ok_laws_markEventS K, trivial⟩ trivial trivial pf_laws_markWatchS ⟨⟨_, rfl, l_laws_markWatchS_0 K⟩, trivial⟩ rfl) trivial pf_laws_markWatchS fun_laws_markWatchS call_laws_markWatchS (fun x => by kernel_rfl)
theorem fun_laws_markMomentS : Tryz.prog.funcs[68]? = some Tryz.f68 := by kernel_rfl
theorem call_laws_markMomentS : Fw.Callable Tryz.prog 68 := Fw.callable_of fun_laws_markMomentS (by kernel_rfl) (by kernel_rfl)
theorem pf_laws_markMomentS : Fw.PFn.of Tryz.f68 = some Sg.f_laws_markMomentS := Fw.PFn.of_get (by kernel_rfl)
theorem l_laws_markMomentS_0 (K : Nat) : Fw.LoopP (Sg.c_laws_markMomentS K) Sg.i_laws_markMomentS Sg.f_laws_markMomentS (Sg.p_laws_markMomentS_0 K) := ⟨fun _ => by kernel_rfl, fun n p => by kernel_rfl⟩
theorem ok_laws_markMomentS (K : Nat) : Fw.Ok Tryz.prog 68 (Sg.s_laws_markMomentS K) := Fw.funP_ok (c := Sg.c_laws_markMomentS K) (pi := Sg.i_laws_markMomentS) (depth := 6) (Fw.cfgP_ok (pi := Sg.i_laws_markMomentS) Sg.tabOK Sg.eqsOK Sg.mixOK ⟨ok_laws_markText K, ok_laws_markEntryS K, ok_laws_markEditS K, ok_laws_markStringS K, trivial⟩ trivial trivial pf_laws_markMomentS ⟨⟨_, rfl, l_laws_markMomentS_0 K⟩, trivial⟩ rfl) trivial pf_laws_markMomentS fun_laws_markMomentS call_laws_markMomentS (fun x => by kernel_rfl)
theorem fun_laws_markWorld : Tryz.prog.funcs[21]? = some Tryz.f21 := by kernel_rfl
theorem call_laws_markWorld : Fw.Callable Tryz.prog 21 := Fw.callable_of fun_laws_markWorld (by kernel_rfl) (by kernel_rfl)
theorem pf_laws_markWorld : Fw.PFn.of Tryz.f21 = some Sg.f_laws_markWorld := Fw.PFn.of_get (by kernel_rfl)
theorem ok_laws_markWorld (K : Nat) : Fw.Ok Tryz.prog 21 (Sg.s_laws_markWorld K) := Fw.funP_ok (c := Sg.c_laws_markWorld K) (pi := Sg.i_laws_markWorld) (depth := 6) (Fw.cfgP_ok (pi := Sg.i_laws_markWorld) Sg.tabOK Sg.eqsOK Sg.mixOK ⟨ok_laws_markBase K, ok_laws_markClientS K, ok_laws_markWatchS K, ok_laws_markMomentS K, trivial⟩ trivial trivial pf_laws_markWorld trivial rfl) trivial pf_laws_markWorld fun_laws_markWorld call_laws_markWorld (fun x => by kernel_rfl)
theorem fun_laws_heldIntS : Tryz.prog.funcs[162]? = some Tryz.f162 := by kernel_rfl
theorem call_laws_heldIntS : Fw.Callable Tryz.prog 162 := Fw.callable_of fun_laws_heldIntS (by kernel_rfl) (by kernel_rfl)
theorem pf_laws_heldIntS : Fw.PFn.of Tryz.f162 = some Sg.f_laws_heldIntS := Fw.PFn.of_get (by kernel_rfl)
theorem l_laws_heldIntS_0 (K : Nat) : Fw.LoopP (Sg.c_laws_heldIntS K) Sg.i_laws_heldIntS Sg.f_laws_heldIntS (Sg.p_laws_heldIntS_0 K) := ⟨fun _ => by kernel_rfl, fun n p => by kernel_rfl⟩
theorem ok_laws_heldIntS (K : Nat) : Fw.Ok Tryz.prog 162 (Sg.s_laws_heldIntS K) := Fw.funP_ok (c := Sg.c_laws_heldIntS K) (pi := Sg.i_laws_heldIntS) (depth := 6) (Fw.cfgP_ok (pi := Sg.i_laws_heldIntS) Sg.tabOK Sg.eqsOK Sg.mixOK trivial trivial trivial pf_laws_heldIntS ⟨⟨_, rfl, l_laws_heldIntS_0 K⟩, trivial⟩ rfl) trivial pf_laws_heldIntS fun_laws_heldIntS call_laws_heldIntS (fun x => by kernel_rfl)
theorem fun_laws_heldEntryS : Tryz.prog.funcs[91]? = some Tryz.f91 := by kernel_rfl
theorem call_laws_heldEntryS : Fw.Callable Tryz.prog 91 := Fw.callable_of fun_laws_heldEntryS (by kernel_rfl) (by kernel_rfl)
theorem pf_laws_heldEntryS : Fw.PFn.of Tryz.f91 = some Sg.f_laws_heldEntryS := Fw.PFn.of_get (by kernel_rfl)
theorem l_laws_heldEntryS_0 (K : Nat) : Fw.LoopP (Sg.c_laws_heldEntryS K) Sg.i_laws_heldEntryS Sg.f_laws_heldEntryS (Sg.p_laws_heldEntryS_0 K) := ⟨fun _ => by kernel_rfl, fun n p => by kernel_rfl⟩
theorem ok_laws_heldEntryS (K : Nat) : Fw.Ok Tryz.prog 91 (Sg.s_laws_heldEntryS K) := Fw.funP_ok (c := Sg.c_laws_heldEntryS K) (pi := Sg.i_laws_heldEntryS) (depth := 6) (Fw.cfgP_ok (pi := Sg.i_laws_heldEntryS) Sg.tabOK Sg.eqsOK Sg.mixOK ⟨ok_laws_markText K, trivial⟩ trivial trivial pf_laws_heldEntryS ⟨⟨_, rfl, l_laws_heldEntryS_0 K⟩, trivial⟩ rfl) trivial pf_laws_heldEntryS fun_laws_heldEntryS call_laws_heldEntryS (fun x => by kernel_rfl)
theorem fun_laws_heldCommitS : Tryz.prog.funcs[88]? = some Tryz.f88 := by kernel_rfl
theorem call_laws_heldCommitS : Fw.Callable Tryz.prog 88 := Fw.callable_of fun_laws_heldCommitS (by kernel_rfl) (by kernel_rfl)
theorem pf_laws_heldCommitS : Fw.PFn.of Tryz.f88 = some Sg.f_laws_heldCommitS := Fw.PFn.of_get (by kernel_rfl)
theorem l_laws_heldCommitS_0 (K : Nat) : Fw.LoopP (Sg.c_laws_heldCommitS K) Sg.i_laws_heldCommitS Sg.f_laws_heldCommitS (Sg.p_laws_heldCommitS_0 K) := ⟨fun _ => by kernel_rfl, fun n p => by kernel_rfl⟩
theorem ok_laws_heldCommitS (K : Nat) : Fw.Ok Tryz.prog 88 (Sg.s_laws_heldCommitS K) := Fw.funP_ok (c := Sg.c_laws_heldCommitS K) (pi := Sg.i_laws_heldCommitS) (depth := 6) (Fw.cfgP_ok (pi := Sg.i_laws_heldCommitS) Sg.tabOK Sg.eqsOK Sg.mixOK ⟨ok_laws_heldIntS K, ok_laws_heldEntryS K, trivial⟩ trivial trivial pf_laws_heldCommitS ⟨⟨_, rfl, l_laws_heldCommitS_0 K⟩, trivial⟩ rfl) trivial pf_laws_heldCommitS fun_laws_heldCommitS call_laws_heldCommitS (fun x => by kernel_rfl)
theorem fun_laws_heldRefS : Tryz.prog.funcs[89]? = some Tryz.f89 := by kernel_rfl
theorem call_laws_heldRefS : Fw.Callable Tryz.prog 89 := Fw.callable_of fun_laws_heldRefS (by kernel_rfl) (by kernel_rfl)
theorem pf_laws_heldRefS : Fw.PFn.of Tryz.f89 = some Sg.f_laws_heldRefS := Fw.PFn.of_get (by kernel_rfl)
theorem l_laws_heldRefS_0 (K : Nat) : Fw.LoopP (Sg.c_laws_heldRefS K) Sg.i_laws_heldRefS Sg.f_laws_heldRefS (Sg.p_laws_heldRefS_0 K) := ⟨fun _ => by kernel_rfl, fun n p => by kernel_rfl⟩
theorem ok_laws_heldRefS (K : Nat) : Fw.Ok Tryz.prog 89 (Sg.s_laws_heldRefS K) := Fw.funP_ok (c := Sg.c_laws_heldRefS K) (pi := Sg.i_laws_heldRefS) (depth := 6) (Fw.cfgP_ok (pi := Sg.i_laws_heldRefS) Sg.tabOK Sg.eqsOK Sg.mixOK ⟨ok_laws_markText K, trivial⟩ trivial trivial pf_laws_heldRefS ⟨⟨_, rfl, l_laws_heldRefS_0 K⟩, trivial⟩ rfl) trivial pf_laws_heldRefS fun_laws_heldRefS call_laws_heldRefS (fun x => by kernel_rfl)
theorem fun_laws_heldBase : Tryz.prog.funcs[36]? = some Tryz.f36 := by kernel_rfl
theorem call_laws_heldBase : Fw.Callable Tryz.prog 36 := Fw.callable_of fun_laws_heldBase (by kernel_rfl) (by kernel_rfl)
theorem pf_laws_heldBase : Fw.PFn.of Tryz.f36 = some Sg.f_laws_heldBase := Fw.PFn.of_get (by kernel_rfl)
theorem ok_laws_heldBase (K : Nat) : Fw.Ok Tryz.prog 36 (Sg.s_laws_heldBase K) := Fw.funP_ok (c := Sg.c_laws_heldBase K) (pi := Sg.i_laws_heldBase) (depth := 6) (Fw.cfgP_ok (pi := Sg.i_laws_heldBase) Sg.tabOK Sg.eqsOK Sg.mixOK ⟨ok_laws_heldCommitS K, ok_laws_heldRefS K, trivial⟩ trivial trivial pf_laws_heldBase trivial rfl) trivial pf_laws_heldBase fun_laws_heldBase call_laws_heldBase (fun x => by kernel_rfl)
theorem fun_laws_heldEditS : Tryz.prog.funcs[133]? = some Tryz.f133 := by kernel_rfl
theorem call_laws_heldEditS : Fw.Callable Tryz.prog 133 := Fw.callable_of fun_laws_heldEditS (by kernel_rfl) (by kernel_rfl)
theorem pf_laws_heldEditS : Fw.PFn.of Tryz.f133 = some Sg.f_laws_heldEditS := Fw.PFn.of_get (by kernel_rfl)
theorem l_laws_heldEditS_0 (K : Nat) : Fw.LoopP (Sg.c_laws_heldEditS K) Sg.i_laws_heldEditS Sg.f_laws_heldEditS (Sg.p_laws_heldEditS_0 K) := ⟨fun _ => by kernel_rfl, fun n p => by kernel_rfl⟩
theorem ok_laws_heldEditS (K : Nat) : Fw.Ok Tryz.prog 133 (Sg.s_laws_heldEditS K) := Fw.funP_ok (c := Sg.c_laws_heldEditS K) (pi := Sg.i_laws_heldEditS) (depth := 6) (Fw.cfgP_ok (pi := Sg.i_laws_heldEditS) Sg.tabOK Sg.eqsOK Sg.mixOK ⟨ok_laws_markText K, trivial⟩ trivial trivial pf_laws_heldEditS ⟨⟨_, rfl, l_laws_heldEditS_0 K⟩, trivial⟩ rfl) trivial pf_laws_heldEditS fun_laws_heldEditS call_laws_heldEditS (fun x => by kernel_rfl)
theorem fun_laws_heldWishS : Tryz.prog.funcs[131]? = some Tryz.f131 := by kernel_rfl
theorem call_laws_heldWishS : Fw.Callable Tryz.prog 131 := Fw.callable_of fun_laws_heldWishS (by kernel_rfl) (by kernel_rfl)
theorem pf_laws_heldWishS : Fw.PFn.of Tryz.f131 = some Sg.f_laws_heldWishS := Fw.PFn.of_get (by kernel_rfl)
theorem l_laws_heldWishS_0 (K : Nat) : Fw.LoopP (Sg.c_laws_heldWishS K) Sg.i_laws_heldWishS Sg.f_laws_heldWishS (Sg.p_laws_heldWishS_0 K) := ⟨fun _ => by kernel_rfl, fun n p => by kernel_rfl⟩
theorem ok_laws_heldWishS (K : Nat) : Fw.Ok Tryz.prog 131 (Sg.s_laws_heldWishS K) := Fw.funP_ok (c := Sg.c_laws_heldWishS K) (pi := Sg.i_laws_heldWishS) (depth := 6) (Fw.cfgP_ok (pi := Sg.i_laws_heldWishS) Sg.tabOK Sg.eqsOK Sg.mixOK ⟨ok_laws_markText K, ok_laws_heldEditS K, trivial⟩ trivial trivial pf_laws_heldWishS ⟨⟨_, rfl, l_laws_heldWishS_0 K⟩, trivial⟩ rfl) trivial pf_laws_heldWishS fun_laws_heldWishS call_laws_heldWishS (fun x => by kernel_rfl)
theorem fun_laws_heldClientS : Tryz.prog.funcs[69]? = some Tryz.f69 := by kernel_rfl
theorem call_laws_heldClientS : Fw.Callable Tryz.prog 69 := Fw.callable_of fun_laws_heldClientS (by kernel_rfl) (by kernel_rfl)
theorem pf_laws_heldClientS : Fw.PFn.of Tryz.f69 = some Sg.f_laws_heldClientS := Fw.PFn.of_get (by kernel_rfl)
theorem l_laws_heldClientS_0 (K : Nat) : Fw.LoopP (Sg.c_laws_heldClientS K) Sg.i_laws_heldClientS Sg.f_laws_heldClientS (Sg.p_laws_heldClientS_0 K) := ⟨fun _ => by kernel_rfl, fun n p => by kernel_rfl⟩
theorem ok_laws_heldClientS (K : Nat) : Fw.Ok Tryz.prog 69 (Sg.s_laws_heldClientS K) := Fw.funP_ok (c := Sg.c_laws_heldClientS K) (pi := Sg.i_laws_heldClientS) (depth := 6) (Fw.cfgP_ok (pi := Sg.i_laws_heldClientS) Sg.tabOK Sg.eqsOK Sg.mixOK ⟨ok_laws_heldEntryS K, ok_laws_heldWishS K, trivial⟩ trivial trivial pf_laws_heldClientS ⟨⟨_, rfl, l_laws_heldClientS_0 K⟩, trivial⟩ rfl) trivial pf_laws_heldClientS fun_laws_heldClientS call_laws_heldClientS (fun x => by kernel_rfl)
theorem fun_laws_heldEventS : Tryz.prog.funcs[132]? = some Tryz.f132 := by kernel_rfl
theorem call_laws_heldEventS : Fw.Callable Tryz.prog 132 := Fw.callable_of fun_laws_heldEventS (by kernel_rfl) (by kernel_rfl)
theorem pf_laws_heldEventS : Fw.PFn.of Tryz.f132 = some Sg.f_laws_heldEventS := Fw.PFn.of_get (by kernel_rfl)
theorem l_laws_heldEventS_0 (K : Nat) : Fw.LoopP (Sg.c_laws_heldEventS K) Sg.i_laws_heldEventS Sg.f_laws_heldEventS (Sg.p_laws_heldEventS_0 K) := ⟨fun _ => by kernel_rfl, fun n p => by kernel_rfl⟩
theorem ok_laws_heldEventS (K : Nat) : Fw.Ok Tryz.prog 132 (Sg.s_laws_heldEventS K) := Fw.funP_ok (c := Sg.c_laws_heldEventS K) (pi := Sg.i_laws_heldEventS) (depth := 6) (Fw.cfgP_ok (pi := Sg.i_laws_heldEventS) Sg.tabOK Sg.eqsOK Sg.mixOK trivial trivial trivial pf_laws_heldEventS ⟨⟨_, rfl, l_laws_heldEventS_0 K⟩, trivial⟩ rfl) trivial pf_laws_heldEventS fun_laws_heldEventS call_laws_heldEventS (fun x => by kernel_rfl)
theorem fun_laws_heldWatchS : Tryz.prog.funcs[70]? = some Tryz.f70 := by kernel_rfl
theorem call_laws_heldWatchS : Fw.Callable Tryz.prog 70 := Fw.callable_of fun_laws_heldWatchS (by kernel_rfl) (by kernel_rfl)
theorem pf_laws_heldWatchS : Fw.PFn.of Tryz.f70 = some Sg.f_laws_heldWatchS := Fw.PFn.of_get (by kernel_rfl)
theorem l_laws_heldWatchS_0 (K : Nat) : Fw.LoopP (Sg.c_laws_heldWatchS K) Sg.i_laws_heldWatchS Sg.f_laws_heldWatchS (Sg.p_laws_heldWatchS_0 K) := ⟨fun _ => by kernel_rfl, fun n p => by kernel_rfl⟩
theorem ok_laws_heldWatchS (K : Nat) : Fw.Ok Tryz.prog 70 (Sg.s_laws_heldWatchS K) := Fw.funP_ok (c := Sg.c_laws_heldWatchS K) (pi := Sg.i_laws_heldWatchS) (depth := 6) (Fw.cfgP_ok (pi := Sg.i_laws_heldWatchS) Sg.tabOK Sg.eqsOK Sg.mixOK ⟨ok_laws_markText K, ok_laws_heldEventS K, trivial⟩ trivial trivial pf_laws_heldWatchS ⟨⟨_, rfl, l_laws_heldWatchS_0 K⟩, trivial⟩ rfl) trivial pf_laws_heldWatchS fun_laws_heldWatchS call_laws_heldWatchS (fun x => by kernel_rfl)
theorem fun_laws_heldStringS : Tryz.prog.funcs[90]? = some Tryz.f90 := by kernel_rfl
theorem call_laws_heldStringS : Fw.Callable Tryz.prog 90 := Fw.callable_of fun_laws_heldStringS (by kernel_rfl) (by kernel_rfl)
theorem pf_laws_heldStringS : Fw.PFn.of Tryz.f90 = some Sg.f_laws_heldStringS := Fw.PFn.of_get (by kernel_rfl)
theorem l_laws_heldStringS_0 (K : Nat) : Fw.LoopP (Sg.c_laws_heldStringS K) Sg.i_laws_heldStringS Sg.f_laws_heldStringS (Sg.p_laws_heldStringS_0 K) := ⟨fun _ => by kernel_rfl, fun n p => by kernel_rfl⟩
theorem ok_laws_heldStringS (K : Nat) : Fw.Ok Tryz.prog 90 (Sg.s_laws_heldStringS K) := Fw.funP_ok (c := Sg.c_laws_heldStringS K) (pi := Sg.i_laws_heldStringS) (depth := 6) (Fw.cfgP_ok (pi := Sg.i_laws_heldStringS) Sg.tabOK Sg.eqsOK Sg.mixOK ⟨ok_laws_markText K, trivial⟩ trivial trivial pf_laws_heldStringS ⟨⟨_, rfl, l_laws_heldStringS_0 K⟩, trivial⟩ rfl) trivial pf_laws_heldStringS fun_laws_heldStringS call_laws_heldStringS (fun x => by kernel_rfl)
theorem fun_laws_heldMomentS : Tryz.prog.funcs[71]? = some Tryz.f71 := by kernel_rfl
theorem call_laws_heldMomentS : Fw.Callable Tryz.prog 71 := Fw.callable_of fun_laws_heldMomentS (by kernel_rfl) (by kernel_rfl)
theorem pf_laws_heldMomentS : Fw.PFn.of Tryz.f71 = some Sg.f_laws_heldMomentS := Fw.PFn.of_get (by kernel_rfl)
theorem l_laws_heldMomentS_0 (K : Nat) : Fw.LoopP (Sg.c_laws_heldMomentS K) Sg.i_laws_heldMomentS Sg.f_laws_heldMomentS (Sg.p_laws_heldMomentS_0 K) := ⟨fun _ => by kernel_rfl, fun n p => by kernel_rfl⟩
theorem ok_laws_heldMomentS (K : Nat) : Fw.Ok Tryz.prog 71 (Sg.s_laws_heldMomentS K) := Fw.funP_ok (c := Sg.c_laws_heldMomentS K) (pi := Sg.i_laws_heldMomentS) (depth := 6) (Fw.cfgP_ok (pi := Sg.i_laws_heldMomentS) Sg.tabOK Sg.eqsOK Sg.mixOK ⟨ok_laws_markText K, ok_laws_heldEntryS K, ok_laws_heldEditS K, ok_laws_heldStringS K, trivial⟩ trivial trivial pf_laws_heldMomentS ⟨⟨_, rfl, l_laws_heldMomentS_0 K⟩, trivial⟩ rfl) trivial pf_laws_heldMomentS fun_laws_heldMomentS call_laws_heldMomentS (fun x => by kernel_rfl)
theorem fun_laws_heldWorld : Tryz.prog.funcs[22]? = some Tryz.f22 := by kernel_rfl
theorem call_laws_heldWorld : Fw.Callable Tryz.prog 22 := Fw.callable_of fun_laws_heldWorld (by kernel_rfl) (by kernel_rfl)
theorem pf_laws_heldWorld : Fw.PFn.of Tryz.f22 = some Sg.f_laws_heldWorld := Fw.PFn.of_get (by kernel_rfl)
theorem ok_laws_heldWorld (K : Nat) : Fw.Ok Tryz.prog 22 (Sg.s_laws_heldWorld K) := Fw.funP_ok (c := Sg.c_laws_heldWorld K) (pi := Sg.i_laws_heldWorld) (depth := 6) (Fw.cfgP_ok (pi := Sg.i_laws_heldWorld) Sg.tabOK Sg.eqsOK Sg.mixOK ⟨ok_laws_heldBase K, ok_laws_heldClientS K, ok_laws_heldWatchS K, ok_laws_heldMomentS K, trivial⟩ trivial trivial pf_laws_heldWorld trivial rfl) trivial pf_laws_heldWorld fun_laws_heldWorld call_laws_heldWorld (fun x => by kernel_rfl)
theorem fun_laws_FnExactNewWorld : Tryz.prog.funcs[3]? = some Tryz.f3 := by kernel_rfl
theorem call_laws_FnExactNewWorld : Fw.Callable Tryz.prog 3 := Fw.callable_of fun_laws_FnExactNewWorld (by kernel_rfl) (by kernel_rfl)
theorem pf_laws_FnExactNewWorld : Fw.PFn.of Tryz.f3 = some Sg.f_laws_FnExactNewWorld := Fw.PFn.of_get (by kernel_rfl)
theorem ok_laws_FnExactNewWorld (K : Nat) : Fw.Ok Tryz.prog 3 (Sg.s_laws_FnExactNewWorld K) := Fw.funP_ok (c := Sg.c_laws_FnExactNewWorld K) (pi := Sg.i_laws_FnExactNewWorld) (depth := 6) (Fw.cfgP_ok (pi := Sg.i_laws_FnExactNewWorld) Sg.tabOK Sg.eqsOK Sg.mixOK ⟨ok_laws_szBase K, ok_laws_szWishSS K, ok_laws_szStringS K, ok_laws_toBase K, ok_laws_toWishSS K, ok_laws_toStringS K, ok_spec_NewWorld K, ok_impl_NewWorld K, ok_laws_eqBase K, ok_laws_eqStringS K, ok_laws_eqWorld K, ok_laws_eqWishSS K, ok_laws_markBase K, ok_laws_markWishSS K, ok_laws_markStringS K, ok_laws_markWorld K, ok_laws_heldWorld K, trivial⟩ trivial trivial pf_laws_FnExactNewWorld trivial rfl) trivial pf_laws_FnExactNewWorld fun_laws_FnExactNewWorld call_laws_FnExactNewWorld (fun x => by kernel_rfl)
end Go.Proofs
