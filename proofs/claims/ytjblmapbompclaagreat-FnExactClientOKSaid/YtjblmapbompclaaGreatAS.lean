/- The functions' contracts, printed by a program of the prover's own. -/
import Derived.Test.YtjblmapbompclaaGreatAS1
set_option linter.all false
namespace Go.Proofs
open Go Fw
set_option maxRecDepth 100000
theorem ok_impl_areAll_impl_Wish__impl_WishOK (K : Nat) : Fw.Ok Tryz.prog 156 (Sg.s_impl_areAll_impl_Wish__impl_WishOK K) := Fw.funP_ok (c := Sg.c_impl_areAll_impl_Wish__impl_WishOK K) (pi := Sg.i_impl_areAll_impl_Wish__impl_WishOK) (depth := 6) (Fw.cfgP_ok (pi := Sg.i_impl_areAll_impl_Wish__impl_WishOK) Sg.tabOK Sg.eqsOK Sg.mixOK ⟨ok_impl_WishOK K, trivial⟩ ⟨⟨fun_impl_areAll_impl_Wish_1, call_impl_areAll_impl_Wish_1⟩, ⟨fun_slices_IndexFunc_impl_Wish, call_slices_IndexFunc_impl_Wish⟩, ⟨fun_slices_ContainsFunc_impl_Wish, call_slices_ContainsFunc_impl_Wish⟩, trivial⟩ ⟨⟨rfl, pf_impl_areAll_impl_Wish_1⟩, ⟨rfl, pf_slices_IndexFunc_impl_Wish⟩, ⟨rfl, pf_slices_ContainsFunc_impl_Wish⟩, trivial⟩ pf_impl_areAll_impl_Wish ⟨⟨_, rfl, l_impl_areAll_impl_Wish__impl_WishOK_0 K⟩, trivial⟩ rfl) ⟨⟨rfl, pf_impl_areAll_impl_Wish_1⟩, ⟨rfl, pf_slices_IndexFunc_impl_Wish⟩, ⟨rfl, pf_slices_ContainsFunc_impl_Wish⟩, trivial⟩ pf_impl_areAll_impl_Wish fun_impl_areAll_impl_Wish call_impl_areAll_impl_Wish (fun x => by kernel_rfl)
theorem fun_impl_Client_isFor : Tryz.prog.funcs[80]? = some Tryz.f80 := by kernel_rfl
theorem call_impl_Client_isFor : Fw.Callable Tryz.prog 80 := Fw.callable_of fun_impl_Client_isFor (by kernel_rfl) (by kernel_rfl)
theorem pf_impl_Client_isFor : Fw.PFn.of Tryz.f80 = some Sg.f_impl_Client_isFor := Fw.PFn.of_get (by kernel_rfl)
theorem ok_impl_Client_isFor (K : Nat) : Fw.Ok Tryz.prog 80 (Sg.s_impl_Client_isFor K) := Fw.funP_ok (c := Sg.c_impl_Client_isFor K) (pi := Sg.i_impl_Client_isFor) (depth := 6) (Fw.cfgP_ok (pi := Sg.i_impl_Client_isFor) Sg.tabOK Sg.eqsOK Sg.mixOK ⟨ok_impl_within K, ok_impl_WishOK K, ok_impl_Client_isPossible K, ok_impl_areAll_impl_Wish__impl_WishOK K, trivial⟩ ⟨⟨fun_impl_areAll_impl_Wish_1, call_impl_areAll_impl_Wish_1⟩, ⟨fun_slices_IndexFunc_impl_Wish, call_slices_IndexFunc_impl_Wish⟩, ⟨fun_slices_ContainsFunc_impl_Wish, call_slices_ContainsFunc_impl_Wish⟩, ⟨fun_impl_areAll_impl_Wish, call_impl_areAll_impl_Wish⟩, trivial⟩ ⟨⟨rfl, pf_impl_areAll_impl_Wish_1⟩, ⟨rfl, pf_slices_IndexFunc_impl_Wish⟩, ⟨rfl, pf_slices_ContainsFunc_impl_Wish⟩, ⟨rfl, pf_impl_areAll_impl_Wish⟩, trivial⟩ pf_impl_Client_isFor trivial rfl) ⟨⟨rfl, pf_impl_areAll_impl_Wish_1⟩, ⟨rfl, pf_slices_IndexFunc_impl_Wish⟩, ⟨rfl, pf_slices_ContainsFunc_impl_Wish⟩, ⟨rfl, pf_impl_areAll_impl_Wish⟩, trivial⟩ pf_impl_Client_isFor fun_impl_Client_isFor call_impl_Client_isFor (fun x => by kernel_rfl)
theorem fun_impl_ClientOK : Tryz.prog.funcs[20]? = some Tryz.f20 := by kernel_rfl
theorem call_impl_ClientOK : Fw.Callable Tryz.prog 20 := Fw.callable_of fun_impl_ClientOK (by kernel_rfl) (by kernel_rfl)
theorem pf_impl_ClientOK : Fw.PFn.of Tryz.f20 = some Sg.f_impl_ClientOK := Fw.PFn.of_get (by kernel_rfl)
theorem ok_impl_ClientOK (K : Nat) : Fw.Ok Tryz.prog 20 (Sg.s_impl_ClientOK K) := Fw.funP_ok (c := Sg.c_impl_ClientOK K) (pi := Sg.i_impl_ClientOK) (depth := 6) (Fw.cfgP_ok (pi := Sg.i_impl_ClientOK) Sg.tabOK Sg.eqsOK Sg.mixOK ⟨ok_impl_BaseOK K, ok_impl_Client_isFor K, trivial⟩ trivial trivial pf_impl_ClientOK trivial rfl) trivial pf_impl_ClientOK fun_impl_ClientOK call_impl_ClientOK (fun x => by kernel_rfl)
theorem fun_laws_eqIntS : Tryz.prog.funcs[237]? = some Tryz.f237 := by kernel_rfl
theorem call_laws_eqIntS : Fw.Callable Tryz.prog 237 := Fw.callable_of fun_laws_eqIntS (by kernel_rfl) (by kernel_rfl)
theorem pf_laws_eqIntS : Fw.PFn.of Tryz.f237 = some Sg.f_laws_eqIntS := Fw.PFn.of_get (by kernel_rfl)
theorem l_laws_eqIntS_0 (K : Nat) : Fw.LoopP (Sg.c_laws_eqIntS K) Sg.i_laws_eqIntS Sg.f_laws_eqIntS (Sg.p_laws_eqIntS_0 K) := ⟨fun _ => by kernel_rfl, fun n p => by kernel_rfl⟩
theorem ok_laws_eqIntS (K : Nat) : Fw.Ok Tryz.prog 237 (Sg.s_laws_eqIntS K) := Fw.funP_ok (c := Sg.c_laws_eqIntS K) (pi := Sg.i_laws_eqIntS) (depth := 6) (Fw.cfgP_ok (pi := Sg.i_laws_eqIntS) Sg.tabOK Sg.eqsOK Sg.mixOK trivial trivial trivial pf_laws_eqIntS ⟨⟨_, rfl, l_laws_eqIntS_0 K⟩, trivial⟩ rfl) trivial pf_laws_eqIntS fun_laws_eqIntS call_laws_eqIntS (fun x => by kernel_rfl)
theorem fun_laws_eqEntry : Tryz.prog.funcs[162]? = some Tryz.f162 := by kernel_rfl
theorem call_laws_eqEntry : Fw.Callable Tryz.prog 162 := Fw.callable_of fun_laws_eqEntry (by kernel_rfl) (by kernel_rfl)
theorem pf_laws_eqEntry : Fw.PFn.of Tryz.f162 = some Sg.f_laws_eqEntry := Fw.PFn.of_get (by kernel_rfl)
theorem ok_laws_eqEntry (K : Nat) : Fw.Ok Tryz.prog 162 (Sg.s_laws_eqEntry K) := Fw.funP_ok (c := Sg.c_laws_eqEntry K) (pi := Sg.i_laws_eqEntry) (depth := 6) (Fw.cfgP_ok (pi := Sg.i_laws_eqEntry) Sg.tabOK Sg.eqsOK Sg.mixOK trivial trivial trivial pf_laws_eqEntry trivial rfl) trivial pf_laws_eqEntry fun_laws_eqEntry call_laws_eqEntry (fun x => by kernel_rfl)
theorem fun_laws_eqEntryS : Tryz.prog.funcs[84]? = some Tryz.f84 := by kernel_rfl
theorem call_laws_eqEntryS : Fw.Callable Tryz.prog 84 := Fw.callable_of fun_laws_eqEntryS (by kernel_rfl) (by kernel_rfl)
theorem pf_laws_eqEntryS : Fw.PFn.of Tryz.f84 = some Sg.f_laws_eqEntryS := Fw.PFn.of_get (by kernel_rfl)
theorem l_laws_eqEntryS_0 (K : Nat) : Fw.LoopP (Sg.c_laws_eqEntryS K) Sg.i_laws_eqEntryS Sg.f_laws_eqEntryS (Sg.p_laws_eqEntryS_0 K) := ⟨fun _ => by kernel_rfl, fun n p => by kernel_rfl⟩
theorem ok_laws_eqEntryS (K : Nat) : Fw.Ok Tryz.prog 84 (Sg.s_laws_eqEntryS K) := Fw.funP_ok (c := Sg.c_laws_eqEntryS K) (pi := Sg.i_laws_eqEntryS) (depth := 6) (Fw.cfgP_ok (pi := Sg.i_laws_eqEntryS) Sg.tabOK Sg.eqsOK Sg.mixOK ⟨ok_laws_eqEntry K, trivial⟩ trivial trivial pf_laws_eqEntryS ⟨⟨_, rfl, l_laws_eqEntryS_0 K⟩, trivial⟩ rfl) trivial pf_laws_eqEntryS fun_laws_eqEntryS call_laws_eqEntryS (fun x => by kernel_rfl)
theorem fun_laws_eqCommit : Tryz.prog.funcs[159]? = some Tryz.f159 := by kernel_rfl
theorem call_laws_eqCommit : Fw.Callable Tryz.prog 159 := Fw.callable_of fun_laws_eqCommit (by kernel_rfl) (by kernel_rfl)
theorem pf_laws_eqCommit : Fw.PFn.of Tryz.f159 = some Sg.f_laws_eqCommit := Fw.PFn.of_get (by kernel_rfl)
theorem ok_laws_eqCommit (K : Nat) : Fw.Ok Tryz.prog 159 (Sg.s_laws_eqCommit K) := Fw.funP_ok (c := Sg.c_laws_eqCommit K) (pi := Sg.i_laws_eqCommit) (depth := 6) (Fw.cfgP_ok (pi := Sg.i_laws_eqCommit) Sg.tabOK Sg.eqsOK Sg.mixOK ⟨ok_laws_eqIntS K, ok_laws_eqEntryS K, trivial⟩ trivial trivial pf_laws_eqCommit trivial rfl) trivial pf_laws_eqCommit fun_laws_eqCommit call_laws_eqCommit (fun x => by kernel_rfl)
theorem fun_laws_eqCommitS : Tryz.prog.funcs[81]? = some Tryz.f81 := by kernel_rfl
theorem call_laws_eqCommitS : Fw.Callable Tryz.prog 81 := Fw.callable_of fun_laws_eqCommitS (by kernel_rfl) (by kernel_rfl)
theorem pf_laws_eqCommitS : Fw.PFn.of Tryz.f81 = some Sg.f_laws_eqCommitS := Fw.PFn.of_get (by kernel_rfl)
theorem l_laws_eqCommitS_0 (K : Nat) : Fw.LoopP (Sg.c_laws_eqCommitS K) Sg.i_laws_eqCommitS Sg.f_laws_eqCommitS (Sg.p_laws_eqCommitS_0 K) := ⟨fun _ => by kernel_rfl, fun n p => by kernel_rfl⟩
theorem ok_laws_eqCommitS (K : Nat) : Fw.Ok Tryz.prog 81 (Sg.s_laws_eqCommitS K) := Fw.funP_ok (c := Sg.c_laws_eqCommitS K) (pi := Sg.i_laws_eqCommitS) (depth := 6) (Fw.cfgP_ok (pi := Sg.i_laws_eqCommitS) Sg.tabOK Sg.eqsOK Sg.mixOK ⟨ok_laws_eqCommit K, trivial⟩ trivial trivial pf_laws_eqCommitS ⟨⟨_, rfl, l_laws_eqCommitS_0 K⟩, trivial⟩ rfl) trivial pf_laws_eqCommitS fun_laws_eqCommitS call_laws_eqCommitS (fun x => by kernel_rfl)
theorem fun_laws_eqRef : Tryz.prog.funcs[160]? = some Tryz.f160 := by kernel_rfl
theorem call_laws_eqRef : Fw.Callable Tryz.prog 160 := Fw.callable_of fun_laws_eqRef (by kernel_rfl) (by kernel_rfl)
theorem pf_laws_eqRef : Fw.PFn.of Tryz.f160 = some Sg.f_laws_eqRef := Fw.PFn.of_get (by kernel_rfl)
theorem ok_laws_eqRef (K : Nat) : Fw.Ok Tryz.prog 160 (Sg.s_laws_eqRef K) := Fw.funP_ok (c := Sg.c_laws_eqRef K) (pi := Sg.i_laws_eqRef) (depth := 6) (Fw.cfgP_ok (pi := Sg.i_laws_eqRef) Sg.tabOK Sg.eqsOK Sg.mixOK trivial trivial trivial pf_laws_eqRef trivial rfl) trivial pf_laws_eqRef fun_laws_eqRef call_laws_eqRef (fun x => by kernel_rfl)
theorem fun_laws_eqRefS : Tryz.prog.funcs[82]? = some Tryz.f82 := by kernel_rfl
theorem call_laws_eqRefS : Fw.Callable Tryz.prog 82 := Fw.callable_of fun_laws_eqRefS (by kernel_rfl) (by kernel_rfl)
theorem pf_laws_eqRefS : Fw.PFn.of Tryz.f82 = some Sg.f_laws_eqRefS := Fw.PFn.of_get (by kernel_rfl)
theorem l_laws_eqRefS_0 (K : Nat) : Fw.LoopP (Sg.c_laws_eqRefS K) Sg.i_laws_eqRefS Sg.f_laws_eqRefS (Sg.p_laws_eqRefS_0 K) := ⟨fun _ => by kernel_rfl, fun n p => by kernel_rfl⟩
theorem ok_laws_eqRefS (K : Nat) : Fw.Ok Tryz.prog 82 (Sg.s_laws_eqRefS K) := Fw.funP_ok (c := Sg.c_laws_eqRefS K) (pi := Sg.i_laws_eqRefS) (depth := 6) (Fw.cfgP_ok (pi := Sg.i_laws_eqRefS) Sg.tabOK Sg.eqsOK Sg.mixOK ⟨ok_laws_eqRef K, trivial⟩ trivial trivial pf_laws_eqRefS ⟨⟨_, rfl, l_laws_eqRefS_0 K⟩, trivial⟩ rfl) trivial pf_laws_eqRefS fun_laws_eqRefS call_laws_eqRefS (fun x => by kernel_rfl)
theorem fun_laws_eqBase : Tryz.prog.funcs[21]? = some Tryz.f21 := by kernel_rfl
theorem call_laws_eqBase : Fw.Callable Tryz.prog 21 := Fw.callable_of fun_laws_eqBase (by kernel_rfl) (by kernel_rfl)
theorem pf_laws_eqBase : Fw.PFn.of Tryz.f21 = some Sg.f_laws_eqBase := Fw.PFn.of_get (by kernel_rfl)
theorem ok_laws_eqBase (K : Nat) : Fw.Ok Tryz.prog 21 (Sg.s_laws_eqBase K) := Fw.funP_ok (c := Sg.c_laws_eqBase K) (pi := Sg.i_laws_eqBase) (depth := 6) (Fw.cfgP_ok (pi := Sg.i_laws_eqBase) Sg.tabOK Sg.eqsOK Sg.mixOK ⟨ok_laws_eqCommitS K, ok_laws_eqRefS K, trivial⟩ trivial trivial pf_laws_eqBase trivial rfl) trivial pf_laws_eqBase fun_laws_eqBase call_laws_eqBase (fun x => by kernel_rfl)
theorem fun_laws_eqEdit : Tryz.prog.funcs[188]? = some Tryz.f188 := by kernel_rfl
theorem call_laws_eqEdit : Fw.Callable Tryz.prog 188 := Fw.callable_of fun_laws_eqEdit (by kernel_rfl) (by kernel_rfl)
theorem pf_laws_eqEdit : Fw.PFn.of Tryz.f188 = some Sg.f_laws_eqEdit := Fw.PFn.of_get (by kernel_rfl)
theorem ok_laws_eqEdit (K : Nat) : Fw.Ok Tryz.prog 188 (Sg.s_laws_eqEdit K) := Fw.funP_ok (c := Sg.c_laws_eqEdit K) (pi := Sg.i_laws_eqEdit) (depth := 6) (Fw.cfgP_ok (pi := Sg.i_laws_eqEdit) Sg.tabOK Sg.eqsOK Sg.mixOK trivial trivial trivial pf_laws_eqEdit trivial rfl) trivial pf_laws_eqEdit fun_laws_eqEdit call_laws_eqEdit (fun x => by kernel_rfl)
theorem fun_laws_eqEditS : Tryz.prog.funcs[95]? = some Tryz.f95 := by kernel_rfl
theorem call_laws_eqEditS : Fw.Callable Tryz.prog 95 := Fw.callable_of fun_laws_eqEditS (by kernel_rfl) (by kernel_rfl)
theorem pf_laws_eqEditS : Fw.PFn.of Tryz.f95 = some Sg.f_laws_eqEditS := Fw.PFn.of_get (by kernel_rfl)
theorem l_laws_eqEditS_0 (K : Nat) : Fw.LoopP (Sg.c_laws_eqEditS K) Sg.i_laws_eqEditS Sg.f_laws_eqEditS (Sg.p_laws_eqEditS_0 K) := ⟨fun _ => by kernel_rfl, fun n p => by kernel_rfl⟩
theorem ok_laws_eqEditS (K : Nat) : Fw.Ok Tryz.prog 95 (Sg.s_laws_eqEditS K) := Fw.funP_ok (c := Sg.c_laws_eqEditS K) (pi := Sg.i_laws_eqEditS) (depth := 6) (Fw.cfgP_ok (pi := Sg.i_laws_eqEditS) Sg.tabOK Sg.eqsOK Sg.mixOK ⟨ok_laws_eqEdit K, trivial⟩ trivial trivial pf_laws_eqEditS ⟨⟨_, rfl, l_laws_eqEditS_0 K⟩, trivial⟩ rfl) trivial pf_laws_eqEditS fun_laws_eqEditS call_laws_eqEditS (fun x => by kernel_rfl)
theorem fun_laws_eqWish : Tryz.prog.funcs[161]? = some Tryz.f161 := by kernel_rfl
theorem call_laws_eqWish : Fw.Callable Tryz.prog 161 := Fw.callable_of fun_laws_eqWish (by kernel_rfl) (by kernel_rfl)
theorem pf_laws_eqWish : Fw.PFn.of Tryz.f161 = some Sg.f_laws_eqWish := Fw.PFn.of_get (by kernel_rfl)
theorem ok_laws_eqWish (K : Nat) : Fw.Ok Tryz.prog 161 (Sg.s_laws_eqWish K) := Fw.funP_ok (c := Sg.c_laws_eqWish K) (pi := Sg.i_laws_eqWish) (depth := 6) (Fw.cfgP_ok (pi := Sg.i_laws_eqWish) Sg.tabOK Sg.eqsOK Sg.mixOK ⟨ok_laws_eqEditS K, trivial⟩ trivial trivial pf_laws_eqWish trivial rfl) trivial pf_laws_eqWish fun_laws_eqWish call_laws_eqWish (fun x => by kernel_rfl)
theorem fun_laws_eqWishS : Tryz.prog.funcs[83]? = some Tryz.f83 := by kernel_rfl
theorem call_laws_eqWishS : Fw.Callable Tryz.prog 83 := Fw.callable_of fun_laws_eqWishS (by kernel_rfl) (by kernel_rfl)
theorem pf_laws_eqWishS : Fw.PFn.of Tryz.f83 = some Sg.f_laws_eqWishS := Fw.PFn.of_get (by kernel_rfl)
theorem l_laws_eqWishS_0 (K : Nat) : Fw.LoopP (Sg.c_laws_eqWishS K) Sg.i_laws_eqWishS Sg.f_laws_eqWishS (Sg.p_laws_eqWishS_0 K) := ⟨fun _ => by kernel_rfl, fun n p => by kernel_rfl⟩
theorem ok_laws_eqWishS (K : Nat) : Fw.Ok Tryz.prog 83 (Sg.s_laws_eqWishS K) := Fw.funP_ok (c := Sg.c_laws_eqWishS K) (pi := Sg.i_laws_eqWishS) (depth := 6) (Fw.cfgP_ok (pi := Sg.i_laws_eqWishS) Sg.tabOK Sg.eqsOK Sg.mixOK ⟨ok_laws_eqWish K, trivial⟩ trivial trivial pf_laws_eqWishS ⟨⟨_, rfl, l_laws_eqWishS_0 K⟩, trivial⟩ rfl) trivial pf_laws_eqWishS fun_laws_eqWishS call_laws_eqWishS (fun x => by kernel_rfl)
theorem fun_laws_eqClient : Tryz.prog.funcs[22]? = some Tryz.f22 := by kernel_rfl
theorem call_laws_eqClient : Fw.Callable Tryz.prog 22 := Fw.callable_of fun_laws_eqClient (by kernel_rfl) (by kernel_rfl)
theorem pf_laws_eqClient : Fw.PFn.of Tryz.f22 = some Sg.f_laws_eqClient := Fw.PFn.of_get (by kernel_rfl)
theorem ok_laws_eqClient (K : Nat) : Fw.Ok Tryz.prog 22 (Sg.s_laws_eqClient K) := Fw.funP_ok (c := Sg.c_laws_eqClient K) (pi := Sg.i_laws_eqClient) (depth := 6) (Fw.cfgP_ok (pi := Sg.i_laws_eqClient) Sg.tabOK Sg.eqsOK Sg.mixOK ⟨ok_laws_eqEntryS K, ok_laws_eqWishS K, trivial⟩ trivial trivial pf_laws_eqClient trivial rfl) trivial pf_laws_eqClient fun_laws_eqClient call_laws_eqClient (fun x => by kernel_rfl)
theorem fun_laws_FnExactClientOK : Tryz.prog.funcs[3]? = some Tryz.f3 := by kernel_rfl
theorem call_laws_FnExactClientOK : Fw.Callable Tryz.prog 3 := Fw.callable_of fun_laws_FnExactClientOK (by kernel_rfl) (by kernel_rfl)
theorem pf_laws_FnExactClientOK : Fw.PFn.of Tryz.f3 = some Sg.f_laws_FnExactClientOK := Fw.PFn.of_get (by kernel_rfl)
theorem ok_laws_FnExactClientOK (K : Nat) : Fw.Ok Tryz.prog 3 (Sg.s_laws_FnExactClientOK K) := Fw.funP_ok (c := Sg.c_laws_FnExactClientOK K) (pi := Sg.i_laws_FnExactClientOK) (depth := 6) (Fw.cfgP_ok (pi := Sg.i_laws_FnExactClientOK) Sg.tabOK Sg.eqsOK Sg.mixOK ⟨ok_laws_szBase K, ok_laws_szClient K, ok_laws_toBase K, ok_laws_toClient K, ok_spec_ClientOK K, ok_impl_ClientOK K, ok_laws_eqBase K, ok_laws_eqClient K, trivial⟩ trivial trivial pf_laws_FnExactClientOK trivial rfl) trivial pf_laws_FnExactClientOK fun_laws_FnExactClientOK call_laws_FnExactClientOK (fun x => by kernel_rfl)
end Go.Proofs
