/- The functions' contracts, printed by a program of the prover's own. -/
import Derived.Test.YtjblmapbompclaaGreatAS1
set_option linter.all false
namespace Go.Proofs
open Go Fw
set_option maxRecDepth 100000
theorem call_qas : Callable Tryz.prog 187 := callable_of Tryz.func187 (by kernel_rfl) (by kernel_rfl)
theorem pf_qas : PFn.of Tryz.f187 = some Sg.f_qas := PFn.of_get (by kernel_rfl)
theorem ok_qas (K : Nat) : Fw.Ok Tryz.prog 187 (Sg.s_qas K) := Sg.okT (Sg.c_qas K) Sg.i0 trivial trivial trivial pf_qas trivial rfl Tryz.func187 call_qas (fun x => by kernel_rfl) rfl rfl
theorem call_qcu : Callable Tryz.prog 180 := callable_of Tryz.func180 (by kernel_rfl) (by kernel_rfl)
theorem pf_qcu : PFn.of Tryz.f180 = some Sg.f_qcu := PFn.of_get (by kernel_rfl)
theorem ok_qcu (K : Nat) : Fw.Ok Tryz.prog 180 (Sg.s_qcu K) := Sg.okT (Sg.c_qcu K) Sg.i0 ⟨ok_qcK K, ok_qas K, trivial⟩ trivial trivial pf_qcu trivial rfl Tryz.func180 call_qcu (fun x => by kernel_rfl) rfl rfl
theorem call_qbB : Callable Tryz.prog 181 := callable_of Tryz.func181 (by kernel_rfl) (by kernel_rfl)
theorem pf_qbB : PFn.of Tryz.f181 = some Sg.f_qbB := PFn.of_get (by kernel_rfl)
theorem ok_qbB (K : Nat) : Fw.Ok Tryz.prog 181 (Sg.s_qbB K) := Sg.okT (Sg.c_qbB K) Sg.i_qbB trivial ⟨⟨Tryz.func179, call_qaG⟩, trivial⟩ ⟨⟨rfl, pf_qaG⟩, trivial⟩ pf_qbB trivial rfl Tryz.func181 call_qbB (fun x => by kernel_rfl) rfl rfl
theorem call_qcU : Callable Tryz.prog 182 := callable_of Tryz.func182 (by kernel_rfl) (by kernel_rfl)
theorem pf_qcU : PFn.of Tryz.f182 = some Sg.f_qcU := PFn.of_get (by kernel_rfl)
theorem ok_qcU (K : Nat) : Fw.Ok Tryz.prog 182 (Sg.s_qcU K) := Sg.okT (Sg.c_qcU K) Sg.i0 ⟨ok_qas K, trivial⟩ trivial trivial pf_qcU trivial rfl Tryz.func182 call_qcU (fun x => by kernel_rfl) rfl rfl
theorem call_qab : Callable Tryz.prog 252 := callable_of Tryz.func252 (by kernel_rfl) (by kernel_rfl)
theorem pf_qab : PFn.of Tryz.f252 = some Sg.f_qab := PFn.of_get (by kernel_rfl)
theorem call_qaO : Callable Tryz.prog 254 := callable_of Tryz.func254 (by kernel_rfl) (by kernel_rfl)
theorem ok_qaO (K : Nat) : Fw.Ok Tryz.prog 254 (Sg.s_qaO K) := Fw.ok_compare call_qaO (fun a b w => Tryz.strings_Compare a b w)
theorem call_qcw : Callable Tryz.prog 253 := callable_of Tryz.func253 (by kernel_rfl) (by kernel_rfl)
theorem pf_qcw : PFn.of Tryz.f253 = some Sg.f_qcw := PFn.of_get (by kernel_rfl)
theorem ok_qcw (K : Nat) : Fw.Ok Tryz.prog 253 (Sg.s_qcw K) := Sg.okT (Sg.c_qcw K) Sg.i0 ⟨ok_qaO K, trivial⟩ trivial trivial pf_qcw trivial rfl Tryz.func253 call_qcw (fun x => by kernel_rfl) rfl rfl
theorem l_qaa_0 (K : Nat) : LoopP (Sg.c_qaa K) Sg.i0 Sg.f_qab (Sg.p_qaa_0 K) := ⟨fun _ => by kernel_rfl, fun n p => by kernel_rfl⟩
theorem ok_qaa (K : Nat) : Fw.Ok Tryz.prog 252 (Sg.s_qaa K) := Sg.okT (Sg.c_qaa K) Sg.i0 ⟨ok_qcw K, trivial⟩ trivial trivial pf_qab ⟨⟨_, rfl, l_qaa_0 K⟩, trivial⟩ rfl Tryz.func252 call_qab (fun x => by kernel_rfl) rfl rfl
theorem call_qdd : Callable Tryz.prog 183 := callable_of Tryz.func183 (by kernel_rfl) (by kernel_rfl)
theorem pf_qdd : PFn.of Tryz.f183 = some Sg.f_qdd := PFn.of_get (by kernel_rfl)
theorem ok_qdd (K : Nat) : Fw.Ok Tryz.prog 183 (Sg.s_qdd K) := Sg.okT (Sg.c_qdd K) Sg.i_qdd ⟨ok_qcw K, ok_qaa K, trivial⟩ ⟨⟨Tryz.func252, call_qab⟩, trivial⟩ ⟨⟨rfl, pf_qab⟩, trivial⟩ pf_qdd trivial rfl Tryz.func183 call_qdd (fun x => by kernel_rfl) rfl rfl
theorem call_qaq : Callable Tryz.prog 184 := callable_of Tryz.func184 (by kernel_rfl) (by kernel_rfl)
theorem pf_qaq : PFn.of Tryz.f184 = some Sg.f_qaq := PFn.of_get (by kernel_rfl)
theorem ok_qaq (K : Nat) : Fw.Ok Tryz.prog 184 (Sg.s_qaq K) := Sg.okT (Sg.c_qaq K) Sg.i0 trivial trivial trivial pf_qaq trivial rfl Tryz.func184 call_qaq (fun x => by kernel_rfl) rfl rfl
theorem call_qal : Callable Tryz.prog 310 := callable_of Tryz.func310 (by kernel_rfl) (by kernel_rfl)
theorem ok_qal (K : Nat) : Fw.Ok Tryz.prog 310 (Sg.s_qal K) := Fw.ok_delete call_qal rfl Tryz.del_raw
theorem call_qak : Callable Tryz.prog 311 := callable_of Tryz.func311 (by kernel_rfl) (by kernel_rfl)
theorem ok_qak (K : Nat) : Fw.Ok Tryz.prog 311 (Sg.s_qak K) := Fw.ok_insert call_qak rfl Tryz.ins_nil Tryz.ins_raw
theorem call_qct : Callable Tryz.prog 298 := callable_of Tryz.func298 (by kernel_rfl) (by kernel_rfl)
theorem pf_qct : PFn.of Tryz.f298 = some Sg.f_qct := PFn.of_get (by kernel_rfl)
theorem l_qct_0 (K : Nat) : LoopP (Sg.c_qct K) Sg.i0 Sg.f_qct (Sg.p_qct_0 K) := ⟨fun _ => by kernel_rfl, fun n p => by kernel_rfl⟩
theorem ok_qct (K : Nat) : Fw.Ok Tryz.prog 298 (Sg.s_qct K) := Sg.okT (Sg.c_qct K) Sg.i0 ⟨ok_qdd K, ok_qaq K, ok_qal K, ok_qak K, trivial⟩ trivial trivial pf_qct ⟨⟨_, rfl, l_qct_0 K⟩, trivial⟩ rfl Tryz.func298 call_qct (fun x => by kernel_rfl) rfl rfl
theorem call_qcf : Callable Tryz.prog 297 := callable_of Tryz.func297 (by kernel_rfl) (by kernel_rfl)
theorem pf_qcf : PFn.of Tryz.f297 = some Sg.f_qcf := PFn.of_get (by kernel_rfl)
theorem call_qaj : Callable Tryz.prog 316 := callable_of Tryz.func316 (by kernel_rfl) (by kernel_rfl)
theorem ok_qaj (K : Nat) : Fw.Ok Tryz.prog 316 (Sg.s_qaj K) := Fw.ok_sort call_qaj rfl (by decide) Fw.keyCmp_swo Tryz.sort_nil Tryz.sort_raw
theorem call_qcs : Callable Tryz.prog 317 := callable_of Tryz.func317 (by kernel_rfl) (by kernel_rfl)
theorem pf_qcs : PFn.of Tryz.f317 = some Sg.f_qcs := PFn.of_get (by kernel_rfl)
theorem ok_qcs (K : Nat) : Fw.Ok Tryz.prog 317 (Sg.s_qcs K) := Sg.okT (Sg.c_qcs K) Sg.i0 ⟨ok_qaO K, trivial⟩ trivial trivial pf_qcs trivial rfl Tryz.func317 call_qcs (fun x => by kernel_rfl) rfl rfl
theorem call_qdb : Callable Tryz.prog 312 := callable_of Tryz.func312 (by kernel_rfl) (by kernel_rfl)
theorem pf_qdb : PFn.of Tryz.f312 = some Sg.f_qdb := PFn.of_get (by kernel_rfl)
theorem l_qdb_0 (K : Nat) : LoopP (Sg.c_qdb K) Sg.i0 Sg.f_qdb (Sg.p_qdb_0 K) := ⟨fun _ => by kernel_rfl, fun n p => by kernel_rfl⟩
theorem l_qcs (K : Nat) : LoopP (Sg.c_qdb K) Sg.i0 Sg.f_qdb (Sg.p_qcs K) := ⟨fun _ => by kernel_rfl, fun n p => by kernel_rfl⟩
theorem ok_qdb (K : Nat) : Fw.Ok Tryz.prog 312 (Sg.s_qdb K) := Sg.okT (Sg.c_qdb K) Sg.i0 ⟨ok_qdd K, ok_qaj K, ok_qcs K, trivial⟩ trivial trivial pf_qdb ⟨⟨_, rfl, l_qdb_0 K⟩, ⟨_, rfl, l_qcs K⟩, trivial⟩ rfl Tryz.func312 call_qdb (fun x => by kernel_rfl) rfl rfl
theorem call_qcO : Callable Tryz.prog 299 := callable_of Tryz.func299 (by kernel_rfl) (by kernel_rfl)
theorem pf_qcO : PFn.of Tryz.f299 = some Sg.f_qcO := PFn.of_get (by kernel_rfl)
theorem l_qcO_0 (K : Nat) : LoopP (Sg.c_qcO K) Sg.i_qcO Sg.f_qcO (Sg.p_qcO_0 K) := ⟨fun _ => by kernel_rfl, fun n p => by kernel_rfl⟩
theorem l_qcO_1 (K : Nat) : LoopP (Sg.c_qcO K) Sg.i_qcO Sg.f_qcO (Sg.p_qcO_1 K) := ⟨fun _ => by kernel_rfl, fun n p => by kernel_rfl⟩
theorem ok_qcO (K : Nat) : Fw.Ok Tryz.prog 299 (Sg.s_qcO K) := Sg.okT (Sg.c_qcO K) Sg.i_qcO ⟨ok_qct K, ok_qdb K, trivial⟩ ⟨⟨Tryz.func297, call_qcf⟩, trivial⟩ ⟨⟨rfl, pf_qcf⟩, trivial⟩ pf_qcO ⟨⟨_, rfl, l_qcO_0 K⟩, ⟨_, rfl, l_qcO_1 K⟩, trivial⟩ rfl Tryz.func299 call_qcO (fun x => by kernel_rfl) rfl rfl
theorem call_qan : Callable Tryz.prog 236 := callable_of Tryz.func236 (by kernel_rfl) (by kernel_rfl)
theorem pf_qan : PFn.of Tryz.f236 = some Sg.f_qan := PFn.of_get (by kernel_rfl)
theorem l_qan_0 (K : Nat) : LoopP (Sg.c_qan K) Sg.i0 Sg.f_qan (Sg.p_qan_0 K) := ⟨fun _ => by kernel_rfl, fun n p => by kernel_rfl⟩
theorem ok_qan (K : Nat) : Fw.Ok Tryz.prog 236 (Sg.s_qan K) := Sg.okT (Sg.c_qan K) Sg.i0 trivial trivial trivial pf_qan ⟨⟨_, rfl, l_qan_0 K⟩, trivial⟩ rfl Tryz.func236 call_qan (fun x => by kernel_rfl) rfl rfl
theorem call_qbK : Callable Tryz.prog 282 := callable_of Tryz.func282 (by kernel_rfl) (by kernel_rfl)
theorem pf_qbK : PFn.of Tryz.f282 = some Sg.f_qbK := PFn.of_get (by kernel_rfl)
theorem call_qay : Callable Tryz.prog 279 := callable_of Tryz.func279 (by kernel_rfl) (by kernel_rfl)
theorem pf_qay : PFn.of Tryz.f279 = some Sg.f_qay := PFn.of_get (by kernel_rfl)
theorem ok_qay (K : Nat) : Fw.Ok Tryz.prog 279 (Sg.s_qay K) := Sg.okT (Sg.c_qay K) Sg.i_qay ⟨ok_qct K, ok_qcO K, ok_qan K, trivial⟩ ⟨⟨Tryz.func297, call_qcf⟩, ⟨Tryz.func282, call_qbK⟩, trivial⟩ ⟨⟨rfl, pf_qcf⟩, ⟨rfl, pf_qbK⟩, trivial⟩ pf_qay trivial rfl Tryz.func279 call_qay (fun x => by kernel_rfl) rfl rfl
theorem call_qbe : Callable Tryz.prog 300 := callable_of Tryz.func300 (by kernel_rfl) (by kernel_rfl)
theorem pf_qbe : PFn.of Tryz.f300 = some Sg.f_qbe := PFn.of_get (by kernel_rfl)
theorem l_qbe_1 (K : Nat) : LoopP (Sg.c_qbe K) Sg.i0 Sg.f_qbe (Sg.p_qbe_1 K) := ⟨fun _ => by kernel_rfl, fun n p => by kernel_rfl⟩
theorem l_qbe_0 (K : Nat) : LoopP (Sg.c_qbe K) Sg.i0 Sg.f_qbe (Sg.p_qbe_0 K) := ⟨fun _ => by kernel_rfl, fun n p => by kernel_rfl⟩
theorem ok_qbe (K : Nat) : Fw.Ok Tryz.prog 300 (Sg.s_qbe K) := Sg.okT (Sg.c_qbe K) Sg.i0 trivial trivial trivial pf_qbe ⟨⟨_, rfl, l_qbe_1 K⟩, ⟨_, rfl, l_qbe_0 K⟩, trivial⟩ rfl Tryz.func300 call_qbe (fun x => by kernel_rfl) rfl rfl
theorem call_qcD : Callable Tryz.prog 280 := callable_of Tryz.func280 (by kernel_rfl) (by kernel_rfl)
theorem pf_qcD : PFn.of Tryz.f280 = some Sg.f_qcD := PFn.of_get (by kernel_rfl)
theorem l_qcD_0 (K : Nat) : LoopP (Sg.c_qcD K) Sg.i0 Sg.f_qcD (Sg.p_qcD_0 K) := ⟨fun _ => by kernel_rfl, fun n p => by kernel_rfl⟩
theorem ok_qcD (K : Nat) : Fw.Ok Tryz.prog 280 (Sg.s_qcD K) := Sg.okT (Sg.c_qcD K) Sg.i0 ⟨ok_qbe K, trivial⟩ trivial trivial pf_qcD ⟨⟨_, rfl, l_qcD_0 K⟩, trivial⟩ rfl Tryz.func280 call_qcD (fun x => by kernel_rfl) rfl rfl
theorem call_qaz : Callable Tryz.prog 281 := callable_of Tryz.func281 (by kernel_rfl) (by kernel_rfl)
theorem pf_qaz : PFn.of Tryz.f281 = some Sg.f_qaz := PFn.of_get (by kernel_rfl)
theorem ok_qaz (K : Nat) : Fw.Ok Tryz.prog 281 (Sg.s_qaz K) := Sg.okT (Sg.c_qaz K) Sg.i0 ⟨ok_qcO K, ok_qcD K, trivial⟩ trivial trivial pf_qaz trivial rfl Tryz.func281 call_qaz (fun x => by kernel_rfl) rfl rfl
theorem call_qaH : Callable Tryz.prog 234 := callable_of Tryz.func234 (by kernel_rfl) (by kernel_rfl)
theorem pf_qaH : PFn.of Tryz.f234 = some Sg.f_qaH := PFn.of_get (by kernel_rfl)
theorem ok_qaH (K : Nat) : Fw.Ok Tryz.prog 234 (Sg.s_qaH K) := Sg.okT (Sg.c_qaH K) Sg.i_qaH ⟨ok_qay K, ok_qcD K, ok_qaz K, trivial⟩ ⟨⟨Tryz.func282, call_qbK⟩, trivial⟩ ⟨⟨rfl, pf_qbK⟩, trivial⟩ pf_qaH trivial rfl Tryz.func234 call_qaH (fun x => by kernel_rfl) rfl rfl
theorem call_qaC : Callable Tryz.prog 290 := callable_of Tryz.func290 (by kernel_rfl) (by kernel_rfl)
theorem pf_qaC : PFn.of Tryz.f290 = some Sg.f_qaC := PFn.of_get (by kernel_rfl)
theorem ok_qaC (K : Nat) : Fw.Ok Tryz.prog 290 (Sg.s_qaC K) := Sg.okT (Sg.c_qaC K) Sg.i0 trivial trivial trivial pf_qaC trivial rfl Tryz.func290 call_qaC (fun x => by kernel_rfl) rfl rfl
theorem call_qaM : Callable Tryz.prog 255 := callable_of Tryz.func255 (by kernel_rfl) (by kernel_rfl)
theorem pf_qaM : PFn.of Tryz.f255 = some Sg.f_qaM := PFn.of_get (by kernel_rfl)
theorem ok_qaM (K : Nat) : Fw.Ok Tryz.prog 255 (Sg.s_qaM K) := Sg.okT (Sg.c_qaM K) Sg.i0 ⟨ok_qaq K, ok_qaC K, trivial⟩ trivial trivial pf_qaM trivial rfl Tryz.func255 call_qaM (fun x => by kernel_rfl) rfl rfl
theorem call_qbG : Callable Tryz.prog 186 := callable_of Tryz.func186 (by kernel_rfl) (by kernel_rfl)
theorem pf_qbG : PFn.of Tryz.f186 = some Sg.f_qbG := PFn.of_get (by kernel_rfl)
theorem l_qbG_0 (K : Nat) : LoopP (Sg.c_qbG K) Sg.i0 Sg.f_qbG (Sg.p_qbG_0 K) := ⟨fun _ => by kernel_rfl, fun n p => by kernel_rfl⟩
theorem ok_qbG (K : Nat) : Fw.Ok Tryz.prog 186 (Sg.s_qbG K) := Sg.okT (Sg.c_qbG K) Sg.i0 ⟨ok_qaM K, trivial⟩ trivial trivial pf_qbG ⟨⟨_, rfl, l_qbG_0 K⟩, trivial⟩ rfl Tryz.func186 call_qbG (fun x => by kernel_rfl) rfl rfl
theorem call_qbh : Callable Tryz.prog 93 := callable_of Tryz.func93 (by kernel_rfl) (by kernel_rfl)
theorem pf_qbh : PFn.of Tryz.f93 = some Sg.f_qbh := PFn.of_get (by kernel_rfl)
theorem ok_qbh (K : Nat) : Fw.Ok Tryz.prog 93 (Sg.s_qbh K) := Sg.okT (Sg.c_qbh K) Sg.i0 ⟨ok_qas K, ok_qbG K, trivial⟩ trivial trivial pf_qbh trivial rfl Tryz.func93 call_qbh (fun x => by kernel_rfl) rfl rfl
theorem call_qaU : Callable Tryz.prog 185 := callable_of Tryz.func185 (by kernel_rfl) (by kernel_rfl)
theorem pf_qaU : PFn.of Tryz.f185 = some Sg.f_qaU := PFn.of_get (by kernel_rfl)
theorem ok_qaU (K : Nat) : Fw.Ok Tryz.prog 185 (Sg.s_qaU K) := Sg.okT (Sg.c_qaU K) Sg.i_qaU ⟨ok_qcU K, ok_qaH K, ok_qbh K, trivial⟩ ⟨⟨Tryz.func179, call_qaG⟩, trivial⟩ ⟨⟨rfl, pf_qaG⟩, trivial⟩ pf_qaU trivial rfl Tryz.func185 call_qaU (fun x => by kernel_rfl) rfl rfl
theorem call_qcb : Callable Tryz.prog 92 := callable_of Tryz.func92 (by kernel_rfl) (by kernel_rfl)
theorem pf_qcb : PFn.of Tryz.f92 = some Sg.f_qcb := PFn.of_get (by kernel_rfl)
theorem ok_qcb (K : Nat) : Fw.Ok Tryz.prog 92 (Sg.s_qcb K) := Sg.okT (Sg.c_qcb K) Sg.i_qcb ⟨ok_qda K, ok_qcu K, ok_qbB K, ok_qcU K, ok_qdd K, ok_qaq K, ok_qaU K, trivial⟩ ⟨⟨Tryz.func179, call_qaG⟩, trivial⟩ ⟨⟨rfl, pf_qaG⟩, trivial⟩ pf_qcb trivial rfl Tryz.func92 call_qcb (fun x => by kernel_rfl) rfl rfl
theorem call_qdc : Callable Tryz.prog 26 := callable_of Tryz.func26 (by kernel_rfl) (by kernel_rfl)
theorem pf_qdc : PFn.of Tryz.f26 = some Sg.f_qdc := PFn.of_get (by kernel_rfl)
theorem ok_qdc (K : Nat) : Fw.Ok Tryz.prog 26 (Sg.s_qdc K) := Sg.okT (Sg.c_qdc K) Sg.i0 ⟨ok_qci K, ok_qde K, ok_qbh K, ok_qcb K, trivial⟩ trivial trivial pf_qdc trivial rfl Tryz.func26 call_qdc (fun x => by kernel_rfl) rfl rfl
theorem call_qcg : Callable Tryz.prog 237 := callable_of Tryz.func237 (by kernel_rfl) (by kernel_rfl)
theorem pf_qcg : PFn.of Tryz.f237 = some Sg.f_qcg := PFn.of_get (by kernel_rfl)
theorem l_qcg_0 (K : Nat) : LoopP (Sg.c_qcg K) Sg.i0 Sg.f_qcg (Sg.p_qcg_0 K) := ⟨fun _ => by kernel_rfl, fun n p => by kernel_rfl⟩
theorem ok_qcg (K : Nat) : Fw.Ok Tryz.prog 237 (Sg.s_qcg K) := Sg.okT (Sg.c_qcg K) Sg.i0 trivial trivial trivial pf_qcg ⟨⟨_, rfl, l_qcg_0 K⟩, trivial⟩ rfl Tryz.func237 call_qcg (fun x => by kernel_rfl) rfl rfl
theorem call_qbQ : Callable Tryz.prog 162 := callable_of Tryz.func162 (by kernel_rfl) (by kernel_rfl)
theorem pf_qbQ : PFn.of Tryz.f162 = some Sg.f_qbQ := PFn.of_get (by kernel_rfl)
theorem ok_qbQ (K : Nat) : Fw.Ok Tryz.prog 162 (Sg.s_qbQ K) := Sg.okT (Sg.c_qbQ K) Sg.i0 trivial trivial trivial pf_qbQ trivial rfl Tryz.func162 call_qbQ (fun x => by kernel_rfl) rfl rfl
theorem call_qbn : Callable Tryz.prog 84 := callable_of Tryz.func84 (by kernel_rfl) (by kernel_rfl)
theorem pf_qbn : PFn.of Tryz.f84 = some Sg.f_qbn := PFn.of_get (by kernel_rfl)
theorem l_qbn_0 (K : Nat) : LoopP (Sg.c_qbn K) Sg.i0 Sg.f_qbn (Sg.p_qbn_0 K) := ⟨fun _ => by kernel_rfl, fun n p => by kernel_rfl⟩
theorem ok_qbn (K : Nat) : Fw.Ok Tryz.prog 84 (Sg.s_qbn K) := Sg.okT (Sg.c_qbn K) Sg.i0 ⟨ok_qbQ K, trivial⟩ trivial trivial pf_qbn ⟨⟨_, rfl, l_qbn_0 K⟩, trivial⟩ rfl Tryz.func84 call_qbn (fun x => by kernel_rfl) rfl rfl
theorem call_qbw : Callable Tryz.prog 159 := callable_of Tryz.func159 (by kernel_rfl) (by kernel_rfl)
theorem pf_qbw : PFn.of Tryz.f159 = some Sg.f_qbw := PFn.of_get (by kernel_rfl)
theorem ok_qbw (K : Nat) : Fw.Ok Tryz.prog 159 (Sg.s_qbw K) := Sg.okT (Sg.c_qbw K) Sg.i0 ⟨ok_qcg K, ok_qbn K, trivial⟩ trivial trivial pf_qbw trivial rfl Tryz.func159 call_qbw (fun x => by kernel_rfl) rfl rfl
theorem call_qbc : Callable Tryz.prog 81 := callable_of Tryz.func81 (by kernel_rfl) (by kernel_rfl)
theorem pf_qbc : PFn.of Tryz.f81 = some Sg.f_qbc := PFn.of_get (by kernel_rfl)
theorem l_qbc_0 (K : Nat) : LoopP (Sg.c_qbc K) Sg.i0 Sg.f_qbc (Sg.p_qbc_0 K) := ⟨fun _ => by kernel_rfl, fun n p => by kernel_rfl⟩
theorem ok_qbc (K : Nat) : Fw.Ok Tryz.prog 81 (Sg.s_qbc K) := Sg.okT (Sg.c_qbc K) Sg.i0 ⟨ok_qbw K, trivial⟩ trivial trivial pf_qbc ⟨⟨_, rfl, l_qbc_0 K⟩, trivial⟩ rfl Tryz.func81 call_qbc (fun x => by kernel_rfl) rfl rfl
theorem call_qcP : Callable Tryz.prog 160 := callable_of Tryz.func160 (by kernel_rfl) (by kernel_rfl)
theorem pf_qcP : PFn.of Tryz.f160 = some Sg.f_qcP := PFn.of_get (by kernel_rfl)
theorem ok_qcP (K : Nat) : Fw.Ok Tryz.prog 160 (Sg.s_qcP K) := Sg.okT (Sg.c_qcP K) Sg.i0 trivial trivial trivial pf_qcP trivial rfl Tryz.func160 call_qcP (fun x => by kernel_rfl) rfl rfl
theorem call_qcF : Callable Tryz.prog 82 := callable_of Tryz.func82 (by kernel_rfl) (by kernel_rfl)
theorem pf_qcF : PFn.of Tryz.f82 = some Sg.f_qcF := PFn.of_get (by kernel_rfl)
theorem l_qcF_0 (K : Nat) : LoopP (Sg.c_qcF K) Sg.i0 Sg.f_qcF (Sg.p_qcF_0 K) := ⟨fun _ => by kernel_rfl, fun n p => by kernel_rfl⟩
theorem ok_qcF (K : Nat) : Fw.Ok Tryz.prog 82 (Sg.s_qcF K) := Sg.okT (Sg.c_qcF K) Sg.i0 ⟨ok_qcP K, trivial⟩ trivial trivial pf_qcF ⟨⟨_, rfl, l_qcF_0 K⟩, trivial⟩ rfl Tryz.func82 call_qcF (fun x => by kernel_rfl) rfl rfl
theorem call_qcA : Callable Tryz.prog 21 := callable_of Tryz.func21 (by kernel_rfl) (by kernel_rfl)
theorem pf_qcA : PFn.of Tryz.f21 = some Sg.f_qcA := PFn.of_get (by kernel_rfl)
theorem ok_qcA (K : Nat) : Fw.Ok Tryz.prog 21 (Sg.s_qcA K) := Sg.okT (Sg.c_qcA K) Sg.i0 ⟨ok_qbc K, ok_qcF K, trivial⟩ trivial trivial pf_qcA trivial rfl Tryz.func21 call_qcA (fun x => by kernel_rfl) rfl rfl
theorem call_qba : Callable Tryz.prog 94 := callable_of Tryz.func94 (by kernel_rfl) (by kernel_rfl)
theorem pf_qba : PFn.of Tryz.f94 = some Sg.f_qba := PFn.of_get (by kernel_rfl)
theorem l_qba_0 (K : Nat) : LoopP (Sg.c_qba K) Sg.i0 Sg.f_qba (Sg.p_qba_0 K) := ⟨fun _ => by kernel_rfl, fun n p => by kernel_rfl⟩
theorem ok_qba (K : Nat) : Fw.Ok Tryz.prog 94 (Sg.s_qba K) := Sg.okT (Sg.c_qba K) Sg.i0 trivial trivial trivial pf_qba ⟨⟨_, rfl, l_qba_0 K⟩, trivial⟩ rfl Tryz.func94 call_qba (fun x => by kernel_rfl) rfl rfl
theorem call_qbs : Callable Tryz.prog 27 := callable_of Tryz.func27 (by kernel_rfl) (by kernel_rfl)
theorem pf_qbs : PFn.of Tryz.f27 = some Sg.f_qbs := PFn.of_get (by kernel_rfl)
theorem ok_qbs (K : Nat) : Fw.Ok Tryz.prog 27 (Sg.s_qbs K) := Sg.okT (Sg.c_qbs K) Sg.i0 ⟨ok_qbn K, ok_qba K, trivial⟩ trivial trivial pf_qbs trivial rfl Tryz.func27 call_qbs (fun x => by kernel_rfl) rfl rfl
theorem call_qcn : Callable Tryz.prog 188 := callable_of Tryz.func188 (by kernel_rfl) (by kernel_rfl)
theorem pf_qcn : PFn.of Tryz.f188 = some Sg.f_qcn := PFn.of_get (by kernel_rfl)
theorem ok_qcn (K : Nat) : Fw.Ok Tryz.prog 188 (Sg.s_qcn K) := Sg.okT (Sg.c_qcn K) Sg.i0 trivial trivial trivial pf_qcn trivial rfl Tryz.func188 call_qcn (fun x => by kernel_rfl) rfl rfl
theorem call_qbL : Callable Tryz.prog 95 := callable_of Tryz.func95 (by kernel_rfl) (by kernel_rfl)
theorem pf_qbL : PFn.of Tryz.f95 = some Sg.f_qbL := PFn.of_get (by kernel_rfl)
theorem l_qbL_0 (K : Nat) : LoopP (Sg.c_qbL K) Sg.i0 Sg.f_qbL (Sg.p_qbL_0 K) := ⟨fun _ => by kernel_rfl, fun n p => by kernel_rfl⟩
theorem ok_qbL (K : Nat) : Fw.Ok Tryz.prog 95 (Sg.s_qbL K) := Sg.okT (Sg.c_qbL K) Sg.i0 ⟨ok_qcn K, trivial⟩ trivial trivial pf_qbL ⟨⟨_, rfl, l_qbL_0 K⟩, trivial⟩ rfl Tryz.func95 call_qbL (fun x => by kernel_rfl) rfl rfl
theorem call_qcZ : Callable Tryz.prog 28 := callable_of Tryz.func28 (by kernel_rfl) (by kernel_rfl)
theorem pf_qcZ : PFn.of Tryz.f28 = some Sg.f_qcZ := PFn.of_get (by kernel_rfl)
theorem ok_qcZ (K : Nat) : Fw.Ok Tryz.prog 28 (Sg.s_qcZ K) := Sg.okT (Sg.c_qcZ K) Sg.i0 ⟨ok_qbL K, trivial⟩ trivial trivial pf_qcZ trivial rfl Tryz.func28 call_qcZ (fun x => by kernel_rfl) rfl rfl
theorem call_qbj : Callable Tryz.prog 189 := callable_of Tryz.func189 (by kernel_rfl) (by kernel_rfl)
theorem pf_qbj : PFn.of Tryz.f189 = some Sg.f_qbj := PFn.of_get (by kernel_rfl)
theorem l_qbj_0 (K : Nat) : LoopP (Sg.c_qbj K) Sg.i0 Sg.f_qbj (Sg.p_qbj_0 K) := ⟨fun _ => by kernel_rfl, fun n p => by kernel_rfl⟩
theorem ok_qbj (K : Nat) : Fw.Ok Tryz.prog 189 (Sg.s_qbj K) := Sg.okT (Sg.c_qbj K) Sg.i0 trivial trivial trivial pf_qbj ⟨⟨_, rfl, l_qbj_0 K⟩, trivial⟩ rfl Tryz.func189 call_qbj (fun x => by kernel_rfl) rfl rfl
theorem call_qbv : Callable Tryz.prog 107 := callable_of Tryz.func107 (by kernel_rfl) (by kernel_rfl)
theorem pf_qbv : PFn.of Tryz.f107 = some Sg.f_qbv := PFn.of_get (by kernel_rfl)
theorem l_qbv_0 (K : Nat) : LoopP (Sg.c_qbv K) Sg.i0 Sg.f_qbv (Sg.p_qbv_0 K) := ⟨fun _ => by kernel_rfl, fun n p => by kernel_rfl⟩
theorem ok_qbv (K : Nat) : Fw.Ok Tryz.prog 107 (Sg.s_qbv K) := Sg.okT (Sg.c_qbv K) Sg.i0 trivial trivial trivial pf_qbv ⟨⟨_, rfl, l_qbv_0 K⟩, trivial⟩ rfl Tryz.func107 call_qbv (fun x => by kernel_rfl) rfl rfl
theorem call_qaR : Callable Tryz.prog 100 := callable_of Tryz.func100 (by kernel_rfl) (by kernel_rfl)
theorem pf_qaR : PFn.of Tryz.f100 = some Sg.f_qaR := PFn.of_get (by kernel_rfl)
theorem l_qaR_0 (K : Nat) : LoopP (Sg.c_qaR K) Sg.i0 Sg.f_qaR (Sg.p_qaR_0 K) := ⟨fun _ => by kernel_rfl, fun n p => by kernel_rfl⟩
theorem ok_qaR (K : Nat) : Fw.Ok Tryz.prog 100 (Sg.s_qaR K) := Sg.okT (Sg.c_qaR K) Sg.i0 ⟨ok_qbv K, trivial⟩ trivial trivial pf_qaR ⟨⟨_, rfl, l_qaR_0 K⟩, trivial⟩ rfl Tryz.func100 call_qaR (fun x => by kernel_rfl) rfl rfl
theorem call_qaK : Callable Tryz.prog 96 := callable_of Tryz.func96 (by kernel_rfl) (by kernel_rfl)
theorem pf_qaK : PFn.of Tryz.f96 = some Sg.f_qaK := PFn.of_get (by kernel_rfl)
theorem l_qaK_0 (K : Nat) : LoopP (Sg.c_qaK K) Sg.i0 Sg.f_qaK (Sg.p_qaK_0 K) := ⟨fun _ => by kernel_rfl, fun n p => by kernel_rfl⟩
theorem ok_qaK (K : Nat) : Fw.Ok Tryz.prog 96 (Sg.s_qaK K) := Sg.okT (Sg.c_qaK K) Sg.i0 ⟨ok_qbj K, ok_qaR K, trivial⟩ trivial trivial pf_qaK ⟨⟨_, rfl, l_qaK_0 K⟩, trivial⟩ rfl Tryz.func96 call_qaK (fun x => by kernel_rfl) rfl rfl
theorem call_qbz : Callable Tryz.prog 97 := callable_of Tryz.func97 (by kernel_rfl) (by kernel_rfl)
theorem pf_qbz : PFn.of Tryz.f97 = some Sg.f_qbz := PFn.of_get (by kernel_rfl)
theorem l_qbz_0 (K : Nat) : LoopP (Sg.c_qbz K) Sg.i0 Sg.f_qbz (Sg.p_qbz_0 K) := ⟨fun _ => by kernel_rfl, fun n p => by kernel_rfl⟩
theorem ok_qbz (K : Nat) : Fw.Ok Tryz.prog 97 (Sg.s_qbz K) := Sg.okT (Sg.c_qbz K) Sg.i0 ⟨ok_qbv K, trivial⟩ trivial trivial pf_qbz ⟨⟨_, rfl, l_qbz_0 K⟩, trivial⟩ rfl Tryz.func97 call_qbz (fun x => by kernel_rfl) rfl rfl
theorem call_qbm : Callable Tryz.prog 29 := callable_of Tryz.func29 (by kernel_rfl) (by kernel_rfl)
theorem pf_qbm : PFn.of Tryz.f29 = some Sg.f_qbm := PFn.of_get (by kernel_rfl)
theorem ok_qbm (K : Nat) : Fw.Ok Tryz.prog 29 (Sg.s_qbm K) := Sg.okT (Sg.c_qbm K) Sg.i0 ⟨ok_qaK K, ok_qbz K, trivial⟩ trivial trivial pf_qbm trivial rfl Tryz.func29 call_qbm (fun x => by kernel_rfl) rfl rfl
theorem call_qbd : Callable Tryz.prog 98 := callable_of Tryz.func98 (by kernel_rfl) (by kernel_rfl)
theorem pf_qbd : PFn.of Tryz.f98 = some Sg.f_qbd := PFn.of_get (by kernel_rfl)
theorem l_qbd_0 (K : Nat) : LoopP (Sg.c_qbd K) Sg.i0 Sg.f_qbd (Sg.p_qbd_0 K) := ⟨fun _ => by kernel_rfl, fun n p => by kernel_rfl⟩
theorem ok_qbd (K : Nat) : Fw.Ok Tryz.prog 98 (Sg.s_qbd K) := Sg.okT (Sg.c_qbd K) Sg.i0 ⟨ok_qbv K, trivial⟩ trivial trivial pf_qbd ⟨⟨_, rfl, l_qbd_0 K⟩, trivial⟩ rfl Tryz.func98 call_qbd (fun x => by kernel_rfl) rfl rfl
theorem call_qcm : Callable Tryz.prog 30 := callable_of Tryz.func30 (by kernel_rfl) (by kernel_rfl)
theorem pf_qcm : PFn.of Tryz.f30 = some Sg.f_qcm := PFn.of_get (by kernel_rfl)
theorem ok_qcm (K : Nat) : Fw.Ok Tryz.prog 30 (Sg.s_qcm K) := Sg.okT (Sg.c_qcm K) Sg.i0 ⟨ok_qbd K, trivial⟩ trivial trivial pf_qcm trivial rfl Tryz.func30 call_qcm (fun x => by kernel_rfl) rfl rfl
theorem call_qaE : Callable Tryz.prog 99 := callable_of Tryz.func99 (by kernel_rfl) (by kernel_rfl)
theorem pf_qaE : PFn.of Tryz.f99 = some Sg.f_qaE := PFn.of_get (by kernel_rfl)
theorem l_qaE_0 (K : Nat) : LoopP (Sg.c_qaE K) Sg.i0 Sg.f_qaE (Sg.p_qaE_0 K) := ⟨fun _ => by kernel_rfl, fun n p => by kernel_rfl⟩
theorem ok_qaE (K : Nat) : Fw.Ok Tryz.prog 99 (Sg.s_qaE K) := Sg.okT (Sg.c_qaE K) Sg.i0 ⟨ok_qbv K, trivial⟩ trivial trivial pf_qaE ⟨⟨_, rfl, l_qaE_0 K⟩, trivial⟩ rfl Tryz.func99 call_qaE (fun x => by kernel_rfl) rfl rfl
theorem call_qaQ : Callable Tryz.prog 31 := callable_of Tryz.func31 (by kernel_rfl) (by kernel_rfl)
theorem pf_qaQ : PFn.of Tryz.f31 = some Sg.f_qaQ := PFn.of_get (by kernel_rfl)
theorem ok_qaQ (K : Nat) : Fw.Ok Tryz.prog 31 (Sg.s_qaQ K) := Sg.okT (Sg.c_qaQ K) Sg.i0 ⟨ok_qaR K, ok_qaE K, trivial⟩ trivial trivial pf_qaQ trivial rfl Tryz.func31 call_qaQ (fun x => by kernel_rfl) rfl rfl
theorem call_qbr : Callable Tryz.prog 190 := callable_of Tryz.func190 (by kernel_rfl) (by kernel_rfl)
theorem pf_qbr : PFn.of Tryz.f190 = some Sg.f_qbr := PFn.of_get (by kernel_rfl)
theorem l_qbr_0 (K : Nat) : LoopP (Sg.c_qbr K) Sg.i0 Sg.f_qbr (Sg.p_qbr_0 K) := ⟨fun _ => by kernel_rfl, fun n p => by kernel_rfl⟩
theorem ok_qbr (K : Nat) : Fw.Ok Tryz.prog 190 (Sg.s_qbr K) := Sg.okT (Sg.c_qbr K) Sg.i0 trivial trivial trivial pf_qbr ⟨⟨_, rfl, l_qbr_0 K⟩, trivial⟩ rfl Tryz.func190 call_qbr (fun x => by kernel_rfl) rfl rfl
theorem call_qaS : Callable Tryz.prog 104 := callable_of Tryz.func104 (by kernel_rfl) (by kernel_rfl)
theorem pf_qaS : PFn.of Tryz.f104 = some Sg.f_qaS := PFn.of_get (by kernel_rfl)
theorem l_qaS_0 (K : Nat) : LoopP (Sg.c_qaS K) Sg.i0 Sg.f_qaS (Sg.p_qaS_0 K) := ⟨fun _ => by kernel_rfl, fun n p => by kernel_rfl⟩
theorem ok_qaS (K : Nat) : Fw.Ok Tryz.prog 104 (Sg.s_qaS K) := Sg.okT (Sg.c_qaS K) Sg.i0 ⟨ok_qbv K, trivial⟩ trivial trivial pf_qaS ⟨⟨_, rfl, l_qaS_0 K⟩, trivial⟩ rfl Tryz.func104 call_qaS (fun x => by kernel_rfl) rfl rfl
theorem call_qaI : Callable Tryz.prog 101 := callable_of Tryz.func101 (by kernel_rfl) (by kernel_rfl)
theorem pf_qaI : PFn.of Tryz.f101 = some Sg.f_qaI := PFn.of_get (by kernel_rfl)
theorem l_qaI_0 (K : Nat) : LoopP (Sg.c_qaI K) Sg.i0 Sg.f_qaI (Sg.p_qaI_0 K) := ⟨fun _ => by kernel_rfl, fun n p => by kernel_rfl⟩
theorem ok_qaI (K : Nat) : Fw.Ok Tryz.prog 101 (Sg.s_qaI K) := Sg.okT (Sg.c_qaI K) Sg.i0 ⟨ok_qbr K, ok_qaS K, trivial⟩ trivial trivial pf_qaI ⟨⟨_, rfl, l_qaI_0 K⟩, trivial⟩ rfl Tryz.func101 call_qaI (fun x => by kernel_rfl) rfl rfl
theorem call_qbo : Callable Tryz.prog 102 := callable_of Tryz.func102 (by kernel_rfl) (by kernel_rfl)
theorem pf_qbo : PFn.of Tryz.f102 = some Sg.f_qbo := PFn.of_get (by kernel_rfl)
theorem l_qbo_0 (K : Nat) : LoopP (Sg.c_qbo K) Sg.i0 Sg.f_qbo (Sg.p_qbo_0 K) := ⟨fun _ => by kernel_rfl, fun n p => by kernel_rfl⟩
theorem ok_qbo (K : Nat) : Fw.Ok Tryz.prog 102 (Sg.s_qbo K) := Sg.okT (Sg.c_qbo K) Sg.i0 ⟨ok_qbv K, trivial⟩ trivial trivial pf_qbo ⟨⟨_, rfl, l_qbo_0 K⟩, trivial⟩ rfl Tryz.func102 call_qbo (fun x => by kernel_rfl) rfl rfl
theorem call_qby : Callable Tryz.prog 32 := callable_of Tryz.func32 (by kernel_rfl) (by kernel_rfl)
theorem pf_qby : PFn.of Tryz.f32 = some Sg.f_qby := PFn.of_get (by kernel_rfl)
theorem ok_qby (K : Nat) : Fw.Ok Tryz.prog 32 (Sg.s_qby K) := Sg.okT (Sg.c_qby K) Sg.i0 ⟨ok_qaI K, ok_qbo K, trivial⟩ trivial trivial pf_qby trivial rfl Tryz.func32 call_qby (fun x => by kernel_rfl) rfl rfl
theorem call_qaF : Callable Tryz.prog 103 := callable_of Tryz.func103 (by kernel_rfl) (by kernel_rfl)
theorem pf_qaF : PFn.of Tryz.f103 = some Sg.f_qaF := PFn.of_get (by kernel_rfl)
theorem l_qaF_0 (K : Nat) : LoopP (Sg.c_qaF K) Sg.i0 Sg.f_qaF (Sg.p_qaF_0 K) := ⟨fun _ => by kernel_rfl, fun n p => by kernel_rfl⟩
theorem ok_qaF (K : Nat) : Fw.Ok Tryz.prog 103 (Sg.s_qaF K) := Sg.okT (Sg.c_qaF K) Sg.i0 ⟨ok_qbv K, trivial⟩ trivial trivial pf_qaF ⟨⟨_, rfl, l_qaF_0 K⟩, trivial⟩ rfl Tryz.func103 call_qaF (fun x => by kernel_rfl) rfl rfl
theorem call_qaT : Callable Tryz.prog 33 := callable_of Tryz.func33 (by kernel_rfl) (by kernel_rfl)
theorem pf_qaT : PFn.of Tryz.f33 = some Sg.f_qaT := PFn.of_get (by kernel_rfl)
theorem ok_qaT (K : Nat) : Fw.Ok Tryz.prog 33 (Sg.s_qaT K) := Sg.okT (Sg.c_qaT K) Sg.i0 ⟨ok_qaS K, ok_qaF K, trivial⟩ trivial trivial pf_qaT trivial rfl Tryz.func33 call_qaT (fun x => by kernel_rfl) rfl rfl
theorem call_laws_FnExactDoOp : Callable Tryz.prog 4 := callable_of Tryz.func4 (by kernel_rfl) (by kernel_rfl)
theorem pf_laws_FnExactDoOp : PFn.of Tryz.f4 = some Sg.f_laws_FnExactDoOp := PFn.of_get (by kernel_rfl)
theorem ok_laws_FnExactDoOp (K : Nat) : Fw.Ok Tryz.prog 4 (Sg.s_laws_FnExactDoOp K) := Sg.okT (Sg.c_laws_FnExactDoOp K) Sg.i0 ⟨ok_qcj K, ok_qdh K, ok_qco K, ok_qdg K, ok_qdf K, ok_qdc K, ok_qcA K, ok_qbs K, ok_qcZ K, ok_qbm K, ok_qcm K, ok_qaQ K, ok_qby K, ok_qaT K, trivial⟩ trivial trivial pf_laws_FnExactDoOp trivial rfl Tryz.func4 call_laws_FnExactDoOp (fun x => by kernel_rfl) rfl rfl
end Go.Proofs
