/- For all arguments that lie in memory: a call of foregonelaw37.CkptTorn returns true, and all memory that was there stays as it was. No conditions. -/
import Derived.Test.YtmnbopcehmcaeaaGreatDoorTCpOpen
import Derived.Test.YtmnbopcehmcaeaaGreatDoorTRunG
namespace Go.X
open Go
theorem orc_of {P : Program} {m : TypeId → String → Option FuncId} {srt : FuncId → Option (FuncId × TypeId)} {orcs : FuncId → Option Tab} {f : FuncId} {g : Tab} (h : (fnOf P (trieOf P) f).isSome = true) (hs : srt f = none) (ho : orcs f = some g) : ∃ b r, (envOf P m srt orcs).fn f = some (.orc g b r) := by
  cases hf : fnOf P (trieOf P) f with
  | none => rw [hf] at h; simp at h
  | some x =>
    obtain ⟨fn, _, h2⟩ := fnOf_some hf
    obtain ⟨b, r, rfl⟩ := copFun_code h2
    exact ⟨b, r, by simp only [envOf, hf, hs, ho, withOrc]⟩
def isU (o : Option AV) (n : Nat) : Bool := match o with | some (.int .u64 (.ofNat m)) => Nat.beq m n | _ => false
theorem isU_of {o : Option AV} {n : Nat} (h : isU o n = true) : o = some (.int .u64 (.ofNat n)) := by
  unfold isU at h
  split at h
  · rw [Nat.eq_of_beq_eq_true h]
  · simp at h
end Go.X
namespace Go.Proofs.YtmnbopcehmcaeaaGreatDoor
open Go Go.Proofs Go.X
noncomputable def KS : List (FuncId × Tab) := [(5, T5_0), (93, T93_0), (209, T209_0), (210, T210_0), (211, M211_9), (212, M212_3)]
theorem ks : ∀ q ∈ KS, OrcOK Tryz.prog q.1 q.2 := by
  unfold KS
  exact List.forall_mem_cons.2 ⟨oT5_0, List.forall_mem_cons.2 ⟨oT93_0, List.forall_mem_cons.2 ⟨oT209_0, List.forall_mem_cons.2 ⟨oT210_0, List.forall_mem_cons.2 ⟨oM211_9, List.forall_mem_cons.2 ⟨oM212_3, by simp⟩⟩⟩⟩⟩⟩
noncomputable def ES : XEnv := envOf Tryz.prog (methOf Tryz.prog) (fun _ => none) (tabOf KS)
theorem eS : EnvOK Tryz.prog ES := envP_ok srtOK_none (tabOf_ok ks)
theorem row_calls {f : FuncId} {g : Tab} {args : List AV} {v : AV} (h1 : (fnOf Tryz.prog (trieOf Tryz.prog) f).isSome = true) (h2 : tabOf KS f = some g) (h3 : seekV g (Go.X.keyOf args) args = some v) (h : Heap) : CallT ES (.func f [] []) args h fun r h' => r = v ∧ h' = h := by
  obtain ⟨b, r, hf⟩ := orc_of (m := methOf Tryz.prog) (srt := fun _ => none) (orcs := tabOf KS) (g := g) h1 rfl h2
  exact CallT.row (t := g) hf (v := v) (h' := h) (fun k n => seekV_ok h3 h k n) ⟨rfl, rfl⟩
set_option maxRecDepth 100000 in
theorem sane_calls (h : Heap) : CallT ES (.func n_sane [] []) [] h fun r h' => r = .bool true ∧ h' = h := by
  obtain ⟨b, r, hf⟩ := orc_of (m := methOf Tryz.prog) (srt := fun _ => none) (orcs := tabOf KS) (f := n_sane) (g := T5_0) (by kernel_rfl) rfl (by kernel_rfl)
  exact CallT.row (t := T5_0) hf (v := .bool true) (h' := h) (fun k n => by kernel_rfl) ⟨rfl, rfl⟩
theorem modAll : allUpto (fun i => isU (seekV M212_3 (Go.X.keyOf [.int .u64 (.ofNat i), .int .u64 (.ofNat 9223372036854775811)]) [.int .u64 (.ofNat i), .int .u64 (.ofNat 9223372036854775811)]) i) 256 = true := by kernel_rfl
theorem timesAll : allUpto (fun i => isU (seekV M211_9 (Go.X.keyOf [.int .u64 (.ofNat 9223372036854775811), .int .u64 (.ofNat i), .int .u64 (.ofNat 3)]) [.int .u64 (.ofNat 9223372036854775811), .int .u64 (.ofNat i), .int .u64 (.ofNat 3)]) (tbl63.getD i 0)) 256 = true := by kernel_rfl
theorem isMod : (fnOf Tryz.prog (trieOf Tryz.prog) n_mod).isSome = true := by kernel_rfl
theorem isTimes : (fnOf Tryz.prog (trieOf Tryz.prog) n_times).isSome = true := by kernel_rfl
theorem tabMod : tabOf KS n_mod = some M212_3 := by kernel_rfl
theorem tabTimes : tabOf KS n_times = some M211_9 := by kernel_rfl
theorem fin : Fin ES 9223372036854775811 3 tbl63 where
  poly := row_calls (g := T93_0) (v := .tuple [.int .u64 (.ofNat 9223372036854775811), .int .i64 0]) (by kernel_rfl) (by kernel_rfl) (by kernel_rfl)
  degree := row_calls (g := T209_0) (v := .int .i64 63) (by kernel_rfl) (by kernel_rfl) (by kernel_rfl)
  power := row_calls (g := T210_0) (v := .int .u64 (.ofNat 3)) (by kernel_rfl) (by kernel_rfl) (by kernel_rfl)
  mod := fun i hi => row_calls isMod tabMod (isU_of (allUpto_ok modAll i hi))
  times := fun i hi => row_calls isTimes tabTimes (isU_of (allUpto_ok timesAll i hi))
  ok := tbl63_ok
  len := tbl63_len
theorem fn_law : ES.fn n_law = some (.code c_law r_law) := by kernel_rfl
theorem fn_torn : ES.fn n_torn = some (.code c_torn r_torn) := by kernel_rfl
theorem fn_frame : ES.fn n_frame = some (.code c_frame r_frame) := by kernel_rfl
theorem fn_equal : ES.fn n_equal = some (.code c_equal r_equal) := by kernel_rfl
theorem fn_concat : ES.fn n_concat = some (.code c_concat r_concat) := by kernel_rfl
theorem fn_clone : ES.fn n_clone = some (.code c_clone r_clone) := by kernel_rfl
theorem fn_grow : ES.fn n_grow = some (.code c_grow r_grow) := by kernel_rfl
theorem fn_placed : ES.fn n_placed = some (.code c_placed r_placed) := by kernel_rfl
theorem fn_sealed : ES.fn n_sealed = some (.code c_sealed r_sealed) := by kernel_rfl
theorem fn_unframe : ES.fn n_unframe = some (.code c_unframe r_unframe) := by kernel_rfl
theorem fn_of : ES.fn n_of = some (.code c_of r_of) := by kernel_rfl
theorem fn_clip : ES.fn n_clip = some (.code c_clip r_clip) := by kernel_rfl
theorem fn_cutPrefix : ES.fn n_cutPrefix = some (.code c_cutPrefix r_cutPrefix) := by kernel_rfl
theorem fn_taken : ES.fn n_taken = some (.code c_taken r_taken) := by kernel_rfl
theorem fn_bclone : ES.fn n_bclone = some (.code c_bclone r_bclone) := by kernel_rfl
theorem fn_isPoly : ES.fn n_isPoly = some (.code c_isPoly r_isPoly) := by kernel_rfl
theorem fn_newMachine : ES.fn n_newMachine = some (.code c_newMachine r_newMachine) := by kernel_rfl
theorem fn_on : ES.fn n_on = some (.code c_on r_on) := by kernel_rfl
theorem fn_hasPrefix : ES.fn n_hasPrefix = some (.code c_hasPrefix r_hasPrefix) := by kernel_rfl
theorem code : Go.X.Code ES := ⟨fn_law, fn_torn, fn_frame, fn_equal, fn_concat, fn_clone, fn_grow, fn_placed, fn_sealed, fn_unframe, fn_of, fn_clip, fn_cutPrefix, fn_taken, fn_bclone, fn_isPoly, fn_newMachine, fn_on, fn_hasPrefix⟩
theorem law_here {z z2 zat : Int} {by0 : Nat} {p s t : List Nat} {nl1 fu1 nl2 fu2 nl3 fu3 : Bool} (hp : ∀ b ∈ p, b < 256) (hs : ∀ b ∈ s, b < 256) (ht : ∀ b ∈ t, b < 256) (hby : by0 < 256) (hlp : p.length ≤ maxN) (hls : s.length ≤ maxN) (w : World) (A : Array Value)
    (hA : VRl (Kp.all w) [.int .i64 z, slAV nl1 fu1 p.length (avBytes p), .int .i64 z2, slAV nl2 fu2 s.length (avBytes s), .int .i64 zat, .int .u8 (.ofNat by0), slAV nl3 fu3 t.length (avBytes t)] A.toList) :
    Calls Tryz.prog 4 A w fun e w' => e = .returned (.bool true) ∧ ∃ κ' h', Ext Tryz.prog (Kp.all w) ⟨.first, .leaf⟩ w κ' h' w' :=
  law_calls hmix eS fin code sane_calls hp hs ht hby hlp hls w A hA
end Go.Proofs.YtmnbopcehmcaeaaGreatDoor
