/- Reading a formula out of memory: whatever reads as data of its type lies there as a tree. -/
import Derived.Test.YtmnbopcehmcaeaaGreatDoorTCpWp
import Derived.ChangeArms
import Derived.Deep.Slices
import Derived.Test.YtmnbopcehmcaeaaGreatDoorTXxMain
import Derived.Test.YtmnbopcehmcaeaaGreatDoorTCt4
import Derived.ChangeShapes
namespace Go.X
open Go
def Kp.all (w : World) : Kp := ⟨fun _ => none, fun b => w.heap[b]?⟩
theorem VRl.app {κ : Kp} : ∀ {a : List AV} {x : List Value} {b : List AV} {y : List Value}, VRl κ a x → VRl κ b y → VRl κ (a ++ b) (x ++ y)
  | [], x, b, y, h, h' => by simp only [VRl] at h; subst h; exact h'
  | c :: a, x, b, y, h, h' => by
    simp only [VRl] at h
    obtain ⟨v, r, rfl, h1, h2⟩ := h
    simp only [List.cons_append, VRl]
    exact ⟨v, r ++ y, rfl, h1, VRl.app h2 h'⟩
theorem VRl.one {κ : Kp} {a : AV} {v : Value} (h : VR κ a v) : VRl κ [a] [v] := by simp only [VRl]; exact ⟨v, [], rfl, h, rfl⟩
theorem VRm.append {κ : Kp} : ∀ {a b : List AV} {g : Nat → Option Value}, VRm κ a g → VRm κ b (fun i => g (a.length + i)) → VRm κ (a ++ b) g
  | [], b, g, _, h' => by simpa using h'
  | c :: a, b, g, h, h' => by
    simp only [VRm, List.cons_append] at h ⊢
    refine ⟨h.1, VRm.append h.2 ?_⟩
    have : (fun i => g ((c :: a).length + i)) = fun i => g (a.length + i + 1) := by funext i; congr 1; simp; omega
    rw [this] at h'
    exact h'
theorem VRm.of {κ : Kp} : ∀ {a : List AV} {x : List Value} {g : Nat → Option Value}, VRl κ a x → a.all AV.one = true → (∀ i, i < x.length → g i = x[i]?) → VRm κ a g
  | [], x, g, _, _, _ => by simp only [VRm]
  | c :: a, x, g, h, ho, hg => by
    simp only [VRl] at h
    obtain ⟨v, r, rfl, h1, h2⟩ := h
    simp only [List.all_cons, Bool.and_eq_true] at ho
    simp only [VRm]
    refine ⟨⟨v, by rw [hg 0 (by simp)]; rfl, ho.1, h1⟩, VRm.of h2 ho.2 fun i hi => ?_⟩
    rw [hg (i + 1) (by simpa using hi)]; rfl
theorem list_of {α : Type} {q : Nat → α → Prop} : ∀ (n : Nat), (∀ i, i < n → ∃ t, q i t) → ∃ l : List α, l.length = n ∧ ∀ i (h : i < l.length), q i l[i]
  | 0, _ => ⟨[], rfl, fun i h => absurd h (Nat.not_lt_zero _)⟩
  | n + 1, h => by
    obtain ⟨l, hl, hq⟩ := list_of n fun i hi => h i (by omega)
    obtain ⟨t, ht⟩ := h n (by omega)
    refine ⟨l ++ [t], by simp [hl], fun i hi => ?_⟩
    simp only [List.length_append, List.length_cons, List.length_nil] at hi
    rcases Nat.lt_or_ge i l.length with h1 | h1
    · rw [List.getElem_append_left h1]; exact hq i h1
    · have : i = n := by omega
      subst this
      rw [List.getElem_append_right h1]
      simp [hl, ht]
section
variable {H : Type} {enc : TypeId × Value → H} {P : Program} {W : World} {sp : Nat → Bool} {held : Bool}
theorem cells_of {base : Nat} {a : Addr} {n : Nat} {cs : List Value} (h : W.cells? base a n = some cs) : cs.length = n ∧ ∀ i, i < n → W.cell? (a.add i) = cs[i]? := by
  unfold World.cells? at h
  split at h
  · refine ⟨by simpa using mapM_some_length h, fun i hi => ?_⟩
    exact mapM_some_get h i i (by simp [hi])
  · simp at h
theorem VRm_flat {κ : Kp} {α : Type} {f : α → List AV} {k : Nat} (hf : ∀ t, (f t).length = k) : ∀ (l : List α) (g : Nat → Option Value), (∀ i (h : i < l.length), VRm κ (f l[i]) (fun j => g (i * k + j))) → VRm κ (l.flatMap f) g
  | [], g, _ => by simp only [List.flatMap_nil, VRm]
  | t :: l, g, h => by
    rw [List.flatMap_cons]
    have h0 := h 0 (by simp)
    simp only [Nat.zero_mul, Nat.zero_add] at h0
    refine VRm.append h0 (VRm_flat hf l _ fun i hi => ?_)
    have := h (i + 1) (by simpa using hi)
    simp only [List.getElem_cons_succ] at this
    rw [hf]
    have e : (fun j => g (k + (i * k + j))) = fun j => g ((i + 1) * k + j) := by funext j; congr 1; rw [Nat.succ_mul]; omega
    rw [e]
    exact this
theorem open_sl {α : Type} {f : α → List AV} {k : Nat} {okA : α → Prop} (hf : ∀ t, (f t).length = k) (hk : 0 < k) (h1 : ∀ t, (f t).all AV.one = true) {t e : TypeId} {fuel : Nat} {cs : List Value} {x : DataW H × List MemPlace} (ht : P.underlying t = some (.slice e)) (hc : P.cellsOf e = k)
    (hel : ∀ n cs x, n < fuel → DataW.trod enc P W 0 sp held n e cs = some x → ∃ τ : α, okA τ ∧ VRl (Kp.all W) (f τ) cs) (h : DataW.trod enc P W 0 sp held fuel t cs = some x) :
    ∃ (nl fu : Bool) (l : List α), l.length ≤ maxN ∧ (∀ τ ∈ l, okA τ) ∧ VRl (Kp.all W) [slAV nl fu l.length (l.flatMap f)] cs := by
  rcases DataW.trod_slice ht h with ⟨rfl, _⟩ | ⟨a, len, cap, elems, rest, n, rfl, rfl, _, _, hl, hm, hlen, hx, _, _⟩
  · refine ⟨true, true, [], Nat.zero_le _, by simp, VRl.one ?_⟩
    show VR _ .nilslice _
    simp only [VR]
  · rw [hc] at hx
    have key : ∀ i, i < len → ∃ τ : α, okA τ ∧ ∃ cs', W.cells? 0 (a.add (i * k)) k = some cs' ∧ VRl (Kp.all W) (f τ) cs' := by
      intro i hi
      have := hx i hi
      rw [List.getElem?_eq_getElem (by omega), Option.bind_eq_some_iff] at this
      obtain ⟨cs', h2, h3⟩ := this
      obtain ⟨τ, h4, h5⟩ := hel n cs' _ (by omega) h3
      exact ⟨τ, h4, cs', h2, h5⟩
    obtain ⟨l, hll, hq⟩ := list_of len key
    refine ⟨false, decide (cap = len), l, by have : maxLen = maxN := rfl; omega, fun τ m => ?_, VRl.one ?_⟩
    · obtain ⟨i, hi, rfl⟩ := List.mem_iff_getElem.1 m
      exact (hq i hi).1
    · have e : slAV false (decide (cap = len)) l.length (l.flatMap f) = .imm (l.flatMap f) l.length (decide (cap = len)) := by cases l.length <;> rfl
      rw [e]
      simp only [VR]
      refine ⟨a, cap, by rw [hll], by omega, fun hd => by rw [hll]; exact of_decide_eq_true hd, ?_⟩
      rcases Nat.eq_zero_or_pos l.length with h0 | h0
      · exact .inr (.inl h0)
      · right; right
        obtain ⟨_, cs0, hcs0, hv0⟩ := hq 0 h0
        obtain ⟨hn0, hcell0⟩ := cells_of hcs0
        have hc0 := hcell0 0 hk
        rw [List.getElem?_eq_getElem (by omega)] at hc0
        have ea : ((a.add (0 * k)).add 0) = a := by simp [Addr.add]
        rw [ea] at hc0
        unfold World.cell? at hc0
        split at hc0
        · rename_i arr ty fr hh
          by_cases hsp : a.spot.isSome
          · simp [hsp] at hc0
          · have hspn : a.spot = none := by cases hs : a.spot with | none => rfl | some _ => simp [hs] at hsp
            refine ⟨hspn, arr, ty, fr, hh, VRm_flat hf l _ fun i hi => ?_⟩
            obtain ⟨_, cs', hcs, hv⟩ := hq i hi
            obtain ⟨hn, hcell⟩ := cells_of hcs
            refine VRm.of hv (h1 _) fun j hj => ?_
            rw [← hcell j (by omega)]
            have eb : (a.add (i * k)).add j = a.add (i * k + j) := Deep.add_add a _ _
            rw [eb]
            by_cases hz : i * k + j = 0
            · rw [hz]; simp [World.cell?, Addr.add, hh, hspn]
            · rw [Addr.add, if_neg hz]
              simp only [World.cell?, hh]
              rfl
        · simp at hc0
theorem one_int {k : IntKind} {n : Int} : (AV.int k n).one = true := rfl
theorem one_bool {b : Bool} : (AV.bool b).one = true := rfl
theorem one_str {l : List Nat} : (AV.str l).one = true := rfl
theorem DV.all_one (t : DV) : t.cells.all AV.one = true := by cases t; simp only [DV.cells, List.all_cons, List.all_nil, sl_one, one_int, one_bool, one_str, Bool.and_true]
theorem DE.all_one (t : DE) : t.cells.all AV.one = true := by cases t; simp only [DE.cells, List.all_append, List.all_cons, List.all_nil, DV.all_one, sl_one, one_int, Bool.and_true]
theorem DT.all_one (t : DT) : t.cells.all AV.one = true := by cases t; simp only [DT.cells, List.all_append, List.all_cons, List.all_nil, DE.all_one, sl_one, one_int, Bool.and_true]
theorem DV.okL_of : ∀ {l : List DV}, (∀ t ∈ l, t.ok) → DV.okL l
  | [], _ => trivial
  | t :: l, h => ⟨h t (by simp), DV.okL_of fun x m => h x (by simp [m])⟩
theorem DE.okL_of : ∀ {l : List DE}, (∀ t ∈ l, t.ok) → DE.okL l
  | [], _ => trivial
  | t :: l, h => ⟨h t (by simp), DE.okL_of fun x m => h x (by simp [m])⟩
theorem DT.okL_of : ∀ {l : List DT}, (∀ t ∈ l, t.ok) → DT.okL l
  | [], _ => trivial
  | t :: l, h => ⟨h t (by simp), DT.okL_of fun x m => h x (by simp [m])⟩
/-! ### the types -/
structure Types (P : Program) (tI tB tS tIs tSs tZ tV tVs tE tEs tT tTs : TypeId) : Prop where
  i : P.underlying tI = some (.int .i64)
  b : P.underlying tB = some .bool
  s : P.underlying tS = some .string
  is : P.underlying tIs = some (.slice tI)
  ss : P.underlying tSs = some (.slice tS)
  vs : P.underlying tVs = some (.slice tV)
  es : P.underlying tEs = some (.slice tE)
  ts : P.underlying tTs = some (.slice tT)
  z : ∃ fs, P.underlying tZ = some (.struct fs) ∧ fs.toList.map (fun f => (f.type, f.offset)) = [(tB, 0), (tIs, 1)]
  v : ∃ fs, P.underlying tV = some (.struct fs) ∧ fs.toList.map (fun f => (f.type, f.offset)) = [(tI, 0), (tI, 1), (tZ, 2), (tS, 4), (tVs, 5), (tVs, 6)]
  e : ∃ fs, P.underlying tE = some (.struct fs) ∧ fs.toList.map (fun f => (f.type, f.offset)) = [(tI, 0), (tI, 1), (tSs, 2), (tV, 3), (tEs, 10)]
  t : ∃ fs, P.underlying tT = some (.struct fs) ∧ fs.toList.map (fun f => (f.type, f.offset)) = [(tI, 0), (tE, 1), (tE, 12), (tTs, 23)]
  ci : P.cellsOf tI = 1
  cb : P.cellsOf tB = 1
  cs : P.cellsOf tS = 1
  cis : P.cellsOf tIs = 1
  css : P.cellsOf tSs = 1
  cvs : P.cellsOf tVs = 1
  ces : P.cellsOf tEs = 1
  cts : P.cellsOf tTs = 1
  cz : P.cellsOf tZ = 2
  cv : P.cellsOf tV = 7
  ce : P.cellsOf tE = 11
  ct : P.cellsOf tT = 24
variable {tI tB tS tIs tSs tZ tV tVs tE tEs tT tTs : TypeId} (T : Types P tI tB tS tIs tSs tZ tV tVs tE tEs tT tTs)
include T
theorem open_int {n : Nat} {cs : List Value} {x : DataW H × List MemPlace} (h : DataW.trod enc P W 0 sp held n tI cs = some x) : ∃ k : Int, VRl (Kp.all W) [.int .i64 k] cs := by
  obtain ⟨k, rfl, _, _⟩ := DataW.trod_int T.i h
  exact ⟨k, VRl.one (by simp only [VR])⟩
end
end Go.X

/- Reading the law's arguments out of memory; from a run of X to the model. -/
namespace Go.X
open Go
def byteC (b : Nat) : List AV := [.int .u8 (.ofNat b)]
theorem flat_byteC : ∀ l : List Nat, l.flatMap byteC = avBytes l
  | [] => rfl
  | b :: l => by rw [List.flatMap_cons, flat_byteC l]; rfl
section
variable {H : Type} {enc : TypeId × Value → H} {P : Program} {W : World} {sp : Nat → Bool} {held : Bool}
theorem open_bytes {t e : TypeId} {fuel : Nat} {cs : List Value} {x : DataW H × List MemPlace} (ht : P.underlying t = some (.slice e)) (he : P.underlying e = some (.int .u8)) (hc : P.cellsOf e = 1) (h : DataW.trod enc P W 0 sp held fuel t cs = some x) :
    ∃ (nl fu : Bool) (l : List Nat), l.length ≤ maxN ∧ (∀ b ∈ l, b < 256) ∧ VRl (Kp.all W) [slAV nl fu l.length (avBytes l)] cs := by
  obtain ⟨nl, fu, l, h1, h2, h3⟩ := open_sl (f := byteC) (okA := fun b => b < 256) (fun _ => rfl) (Nat.le_refl 1) (fun _ => rfl) ht hc (fun n cs x _ h => by
    obtain ⟨k, rfl, _, hw⟩ := DataW.trod_int he h
    simp only [Lit.wf, Bool.and_eq_true, decide_eq_true_eq] at hw
    have e1 : IntKind.u8.min = 0 := by decide
    have e2 : IntKind.u8.max = 255 := by decide
    rw [e1, e2] at hw
    have h1 : 0 ≤ k := hw.1
    have h2 : k < 256 := by omega
    refine ⟨k.toNat, by omega, VRl.one ?_⟩
    simp only [VR]
    rw [ofNat_cast, Int.toNat_of_nonneg h1]) h
  rw [flat_byteC] at h3
  exact ⟨nl, fu, l, h1, h2, h3⟩
end
theorem u8_nat {k : Int} (hw : (Lit.int .u8 k).wf = true) : ∃ b : Nat, b < 256 ∧ k = .ofNat b := by
  simp only [Lit.wf, Bool.and_eq_true, decide_eq_true_eq] at hw
  have e1 : IntKind.u8.min = 0 := by decide
  have e2 : IntKind.u8.max = 255 := by decide
  rw [e1, e2] at hw
  exact ⟨k.toNat, by omega, by rw [ofNat_cast]; omega⟩
theorem hr_all {P : Program} (w : World) : HR P (Kp.all w) ⟨.first, .leaf⟩ w :=
  ⟨fun p x h => by simp [Kp.all] at h, fun p q x y h => by simp [Live, Kp.all] at h, fun b o h => h, fun p x h => by simp [Live, Kp.all] at h, fun p x h => by simp [Kp.all] at h, fun p _ => leaf_get _ _⟩
theorem calls_of_callT {P : Program} {E : XEnv} (hmix : P.follows .mixedOrders = true) (hE : EnvOK P E) {f : FuncId} {args : List AV} {R : AV → Heap → Prop} (hc : CallT E (.func f [] []) args ⟨.first, .leaf⟩ R) (w : World) (A : Array Value) (hA : VRl (Kp.all w) args A.toList) :
    Calls P f A w fun e w' => ∃ v h' κ' v', e = .returned v' ∧ VR κ' v v' ∧ R v h' ∧ Ext P (Kp.all w) ⟨.first, .leaf⟩ w κ' h' w' := by
  obtain ⟨v, h', hR, N, hrun⟩ := hc
  have hok := run_sound hmix hE (m := N) (pan' := .off) (fun k kp => hrun N (Nat.le_refl _) k kp)
  refine Calls.mono ((hok.func (Kp.all w) w (hr_all w) f [] [] rfl A (by simpa using hA)).calls rfl) fun e w' hq => ?_
  rcases hq with hq | ⟨κ', h1, h2⟩
  · exact hq.elim
  · cases e with
    | outgrown => exact h1.elim
    | panicked c => exact h1.elim
    | returned v' => exact ⟨v, h', κ', v', rfl, h1, hR, h2⟩
theorem law_calls {P : Program} {E : XEnv} (hmix : P.follows .mixedOrders = true) (hE : EnvOK P E) {N X : Nat} {tbl : List Nat} (F : Fin E N X tbl) (C : Code E) (hsane : ∀ h, CallT E (.func n_sane [] []) [] h fun r h' => r = .bool true ∧ h' = h) {z z2 zat : Int} {by0 : Nat} {p s t : List Nat} {nl1 fu1 nl2 fu2 nl3 fu3 : Bool}
    (hp : ∀ b ∈ p, b < 256) (hs : ∀ b ∈ s, b < 256) (ht : ∀ b ∈ t, b < 256) (hby : by0 < 256) (hlp : p.length ≤ maxN) (hls : s.length ≤ maxN) (w : World) (A : Array Value)
    (hA : VRl (Kp.all w) [.int .i64 z, slAV nl1 fu1 p.length (avBytes p), .int .i64 z2, slAV nl2 fu2 s.length (avBytes s), .int .i64 zat, .int .u8 (.ofNat by0), slAV nl3 fu3 t.length (avBytes t)] A.toList) :
    Calls P n_law A w fun e w' => e = .returned (.bool true) ∧ ∃ κ' h', Ext P (Kp.all w) ⟨.first, .leaf⟩ w κ' h' w' := by
  refine Calls.mono (calls_of_callT hmix hE (law_ok F C hsane hp hs ht hby hlp hls) w A hA) ?_
  rintro e w' ⟨v, h', κ', v', rfl, hv, rfl, hx⟩
  simp only [VR] at hv
  exact ⟨by rw [hv], κ', h', hx⟩
end Go.X
