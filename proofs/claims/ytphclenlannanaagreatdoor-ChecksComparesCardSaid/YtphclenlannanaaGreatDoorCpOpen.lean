/- Reading a formula out of memory: whatever reads as data of its type lies there as a tree. -/
import Derived.Test.YtphclenlannanaaGreatDoorCpWp
import Derived.ChangeArms
import Derived.Deep.Slices
import Derived.Test.YtphclenlannanaaGreatDoorXxMain
import Derived.Test.YtphclenlannanaaGreatDoorCcData
import GoSem.ClaimJoined
import Derived.Test.YtphclenlannanaaGreatDoorCc4
namespace Go.X
open Go
def Kp.all (w : World) : Kp := ⟨fun _ => none, fun b => w.heap[b]?⟩
theorem VRl.app {κ : Kp} : ∀ {a : List AV} {x : List Value} {b : List AV} {y : List Value}, VRl κ a x → VRl κ b y → VRl κ (a ++ b) (x ++ y)
  | [], x, b, y, h, h' => by simp only [VRl] at h; subst h; exact h'
  | c :: a, x, b, y, h, h' => by
    simp only [VRl] at h
    obtain ⟨v, r, rfl, h1, h2⟩ := h
    simp only [List.cons_append, VRl]
    exact ⟨v, r ++ y, rfl, h1, VRl.app h2 h'⟩
theorem VRl.one {κ : Kp} {a : AV} {v : Value} (h : VR κ a v) : VRl κ [a] [v] := by simp only [VRl]; exact ⟨v, [], rfl, h, rfl⟩
theorem VRm.append {κ : Kp} : ∀ {a b : List AV} {g : Nat → Option Value}, VRm κ a g → VRm κ b (fun i => g (a.length + i)) → VRm κ (a ++ b) g
  | [], b, g, _, h' => by simpa using h'
  | c :: a, b, g, h, h' => by
    simp only [VRm, List.cons_append] at h ⊢
    refine ⟨h.1, VRm.append h.2 ?_⟩
    have : (fun i => g ((c :: a).length + i)) = fun i => g (a.length + i + 1) := by funext i; congr 1; simp; omega
    rw [this] at h'
    exact h'
theorem VRm.of {κ : Kp} : ∀ {a : List AV} {x : List Value} {g : Nat → Option Value}, VRl κ a x → a.all AV.one = true → (∀ i, i < x.length → g i = x[i]?) → VRm κ a g
  | [], x, g, _, _, _ => by simp only [VRm]
  | c :: a, x, g, h, ho, hg => by
    simp only [VRl] at h
    obtain ⟨v, r, rfl, h1, h2⟩ := h
    simp only [List.all_cons, Bool.and_eq_true] at ho
    simp only [VRm]
    refine ⟨⟨v, by rw [hg 0 (by simp)]; rfl, ho.1, h1⟩, VRm.of h2 ho.2 fun i hi => ?_⟩
    rw [hg (i + 1) (by simpa using hi)]; rfl
theorem list_of {α : Type} {q : Nat → α → Prop} : ∀ (n : Nat), (∀ i, i < n → ∃ t, q i t) → ∃ l : List α, l.length = n ∧ ∀ i (h : i < l.length), q i l[i]
  | 0, _ => ⟨[], rfl, fun i h => absurd h (Nat.not_lt_zero _)⟩
  | n + 1, h => by
    obtain ⟨l, hl, hq⟩ := list_of n fun i hi => h i (by omega)
    obtain ⟨t, ht⟩ := h n (by omega)
    refine ⟨l ++ [t], by simp [hl], fun i hi => ?_⟩
    simp only [List.length_append, List.length_cons, List.length_nil] at hi
    rcases Nat.lt_or_ge i l.length with h1 | h1
    · rw [List.getElem_append_left h1]; exact hq i h1
    · have : i = n := by omega
      subst this
      rw [List.getElem_append_right h1]
      simp [hl, ht]
section
variable {H : Type} {enc : TypeId × Value → H} {P : Program} {W : World} {sp : Nat → Bool} {held : Bool}
theorem cells_of {base : Nat} {a : Addr} {n : Nat} {cs : List Value} (h : W.cells? base a n = some cs) : cs.length = n ∧ ∀ i, i < n → W.cell? (a.add i) = cs[i]? := by
  unfold World.cells? at h
  split at h
  · refine ⟨by simpa using mapM_some_length h, fun i hi => ?_⟩
    exact mapM_some_get h i i (by simp [hi])
  · simp at h
theorem VRm_flat {κ : Kp} {α : Type} {f : α → List AV} {k : Nat} (hf : ∀ t, (f t).length = k) : ∀ (l : List α) (g : Nat → Option Value), (∀ i (h : i < l.length), VRm κ (f l[i]) (fun j => g (i * k + j))) → VRm κ (l.flatMap f) g
  | [], g, _ => by simp only [List.flatMap_nil, VRm]
  | t :: l, g, h => by
    rw [List.flatMap_cons]
    have h0 := h 0 (by simp)
    simp only [Nat.zero_mul, Nat.zero_add] at h0
    refine VRm.append h0 (VRm_flat hf l _ fun i hi => ?_)
    have := h (i + 1) (by simpa using hi)
    simp only [List.getElem_cons_succ] at this
    rw [hf]
    have e : (fun j => g (k + (i * k + j))) = fun j => g ((i + 1) * k + j) := by funext j; congr 1; rw [Nat.succ_mul]; omega
    rw [e]
    exact this
theorem open_sl {α : Type} {f : α → List AV} {k : Nat} {okA : α → Prop} (hf : ∀ t, (f t).length = k) (hk : 0 < k) (h1 : ∀ t, (f t).all AV.one = true) {t e : TypeId} {fuel : Nat} {cs : List Value} {x : DataW H × List MemPlace} (ht : P.underlying t = some (.slice e)) (hc : P.cellsOf e = k)
    (hel : ∀ n cs x, n < fuel → DataW.trod enc P W 0 sp held n e cs = some x → ∃ τ : α, okA τ ∧ VRl (Kp.all W) (f τ) cs) (h : DataW.trod enc P W 0 sp held fuel t cs = some x) :
    ∃ (nl fu : Bool) (l : List α), l.length ≤ maxN ∧ (∀ τ ∈ l, okA τ) ∧ VRl (Kp.all W) [slAV nl fu l.length (l.flatMap f)] cs := by
  rcases DataW.trod_slice ht h with ⟨rfl, _⟩ | ⟨a, len, cap, elems, rest, n, rfl, rfl, _, _, hl, hm, hlen, hx, _, _⟩
  · refine ⟨true, true, [], Nat.zero_le _, by simp, VRl.one ?_⟩
    show VR _ .nilslice _
    simp only [VR]
  · rw [hc] at hx
    have key : ∀ i, i < len → ∃ τ : α, okA τ ∧ ∃ cs', W.cells? 0 (a.add (i * k)) k = some cs' ∧ VRl (Kp.all W) (f τ) cs' := by
      intro i hi
      have := hx i hi
      rw [List.getElem?_eq_getElem (by omega), Option.bind_eq_some_iff] at this
      obtain ⟨cs', h2, h3⟩ := this
      obtain ⟨τ, h4, h5⟩ := hel n cs' _ (by omega) h3
      exact ⟨τ, h4, cs', h2, h5⟩
    obtain ⟨l, hll, hq⟩ := list_of len key
    refine ⟨false, decide (cap = len), l, by have : maxLen = maxN := rfl; omega, fun τ m => ?_, VRl.one ?_⟩
    · obtain ⟨i, hi, rfl⟩ := List.mem_iff_getElem.1 m
      exact (hq i hi).1
    · have e : slAV false (decide (cap = len)) l.length (l.flatMap f) = .imm (l.flatMap f) l.length (decide (cap = len)) := by cases l.length <;> rfl
      rw [e]
      simp only [VR]
      refine ⟨a, cap, by rw [hll], by omega, fun hd => by rw [hll]; exact of_decide_eq_true hd, ?_⟩
      rcases Nat.eq_zero_or_pos l.length with h0 | h0
      · exact .inr (.inl h0)
      · right; right
        obtain ⟨_, cs0, hcs0, hv0⟩ := hq 0 h0
        obtain ⟨hn0, hcell0⟩ := cells_of hcs0
        have hc0 := hcell0 0 hk
        rw [List.getElem?_eq_getElem (by omega)] at hc0
        have ea : ((a.add (0 * k)).add 0) = a := by simp [Addr.add]
        rw [ea] at hc0
        unfold World.cell? at hc0
        split at hc0
        · rename_i arr ty fr hh
          by_cases hsp : a.spot.isSome
          · simp [hsp] at hc0
          · have hspn : a.spot = none := by cases hs : a.spot with | none => rfl | some _ => simp [hs] at hsp
            refine ⟨hspn, arr, ty, fr, hh, VRm_flat hf l _ fun i hi => ?_⟩
            obtain ⟨_, cs', hcs, hv⟩ := hq i hi
            obtain ⟨hn, hcell⟩ := cells_of hcs
            refine VRm.of hv (h1 _) fun j hj => ?_
            rw [← hcell j (by omega)]
            have eb : (a.add (i * k)).add j = a.add (i * k + j) := Deep.add_add a _ _
            rw [eb]
            by_cases hz : i * k + j = 0
            · rw [hz]; simp [World.cell?, Addr.add, hh, hspn]
            · rw [Addr.add, if_neg hz]
              simp only [World.cell?, hh]
              rfl
        · simp at hc0
theorem one_int {k : IntKind} {n : Int} : (AV.int k n).one = true := rfl
theorem one_bool {b : Bool} : (AV.bool b).one = true := rfl
theorem one_str {l : List Nat} : (AV.str l).one = true := rfl
theorem DV.all_one (t : DV) : t.cells.all AV.one = true := by cases t; simp only [DV.cells, List.all_cons, List.all_nil, sl_one, one_int, one_bool, one_str, Bool.and_true]
theorem DE.all_one (t : DE) : t.cells.all AV.one = true := by cases t; simp only [DE.cells, List.all_append, List.all_cons, List.all_nil, DV.all_one, sl_one, one_int, Bool.and_true]
theorem DT.all_one (t : DT) : t.cells.all AV.one = true := by cases t; simp only [DT.cells, List.all_append, List.all_cons, List.all_nil, DE.all_one, sl_one, one_int, Bool.and_true]
theorem DV.okL_of : ∀ {l : List DV}, (∀ t ∈ l, t.ok) → DV.okL l
  | [], _ => trivial
  | t :: l, h => ⟨h t (by simp), DV.okL_of fun x m => h x (by simp [m])⟩
theorem DE.okL_of : ∀ {l : List DE}, (∀ t ∈ l, t.ok) → DE.okL l
  | [], _ => trivial
  | t :: l, h => ⟨h t (by simp), DE.okL_of fun x m => h x (by simp [m])⟩
theorem DT.okL_of : ∀ {l : List DT}, (∀ t ∈ l, t.ok) → DT.okL l
  | [], _ => trivial
  | t :: l, h => ⟨h t (by simp), DT.okL_of fun x m => h x (by simp [m])⟩
/-! ### the types -/
structure Types (P : Program) (tI tB tS tIs tSs tZ tV tVs tE tEs tT tTs : TypeId) : Prop where
  i : P.underlying tI = some (.int .i64)
  b : P.underlying tB = some .bool
  s : P.underlying tS = some .string
  is : P.underlying tIs = some (.slice tI)
  ss : P.underlying tSs = some (.slice tS)
  vs : P.underlying tVs = some (.slice tV)
  es : P.underlying tEs = some (.slice tE)
  ts : P.underlying tTs = some (.slice tT)
  z : ∃ fs, P.underlying tZ = some (.struct fs) ∧ fs.toList.map (fun f => (f.type, f.offset)) = [(tB, 0), (tIs, 1)]
  v : ∃ fs, P.underlying tV = some (.struct fs) ∧ fs.toList.map (fun f => (f.type, f.offset)) = [(tI, 0), (tI, 1), (tZ, 2), (tS, 4), (tVs, 5), (tVs, 6)]
  e : ∃ fs, P.underlying tE = some (.struct fs) ∧ fs.toList.map (fun f => (f.type, f.offset)) = [(tI, 0), (tI, 1), (tSs, 2), (tV, 3), (tEs, 10)]
  t : ∃ fs, P.underlying tT = some (.struct fs) ∧ fs.toList.map (fun f => (f.type, f.offset)) = [(tI, 0), (tE, 1), (tE, 12), (tTs, 23)]
  ci : P.cellsOf tI = 1
  cb : P.cellsOf tB = 1
  cs : P.cellsOf tS = 1
  cis : P.cellsOf tIs = 1
  css : P.cellsOf tSs = 1
  cvs : P.cellsOf tVs = 1
  ces : P.cellsOf tEs = 1
  cts : P.cellsOf tTs = 1
  cz : P.cellsOf tZ = 2
  cv : P.cellsOf tV = 7
  ce : P.cellsOf tE = 11
  ct : P.cellsOf tT = 24
theorem trod_fields {t : TypeId} {fs : Array Field} {l : List (TypeId × Nat)} {fuel : Nat} {cs : List Value} {x : DataW H × List MemPlace} (ht : P.underlying t = some (.struct fs)) (hl : fs.toList.map (fun f => (f.type, f.offset)) = l) (h : DataW.trod enc P W 0 sp held fuel t cs = some x) :
    ∃ n, fuel = n + 1 ∧ cs.length = P.cellsOf t ∧ ∀ (i : Nat) (u : TypeId) (o : Nat), l[i]? = some (u, o) → ∃ y, DataW.trod enc P W 0 sp held n u ((cs.drop o).take (P.cellsOf u)) = some y := by
  obtain ⟨xs, n, h1, _, h2, h3, h4⟩ := DataW.trod_struct ht h
  refine ⟨n, h1, h2, fun i u o hi => ?_⟩
  subst hl
  rw [List.getElem?_map, Option.map_eq_some_iff] at hi
  obtain ⟨f, hf, e⟩ := hi
  have hf' : fs[i]? = some f := by simpa using hf
  have hlt : i < fs.size := by
    have := List.getElem?_eq_some_iff.1 hf
    simpa using this.1
  have := h4 i f hf'
  rw [List.getElem?_eq_getElem (by omega)] at this
  cases e
  exact ⟨_, this⟩
variable {tI tB tS tIs tSs tZ tV tVs tE tEs tT tTs : TypeId} (T : Types P tI tB tS tIs tSs tZ tV tVs tE tEs tT tTs)
include T
theorem open_int {n : Nat} {cs : List Value} {x : DataW H × List MemPlace} (h : DataW.trod enc P W 0 sp held n tI cs = some x) : ∃ k : Int, VRl (Kp.all W) [.int .i64 k] cs := by
  obtain ⟨k, rfl, _, _⟩ := DataW.trod_int T.i h
  exact ⟨k, VRl.one (by simp only [VR])⟩
theorem open_bool {n : Nat} {cs : List Value} {x : DataW H × List MemPlace} (h : DataW.trod enc P W 0 sp held n tB cs = some x) : ∃ b : Bool, VRl (Kp.all W) [.bool b] cs := by
  obtain ⟨k, rfl, _⟩ := DataW.trod_bool T.b h
  exact ⟨k, VRl.one (by simp only [VR])⟩
theorem open_str {n : Nat} {cs : List Value} {x : DataW H × List MemPlace} (h : DataW.trod enc P W 0 sp held n tS cs = some x) : ∃ s : List Nat, VRl (Kp.all W) [.str s] cs := by
  obtain ⟨s, rfl, _, _⟩ := DataW.trod_string T.s h
  exact ⟨s.data.toList.map UInt8.toNat, VRl.one (by simp only [VR]; exact ⟨s, rfl, rfl⟩)⟩
theorem open_ints {n : Nat} {cs : List Value} {x : DataW H × List MemPlace} (h : DataW.trod enc P W 0 sp held n tIs cs = some x) : ∃ (nl fu : Bool) (l : List Int), l.length ≤ maxN ∧ VRl (Kp.all W) [slAV nl fu l.length (l.flatMap intC)] cs := by
  obtain ⟨nl, fu, l, h1, _, h2⟩ := open_sl (f := intC) (okA := fun _ => True) (fun _ => rfl) (Nat.le_refl 1) (fun _ => rfl) T.is T.ci (fun n cs x _ h => let ⟨k, hk⟩ := open_int T h; ⟨k, trivial, hk⟩) h
  exact ⟨nl, fu, l, h1, h2⟩
theorem open_val : ∀ (fuel : Nat) (cs : List Value) (x : DataW H × List MemPlace), DataW.trod enc P W 0 sp held fuel tV cs = some x → ∃ t : DV, t.ok ∧ VRl (Kp.all W) t.cells cs := by
  intro fuel
  induction fuel using Nat.strongRecOn with
  | ind fuel ih =>
    intro cs x h
    obtain ⟨fs, hs, hl⟩ := T.v
    obtain ⟨n, rfl, hlen, hf⟩ := trod_fields hs hl h
    obtain ⟨_, f0⟩ := hf 0 _ _ rfl
    obtain ⟨_, f1⟩ := hf 1 _ _ rfl
    obtain ⟨_, f2⟩ := hf 2 _ _ rfl
    obtain ⟨_, f3⟩ := hf 3 _ _ rfl
    obtain ⟨_, f4⟩ := hf 4 _ _ rfl
    obtain ⟨_, f5⟩ := hf 5 _ _ rfl
    rw [T.ci] at f0 f1; rw [T.cz] at f2; rw [T.cs] at f3; rw [T.cvs] at f4 f5
    obtain ⟨k, v0⟩ := open_int T f0
    obtain ⟨m, v1⟩ := open_int T f1
    obtain ⟨fz, hsz, hlz⟩ := T.z
    obtain ⟨nz, rfl, _, hz⟩ := trod_fields hsz hlz f2
    obtain ⟨_, z0⟩ := hz 0 _ _ rfl
    obtain ⟨_, z1⟩ := hz 1 _ _ rfl
    rw [T.cb] at z0; rw [T.cis] at z1
    obtain ⟨b, v2⟩ := open_bool T z0
    obtain ⟨dn, df, d, hd, v3⟩ := open_ints T z1
    obtain ⟨s, v4⟩ := open_str T f3
    have sub : ∀ {cs x}, DataW.trod enc P W 0 sp held (nz + 1) tVs cs = some x → ∃ (nl fu : Bool) (l : List DV), l.length ≤ maxN ∧ (∀ τ ∈ l, τ.ok) ∧ VRl (Kp.all W) [slAV nl fu l.length (l.flatMap DV.cells)] cs :=
      fun h => open_sl DV.len (by omega) DV.all_one T.vs T.cv (fun n cs x hn h => ih n (by omega) cs x h) h
    obtain ⟨ln, lf, l, hl1, hl2, v5⟩ := sub f4
    obtain ⟨mn, mf, mm, hm1, hm2, v6⟩ := sub f5
    refine ⟨.mk k m b dn df d s ln lf l mn mf mm, ⟨hd, hl1, hm1, DV.okL_of hl2, DV.okL_of hm2⟩, ?_⟩
    have e : cs = (cs.drop 0).take 1 ++ ((cs.drop 1).take 1 ++ (((((cs.drop 2).take 2).drop 0).take 1 ++ (((cs.drop 2).take 2).drop 1).take 1) ++ ((cs.drop 4).take 1 ++ ((cs.drop 5).take 1 ++ (cs.drop 6).take 1)))) := by
      have hl : cs.length = 7 := by rw [hlen, T.cv]
      match cs, hl with
      | [c0, c1, c2, c3, c4, c5, c6], _ => rfl
    rw [e]
    rw [← DV.cellsL_eq] at v5 v6
    have := v0.app (v1.app ((v2.app v3).append (v4.app (v5.app v6))))
    exact this
end
end Go.X

/- Reading a verdict out of memory; how long its lists can be. -/
namespace Go.X
open Go
section
variable {H : Type} {enc : TypeId × Value → H} {P : Program} {W : World} {sp : Nat → Bool} {held : Bool}
structure TypesV (P : Program) (tI tVs tSt tL tVd : TypeId) : Prop where
  sts : P.underlying tSt = some (.slice tVs)
  l : ∃ fs, P.underlying tL = some (.struct fs) ∧ fs.toList.map (fun f => (f.type, f.offset)) = [(tSt, 0), (tI, 1)]
  vd : ∃ fs, P.underlying tVd = some (.struct fs) ∧ fs.toList.map (fun f => (f.type, f.offset)) = [(tI, 0), (tI, 1), (tI, 2), (tI, 3), (tI, 4), (tSt, 5), (tL, 6), (tI, 8), (tI, 9)]
  csts : P.cellsOf tSt = 1
  cl : P.cellsOf tL = 2
  cvd : P.cellsOf tVd = 10
  by24 : P.bytesOf tVs = 24
theorem trod_fields_d {t : TypeId} {fs : Array Field} {l : List (TypeId × Nat)} {fuel : Nat} {cs : List Value} {x : DataW H × List MemPlace} (ht : P.underlying t = some (.struct fs)) (hl : fs.toList.map (fun f => (f.type, f.offset)) = l) (h : DataW.trod enc P W 0 sp held fuel t cs = some x) :
    ∃ (n : Nat) (ds : List (DataW H)), fuel = n + 1 ∧ cs.length = P.cellsOf t ∧ x.1 = .agg ds ∧ ∀ (i : Nat) (u : TypeId) (o : Nat), l[i]? = some (u, o) → ∃ y, ds[i]? = some y.1 ∧ DataW.trod enc P W 0 sp held n u ((cs.drop o).take (P.cellsOf u)) = some y := by
  obtain ⟨xs, n, h1, hx, h2, h3, h4⟩ := DataW.trod_struct ht h
  refine ⟨n, xs.map (·.1), h1, h2, by rw [hx], fun i u o hi => ?_⟩
  subst hl
  rw [List.getElem?_map, Option.map_eq_some_iff] at hi
  obtain ⟨f, hf, e⟩ := hi
  have hf' : fs[i]? = some f := by simpa using hf
  have hlt : i < fs.size := by
    have := List.getElem?_eq_some_iff.1 hf
    simpa using this.1
  have := h4 i f hf'
  rw [List.getElem?_eq_getElem (by omega)] at this
  cases e
  exact ⟨xs[i], by rw [List.getElem?_map, List.getElem?_eq_getElem (by omega)]; rfl, this⟩
theorem slice_len {t e : TypeId} {fuel : Nat} {cs : List Value} {x : DataW H × List MemPlace} (ht : P.underlying t = some (.slice e)) (h : DataW.trod enc P W 0 sp held fuel t cs = some x) {κ : Kp} {nl fu : Bool} {n : Nat} {c : List AV} (hv : VRl κ [slAV nl fu n c] cs) :
    n = 0 ∨ ∃ els spare, x.1 = .slice els spare ∧ els.length = n := by
  rcases DataW.trod_slice ht h with ⟨rfl, _⟩ | ⟨a, len, cap, elems, rest, m, _, rfl, rfl, _, _, _, hlen, _, _, _⟩
  · left
    simp only [VRl] at hv
    obtain ⟨v, r, h1, h2, _⟩ := hv
    rcases slAV_cases nl fu n c with ⟨h0, e⟩ | e
    · exact h0
    · rw [e] at h2
      simp only [VR] at h2
      obtain ⟨a, c', h3, _⟩ := h2
      rw [h3] at h1
      simp at h1
  · right
    simp only [VRl] at hv
    obtain ⟨v, r, h1, h2, _⟩ := hv
    refine ⟨_, _, rfl, ?_⟩
    rw [List.length_map, hlen]
    rcases slAV_cases nl fu n c with ⟨h0, e⟩ | e
    · rw [e] at h2
      simp only [VR] at h2
      rw [h2] at h1
      simp at h1
    · rw [e] at h2
      simp only [VR] at h2
      obtain ⟨a, c', h3, _⟩ := h2
      rw [h3] at h1
      simp only [List.cons.injEq, Value.slice.injEq] at h1
      exact h1.1.2.1
theorem weightsEach_mem : ∀ {ts : List TypeId} {ds : List (DataW H)} {i : Nat} {t : TypeId} {d : DataW H} {w : Nat}, ts[i]? = some t → ds[i]? = some d → w ∈ d.weights P t → w ∈ DataW.weightsEach P ts ds
  | t :: ts, d :: ds, 0, _, _, w, h1, h2, h => by
    simp only [List.getElem?_cons_zero, Option.some.injEq] at h1 h2
    subst h1 h2
    simp only [DataW.weightsEach, List.mem_append]; exact .inl h
  | t :: ts, d :: ds, i + 1, _, _, w, h1, h2, h => by
    simp only [List.getElem?_cons_succ] at h1 h2
    simp only [DataW.weightsEach, List.mem_append]; exact .inr (weightsEach_mem h1 h2 h)
  | [], _, i, _, _, w, h1, _, _ => by simp at h1
  | _ :: _, [], i, _, _, w, _, h2, _ => by simp at h2
theorem weights_agg {t : TypeId} {fs : Array Field} {ds : List (DataW H)} (ht : P.underlying t = some (.struct fs)) {i : Nat} {u : TypeId} {d : DataW H} {w : Nat} (h1 : (fs.toList.map (·.type))[i]? = some u) (h2 : ds[i]? = some d) (h : w ∈ d.weights P u) : w ∈ (DataW.agg ds).weights P t := by
  simp only [DataW.weights, ht]
  exact weightsEach_mem h1 h2 h
theorem weights_slice {t e : TypeId} (ht : P.underlying t = some (.slice e)) {els spare : List (DataW H)} : (els.length + spare.length) * P.bytesOf e ∈ (DataW.slice els spare).weights P t := by
  simp only [DataW.weights, ht]
  exact List.mem_cons_self
theorem DS.all_one (s : DS) : s.cell.all AV.one = true := by simp only [DS.cell, List.all_cons, List.all_nil, sl_one, Bool.and_true]
theorem DVd.all_one (v : DVd) : v.cells.all AV.one = true := by simp only [DVd.cells, List.all_cons, List.all_nil, sl_one, one_int, Bool.and_true]
variable {tI tB tS tIs tSs tZ tV tVs tE tEs tT tTs tSt tL tVd : TypeId} (T : Types P tI tB tS tIs tSs tZ tV tVs tE tEs tT tTs) (U : TypesV P tI tVs tSt tL tVd)
include T U
theorem open_states {fuel : Nat} {cs : List Value} {x : DataW H × List MemPlace} (h : DataW.trod enc P W 0 sp held fuel tSt cs = some x) : ∃ (nl fu : Bool) (l : List DS), l.length ≤ maxN ∧ (∀ s ∈ l, s.ok) ∧ VRl (Kp.all W) [slAV nl fu l.length (l.flatMap DS.cell)] cs := by
  refine open_sl (f := DS.cell) (okA := DS.ok) DS.len (Nat.le_refl 1) DS.all_one U.sts T.cvs (fun n cs x _ h => ?_) h
  obtain ⟨nl, fu, l, h1, h2, h3⟩ := open_sl DV.len (by omega) DV.all_one T.vs T.cv (fun n cs x _ h => open_val T n cs x h) h
  exact ⟨⟨nl, fu, l⟩, ⟨DV.okL_of h2, h1⟩, by rw [← DV.cellsL_eq] at h3; exact h3⟩
theorem open_verdict {fuel : Nat} {cs : List Value} {x : DataW H × List MemPlace} (h : DataW.trod enc P W 0 sp held fuel tVd cs = some x) (hw : ∀ w ∈ x.1.weights P tVd, w ≤ reachBytes) : ∃ v : DVd, v.ok ∧ VRl (Kp.all W) v.cells cs := by
  obtain ⟨fs, hs, hl⟩ := U.vd
  obtain ⟨n, ds, rfl, hlen, hx, hf⟩ := trod_fields_d hs hl h
  obtain ⟨y0, _, f0⟩ := hf 0 _ _ rfl
  obtain ⟨y1, _, f1⟩ := hf 1 _ _ rfl
  obtain ⟨y2, _, f2⟩ := hf 2 _ _ rfl
  obtain ⟨y3, _, f3⟩ := hf 3 _ _ rfl
  obtain ⟨y4, _, f4⟩ := hf 4 _ _ rfl
  obtain ⟨y5, d5, f5⟩ := hf 5 _ _ rfl
  obtain ⟨y6, d6, f6⟩ := hf 6 _ _ rfl
  obtain ⟨y7, _, f7⟩ := hf 7 _ _ rfl
  obtain ⟨y8, _, f8⟩ := hf 8 _ _ rfl
  rw [T.ci] at f0 f1 f2 f3 f4 f7 f8; rw [U.csts] at f5; rw [U.cl] at f6
  obtain ⟨k, v0⟩ := open_int T f0
  obtain ⟨c, v1⟩ := open_int T f1
  obtain ⟨p, v2⟩ := open_int T f2
  obtain ⟨w, v3⟩ := open_int T f3
  obtain ⟨f, v4⟩ := open_int T f4
  obtain ⟨rn, rf, run, _, hr2, v5⟩ := open_states T U f5
  obtain ⟨st, v7⟩ := open_int T f7
  obtain ⟨dp, v8⟩ := open_int T f8
  obtain ⟨fl, hsl, hll⟩ := U.l
  obtain ⟨m, dl, rfl, _, hxl, hfl⟩ := trod_fields_d hsl hll f6
  obtain ⟨z0, e0, g0⟩ := hfl 0 _ _ rfl
  obtain ⟨z1, _, g1⟩ := hfl 1 _ _ rfl
  rw [U.csts] at g0; rw [T.ci] at g1
  obtain ⟨ln, lf, las, _, hl2, v6⟩ := open_states T U g0
  obtain ⟨back, v9⟩ := open_int T g1
  have ty : ∀ {q : Array Field} {l : List (TypeId × Nat)}, q.toList.map (fun f => (f.type, f.offset)) = l → q.toList.map (·.type) = l.map (·.1) := fun h => by rw [← h, List.map_map]; rfl
  have bound : ∀ {q : Nat}, q * 24 ≤ reachBytes → q ≤ 5864062014634 := fun h => by unfold reachBytes at h; omega
  have hrun : run.length ≤ 5864062014634 := by
    rcases slice_len U.sts f5 v5 with h0 | ⟨els, spare, hd, he⟩
    · omega
    · refine bound (Nat.le_trans ?_ (hw _ (by rw [hx]; exact weights_agg hs (i := 5) (by rw [ty hl]; rfl) d5 (by rw [hd]; exact weights_slice U.sts))))
      rw [U.by24, ← he]; exact Nat.mul_le_mul_right _ (Nat.le_add_right _ _)
  have hlas : las.length ≤ 5864062014634 := by
    rcases slice_len U.sts g0 v6 with h0 | ⟨els, spare, hd, he⟩
    · omega
    · refine bound (Nat.le_trans ?_ (hw _ (by rw [hx]; exact weights_agg hs (i := 6) (by rw [ty hl]; rfl) d6 (by rw [hxl]; exact weights_agg hsl (i := 0) (by rw [ty hll]; rfl) e0 (by rw [hd]; exact weights_slice U.sts)))))
      rw [U.by24, ← he]; exact Nat.mul_le_mul_right _ (Nat.le_add_right _ _)
  refine ⟨⟨k, c, p, w, f, rn, rf, run, ln, lf, las, back, st, dp⟩, ⟨hr2, hl2, hrun, hlas⟩, ?_⟩
  have e : cs = (cs.drop 0).take 1 ++ ((cs.drop 1).take 1 ++ ((cs.drop 2).take 1 ++ ((cs.drop 3).take 1 ++ ((cs.drop 4).take 1 ++ ((cs.drop 5).take 1 ++ (((((cs.drop 6).take 2).drop 0).take 1 ++ (((cs.drop 6).take 2).drop 1).take 1) ++ ((cs.drop 8).take 1 ++ (cs.drop 9).take 1))))))) := by
    have hl : cs.length = 10 := by rw [hlen, U.cvd]
    match cs, hl with
    | [c0, c1, c2, c3, c4, c5, c6, c7, c8, c9], _ => rfl
  rw [e]
  exact v0.app (v1.app (v2.app (v3.app (v4.app (v5.app ((v6.app v9).app (v7.app v8)))))))
end
end Go.X

/- From a run of X to the model: a call in whatever world. -/
namespace Go.X
open Go
theorem hr_all {P : Program} (w : World) : HR P (Kp.all w) ⟨.first, .leaf⟩ w :=
  ⟨fun p x h => by simp [Kp.all] at h, fun p q x y h => by simp [Live, Kp.all] at h, fun b o h => h, fun p x h => by simp [Live, Kp.all] at h, fun p x h => by simp [Kp.all] at h, fun p _ => leaf_get _ _⟩
theorem calls_of_callT {P : Program} {E : XEnv} (hmix : P.follows .mixedOrders = true) (hE : EnvOK P E) {f : FuncId} {args : List AV} {R : AV → Heap → Prop} (hc : CallT E (.func f [] []) args ⟨.first, .leaf⟩ R) (w : World) (A : Array Value) (hA : VRl (Kp.all w) args A.toList) :
    Calls P f A w fun e w' => ∃ v h' κ' v', e = .returned v' ∧ VR κ' v v' ∧ R v h' ∧ Ext P (Kp.all w) ⟨.first, .leaf⟩ w κ' h' w' := by
  obtain ⟨v, h', hR, N, hrun⟩ := hc
  have hok := run_sound hmix hE (m := N) (pan' := .off) (fun k kp => hrun N (Nat.le_refl _) k kp)
  refine Calls.mono ((hok.func (Kp.all w) w (hr_all w) f [] [] rfl A (by simpa using hA)).calls rfl) fun e w' hq => ?_
  rcases hq with hq | ⟨κ', h1, h2⟩
  · exact hq.elim
  · cases e with
    | outgrown => exact h1.elim
    | panicked c => exact h1.elim
    | returned v' => exact ⟨v, h', κ', v', rfl, h1, hR, h2⟩
theorem law_calls {P : Program} {E : XEnv} (hmix : P.follows .mixedOrders = true) (hE : EnvOK P E) (C : Code E) (hsane : ∀ h, CallT E (.func n_sane [] []) [] h fun r h' => r = .bool true ∧ h' = h) {a b : DVd} (hok : a.ok) (hok' : b.ok) (w : World) (A : Array Value) (hA : VRl (Kp.all w) [.agg a.cells, .agg b.cells] A.toList) :
    Calls P n_law A w fun e w' => e = .returned (.bool true) ∧ ∃ κ' h', Ext P (Kp.all w) ⟨.first, .leaf⟩ w κ' h' w' := by
  refine Calls.mono (calls_of_callT hmix hE (law_ok C hsane hok hok') w A hA) ?_
  rintro e w' ⟨v, h', κ', v', rfl, hv, rfl, hx⟩
  simp only [VR] at hv
  exact ⟨by rw [hv], κ', h', hx⟩
end Go.X
