/- The data of the abstract machine X: positions, tries, abstract values, the abstract heap. No program in sight. -/
import GoSem.Core.Machine
import Derived.KernelRfl
namespace Go.X
open Go

/-- Positive numbers in binary, the lowest bit first: the keys of tries. -/
inductive BP where
  | u | o (p : BP) | i (p : BP)
  deriving DecidableEq, Inhabited

def BP.succ : BP → BP
  | .u => .o .u
  | .o p => .i p
  | .i p => .o p.succ
def BP.toNat : BP → Nat
  | .u => 1
  | .o p => 2 * p.toNat
  | .i p => 2 * p.toNat + 1
def BP.beq : BP → BP → Bool
  | .u, .u => true
  | .o p, .o q => p.beq q
  | .i p, .i q => p.beq q
  | _, _ => false

theorem BP.toNat_pos (p : BP) : 0 < p.toNat := by
  induction p with
  | u => simp [BP.toNat]
  | o p ih => simp only [BP.toNat]; omega
  | i p ih => simp only [BP.toNat]; omega
theorem BP.toNat_succ (p : BP) : p.succ.toNat = p.toNat + 1 := by
  induction p with
  | u => rfl
  | o p ih => rfl
  | i p ih => simp only [BP.succ, BP.toNat, ih]; omega
theorem BP.toNat_inj {p q : BP} (h : p.toNat = q.toNat) : p = q := by
  induction p generalizing q with
  | u => cases q with
    | u => rfl
    | o q => have := q.toNat_pos; simp only [BP.toNat] at h; omega
    | i q => have := q.toNat_pos; simp only [BP.toNat] at h; omega
  | o p ih => cases q with
    | u => have := p.toNat_pos; simp only [BP.toNat] at h; omega
    | o q => simp only [BP.toNat] at h; rw [ih (q := q) (by omega)]
    | i q => simp only [BP.toNat] at h; omega
  | i p ih => cases q with
    | u => have := p.toNat_pos; simp only [BP.toNat] at h; omega
    | o q => simp only [BP.toNat] at h; omega
    | i q => simp only [BP.toNat] at h; rw [ih (q := q) (by omega)]
theorem BP.beq_iff {p q : BP} : p.beq q = true ↔ p = q := by
  induction p generalizing q with
  | u => cases q <;> simp [BP.beq]
  | o p ih => cases q <;> simp [BP.beq, ih]
  | i p ih => cases q <;> simp [BP.beq, ih]

/-- The number n + 1 as a position ('k': steps left, for the recursion). -/
def BP.ofNatF : Nat → Nat → BP
  | 0, _ => .u
  | k + 1, n => if n ≤ 1 then .u else if n % 2 = 0 then .o (ofNatF k (n / 2)) else .i (ofNatF k (n / 2))
theorem BP.toNat_ofNatF : ∀ (k n : Nat), 0 < n → n ≤ k → (BP.ofNatF k n).toNat = n
  | 0, n, h, hk => by omega
  | k + 1, n, h, hk => by
    unfold BP.ofNatF
    by_cases h1 : n ≤ 1
    · rw [if_pos h1]; simp only [BP.toNat]; omega
    · rw [if_neg h1]
      have ih := BP.toNat_ofNatF k (n / 2) (by omega) (by omega)
      by_cases h2 : n % 2 = 0
      · rw [if_pos h2]; simp only [BP.toNat, ih]; omega
      · rw [if_neg h2]; simp only [BP.toNat, ih]; omega
/-- Tries over positions. -/
inductive PT (α : Type) where
  | leaf
  | node (l : PT α) (v : Option α) (r : PT α)
  deriving Inhabited

namespace PT
variable {α : Type}
def get : PT α → BP → Option α
  | .leaf, _ => none
  | .node _ v _, .u => v
  | .node l _ _, .o p => l.get p
  | .node _ _ r, .i p => r.get p
def set : PT α → BP → α → PT α
  | .leaf, .u, x => .node .leaf (some x) .leaf
  | .leaf, .o p, x => .node (set .leaf p x) none .leaf
  | .leaf, .i p, x => .node .leaf none (set .leaf p x)
  | .node l _ r, .u, x => .node l (some x) r
  | .node l v r, .o p, x => .node (l.set p x) v r
  | .node l v r, .i p, x => .node l v (r.set p x)

theorem get_leaf (p : BP) : (leaf : PT α).get p = none := by cases p <;> rfl
theorem get_set_same (t : PT α) (p : BP) (x : α) : (t.set p x).get p = some x := by
  induction p generalizing t with
  | u => cases t <;> rfl
  | o p ih => cases t <;> exact ih _
  | i p ih => cases t <;> exact ih _
theorem get_set_ne (t : PT α) {p q : BP} (x : α) (h : p ≠ q) : (t.set p x).get q = t.get q := by
  induction p generalizing t q with
  | u => cases q <;> cases t <;> first | exact absurd rfl h | simp [PT.set, PT.get]
  | o p ih => cases q with
    | u => cases t <;> rfl
    | o q => cases t with
      | leaf => exact (ih _ (fun e => h (by rw [e]))).trans (by rw [get_leaf]; rfl)
      | node l v r => exact ih _ (fun e => h (by rw [e]))
    | i q => cases t <;> simp [PT.set, PT.get]
  | i p ih => cases q with
    | u => cases t <;> rfl
    | i q => cases t with
      | leaf => exact (ih _ (fun e => h (by rw [e]))).trans (by rw [get_leaf]; rfl)
      | node l v r => exact ih _ (fun e => h (by rw [e]))
    | o q => cases t <;> simp [PT.set, PT.get]
end PT

/-- A digit. -/
inductive D16 where
  | d0 | d1 | d2 | d3 | d4 | d5 | d6 | d7 | d8 | d9 | d10 | d11 | d12 | d13 | d14 | d15
  deriving DecidableEq, Inhabited
/-- Sixteen places. -/
structure N16 (α : Type) where
  c0 : α
  c1 : α
  c2 : α
  c3 : α
  c4 : α
  c5 : α
  c6 : α
  c7 : α
  c8 : α
  c9 : α
  c10 : α
  c11 : α
  c12 : α
  c13 : α
  c14 : α
  c15 : α

def D16.toNat : D16 → Nat
  | .d0 => 0
  | .d1 => 1
  | .d2 => 2
  | .d3 => 3
  | .d4 => 4
  | .d5 => 5
  | .d6 => 6
  | .d7 => 7
  | .d8 => 8
  | .d9 => 9
  | .d10 => 10
  | .d11 => 11
  | .d12 => 12
  | .d13 => 13
  | .d14 => 14
  | .d15 => 15

def D16.dig : Nat → D16
  | 0 => .d0
  | 1 => .d1
  | 2 => .d2
  | 3 => .d3
  | 4 => .d4
  | 5 => .d5
  | 6 => .d6
  | 7 => .d7
  | 8 => .d8
  | 9 => .d9
  | 10 => .d10
  | 11 => .d11
  | 12 => .d12
  | 13 => .d13
  | 14 => .d14
  | _ => .d15

theorem D16.toNat_dig {n : Nat} (h : n < 16) : (D16.dig n).toNat = n := by
  have : ∀ m : Fin 16, (D16.dig m.1).toNat = m.1 := by decide
  exact this ⟨n, h⟩
theorem D16.toNat_lt (d : D16) : d.toNat < 16 := by cases d <;> decide
theorem D16.toNat_inj {a b : D16} (h : a.toNat = b.toNat) : a = b := by
  have ha : D16.dig a.toNat = a := by cases a <;> rfl
  have hb : D16.dig b.toNat = b := by cases b <;> rfl
  rw [← ha, ← hb, h]
def D16.beq (a b : D16) : Bool := Nat.beq a.toNat b.toNat
theorem D16.beq_iff {a b : D16} : a.beq b = true ↔ a = b := ⟨fun h => D16.toNat_inj (Nat.eq_of_beq_eq_true h), fun h => by subst h; exact Nat.beq_refl _⟩
namespace N16
variable {α : Type}
def get (n : N16 α) : D16 → α
  | .d0 => n.c0
  | .d1 => n.c1
  | .d2 => n.c2
  | .d3 => n.c3
  | .d4 => n.c4
  | .d5 => n.c5
  | .d6 => n.c6
  | .d7 => n.c7
  | .d8 => n.c8
  | .d9 => n.c9
  | .d10 => n.c10
  | .d11 => n.c11
  | .d12 => n.c12
  | .d13 => n.c13
  | .d14 => n.c14
  | .d15 => n.c15

def set (n : N16 α) (d : D16) (v : α) : N16 α := match d with
  | .d0 => ⟨v, n.c1, n.c2, n.c3, n.c4, n.c5, n.c6, n.c7, n.c8, n.c9, n.c10, n.c11, n.c12, n.c13, n.c14, n.c15⟩
  | .d1 => ⟨n.c0, v, n.c2, n.c3, n.c4, n.c5, n.c6, n.c7, n.c8, n.c9, n.c10, n.c11, n.c12, n.c13, n.c14, n.c15⟩
  | .d2 => ⟨n.c0, n.c1, v, n.c3, n.c4, n.c5, n.c6, n.c7, n.c8, n.c9, n.c10, n.c11, n.c12, n.c13, n.c14, n.c15⟩
  | .d3 => ⟨n.c0, n.c1, n.c2, v, n.c4, n.c5, n.c6, n.c7, n.c8, n.c9, n.c10, n.c11, n.c12, n.c13, n.c14, n.c15⟩
  | .d4 => ⟨n.c0, n.c1, n.c2, n.c3, v, n.c5, n.c6, n.c7, n.c8, n.c9, n.c10, n.c11, n.c12, n.c13, n.c14, n.c15⟩
  | .d5 => ⟨n.c0, n.c1, n.c2, n.c3, n.c4, v, n.c6, n.c7, n.c8, n.c9, n.c10, n.c11, n.c12, n.c13, n.c14, n.c15⟩
  | .d6 => ⟨n.c0, n.c1, n.c2, n.c3, n.c4, n.c5, v, n.c7, n.c8, n.c9, n.c10, n.c11, n.c12, n.c13, n.c14, n.c15⟩
  | .d7 => ⟨n.c0, n.c1, n.c2, n.c3, n.c4, n.c5, n.c6, v, n.c8, n.c9, n.c10, n.c11, n.c12, n.c13, n.c14, n.c15⟩
  | .d8 => ⟨n.c0, n.c1, n.c2, n.c3, n.c4, n.c5, n.c6, n.c7, v, n.c9, n.c10, n.c11, n.c12, n.c13, n.c14, n.c15⟩
  | .d9 => ⟨n.c0, n.c1, n.c2, n.c3, n.c4, n.c5, n.c6, n.c7, n.c8, v, n.c10, n.c11, n.c12, n.c13, n.c14, n.c15⟩
  | .d10 => ⟨n.c0, n.c1, n.c2, n.c3, n.c4, n.c5, n.c6, n.c7, n.c8, n.c9, v, n.c11, n.c12, n.c13, n.c14, n.c15⟩
  | .d11 => ⟨n.c0, n.c1, n.c2, n.c3, n.c4, n.c5, n.c6, n.c7, n.c8, n.c9, n.c10, v, n.c12, n.c13, n.c14, n.c15⟩
  | .d12 => ⟨n.c0, n.c1, n.c2, n.c3, n.c4, n.c5, n.c6, n.c7, n.c8, n.c9, n.c10, n.c11, v, n.c13, n.c14, n.c15⟩
  | .d13 => ⟨n.c0, n.c1, n.c2, n.c3, n.c4, n.c5, n.c6, n.c7, n.c8, n.c9, n.c10, n.c11, n.c12, v, n.c14, n.c15⟩
  | .d14 => ⟨n.c0, n.c1, n.c2, n.c3, n.c4, n.c5, n.c6, n.c7, n.c8, n.c9, n.c10, n.c11, n.c12, n.c13, v, n.c15⟩
  | .d15 => ⟨n.c0, n.c1, n.c2, n.c3, n.c4, n.c5, n.c6, n.c7, n.c8, n.c9, n.c10, n.c11, n.c12, n.c13, n.c14, v⟩

theorem get_set_same (n : N16 α) (d : D16) (v : α) : (n.set d v).get d = v := by cases d <;> rfl
theorem get_set_ne (n : N16 α) {d e : D16} (v : α) (h : d ≠ e) : (n.set d v).get e = n.get e := by
  cases d <;> cases e <;> first | rfl | exact absurd rfl h
def all (a : α) : N16 α := ⟨a, a, a, a, a, a, a, a, a, a, a, a, a, a, a, a⟩
theorem get_all (a : α) (d : D16) : (all a).get d = a := by cases d <;> rfl
end N16

/-- Places of blocks: the first 4096 by three digits, all others in binary. -/
inductive Pos where
  | lo (a b c : D16)
  | hi (p : BP)
  deriving DecidableEq, Inhabited
/-- Places of temporaries: the first 256 by two digits, all others in binary. -/
inductive Slot where
  | lo (a b : D16)
  | hi (p : BP)
  deriving DecidableEq, Inhabited

def Pos.first : Pos := .lo .d0 .d0 .d0
def D16.next : D16 → D16
  | .d0 => .d1 | .d1 => .d2 | .d2 => .d3 | .d3 => .d4 | .d4 => .d5 | .d5 => .d6 | .d6 => .d7 | .d7 => .d8
  | .d8 => .d9 | .d9 => .d10 | .d10 => .d11 | .d11 => .d12 | .d12 => .d13 | .d13 => .d14 | .d14 => .d15 | .d15 => .d15
def D16.top : D16 → Bool
  | .d15 => true
  | _ => false
def Pos.succ : Pos → Pos
  | .lo a b c => match c.top with
    | false => .lo a b c.next
    | true => match b.top with
      | false => .lo a b.next .d0
      | true => match a.top with
        | false => .lo a.next .d0 .d0
        | true => .hi .u
  | .hi p => .hi p.succ
def Pos.toNat : Pos → Nat
  | .lo a b c => a.toNat * 256 + b.toNat * 16 + c.toNat
  | .hi p => 4095 + p.toNat
def Pos.beq : Pos → Pos → Bool
  | .lo a b c, .lo d e f => match c.beq f with | true => (match b.beq e with | true => a.beq d | false => false) | false => false
  | .hi p, .hi q => p.beq q
  | _, _ => false

theorem D16.next_toNat {c : D16} (h : c.top = false) : c.next.toNat = c.toNat + 1 := by cases c <;> first | rfl | simp [D16.top] at h
theorem D16.top_toNat {c : D16} (h : c.top = true) : c.toNat = 15 := by cases c <;> first | rfl | simp [D16.top] at h
theorem Pos.toNat_succ (p : Pos) : p.succ.toNat = p.toNat + 1 := by
  cases p with
  | hi p => simp only [Pos.succ, Pos.toNat, BP.toNat_succ]; omega
  | lo a b c =>
    simp only [Pos.succ]
    cases hc : c.top with
    | false => simp only [Pos.toNat, D16.next_toNat hc]; omega
    | true =>
      cases hb : b.top with
      | false => simp only [Pos.toNat, D16.next_toNat hb, D16.top_toNat hc]; simp only [D16.toNat]; omega
      | true =>
        cases ha : a.top with
        | false => simp only [Pos.toNat, D16.next_toNat ha, D16.top_toNat hb, D16.top_toNat hc]; simp only [D16.toNat]; omega
        | true => simp only [Pos.toNat, BP.toNat, D16.top_toNat ha, D16.top_toNat hb, D16.top_toNat hc]
theorem Pos.toNat_inj {p q : Pos} (h : p.toNat = q.toNat) : p = q := by
  cases p with
  | lo a b c => cases q with
    | lo d e f =>
      simp only [Pos.toNat] at h
      have := a.toNat_lt; have := b.toNat_lt; have := c.toNat_lt; have := d.toNat_lt; have := e.toNat_lt; have := f.toNat_lt
      rw [D16.toNat_inj (a := a) (b := d) (by omega), D16.toNat_inj (a := b) (b := e) (by omega), D16.toNat_inj (a := c) (b := f) (by omega)]
    | hi q =>
      simp only [Pos.toNat] at h
      have := a.toNat_lt; have := b.toNat_lt; have := c.toNat_lt; have := q.toNat_pos
      omega
  | hi p => cases q with
    | lo d e f =>
      simp only [Pos.toNat] at h
      have := d.toNat_lt; have := e.toNat_lt; have := f.toNat_lt; have := p.toNat_pos
      omega
    | hi q => simp only [Pos.toNat] at h; rw [BP.toNat_inj (p := p) (q := q) (by omega)]
theorem Pos.beq_iff {p q : Pos} : p.beq q = true ↔ p = q := by
  cases p with
  | hi p => cases q <;> simp [Pos.beq, BP.beq_iff]
  | lo a b c =>
    cases q with
    | hi q => simp [Pos.beq]
    | lo d e f =>
      simp only [Pos.beq]
      constructor
      · intro h
        cases hc : c.beq f with
        | false => rw [hc] at h; simp at h
        | true =>
          cases hb : b.beq e with
          | false => rw [hc, hb] at h; simp at h
          | true => rw [hc, hb] at h; rw [D16.beq_iff.1 hc, D16.beq_iff.1 hb, D16.beq_iff.1 h]
      · intro h
        simp only [Pos.lo.injEq] at h
        obtain ⟨rfl, rfl, rfl⟩ := h
        rw [D16.beq_iff.2 rfl, D16.beq_iff.2 rfl, D16.beq_iff.2 rfl]

def Slot.slot (n : Nat) : Slot := match Nat.blt n 256 with
  | true => .lo (.dig (n / 16)) (.dig (n % 16))
  | false => .hi (BP.ofNatF n (n - 255))
def Slot.toNat : Slot → Nat
  | .lo a b => a.toNat * 16 + b.toNat
  | .hi p => 255 + p.toNat
theorem Slot.toNat_slot (n : Nat) : (Slot.slot n).toNat = n := by
  unfold Slot.slot
  cases h : Nat.blt n 256 with
  | true =>
    have hn : n < 256 := by simpa [Nat.blt_eq] using h
    simp only [Slot.toNat, D16.toNat_dig (show n / 16 < 16 by omega), D16.toNat_dig (show n % 16 < 16 by omega)]
    omega
  | false =>
    have hn : ¬ n < 256 := by
      intro hh
      have : Nat.blt n 256 = true := by simpa [Nat.blt_eq] using hh
      rw [h] at this; simp at this
    simp only [Slot.toNat]
    rw [BP.toNat_ofNatF _ _ (by omega) (by omega)]; omega
theorem Slot.slot_inj {a b : Nat} (h : Slot.slot a = Slot.slot b) : a = b := by
  have := congrArg Slot.toNat h
  rwa [toNat_slot, toNat_slot] at this
def Slot.beq : Slot → Slot → Bool
  | .lo a b, .lo d e => match b.beq e with | true => a.beq d | false => false
  | .hi p, .hi q => p.beq q
  | _, _ => false
theorem Slot.beq_iff {p q : Slot} : p.beq q = true ↔ p = q := by
  cases p with
  | hi p => cases q <;> simp [Slot.beq, BP.beq_iff]
  | lo a b =>
    cases q with
    | hi q => simp [Slot.beq]
    | lo d e =>
      simp only [Slot.beq]
      constructor
      · intro h
        cases hc : b.beq e with
        | false => rw [hc] at h; simp at h
        | true => rw [hc] at h; rw [D16.beq_iff.1 hc, D16.beq_iff.1 h]
      · intro h
        simp only [Slot.lo.injEq] at h
        obtain ⟨rfl, rfl⟩ := h
        rw [D16.beq_iff.2 rfl, D16.beq_iff.2 rfl]

/-- Stores of blocks. -/
structure HT (α : Type) where
  lo : N16 (N16 (N16 (Option α)))
  hi : PT α
/-- Stores of temporaries. -/
structure TT (α : Type) where
  lo : N16 (N16 (Option α))
  hi : PT α
namespace HT
variable {α : Type}
def leaf : HT α := ⟨.all (.all (.all none)), .leaf⟩
def get (t : HT α) : Pos → Option α
  | .lo a b c => ((t.lo.get a).get b).get c
  | .hi p => t.hi.get p
def set (t : HT α) (p : Pos) (x : α) : HT α := match p with
  | .lo a b c => ⟨t.lo.set a ((t.lo.get a).set b (((t.lo.get a).get b).set c (some x))), t.hi⟩
  | .hi p => ⟨t.lo, t.hi.set p x⟩
theorem get_leaf (p : Pos) : (leaf : HT α).get p = none := by
  cases p with
  | lo a b c => simp [leaf, get, N16.get_all]
  | hi p => simp [leaf, get, PT.get_leaf]
theorem get_set_same (t : HT α) (p : Pos) (x : α) : (t.set p x).get p = some x := by
  cases p with
  | lo a b c => simp [get, set, N16.get_set_same]
  | hi p => simp [get, set, PT.get_set_same]
theorem get_set_ne (t : HT α) {p q : Pos} (x : α) (h : p ≠ q) : (t.set p x).get q = t.get q := by
  cases p with
  | hi p => cases q with
    | lo a b c => rfl
    | hi q => exact PT.get_set_ne _ _ (fun e => h (by rw [e]))
  | lo a b c => cases q with
    | hi q => rfl
    | lo d e f =>
      simp only [get, set]
      by_cases ha : a = d
      · subst ha
        rw [N16.get_set_same]
        by_cases hb : b = e
        · subst hb
          rw [N16.get_set_same, N16.get_set_ne]
          intro hc; exact h (by rw [hc])
        · rw [N16.get_set_ne _ _ hb]
      · rw [N16.get_set_ne _ _ ha]
end HT
namespace TT
variable {α : Type}
def leaf : TT α := ⟨.all (.all none), .leaf⟩
def get (t : TT α) : Slot → Option α
  | .lo a b => (t.lo.get a).get b
  | .hi p => t.hi.get p
def set (t : TT α) (p : Slot) (x : α) : TT α := match p with
  | .lo a b => ⟨t.lo.set a ((t.lo.get a).set b (some x)), t.hi⟩
  | .hi p => ⟨t.lo, t.hi.set p x⟩
theorem get_leaf (p : Slot) : (leaf : TT α).get p = none := by
  cases p with
  | lo a b => simp [leaf, get, N16.get_all]
  | hi p => simp [leaf, get, PT.get_leaf]
theorem get_set_same (t : TT α) (p : Slot) (x : α) : (t.set p x).get p = some x := by
  cases p with
  | lo a b => simp [get, set, N16.get_set_same]
  | hi p => simp [get, set, PT.get_set_same]
theorem get_set_ne (t : TT α) {p q : Slot} (x : α) (h : p ≠ q) : (t.set p x).get q = t.get q := by
  cases p with
  | hi p => cases q with
    | lo a b => rfl
    | hi q => exact PT.get_set_ne _ _ (fun e => h (by rw [e]))
  | lo a b => cases q with
    | hi q => rfl
    | lo d e =>
      simp only [get, set]
      by_cases ha : a = d
      · subst ha
        rw [N16.get_set_same, N16.get_set_ne]
        intro hc; exact h (by rw [hc])
      · rw [N16.get_set_ne _ _ ha]
end TT

/-- A capacity: so many elements; or up to the end of the block, whatever that is, in elements of so many cells. -/
inductive Cap where
  | ex (c : Nat)
  | up (esz : Nat)
  deriving DecidableEq, Inhabited

/-- Abstract values. 'any': nothing is known. 'str': the bytes. 'ptr': into a block of the abstract heap; 'iptr': into memory that nobody writes, which holds these cells from there on.
'imm': a slice in memory that nobody writes ('full': its capacity is its length). -/
inductive AV where
  | any
  | bool (b : Bool)
  | int (k : IntKind) (n : Int)
  | str (l : List Nat)
  | nilptr
  | ptr (id : Pos) (off : Nat)
  | gptr (g : Nat) (off : Nat)
  | iptr (cs : List AV)
  | nilslice
  | slice (id : Pos) (off len : Nat) (cap : Cap)
  | imm (cs : List AV) (len : Nat) (full : Bool)
  | nilmap
  | map (id : Pos)
  | nilfunc
  | func (f : FuncId) (first captured : List AV)
  | yield (l : Pos)
  | niliface
  | iface (t : TypeId) (v : AV)
  | agg (cs : List AV)
  | tuple (vs : List AV)
  deriving Inhabited

def AV.cells : AV → List AV
  | .agg cs => cs
  | v => [v]
/-- The cells of a value that can lie in memory. -/
def AV.cellsO : AV → Option (List AV)
  | .agg cs => some cs
  | .tuple _ => none
  | .any => none
  | v => some [v]

def AV.one : AV → Bool
  | .agg _ => false
  | .tuple _ => false
  | _ => true

/-- Temporaries. -/
abbrev Tm := TT AV
def Tm.at (t : Tm) (p : Slot) : AV := match t.get p with | some v => v | none => .any

/-- Operands. -/
inductive XO where
  | t (p : Slot)
  | c (v : AV)
  deriving Inhabited
def XO.ev : XO → Tm → AV
  | .t p => fun tm => tm.at p
  | .c v => fun _ => v
def evs : List XO → Tm → List AV
  | [] => fun _ => []
  | x :: xs => fun tm => x.ev tm :: evs xs tm

/-- Binary operations on numbers and strings; 'cells': equality of values whose cells are all plain (the cells that are looked at); 'isNil': equality with nil, or of two plain pointers. -/
inductive XB where
  | add | sub | mul | quo | rem | and | or | xor | shl | shr | andNot
  | eq | ne | lt | le | gt | ge
  deriving DecidableEq, Inhabited

/-- The kinds of values that an equality of one cell is between. -/
inductive SK where
  | bool | int | str | ptr | slice | map | func | iface
  deriving DecidableEq, Inhabited

inductive XU where
  | neg | xor | not
  deriving DecidableEq, Inhabited

/-- The instructions that neither call nor leave. -/
inductive XI where
  | mv (a : XO)
  | pick (c a b : XO)
  | nilck (a : XO)
  | bin (b : XB) (x y : XO)
  | same (neg : Bool) (k : SK) (x y : XO)
  | sameCells (neg : Bool) (mask : List (Option SK)) (x y : XO)
  | un (u : XU) (a : XO)
  | conv (k : IntKind) (a : XO)
  | mkif (t : TypeId) (a : XO)
  | mkfn (f : FuncId) (first cap : List XO)
  | fld (off : Nat) (n : Option Nat) (a : XO)
  | faddr (off : Nat) (a : XO)
  | iaddrA (len esz : Nat) (a i : XO)
  | iaddrS (esz : Nat) (a i : XO)
  | idxA (len esz : Nat) (n : Option Nat) (a i : XO)
  | idxS (a i : XO)
  | cutStr (a : XO) (lo hi : Option XO)
  | cutSl (esz : Nat) (a : XO) (lo hi mx : Option XO)
  | cutArr (len esz : Nat) (a : XO) (lo hi mx : Option XO)
  | extr (a : XO) (i : Nat)
  | tas (t : TypeId) (zero : AV) (ok : Bool) (a : XO)
  | len (s : Bool) (a : XO)
  | lenC (n : Nat)
  | cap (a : XO)
  | minmax (mx : Bool) (l : List XO)
  | build (zero : List AV) (parts : List (Nat × Nat × XO))
  | load (n : Option Nat) (a : XO)
  | lookup (s : Bool) (zero : AV) (ok : Bool) (m k : XO)
  | lenM (m : XO)
  | toStr (a : XO)
  | alloc (ty : TypeId) (zero : List AV)
  | box (ty : TypeId) (a : XO)
  | bslice (ty : TypeId) (esz len : Nat) (zeros : List AV) (parts : List (Nat × Nat × XO))
  | mkmap
  | mkslice (ty : TypeId) (bytes : Nat) (zero : List AV) (l c : XO)
  | toBytes (ty : TypeId) (a : XO)
  | mark (a : XO)
  | store (n : Nat) (a x : XO)
  | append (ty : TypeId) (esz bytes : Nat) (s x : XO)
  | appendZ (ty : TypeId) (bytes : Nat) (zero : List AV) (s n : XO)
  | copy (esz : Nat) (d s : XO)
  | delete (s : Bool) (m k : XO)
  | clearM (m : XO)
  | clearS (zero : List AV) (s : XO)
  | mapUpd (s : Bool) (m k v : XO)
  | mapEntry (s : Bool) (zero : AV) (m k : XO)
  | entryStore (m s v : XO)
  | range (s : Bool) (a : XO)
  | next (s : Bool) (a : XO)
  | entry (a : XO)
  | uptr (src : TypeId) (n : Nat) (a : XO)
  | ptru (dst : TypeId) (n : Nat) (a : XO)
  | ustring (elem : TypeId) (a n : XO)
  | sdata (a : XO)
  | cmpstr (a b : XO)
  | mkbytes (ty : TypeId) (n : XO)
  | no
  deriving Inhabited

/-- One operation of a region: an instruction, or one that calls or leaves. -/
inductive XC where
  | ins (i : XI)
  | call (f : FuncId) (args : List XO)
  | callv (f : XO) (args : List XO)
  | invoke (r : XO) (name : String) (args : List XO)
  | defer (f : XO) (args : List XO)
  | recover
  | panic (a : XO)
  deriving Inhabited

structure XOp where
  dst : Option Slot
  guard : Option (Slot × Bool)
  op : XC
  deriving Inhabited

/-- Code. A region whose order is open: phases, each of quiet operations, of checks that those done before would come to the same now, and of one loud operation ('phase'), or of two stores in either order ('pair'); the last one has none ('last'). -/
inductive XCode where
  | skip
  | reg (ops : List XOp)
  | last (quiet chks : List XOp)
  | phase (quiet chks : List XOp) (loud : XOp) (rest : XCode)
  | pair (quiet chks : List XOp) (n1 : Nat) (a1 x1 : XO) (c1 : List XOp) (n2 : Nat) (a2 x2 : XO) (c2 : List XOp) (rest : XCode)
  | seq (a b : XCode)
  | cond (c : XO) (thn els : XCode)
  | block (id : Nat) (body : XCode)
  | loop (body : XCode)
  | rfunc (f : XO) (params : List Slot) (n : Nat) (assign body : Code)
  | exit (id : Nat)
  | ret
  deriving Inhabited

/-- How code ends. -/
inductive XExit where
  | normal | exit (id : Nat) | ret
  deriving Inhabited

/-- Objects of the abstract heap. 'row': cells of a block of elements of type 'ty'; 'spare': the block may have more cells behind them, which nobody else has. 'dead': nothing is known any more.
'loop': a range over a function: its state, how its last round ended, the frame that it began in, how many temporaries that has, and its code. -/
inductive AObj where
  | dead
  | row (ty : TypeId) (cs : List AV) (spare : Bool)
  | map (es : List (AV × AV × Nat)) (clock : Nat)
  | sIter (l : List Nat) (pos : Nat)
  | mIter (m : Option Pos) (since : Nat) (seen : List Nat) (last : Nat)
  | loop (state : LoopState) (pending : XExit) (tm : Tm) (params : List Slot) (n : Nat) (assign body : Code)
  deriving Inhabited

structure Heap where
  next : Pos
  mem : HT AObj

def Heap.empty : Heap := ⟨.first, .leaf⟩
def Heap.get (h : Heap) (p : Pos) : AObj := match h.mem.get p with | some o => o | none => .dead
def Heap.set (h : Heap) (p : Pos) (o : AObj) : Heap := ⟨h.next, h.mem.set p o⟩
def Heap.push (h : Heap) (o : AObj) : Heap := ⟨h.next.succ, h.mem.set h.next o⟩

theorem Heap.get_set_same (h : Heap) (p : Pos) (o : AObj) : (h.set p o).get p = o := by simp [Heap.get, Heap.set, HT.get_set_same]
theorem Heap.get_set_ne (h : Heap) {p q : Pos} (o : AObj) (e : p ≠ q) : (h.set p o).get q = h.get q := by simp [Heap.get, Heap.set, HT.get_set_ne _ _ e]
theorem Heap.get_push_same (h : Heap) (o : AObj) : (h.push o).get h.next = o := by simp [Heap.get, Heap.push, HT.get_set_same]
theorem Heap.get_push_ne (h : Heap) {q : Pos} (o : AObj) (e : h.next ≠ q) : (h.push o).get q = h.get q := by simp [Heap.get, Heap.push, HT.get_set_ne _ _ e]

/-- What comes of a computation. -/
inductive Out (α : Type) where
  | ok (a : α) (h : Heap)
  | panic (v : AV) (h : Heap)
  | bad
  deriving Inhabited

def Heap.setK {β : Type} (h : Heap) (p : Pos) (o : AObj) (k : Heap → β) : β := k (h.set p o)
def Heap.pushK {β : Type} (h : Heap) (o : AObj) (k : Pos → Heap → β) : β := k h.next (h.push o)
theorem Heap.setK_eq {β : Type} (h : Heap) (p : Pos) (o : AObj) (k : Heap → β) : h.setK p o k = k (h.set p o) := rfl
theorem Heap.pushK_eq {β : Type} (h : Heap) (o : AObj) (k : Pos → Heap → β) : h.pushK o k = k h.next (h.push o) := rfl

end Go.X
