/- The data of the abstract machine X: positions, tries, abstract values, the abstract heap. No program in sight. -/
import GoSem.Core.Machine
import Derived.KernelRfl
import GoSem.Core.View
namespace Go.X
open Go
theorem mS {α:Type _} {a:α} (y:α) {l:List α} (h:a ∈ l):a ∈ y :: l:=List.mem_cons_of_mem y h
theorem m0 {α:Type _} {a:α} {l:List α}:a ∈ a :: l:=List.mem_cons_self
theorem sJ {α:Type _} {a b:α}:(some a = some b) = (a = b):=Option.some.injEq a b
theorem bJ {α β:Type _} {b:β} {o:Option α} {f:α→Option β}:o.bind f = some b ↔ ∃ a,o = some a∧f a = some b:=Option.bind_eq_some_iff
theorem fJ {α:Type _} {p:α→Prop} {a:α} {l:List α}:(∀ x,x ∈ a :: l→p x) ↔ p a∧∀ x,x ∈ l→p x:=List.forall_mem_cons

inductive BP where
  | u | o (p:BP) | i (p:BP)
  deriving DecidableEq,Inhabited

def BP.succ:BP→BP
  | .u=>.o .u
  | .o p=>.i p
  | .i p=>.o p.succ
def BP.toNat:BP→Nat
  | .u=>1
  | .o p=>2 * p.toNat
  | .i p=>2 * p.toNat + 1
def BP.beq:BP→BP→Bool
  | .u,.u=>true
  | .o p,.o q=>p.beq q
  | .i p,.i q=>p.beq q
  | _,_=>false

theorem BP.toNat_pos (p:BP):0 < p.toNat:=by
  induction p with
  | u=>simp [BP.toNat]
  | o p ih=>simp only [BP.toNat];omega
  | i p ih=>simp only [BP.toNat];omega
theorem BP.toNat_succ (p:BP):p.succ.toNat = p.toNat + 1:=by
  induction p with
  | u=>rfl
  | o p ih=>rfl
  | i p ih=>simp only [BP.succ,BP.toNat,ih];omega
theorem BP.toNat_inj {p q:BP} (h:p.toNat = q.toNat):p = q:=by
  induction p generalizing q with
  | u=>cases q with
    | u=>rfl
    | o q=>have:=q.toNat_pos;simp only [BP.toNat] at h;omega
    | i q=>have:=q.toNat_pos;simp only [BP.toNat] at h;omega
  | o p ih=>cases q with
    | u=>have:=p.toNat_pos;simp only [BP.toNat] at h;omega
    | o q=>simp only [BP.toNat] at h;rw [ih (q:=q) (by omega)]
    | i q=>simp only [BP.toNat] at h;omega
  | i p ih=>cases q with
    | u=>have:=p.toNat_pos;simp only [BP.toNat] at h;omega
    | o q=>simp only [BP.toNat] at h;omega
    | i q=>simp only [BP.toNat] at h;rw [ih (q:=q) (by omega)]
theorem BP.beq_iff {p q:BP}:p.beq q = true ↔ p = q:=by
  induction p generalizing q with
  | u=>cases q <;> simp [BP.beq]
  | o p ih=>cases q <;> simp [BP.beq,ih]
  | i p ih=>cases q <;> simp [BP.beq,ih]

def BP.ofNatF:Nat→Nat→BP
  | 0,_=>.u
  | k + 1,n=>if n ≤ 1 then .u else if n % 2 = 0 then .o (ofNatF k (n / 2)) else .i (ofNatF k (n / 2))
theorem BP.toNat_ofNatF:∀ (k n:Nat),0 < n→n ≤ k→(BP.ofNatF k n).toNat = n
  | 0,n,h,hk=>by omega
  | k + 1,n,h,hk=>by
    unfold BP.ofNatF
    by_cases h1:n ≤ 1
    · rw [if_pos h1];simp only [BP.toNat];omega
    · rw [if_neg h1];have ih:=BP.toNat_ofNatF k (n / 2) (by omega) (by omega)
      by_cases h2:n % 2 = 0
      · rw [if_pos h2];simp only [BP.toNat,ih];omega
      · rw [if_neg h2];simp only [BP.toNat,ih];omega
inductive PT (α:Type) where
  | leaf
  | node (l:PT α) (v:Option α) (r:PT α)
  deriving Inhabited

namespace PT
variable {α:Type}
def get:PT α→BP→Option α
  | .leaf,_=>none
  | .node _ v _,.u=>v
  | .node l _ _,.o p=>l.get p
  | .node _ _ r,.i p=>r.get p
def set:PT α→BP→α→PT α
  | .leaf,.u,x=>.node .leaf (some x) .leaf
  | .leaf,.o p,x=>.node (set .leaf p x) none .leaf
  | .leaf,.i p,x=>.node .leaf none (set .leaf p x)
  | .node l _ r,.u,x=>.node l (some x) r
  | .node l v r,.o p,x=>.node (l.set p x) v r
  | .node l v r,.i p,x=>.node l v (r.set p x)

theorem get_leaf (p:BP):(leaf:PT α).get p = none:=by cases p <;> rfl
theorem get_set_same (t:PT α) (p:BP) (x:α):(t.set p x).get p = some x:=by
  induction p generalizing t with
  | u=>cases t <;> rfl
  | o p ih=>cases t <;> exact ih _
  | i p ih=>cases t <;> exact ih _
theorem get_set_ne (t:PT α) {p q:BP} (x:α) (h:p ≠ q):(t.set p x).get q = t.get q:=by
  induction p generalizing t q with
  | u=>cases q <;> cases t <;> first | exact absurd rfl h | simp [PT.set,PT.get]
  | o p ih=>cases q with
    | u=>cases t <;> rfl
    | o q=>cases t with
      | leaf=>exact (ih _ (fun e=>h (by rw [e]))).trans (by rw [get_leaf];rfl)
      | node l v r=>exact ih _ (fun e=>h (by rw [e]))
    | i q=>cases t <;> simp [PT.set,PT.get]
  | i p ih=>cases q with
    | u=>cases t <;> rfl
    | i q=>cases t with
      | leaf=>exact (ih _ (fun e=>h (by rw [e]))).trans (by rw [get_leaf];rfl)
      | node l v r=>exact ih _ (fun e=>h (by rw [e]))
    | o q=>cases t <;> simp [PT.set,PT.get]
end PT

inductive D16 where
  | d0 | d1 | d2 | d3 | d4 | d5 | d6 | d7 | d8 | d9 | d10 | d11 | d12 | d13 | d14 | d15
  deriving DecidableEq,Inhabited
structure N16 (α:Type) where
  c0:α
  c1:α
  c2:α
  c3:α
  c4:α
  c5:α
  c6:α
  c7:α
  c8:α
  c9:α
  c10:α
  c11:α
  c12:α
  c13:α
  c14:α
  c15:α

def D16.toNat:D16→Nat
  | .d0=>0
  | .d1=>1
  | .d2=>2
  | .d3=>3
  | .d4=>4
  | .d5=>5
  | .d6=>6
  | .d7=>7
  | .d8=>8
  | .d9=>9
  | .d10=>10
  | .d11=>11
  | .d12=>12
  | .d13=>13
  | .d14=>14
  | .d15=>15

def D16.dig:Nat→D16
  | 0=>.d0
  | 1=>.d1
  | 2=>.d2
  | 3=>.d3
  | 4=>.d4
  | 5=>.d5
  | 6=>.d6
  | 7=>.d7
  | 8=>.d8
  | 9=>.d9
  | 10=>.d10
  | 11=>.d11
  | 12=>.d12
  | 13=>.d13
  | 14=>.d14
  | _=>.d15

theorem D16.toNat_dig {n:Nat} (h:n < 16):(D16.dig n).toNat = n:=by
  have:∀ m:Fin 16,(D16.dig m.1).toNat = m.1:=by decide
  exact this ⟨n,h⟩
theorem D16.toNat_lt (d:D16):d.toNat < 16:=by cases d <;> decide
theorem D16.toNat_inj {a b:D16} (h:a.toNat = b.toNat):a = b:=by
  have ha:D16.dig a.toNat = a:=by cases a <;> rfl
  have hb:D16.dig b.toNat = b:=by cases b <;> rfl
  rw [← ha,← hb,h]
def D16.beq (a b:D16):Bool:=Nat.beq a.toNat b.toNat
theorem D16.beq_iff {a b:D16}:a.beq b = true ↔ a = b:=⟨fun h=>D16.toNat_inj (Nat.eq_of_beq_eq_true h),fun h=>by subst h;exact Nat.beq_refl _⟩
namespace N16
variable {α:Type}
def get (n:N16 α):D16→α
  | .d0=>n.c0
  | .d1=>n.c1
  | .d2=>n.c2
  | .d3=>n.c3
  | .d4=>n.c4
  | .d5=>n.c5
  | .d6=>n.c6
  | .d7=>n.c7
  | .d8=>n.c8
  | .d9=>n.c9
  | .d10=>n.c10
  | .d11=>n.c11
  | .d12=>n.c12
  | .d13=>n.c13
  | .d14=>n.c14
  | .d15=>n.c15

def set (n:N16 α) (d:D16) (v:α):N16 α:=match d with
  | .d0=>⟨v,n.c1,n.c2,n.c3,n.c4,n.c5,n.c6,n.c7,n.c8,n.c9,n.c10,n.c11,n.c12,n.c13,n.c14,n.c15⟩
  | .d1=>⟨n.c0,v,n.c2,n.c3,n.c4,n.c5,n.c6,n.c7,n.c8,n.c9,n.c10,n.c11,n.c12,n.c13,n.c14,n.c15⟩
  | .d2=>⟨n.c0,n.c1,v,n.c3,n.c4,n.c5,n.c6,n.c7,n.c8,n.c9,n.c10,n.c11,n.c12,n.c13,n.c14,n.c15⟩
  | .d3=>⟨n.c0,n.c1,n.c2,v,n.c4,n.c5,n.c6,n.c7,n.c8,n.c9,n.c10,n.c11,n.c12,n.c13,n.c14,n.c15⟩
  | .d4=>⟨n.c0,n.c1,n.c2,n.c3,v,n.c5,n.c6,n.c7,n.c8,n.c9,n.c10,n.c11,n.c12,n.c13,n.c14,n.c15⟩
  | .d5=>⟨n.c0,n.c1,n.c2,n.c3,n.c4,v,n.c6,n.c7,n.c8,n.c9,n.c10,n.c11,n.c12,n.c13,n.c14,n.c15⟩
  | .d6=>⟨n.c0,n.c1,n.c2,n.c3,n.c4,n.c5,v,n.c7,n.c8,n.c9,n.c10,n.c11,n.c12,n.c13,n.c14,n.c15⟩
  | .d7=>⟨n.c0,n.c1,n.c2,n.c3,n.c4,n.c5,n.c6,v,n.c8,n.c9,n.c10,n.c11,n.c12,n.c13,n.c14,n.c15⟩
  | .d8=>⟨n.c0,n.c1,n.c2,n.c3,n.c4,n.c5,n.c6,n.c7,v,n.c9,n.c10,n.c11,n.c12,n.c13,n.c14,n.c15⟩
  | .d9=>⟨n.c0,n.c1,n.c2,n.c3,n.c4,n.c5,n.c6,n.c7,n.c8,v,n.c10,n.c11,n.c12,n.c13,n.c14,n.c15⟩
  | .d10=>⟨n.c0,n.c1,n.c2,n.c3,n.c4,n.c5,n.c6,n.c7,n.c8,n.c9,v,n.c11,n.c12,n.c13,n.c14,n.c15⟩
  | .d11=>⟨n.c0,n.c1,n.c2,n.c3,n.c4,n.c5,n.c6,n.c7,n.c8,n.c9,n.c10,v,n.c12,n.c13,n.c14,n.c15⟩
  | .d12=>⟨n.c0,n.c1,n.c2,n.c3,n.c4,n.c5,n.c6,n.c7,n.c8,n.c9,n.c10,n.c11,v,n.c13,n.c14,n.c15⟩
  | .d13=>⟨n.c0,n.c1,n.c2,n.c3,n.c4,n.c5,n.c6,n.c7,n.c8,n.c9,n.c10,n.c11,n.c12,v,n.c14,n.c15⟩
  | .d14=>⟨n.c0,n.c1,n.c2,n.c3,n.c4,n.c5,n.c6,n.c7,n.c8,n.c9,n.c10,n.c11,n.c12,n.c13,v,n.c15⟩
  | .d15=>⟨n.c0,n.c1,n.c2,n.c3,n.c4,n.c5,n.c6,n.c7,n.c8,n.c9,n.c10,n.c11,n.c12,n.c13,n.c14,v⟩

theorem get_set_same (n:N16 α) (d:D16) (v:α):(n.set d v).get d = v:=by cases d <;> rfl
theorem get_set_ne (n:N16 α) {d e:D16} (v:α) (h:d ≠ e):(n.set d v).get e = n.get e:=by
  cases d <;> cases e <;> first | rfl | exact absurd rfl h
def all (a:α):N16 α:=⟨a,a,a,a,a,a,a,a,a,a,a,a,a,a,a,a⟩
theorem get_all (a:α) (d:D16):(all a).get d = a:=by cases d <;> rfl
end N16

inductive Pos where
  | lo (a b c:D16)
  | hi (p:BP)
  deriving DecidableEq,Inhabited
inductive Slot where
  | lo (a b:D16)
  | hi (p:BP)
  deriving DecidableEq,Inhabited

def Pos.first:Pos:=.lo .d0 .d0 .d0
def D16.next:D16→D16
  | .d0=>.d1 | .d1=>.d2 | .d2=>.d3 | .d3=>.d4 | .d4=>.d5 | .d5=>.d6 | .d6=>.d7 | .d7=>.d8
  | .d8=>.d9 | .d9=>.d10 | .d10=>.d11 | .d11=>.d12 | .d12=>.d13 | .d13=>.d14 | .d14=>.d15 | .d15=>.d15
def D16.top:D16→Bool
  | .d15=>true
  | _=>false
def Pos.succ:Pos→Pos
  | .lo a b c=>match c.top with
    | false=>.lo a b c.next
    | true=>match b.top with
      | false=>.lo a b.next .d0
      | true=>match a.top with
        | false=>.lo a.next .d0 .d0
        | true=>.hi .u
  | .hi p=>.hi p.succ
def Pos.toNat:Pos→Nat
  | .lo a b c=>a.toNat * 256 + b.toNat * 16 + c.toNat
  | .hi p=>4095 + p.toNat
def Pos.beq:Pos→Pos→Bool
  | .lo a b c,.lo d e f=>match c.beq f with | true=>(match b.beq e with | true=>a.beq d | false=>false) | false=>false
  | .hi p,.hi q=>p.beq q
  | _,_=>false

theorem D16.next_toNat {c:D16} (h:c.top = false):c.next.toNat = c.toNat + 1:=by cases c <;> first | rfl | simp [D16.top] at h
theorem D16.top_toNat {c:D16} (h:c.top = true):c.toNat = 15:=by cases c <;> first | rfl | simp [D16.top] at h
theorem Pos.toNat_succ (p:Pos):p.succ.toNat = p.toNat + 1:=by
  cases p with
  | hi p=>simp only [Pos.succ,Pos.toNat,BP.toNat_succ];omega
  | lo a b c =>
    simp only [Pos.succ]
    cases hc:c.top with
    | false=>simp only [Pos.toNat,D16.next_toNat hc];omega
    | true =>
      cases hb:b.top with
      | false=>simp only [Pos.toNat,D16.next_toNat hb,D16.top_toNat hc];simp only [D16.toNat];omega
      | true =>
        cases ha:a.top with
        | false=>simp only [Pos.toNat,D16.next_toNat ha,D16.top_toNat hb,D16.top_toNat hc];simp only [D16.toNat];omega
        | true=>simp only [Pos.toNat,BP.toNat,D16.top_toNat ha,D16.top_toNat hb,D16.top_toNat hc]
theorem Pos.toNat_inj {p q:Pos} (h:p.toNat = q.toNat):p = q:=by
  cases p with
  | lo a b c=>cases q with
    | lo d e f =>
      simp only [Pos.toNat] at h;have:=a.toNat_lt;have:=b.toNat_lt;have:=c.toNat_lt;have:=d.toNat_lt;have:=e.toNat_lt;have:=f.toNat_lt;rw [D16.toNat_inj (a:=a) (b:=d) (by omega),D16.toNat_inj (a:=b) (b:=e) (by omega),D16.toNat_inj (a:=c) (b:=f) (by omega)]
    | hi q =>
      simp only [Pos.toNat] at h;have:=a.toNat_lt;have:=b.toNat_lt;have:=c.toNat_lt;have:=q.toNat_pos;omega
  | hi p=>cases q with
    | lo d e f =>
      simp only [Pos.toNat] at h;have:=d.toNat_lt;have:=e.toNat_lt;have:=f.toNat_lt;have:=p.toNat_pos;omega
    | hi q=>simp only [Pos.toNat] at h;rw [BP.toNat_inj (p:=p) (q:=q) (by omega)]
theorem Pos.beq_iff {p q:Pos}:p.beq q = true ↔ p = q:=by
  cases p with
  | hi p=>cases q <;> simp [Pos.beq,BP.beq_iff]
  | lo a b c =>
    cases q with
    | hi q=>simp [Pos.beq]
    | lo d e f =>
      simp only [Pos.beq]
      constructor
      · intro h
        cases hc:c.beq f with
        | false=>rw [hc] at h;simp at h
        | true =>
          cases hb:b.beq e with
          | false=>rw [hc,hb] at h;simp at h
          | true=>rw [hc,hb] at h;rw [D16.beq_iff.1 hc,D16.beq_iff.1 hb,D16.beq_iff.1 h]
      · intro h;simp only [Pos.lo.injEq] at h;obtain ⟨rfl,rfl,rfl⟩:=h;rw [D16.beq_iff.2 rfl,D16.beq_iff.2 rfl,D16.beq_iff.2 rfl]

def Slot.slot (n:Nat):Slot:=match Nat.blt n 256 with
  | true=>.lo (.dig (n / 16)) (.dig (n % 16))
  | false=>.hi (BP.ofNatF n (n - 255))
def Slot.toNat:Slot→Nat
  | .lo a b=>a.toNat * 16 + b.toNat
  | .hi p=>255 + p.toNat
theorem Slot.toNat_slot (n:Nat):(Slot.slot n).toNat = n:=by
  unfold Slot.slot
  cases h:Nat.blt n 256 with
  | true =>
    have hn:n < 256:=by simpa [Nat.blt_eq] using h
    simp only [Slot.toNat,D16.toNat_dig (show n / 16 < 16 by omega),D16.toNat_dig (show n % 16 < 16 by omega)];omega
  | false =>
    have hn : ¬ n < 256:=by
      intro hh;have:Nat.blt n 256 = true:=by simpa [Nat.blt_eq] using hh
      rw [h] at this;simp at this
    simp only [Slot.toNat];rw [BP.toNat_ofNatF _ _ (by omega) (by omega)];omega
theorem Slot.slot_inj {a b:Nat} (h:Slot.slot a = Slot.slot b):a = b:=by
  have:=congrArg Slot.toNat h
  rwa [toNat_slot,toNat_slot] at this
def Slot.beq:Slot→Slot→Bool
  | .lo a b,.lo d e=>match b.beq e with | true=>a.beq d | false=>false
  | .hi p,.hi q=>p.beq q
  | _,_=>false
theorem Slot.beq_iff {p q:Slot}:p.beq q = true ↔ p = q:=by
  cases p with
  | hi p=>cases q <;> simp [Slot.beq,BP.beq_iff]
  | lo a b =>
    cases q with
    | hi q=>simp [Slot.beq]
    | lo d e =>
      simp only [Slot.beq]
      constructor
      · intro h
        cases hc:b.beq e with
        | false=>rw [hc] at h;simp at h
        | true=>rw [hc] at h;rw [D16.beq_iff.1 hc,D16.beq_iff.1 h]
      · intro h;simp only [Slot.lo.injEq] at h;obtain ⟨rfl,rfl⟩:=h;rw [D16.beq_iff.2 rfl,D16.beq_iff.2 rfl]

structure HT (α:Type) where
  lo:N16 (N16 (N16 (Option α)))
  hi:PT α
structure TT (α:Type) where
  lo:N16 (N16 (Option α))
  hi:PT α
namespace HT
variable {α:Type}
def leaf:HT α:=⟨.all (.all (.all none)),.leaf⟩
def get (t:HT α):Pos→Option α
  | .lo a b c=>((t.lo.get a).get b).get c
  | .hi p=>t.hi.get p
def set (t:HT α) (p:Pos) (x:α):HT α:=match p with
  | .lo a b c=>⟨t.lo.set a ((t.lo.get a).set b (((t.lo.get a).get b).set c (some x))),t.hi⟩
  | .hi p=>⟨t.lo,t.hi.set p x⟩
theorem get_leaf (p:Pos):(leaf:HT α).get p = none:=by
  cases p with
  | lo a b c=>simp [leaf,get,N16.get_all]
  | hi p=>simp [leaf,get,PT.get_leaf]
theorem get_set_same (t:HT α) (p:Pos) (x:α):(t.set p x).get p = some x:=by
  cases p with
  | lo a b c=>simp [get,set,N16.get_set_same]
  | hi p=>simp [get,set,PT.get_set_same]
theorem get_set_ne (t:HT α) {p q:Pos} (x:α) (h:p ≠ q):(t.set p x).get q = t.get q:=by
  cases p with
  | hi p=>cases q with
    | lo a b c=>rfl
    | hi q=>exact PT.get_set_ne _ _ (fun e=>h (by rw [e]))
  | lo a b c=>cases q with
    | hi q=>rfl
    | lo d e f =>
      simp only [get,set]
      by_cases ha:a = d
      · subst ha;rw [N16.get_set_same]
        by_cases hb:b = e
        · subst hb;rw [N16.get_set_same,N16.get_set_ne];intro hc;exact h (by rw [hc])
        · rw [N16.get_set_ne _ _ hb]
      · rw [N16.get_set_ne _ _ ha]
end HT
namespace TT
variable {α:Type}
def leaf:TT α:=⟨.all (.all none),.leaf⟩
def get (t:TT α):Slot→Option α
  | .lo a b=>(t.lo.get a).get b
  | .hi p=>t.hi.get p
def set (t:TT α) (p:Slot) (x:α):TT α:=match p with
  | .lo a b=>⟨t.lo.set a ((t.lo.get a).set b (some x)),t.hi⟩
  | .hi p=>⟨t.lo,t.hi.set p x⟩
theorem get_leaf (p:Slot):(leaf:TT α).get p = none:=by
  cases p with
  | lo a b=>simp [leaf,get,N16.get_all]
  | hi p=>simp [leaf,get,PT.get_leaf]
theorem get_set_same (t:TT α) (p:Slot) (x:α):(t.set p x).get p = some x:=by
  cases p with
  | lo a b=>simp [get,set,N16.get_set_same]
  | hi p=>simp [get,set,PT.get_set_same]
theorem get_set_ne (t:TT α) {p q:Slot} (x:α) (h:p ≠ q):(t.set p x).get q = t.get q:=by
  cases p with
  | hi p=>cases q with
    | lo a b=>rfl
    | hi q=>exact PT.get_set_ne _ _ (fun e=>h (by rw [e]))
  | lo a b=>cases q with
    | hi q=>rfl
    | lo d e =>
      simp only [get,set]
      by_cases ha:a = d
      · subst ha;rw [N16.get_set_same,N16.get_set_ne];intro hc;exact h (by rw [hc])
      · rw [N16.get_set_ne _ _ ha]
end TT

inductive Cap where
  | ex (c:Nat)
  | up (esz:Nat)
  deriving DecidableEq,Inhabited

inductive AV where
  | any
  | bool (b:Bool)
  | int (k:IntKind) (n:Int)
  | str (l:List Nat)
  | nilptr
  | ptr (id:Pos) (off:Nat)
  | gptr (g:Nat) (off:Nat)
  | iptr (cs:List AV)
  | nilslice
  | slice (id:Pos) (off len:Nat) (cap:Cap)
  | imm (cs:List AV) (len:Nat) (full:Bool)
  | nilmap
  | map (id:Pos)
  | nilfunc
  | func (f:FuncId) (first captured:List AV)
  | yield (l:Pos)
  | niliface
  | iface (t:TypeId) (v:AV)
  | agg (cs:List AV)
  | tuple (vs:List AV)
  deriving Inhabited

def AV.cells:AV→List AV
  | .agg cs=>cs
  | v=>[v]
def AV.cellsO:AV→Option (List AV)
  | .agg cs=>some cs
  | .tuple _=>none
  | .any=>none
  | v=>some [v]

def AV.one:AV→Bool
  | .agg _=>false
  | .tuple _=>false
  | _=>true

abbrev Tm:=TT AV
def Tm.at (t:Tm) (p:Slot):AV:=match t.get p with | some v=>v | none=>.any

inductive XO where
  | t (p:Slot)
  | c (v:AV)
  deriving Inhabited

inductive XB where
  | add | sub | mul | quo | rem | and | or | xor | shl | shr | andNot
  | eq | ne | lt | le | gt | ge
  deriving DecidableEq,Inhabited

inductive SK where
  | bool | int | str | ptr | slice | map | func | iface
  deriving DecidableEq,Inhabited

inductive XU where
  | neg | xor | not
  deriving DecidableEq,Inhabited

inductive XI where
  | mv (a:XO)
  | pick (c a b:XO)
  | nilck (a:XO)
  | bin (b:XB) (x y:XO)
  | same (neg:Bool) (k:SK) (x y:XO)
  | sameCells (neg:Bool) (mask:List (Option SK)) (x y:XO)
  | un (u:XU) (a:XO)
  | conv (k:IntKind) (a:XO)
  | mkif (t:TypeId) (a:XO)
  | mkfn (f:FuncId) (first cap:List XO)
  | fld (off:Nat) (n:Option Nat) (a:XO)
  | faddr (off:Nat) (a:XO)
  | iaddrA (len esz:Nat) (a i:XO)
  | iaddrS (esz:Nat) (a i:XO)
  | idxA (len esz:Nat) (n:Option Nat) (a i:XO)
  | idxS (a i:XO)
  | cutStr (a:XO) (lo hi:Option XO)
  | cutSl (esz:Nat) (a:XO) (lo hi mx:Option XO)
  | cutArr (len esz:Nat) (a:XO) (lo hi mx:Option XO)
  | extr (a:XO) (i:Nat)
  | tas (t:TypeId) (zero:AV) (ok:Bool) (a:XO)
  | len (s:Bool) (a:XO)
  | lenC (n:Nat)
  | cap (a:XO)
  | minmax (mx:Bool) (l:List XO)
  | build (zero:List AV) (parts:List (Nat × Nat × XO))
  | load (n:Option Nat) (a:XO)
  | lookup (s:Bool) (zero:AV) (ok:Bool) (m k:XO)
  | lenM (m:XO)
  | toStr (a:XO)
  | alloc (ty:TypeId) (zero:List AV)
  | box (ty:TypeId) (a:XO)
  | bslice (ty:TypeId) (esz len:Nat) (zeros:List AV) (parts:List (Nat × Nat × XO))
  | mkmap
  | mkslice (ty:TypeId) (bytes:Nat) (zero:List AV) (l c:XO)
  | toBytes (ty:TypeId) (a:XO)
  | mark (a:XO)
  | store (n:Nat) (a x:XO)
  | append (ty:TypeId) (esz bytes:Nat) (s x:XO)
  | appendZ (ty:TypeId) (bytes:Nat) (zero:List AV) (s n:XO)
  | copy (esz:Nat) (d s:XO)
  | delete (s:Bool) (m k:XO)
  | clearM (m:XO)
  | clearS (zero:List AV) (s:XO)
  | mapUpd (s:Bool) (m k v:XO)
  | mapEntry (s:Bool) (zero:AV) (m k:XO)
  | entryStore (m s v:XO)
  | range (s:Bool) (a:XO)
  | next (s:Bool) (a:XO)
  | entry (a:XO)
  | uptr (src:TypeId) (n:Nat) (a:XO)
  | ptru (dst:TypeId) (n:Nat) (a:XO)
  | ustring (elem:TypeId) (a n:XO)
  | sdata (a:XO)
  | cmpstr (a b:XO)
  | mkbytes (ty:TypeId) (n:XO)
  | no
  deriving Inhabited

inductive XC where
  | ins (i:XI)
  | call (f:FuncId) (args:List XO)
  | callv (f:XO) (args:List XO)
  | invoke (r:XO) (name:String) (args:List XO)
  | defer (f:XO) (args:List XO)
  | recover
  | panic (a:XO)
  deriving Inhabited

structure XOp where
  dst:Option Slot
  guard:Option (Slot × Bool)
  op:XC
  deriving Inhabited

inductive XCode where
  | skip
  | reg (ops:List XOp)
  | last (quiet chks:List XOp)
  | phase (quiet chks:List XOp) (loud:XOp) (rest:XCode)
  | pair (quiet chks:List XOp) (n1:Nat) (a1 x1:XO) (c1:List XOp) (n2:Nat) (a2 x2:XO) (c2:List XOp) (rest:XCode)
  | seq (a b:XCode)
  | cond (c:XO) (thn els:XCode)
  | block (id:Nat) (body:XCode)
  | loop (body:XCode)
  | rfunc (f:XO) (params:List Slot) (n:Nat) (assign body:Code)
  | exit (id:Nat)
  | ret
  deriving Inhabited

inductive XExit where
  | normal | exit (id:Nat) | ret
  deriving Inhabited

inductive AObj where
  | dead
  | row (ty:TypeId) (cs:List AV) (spare:Bool)
  | map (es:List (AV × AV × Nat)) (clock:Nat)
  | sIter (l:List Nat) (pos:Nat)
  | mIter (m:Option Pos) (since:Nat) (seen:List Nat) (last:Nat)
  | loop (state:LoopState) (pending:XExit) (tm:Tm) (params:List Slot) (n:Nat) (assign body:Code)
  deriving Inhabited

structure Heap where
  next:Pos
  mem:HT AObj

def Heap.empty:Heap:=⟨.first,.leaf⟩
def Heap.get (h:Heap) (p:Pos):AObj:=match h.mem.get p with | some o=>o | none=>.dead
def Heap.set (h:Heap) (p:Pos) (o:AObj):Heap:=⟨h.next,h.mem.set p o⟩
def Heap.push (h:Heap) (o:AObj):Heap:=⟨h.next.succ,h.mem.set h.next o⟩

theorem Heap.get_set_same (h:Heap) (p:Pos) (o:AObj):(h.set p o).get p = o:=by simp [Heap.get,Heap.set,HT.get_set_same]
theorem Heap.get_set_ne (h:Heap) {p q:Pos} (o:AObj) (e:p ≠ q):(h.set p o).get q = h.get q:=by simp [Heap.get,Heap.set,HT.get_set_ne _ _ e]
theorem Heap.get_push_same (h:Heap) (o:AObj):(h.push o).get h.next = o:=by simp [Heap.get,Heap.push,HT.get_set_same]
theorem Heap.get_push_ne (h:Heap) {q:Pos} (o:AObj) (e:h.next ≠ q):(h.push o).get q = h.get q:=by simp [Heap.get,Heap.push,HT.get_set_ne _ _ e]

inductive Out (α:Type) where
  | ok (a:α) (h:Heap)
  | panic (v:AV) (h:Heap)
  | bad
  deriving Inhabited

def Heap.setK {β:Type} (h:Heap) (p:Pos) (o:AObj) (k:Heap→β):β:=k (h.set p o)
def Heap.pushK {β:Type} (h:Heap) (o:AObj) (k:Pos→Heap→β):β:=k h.next (h.push o)
theorem Heap.setK_eq {β:Type} (h:Heap) (p:Pos) (o:AObj) (k:Heap→β):h.setK p o k = k (h.set p o):=rfl
theorem Heap.pushK_eq {β:Type} (h:Heap) (o:AObj) (k:Pos→Heap→β):h.pushK o k = k h.next (h.push o):=rfl

end Go.X

/- The instructions of the abstract machine X that neither call nor leave: what each comes to. No program in sight. -/
namespace Go.X
open Go

/-! ### lists -/
def nth {α:Type}:List α→Nat→Option α
  | [],_=>none
  | x :: xs,n=>match n with | 0=>some x | m + 1=>nth xs m
def takeE {α:Type}:Nat→List α→Option (List α)
  | 0,_=>some []
  | _ + 1,[]=>none
  | n + 1,x :: xs=>match takeE n xs with | some l=>some (x :: l) | none=>none
def dropE {α:Type}:Nat→List α→Option (List α)
  | 0,l=>some l
  | _ + 1,[]=>none
  | n + 1,_ :: xs=>dropE n xs
def sub {α:Type} (l:List α) (off n:Nat):Option (List α):=match dropE off l with | some r=>takeE n r | none=>none
def overK {α β:Type} (no:β):List α→List α→(List α→β)→β
  | [],cs=>fun k=>k cs
  | x :: xs,cs=>match cs with | []=>fun _=>no | _ :: cs=>fun k=>overK no xs cs fun r=>k (x :: r)
def spliceK {α β:Type} (no:β):Nat→List α→List α→(List α→β)→β
  | 0,xs,cs=>overK no xs cs
  | n + 1,xs,cs=>match cs with | []=>fun _=>no | c :: cs=>fun k=>spliceK no n xs cs fun r=>k (c :: r)
def repeatL {α:Type}:Nat→List α→List α
  | 0,_=>[]
  | n + 1,l=>l++repeatL n l
def lenN {α:Type}:List α→Nat→Nat
  | [],n=>n
  | _ :: xs,n=>match Nat.succ n with | m=>lenN xs m
def lengthIs {α:Type}:List α→Nat→Bool
  | [],n=>match n with | 0=>true | _ + 1=>false
  | _ :: xs,n=>match n with | 0=>false | m + 1=>lengthIs xs m
def beqN:List Nat→List Nat→Bool
  | [],l=>match l with | []=>true | _ :: _=>false
  | a :: x,l=>match l with | []=>false | b :: y=>match Nat.beq a b with | true=>beqN x y | false=>false
def ltN:List Nat→List Nat→Bool
  | x,l=>match l with
    | []=>false
    | b :: y=>match x with
      | []=>true
      | a :: x=>match Nat.blt a b with | true=>true | false=>match Nat.beq a b with | true=>ltN x y | false=>false

/-! ### numbers -/
def sameK:IntKind→IntKind→Bool
  | .i8,k=>match k with | .i8=>true | _=>false
  | .i16,k=>match k with | .i16=>true | _=>false
  | .i32,k=>match k with | .i32=>true | _=>false
  | .i64,k=>match k with | .i64=>true | _=>false
  | .u8,k=>match k with | .u8=>true | _=>false
  | .u16,k=>match k with | .u16=>true | _=>false
  | .u32,k=>match k with | .u32=>true | _=>false
  | .u64,k=>match k with | .u64=>true | _=>false
def wrap64F:Int→Int
  | .ofNat m=>match Nat.blt m 9223372036854775808 with | true=>.ofNat m | false=>IntKind.i64.wrap (.ofNat m)
  | .negSucc m=>match Nat.blt m 9223372036854775808 with | true=>.negSucc m | false=>IntKind.i64.wrap (.negSucc m)
def wrapU (b:Nat) (k:IntKind):Int→Int
  | .ofNat m=>.ofNat (m % b)
  | .negSucc m=>k.wrap (.negSucc m)
def wrapF:IntKind→Int→Int
  | .i64=>wrap64F
  | .u64=>wrapU 18446744073709551616 .u64
  | .u32=>wrapU 4294967296 .u32
  | .u8=>wrapU 256 .u8
  | k=>k.wrap
def eqI:Int→Int→Bool
  | .ofNat a,.ofNat b=>Nat.beq a b
  | .negSucc a,.negSucc b=>Nat.beq a b
  | _,_=>false
def ltI:Int→Int→Bool
  | .ofNat a,.ofNat b=>Nat.blt a b
  | .ofNat _,.negSucc _=>false
  | .negSucc _,.ofNat _=>true
  | .negSucc a,.negSucc b=>Nat.blt b a
def leI (a b:Int):Bool:=match ltI b a with | true=>false | false=>true

/-! ### operands -/
def XO.withO (x:XO) (tm:Tm) (k:AV→Out AV):Out AV :=
  match x with
  | .c v=>k v
  | .t p=>match tm.get p with | some v=>k v | none=>.bad
def XO.withI (x:XO) (tm:Tm) (k:IntKind→Int→Out AV):Out AV:=x.withO tm fun | .int kd n=>k kd n | _=>.bad
def XO.withB (x:XO) (tm:Tm) (k:Bool→Out AV):Out AV:=x.withO tm fun | .bool b=>k b | _=>.bad
def XO.withN (x:XO) (tm:Tm) (k:Nat→Out AV):Out AV:=x.withI tm fun _ n=>match n with | .ofNat m=>k m | .negSucc _=>.bad
def withNo (x:Option XO) (d:Nat) (tm:Tm) (k:Nat→Out AV):Out AV:=match x with | none=>k d | some x=>x.withN tm k
def withL:List XO→Tm→(List AV→Out AV)→Out AV
  | [],_,k=>k []
  | x :: xs,tm,k=>x.withO tm fun v=>withL xs tm fun vs=>k (v :: vs)

/-! ### pure instructions -/
def mvS (a:XO) (tm:Tm) (h:Heap):Out AV:=a.withO tm fun v=>.ok v h
def pickS (c a b:XO) (tm:Tm) (h:Heap):Out AV:=c.withB tm fun t=>match t with | true=>a.withO tm fun v=>.ok v h | false=>b.withO tm fun v=>.ok v h
def nilckS (a:XO) (tm:Tm) (h:Heap):Out AV:=a.withO tm fun v=>match v with
  | .ptr .. | .gptr .. | .iptr ..=>.ok v h
  | .func ..=>.ok v h
  | _=>.bad

def okB (h:Heap) (b:Bool):Out AV:=.ok (.bool b) h
def okI (k:IntKind) (n:Int) (h:Heap):Out AV:=.ok (.int k n) h
def quoI (k:IntKind) (a b:Int) (h:Heap):Out AV:=match eqI b 0 with | true=>.bad | false=>okI k (wrapF k (a.tdiv b)) h
def remI (k:IntKind) (a b:Int) (h:Heap):Out AV:=match eqI b 0 with | true=>.bad | false=>okI k (a.tmod b) h
def bitsI (f:Nat→Nat→Nat) (slow:Int) (k:IntKind) (a b:Int) (h:Heap):Out AV :=
  match a,b with
  | .ofNat x,.ofNat y=>match (match Nat.blt x 9223372036854775808 with | true=>Nat.blt y 9223372036854775808 | false=>false),k with
    | true,.i64=>okI k (.ofNat (f x y)) h
    | _,.u64=>match (match Nat.blt x 18446744073709551616 with | true=>Nat.blt y 18446744073709551616 | false=>false) with
      | true=>okI k (.ofNat (f x y)) h
      | false=>.bad
    | _,.u8=>match (match Nat.blt x 256 with | true=>Nat.blt y 256 | false=>false) with
      | true=>okI k (.ofNat (f x y)) h
      | false=>.bad
    | _,_=>okI k slow h
  | _,_=>okI k slow h
def slowBits (k:IntKind) (f:{n:Nat}→BitVec n→BitVec n→BitVec n) (a b:Int):Int:=k.wrap (f (BitVec.ofInt k.bits a) (BitVec.ofInt k.bits b)).toNat
def shlI (k:IntKind) (a b:Int) (h:Heap):Out AV:=match b with
  | .ofNat y=>match Nat.blt y k.bits with
    | true=>(match a with | .ofNat x=>okI k (wrapF k (.ofNat (x * 2 ^ y))) h | .negSucc _=>.bad)
    | false=>okI k 0 h
  | .negSucc _=>.bad
def shrI (k:IntKind) (a b:Int) (h:Heap):Out AV:=match b with
  | .ofNat y=>match Nat.blt y k.bits with
    | true=>(match a with | .ofNat x=>okI k (.ofNat (x / 2 ^ y)) h | .negSucc _=>.bad)
    | false=>.bad
  | .negSucc _=>.bad

def binII:XB→IntKind→Int→Int→Heap→Out AV
  | .add=>fun k a b h=>okI k (wrapF k (a + b)) h
  | .sub=>fun k a b h=>okI k (wrapF k (a - b)) h
  | .mul=>fun k a b h=>okI k (wrapF k (a * b)) h
  | .quo=>quoI
  | .rem=>remI
  | .and=>fun k a b h=>bitsI Nat.land (slowBits k (fun x y=>x &&& y) a b) k a b h
  | .or=>fun k a b h=>bitsI Nat.lor (slowBits k (fun x y=>x ||| y) a b) k a b h
  | .xor=>fun k a b h=>bitsI Nat.xor (slowBits k (fun x y=>x ^^^ y) a b) k a b h
  | .andNot=>fun k a b h=>okI k (slowBits k (fun x y=>x &&& ~~~y) a b) h
  | .eq=>fun _ a b h=>okB h (eqI a b)
  | .ne=>fun _ a b h=>okB h (match eqI a b with | true=>false | false=>true)
  | .lt=>fun _ a b h=>okB h (ltI a b)
  | .le=>fun _ a b h=>okB h (leI a b)
  | .gt=>fun _ a b h=>okB h (ltI b a)
  | .ge=>fun _ a b h=>okB h (leI b a)
  | .shl | .shr=>fun _ _ _ _=>.bad
def binSS:XB→List Nat→List Nat→Heap→Out AV
  | .add=>fun a b h=>match Nat.ble (lenN a (lenN b 0)) 140737488355328 with | true=>.ok (.str (a++b)) h | false=>.bad
  | .eq=>fun a b h=>okB h (beqN a b)
  | .ne=>fun a b h=>okB h (match beqN a b with | true=>false | false=>true)
  | .lt=>fun a b h=>okB h (ltN a b)
  | .le=>fun a b h=>okB h (match ltN a b with | true=>true | false=>beqN a b)
  | .gt=>fun a b h=>okB h (match (match ltN a b with | true=>true | false=>beqN a b) with | true=>false | false=>true)
  | .ge=>fun a b h=>okB h (match ltN a b with | true=>false | false=>true)
  | _=>fun _ _ _=>.bad
def binVV (b:XB):AV→AV→Heap→Out AV
  | .int k x,.int k' y=>match b with
    | .shl=>fun h=>shlI k x y h
    | .shr=>fun h=>shrI k x y h
    | b=>match sameK k k' with | true=>binII b k x y | false=>fun _=>.bad
  | .str x,.str y=>binSS b x y
  | _,_=>fun _=>.bad
def binS (b:XB) (x y:XO) (tm:Tm) (h:Heap):Out AV:=x.withO tm fun a=>y.withO tm fun c=>binVV b a c h

def sameBool:AV→AV→Option Bool
  | .bool a,.bool b=>some (match a with | true=>b | false=>match b with | true=>false | false=>true)
  | _,_=>none
def sameInt:AV→AV→Option Bool
  | .int k a,.int k' b=>match sameK k k' with | true=>some (eqI a b) | false=>none
  | _,_=>none
def sameStr:AV→AV→Option Bool
  | .str a,.str b=>some (beqN a b)
  | _,_=>none
def samePtr:AV→AV→Option Bool
  | .nilptr,.nilptr=>some true
  | .nilptr,.ptr .. | .nilptr,.iptr .. | .nilptr,.gptr .. | .ptr ..,.nilptr | .iptr ..,.nilptr | .gptr ..,.nilptr=>some false
  | .ptr p o,.ptr q r=>match p.beq q with | true=>some (Nat.beq o r) | false=>none
  | _,_=>none
def sameSlice:AV→AV→Option Bool
  | .nilslice,.nilslice=>some true
  | .nilslice,.slice .. | .slice ..,.nilslice | .nilslice,.imm .. | .imm ..,.nilslice=>some false
  | _,_=>none
def sameMap:AV→AV→Option Bool
  | .nilmap,.nilmap=>some true
  | .nilmap,.map _ | .map _,.nilmap=>some false
  | _,_=>none
def sameFunc:AV→AV→Option Bool
  | .nilfunc,.nilfunc=>some true
  | .nilfunc,.func .. | .func ..,.nilfunc=>some false
  | _,_=>none
def sameIface:AV→AV→Option Bool
  | .niliface,.niliface=>some true
  | .niliface,.iface .. | .iface ..,.niliface=>some false
  | _,_=>none
def sameV:SK→AV→AV→Option Bool
  | .bool=>sameBool
  | .int=>sameInt
  | .str=>sameStr
  | .ptr=>samePtr
  | .slice=>sameSlice
  | .map=>sameMap
  | .func=>sameFunc
  | .iface=>sameIface
def negIf:Bool→Bool→Bool
  | true=>fun b=>match b with | true=>false | false=>true
  | false=>fun b=>b
def sameS (neg:Bool) (k:SK) (x y:XO) (tm:Tm) (h:Heap):Out AV:=x.withO tm fun a=>y.withO tm fun b=>match sameV k a b with | some r=>okB h (negIf neg r) | none=>.bad
def sameL:List (Option SK)→List AV→List AV→Option Bool
  | [],[],[]=>some true
  | m :: ms,a :: as,b :: bs=>match m with
    | none=>sameL ms as bs
    | some k=>match sameV k a b with
      | some true=>sameL ms as bs
      | some false=>some false
      | none=>none
  | _,_,_=>none
def sameCellsS (neg:Bool) (mask:List (Option SK)) (x y:XO) (tm:Tm) (h:Heap):Out AV:=x.withO tm fun a=>y.withO tm fun b=>match a,b with
  | .agg as,.agg bs=>match sameL mask as bs with | some r=>okB h (negIf neg r) | none=>.bad
  | _,_=>.bad

def unS:XU→XO→Tm→Heap→Out AV
  | .not=>fun a tm h=>a.withB tm fun b=>okB h (match b with | true=>false | false=>true)
  | .neg=>fun a tm h=>a.withI tm fun k n=>okI k (wrapF k (0 - n)) h
  | .xor=>fun a tm h=>a.withI tm fun k n=>okI k (slowBits k (fun x y=>x ^^^ y) (if k.signed then -1 else k.max) n) h
def convS (k:IntKind) (a:XO) (tm:Tm) (h:Heap):Out AV:=a.withI tm fun _ n=>okI k (wrapF k n) h
def mkifS (t:TypeId) (a:XO) (tm:Tm) (h:Heap):Out AV:=a.withO tm fun v=>.ok (.iface t v) h
def mkfnS (f:FuncId) (first cap:List XO) (tm:Tm) (h:Heap):Out AV:=withL first tm fun a=>withL cap tm fun b=>.ok (.func f a b) h
def partOf (cs:List AV) (off:Nat) (n:Option Nat) (h:Heap):Out AV:=match n with
  | none=>match nth cs off with | some .any=>.bad | some v=>.ok v h | none=>.bad
  | some n=>match sub cs off n with | some l=>.ok (.agg l) h | none=>.bad
def fldS (off:Nat) (n:Option Nat) (a:XO) (tm:Tm) (h:Heap):Out AV:=a.withO tm fun | .agg cs=>partOf cs off n h | _=>.bad
def ptrAdd (v:AV) (n:Nat) (h:Heap):Out AV:=match v with
  | .ptr p o=>.ok (.ptr p (o + n)) h
  | .gptr g o=>.ok (.gptr g (o + n)) h
  | .iptr cs=>match dropE n cs with | some r=>.ok (.iptr r) h | none=>.bad
  | _=>.bad
def faddrS (off:Nat) (a:XO) (tm:Tm) (h:Heap):Out AV:=a.withO tm fun v=>ptrAdd v off h
def iaddrAS (len esz:Nat) (a i:XO) (tm:Tm) (h:Heap):Out AV:=a.withO tm fun v=>i.withN tm fun n=>match Nat.blt n len with
  | true=>ptrAdd v (n * esz) h
  | false=>.bad
def iaddrSS (esz:Nat) (a i:XO) (tm:Tm) (h:Heap):Out AV:=a.withO tm fun v=>i.withN tm fun n=>match v with
  | .slice p o len _=>match Nat.blt n len with | true=>.ok (.ptr p (o + n * esz)) h | false=>.bad
  | .imm cs len _=>match Nat.blt n len with | true=>(match dropE (n * esz) cs with | some (c :: r)=>.ok (.iptr (c :: r)) h | _=>.bad) | false=>.bad
  | _=>.bad
def idxAS (len esz:Nat) (sz:Option Nat) (a i:XO) (tm:Tm) (h:Heap):Out AV:=a.withO tm fun v=>i.withN tm fun n=>match v with
  | .agg cs=>match Nat.blt n len with | true=>partOf cs (n * esz) sz h | false=>.bad
  | _=>.bad
def idxSS (a i:XO) (tm:Tm) (h:Heap):Out AV:=a.withO tm fun v=>i.withN tm fun n=>match v with
  | .str l=>match nth l n with | some b=>okI .u8 (.ofNat b) h | none=>.bad
  | _=>.bad
def cutStrS (a:XO) (lo hi:Option XO) (tm:Tm) (h:Heap):Out AV:=a.withO tm fun v=>match v with
  | .str l=>match hi with
    | none=>withNo lo 0 tm fun b=>match dropE b l with | some r=>.ok (.str r) h | none=>.bad
    | some e=>e.withN tm fun e=>withNo lo 0 tm fun b=>match Nat.ble b e with
      | true=>(match sub l b (e - b) with | some r=>.ok (.str r) h | none=>.bad)
      | false=>.bad
  | _=>.bad
def cutSlS (esz:Nat) (a:XO) (lo hi mx:Option XO) (tm:Tm) (h:Heap):Out AV:=a.withO tm fun v=>match v with
  | .nilslice=>withNo hi 0 tm fun e=>withNo lo 0 tm fun b=>withNo mx 0 tm fun m=>match e,b,m with | 0,0,0=>.ok .nilslice h | _,_,_=>.bad
  | .slice p o len (.ex c)=>withNo mx c tm fun m=>withNo hi len tm fun e=>withNo lo 0 tm fun b =>
    match Nat.ble m c,Nat.ble e m,Nat.ble b e with
    | true,true,true=>.ok (.slice p (o + b * esz) (e - b) (.ex (m - b))) h
    | _,_,_=>.bad
  | .slice p o len (.up z)=>withNo hi len tm fun e=>withNo lo 0 tm fun b=>match Nat.ble b e,Nat.beq z esz with
    | false,_=>.bad
    | _,false=>.bad
    | true,true=>match (match Nat.ble e len with | true=>true | false=>(match h.get p with | .row _ cs _=>(match dropE (o + e * esz) cs with | some _=>true | none=>false) | _=>false)) with
      | false=>.bad
      | true=>match mx with
        | none=>.ok (.slice p (o + b * esz) (e - b) (.up z)) h
        | some x=>x.withN tm fun m=>match Nat.ble e m,Nat.ble m len with
          | true,true=>.ok (.slice p (o + b * esz) (e - b) (.ex (m - b))) h
          | _,_=>.bad
  | .imm cs len full=>withNo hi len tm fun e=>withNo lo 0 tm fun b=>match Nat.ble b e,Nat.ble e len with
    | true,true=>match mx with
      | none=>match dropE (b * esz) cs with
        | some r=>.ok (.imm r (e - b) (match full with | true=>Nat.beq e len | false=>false)) h
        | none=>.bad
      | some x=>x.withN tm fun m=>match Nat.beq m e with
        | true=>(match dropE (b * esz) cs with | some r=>.ok (.imm r (e - b) true) h | none=>.bad)
        | false=>.bad
    | _,_=>.bad
  | _=>.bad
def cutArrS (len esz:Nat) (a:XO) (lo hi mx:Option XO) (tm:Tm) (h:Heap):Out AV:=a.withO tm fun v=>match v with
  | .ptr p o=>withNo mx len tm fun m=>withNo hi len tm fun e=>withNo lo 0 tm fun b=>match Nat.ble m len,Nat.ble e m,Nat.ble b e with
    | true,true,true=>.ok (.slice p (o + b * esz) (e - b) (.ex (m - b))) h
    | _,_,_=>.bad
  | _=>.bad
def extrS (a:XO) (i:Nat) (tm:Tm) (h:Heap):Out AV:=a.withO tm fun | .tuple vs=>(match nth vs i with | some v=>.ok v h | none=>.bad) | _=>.bad
def tasS (t:TypeId) (zero:AV) (ok:Bool) (a:XO) (tm:Tm) (h:Heap):Out AV:=a.withO tm fun v=>match v with
  | .iface t' x=>match Nat.beq t' t,ok with
    | true,true=>.ok (.tuple [x,.bool true]) h
    | true,false=>.ok x h
    | false,true=>.ok (.tuple [zero,.bool false]) h
    | false,false=>.bad
  | .niliface=>match ok with | true=>.ok (.tuple [zero,.bool false]) h | false=>.bad
  | _=>.bad
def lenS (s:Bool) (a:XO) (tm:Tm) (h:Heap):Out AV:=a.withO tm fun v=>match v with
  | .str l=>(match s with | true=>okI .i64 (.ofNat (lenN l 0)) h | false=>.bad)
  | .nilslice=>(match s with | true=>.bad | false=>okI .i64 (.ofNat 0) h)
  | .slice _ _ n _=>(match s with | true=>.bad | false=>okI .i64 (.ofNat n) h)
  | .imm _ n _=>(match s with | true=>.bad | false=>okI .i64 (.ofNat n) h)
  | _=>.bad
def capS (a:XO) (tm:Tm) (h:Heap):Out AV:=a.withO tm fun v=>match v with
  | .nilslice=>okI .i64 (.ofNat 0) h
  | .slice _ _ _ (.ex n)=>okI .i64 (.ofNat n) h
  | .imm _ n true=>okI .i64 (.ofNat n) h
  | _=>.bad
def minmaxL (mx:Bool):List AV→IntKind→Int→Heap→Out AV
  | [],k,a,h=>okI k a h
  | v :: vs,k,a,h=>match v with
    | .int _ b=>match mx with
      | false=>(match ltI b a with | true=>minmaxL mx vs k b h | false=>minmaxL mx vs k a h)
      | true=>(match ltI a b with | true=>minmaxL mx vs k b h | false=>minmaxL mx vs k a h)
    | _=>.bad
def minmaxS (mx:Bool) (l:List XO) (tm:Tm) (h:Heap):Out AV:=withL l tm fun | .int k a :: vs=>minmaxL mx vs k a h | _=>.bad
def fillK (no:Out AV):List (Nat × Nat × XO)→Tm→List AV→(List AV→Out AV)→Out AV
  | [],_,cs,k=>k cs
  | (off,n,x) :: ps,tm,cs,k=>x.withO tm fun v=>match v.cellsO with
    | some vs=>(match lengthIs vs n with
      | true=>spliceK no off vs cs fun cs=>fillK no ps tm cs k
      | false=>no)
    | none=>no
def buildS (zero:List AV) (parts:List (Nat × Nat × XO)) (tm:Tm) (h:Heap):Out AV:=fillK .bad parts tm zero fun cs=>.ok (.agg cs) h

/-! ### memory -/
def loadS (n:Option Nat) (a:XO) (tm:Tm) (h:Heap):Out AV:=a.withO tm fun v=>match v with
  | .ptr p o=>match h.get p with | .row _ cs _=>partOf cs o n h | _=>.bad
  | .iptr cs=>partOf cs 0 n h
  | _=>.bad
def keyIs:AV→AV→Option Bool
  | .int k a,.int k' b=>match sameK k k' with | true=>some (eqI a b) | false=>none
  | .str a,.str b=>some (beqN a b)
  | _,_=>none
def findE (k:AV):List (AV × AV × Nat)→Nat→Option (Option (Nat × AV))
  | [],_=>some none
  | (x,v,_) :: es,i=>match keyIs k x with
    | some true=>some (some (i,v))
    | some false=>findE k es (i + 1)
    | none=>none
def lookRes (zero:AV) (ok:Bool) (r:Option (Option (Nat × AV))) (h:Heap):Out AV:=match r with
  | some (some (_,v))=>(match ok with | true=>.ok (.tuple [v,.bool true]) h | false=>.ok v h)
  | some none=>(match ok with | true=>.ok (.tuple [zero,.bool false]) h | false=>.ok zero h)
  | none=>.bad
def isKey (s:Bool):AV→Bool
  | .int ..=>(match s with | true=>false | false=>true)
  | .str _=>s
  | _=>false
def lookupS (s:Bool) (zero:AV) (ok:Bool) (m k:XO) (tm:Tm) (h:Heap):Out AV:=m.withO tm fun v=>k.withO tm fun x=>match isKey s x with
  | false=>.bad
  | true=>match v with
    | .nilmap=>lookRes zero ok (some none) h
    | .map p=>match h.get p with | .map es _=>lookRes zero ok (findE x es 0) h | _=>.bad
    | _=>.bad
def lenMS (m:XO) (tm:Tm) (h:Heap):Out AV:=m.withO tm fun v=>match v with
  | .nilmap=>okI .i64 (.ofNat 0) h
  | .map p=>match h.get p with | .map es _=>okI .i64 (.ofNat (lenN es 0)) h | _=>.bad
  | _=>.bad
def bytesOf:List AV→Option (List Nat)
  | []=>some []
  | c :: cs=>match c with
    | .int .u8 (.ofNat n)=>(match bytesOf cs with | some l=>some (n % 256 :: l) | none=>none)
    | _=>none
def avBytes:List Nat→List AV
  | []=>[]
  | b :: bs=>.int .u8 (.ofNat b) :: avBytes bs
def srcOf (esz:Nat) (v:AV) (h:Heap):Option (Nat × List AV):=match v with
  | .nilslice=>some (0,[])
  | .slice p o len _=>match len with
    | 0=>some (0,[])
    | _=>match h.get p with
      | .row _ cs _=>(match sub cs o (len * esz) with | some l=>some (len,l) | none=>none)
      | _=>none
  | .imm cs len _=>match takeE (len * esz) cs with | some l=>some (len,l) | none=>none
  | .str l=>(match Nat.beq esz 1 with | true=>some (lenN l 0,avBytes l) | false=>none)
  | _=>none
def toStrS (a:XO) (tm:Tm) (h:Heap):Out AV:=a.withO tm fun v=>match v with
  | .str _=>.bad
  | _=>match srcOf 1 v h with
    | some (_,cs)=>(match bytesOf cs with | some l=>.ok (.str l) h | none=>.bad)
    | none=>.bad
def allocS (ty:TypeId) (zero:List AV) (_:Tm) (h:Heap):Out AV:=h.pushK (.row ty zero false) fun p h=>.ok (.ptr p 0) h
def boxS (ty:TypeId) (a:XO) (tm:Tm) (h:Heap):Out AV:=a.withO tm fun v=>match v.cellsO with | some cs=>h.pushK (.row ty cs false) fun p h=>.ok (.ptr p 0) h | none=>.bad
def bsliceS (ty:TypeId) (len:Nat) (zeros:List AV) (parts:List (Nat × Nat × XO)) (tm:Tm) (h:Heap):Out AV :=
  fillK .bad parts tm zeros fun cs=>h.pushK (.row ty cs false) fun p h=>.ok (.slice p 0 len (.ex len)) h
def mkmapS (_:Tm) (h:Heap):Out AV:=h.pushK (.map [] 0) fun p h=>.ok (.map p) h
def small (n bytes:Nat):Bool:=Nat.ble (n * bytes) 140737488355328
def smallN (n bytes:Nat):Bool:=Nat.ble (n * bytes) 281474976702464
def mksliceS (ty:TypeId) (bytes:Nat) (zero:List AV) (l c:XO) (tm:Tm) (h:Heap):Out AV:=l.withN tm fun l=>c.withN tm fun c=>match Nat.ble l c,small c bytes,Nat.ble c 140737488355328 with
  | true,true,true=>h.pushK (.row ty (repeatL c zero) false) fun p h=>.ok (.slice p 0 l (.ex c)) h
  | _,_,_=>.bad
def toBytesS (ty:TypeId) (a:XO) (tm:Tm) (h:Heap):Out AV:=a.withO tm fun v=>match v with
  | .str l=>h.pushK (.row ty (avBytes l) true) fun p h=>.ok (.slice p 0 (lenN l 0) (.up 1)) h
  | _=>.bad
def markAt (p:Pos) (v:AV) (h:Heap):Out AV:=match h.get p with
  | .row ty cs sp=>h.setK p (.row ty cs sp) fun h=>.ok v h
  | _=>.bad
def markS (a:XO) (tm:Tm) (h:Heap):Out AV:=a.withO tm fun v=>match v with
  | .slice p _ len _=>(match len with | 0=>.bad | _=>markAt p v h)
  | _=>.bad
def writeAt (p:Pos) (o:Nat) (xs:List AV) (r:AV) (h:Heap):Out AV:=match h.get p with
  | .row ty cs sp=>spliceK .bad o xs cs fun cs=>h.setK p (.row ty cs sp) fun h=>.ok r h
  | _=>.bad
def unit:AV:=.tuple []
def storeS (n:Nat) (a x:XO) (tm:Tm) (h:Heap):Out AV:=a.withO tm fun v=>x.withO tm fun w=>match v with
  | .ptr p o=>match w.cellsO with | some cs=>(match lengthIs cs n with | true=>writeAt p o cs unit h | false=>.bad) | none=>.bad
  | _=>.bad
def appendTo (ty:TypeId) (esz bytes:Nat) (s:AV) (n:Nat) (xs:List AV) (h:Heap):Out AV:=match esz with
  | 0=>.bad
  | _ => match s with
    | .nilslice=>match n with
      | 0=>.ok .nilslice h
      | _=>match smallN n bytes,Nat.beq bytes 0 with
        | true,false=>h.pushK (.row ty xs true) fun p h=>.ok (.slice p 0 n (.up esz)) h
        | _,_=>.bad
    | .slice p o len (.ex c)=>match Nat.ble (len + n) c with
      | true=>(match n with | 0=>.ok (.slice p o len (.ex c)) h | _=>writeAt p (o + len * esz) xs (.slice p o (len + n) (.ex c)) h)
      | false=>match small (len + n) bytes,Nat.beq bytes 0 with
        | true,false=>match srcOf esz s h with
          | some (_,old)=>h.pushK (.row ty (old++xs) true) fun p h=>.ok (.slice p 0 (len + n) (.up esz)) h
          | none=>.bad
        | _,_=>.bad
    | .slice p o len (.up z)=>match n with
      | 0=>.ok s h
      | _ => match Nat.beq z esz,h.get p with
        | true,.row ty' cs sp=>match dropE (o + (len + n) * esz) cs with
          | some _=>writeAt p (o + len * esz) xs (.slice p o (len + n) (.up esz)) h
          | none=>match small (len + n) bytes,Nat.beq bytes 0,sp,Nat.beq ty' ty with
            | true,false,true,true=>match sub cs o (len * esz) with
              | some old=>h.setK p .dead fun h=>h.pushK (.row ty (old++xs) true) fun p h=>.ok (.slice p 0 (len + n) (.up esz)) h
              | none=>.bad
            | _,_,_,_=>.bad
        | _,_=>.bad
    | .imm cs len true=>match n with
      | 0=>.ok s h
      | _=>match small (len + n) bytes,Nat.beq bytes 0,takeE (len * esz) cs with
        | true,false,some old=>h.pushK (.row ty (old++xs) true) fun p h=>.ok (.slice p 0 (len + n) (.up esz)) h
        | _,_,_=>.bad
    | _=>.bad
def appendS (ty:TypeId) (esz bytes:Nat) (s x:XO) (tm:Tm) (h:Heap):Out AV:=s.withO tm fun v=>x.withO tm fun w=>match srcOf esz w h with
  | some (n,xs)=>appendTo ty esz bytes v n xs h
  | none=>.bad
def appendZS (ty:TypeId) (bytes:Nat) (zero:List AV) (s n:XO) (tm:Tm) (h:Heap):Out AV:=s.withO tm fun v=>n.withN tm fun n=>match Nat.ble n 281474976702464,smallN n bytes with
  | true,true=>appendTo ty (lenN zero 0) bytes v n (repeatL n zero) h
  | _,_=>.bad
def minN (a b:Nat):Nat:=match Nat.ble a b with | true=>a | false=>b
def copyS (esz:Nat) (d s:XO) (tm:Tm) (h:Heap):Out AV:=d.withO tm fun dv=>s.withO tm fun sv=>match srcOf esz sv h with
  | some (n,xs)=>match dv with
    | .nilslice=>okI .i64 (.ofNat 0) h
    | .slice p o len _ =>
      match minN n len with
      | 0=>okI .i64 (.ofNat 0) h
      | k=>match takeE (k * esz) xs with
        | some ys=>writeAt p o ys (.int .i64 (.ofNat k)) h
        | none=>.bad
    | _=>.bad
  | none=>.bad
def eraseAt {α:Type}:List α→Nat→List α
  | [],_=>[]
  | x :: xs,n=>match n with | 0=>xs | m + 1=>x :: eraseAt xs m
def setVal (v:AV):List (AV × AV × Nat)→Nat→List (AV × AV × Nat)
  | [],_=>[]
  | (k,x,b) :: es,n=>match n with | 0=>(k,v,b) :: es | m + 1=>(k,x,b) :: setVal v es m
def deleteS (s:Bool) (m k:XO) (tm:Tm) (h:Heap):Out AV:=m.withO tm fun v=>k.withO tm fun x=>match isKey s x with
  | false=>.bad
  | true=>match v with
    | .nilmap=>.ok unit h
    | .map p=>match h.get p with
      | .map es cl=>match findE x es 0 with
        | some (some (i,_))=>h.setK p (.map (eraseAt es i) cl) fun h=>.ok unit h
        | some none=>.ok unit h
        | none=>.bad
      | _=>.bad
    | _=>.bad
def clearMS (m:XO) (tm:Tm) (h:Heap):Out AV:=m.withO tm fun v=>match v with
  | .nilmap=>.ok unit h
  | .map p=>match h.get p with | .map _ cl=>h.setK p (.map [] cl) fun h=>.ok unit h | _=>.bad
  | _=>.bad
def clearSS (zero:List AV) (s:XO) (tm:Tm) (h:Heap):Out AV:=s.withO tm fun v=>match v with
  | .nilslice=>.ok unit h
  | .slice p o len _=>(match len with | 0=>.ok unit h | _=>writeAt p o (repeatL len zero) unit h)
  | _=>.bad
def mapUpdS (s:Bool) (m k x:XO) (tm:Tm) (h:Heap):Out AV:=m.withO tm fun v=>k.withO tm fun k=>x.withO tm fun x=>match isKey s k,v with
  | true,.map p=>match h.get p with
    | .map es cl=>match findE k es 0 with
      | some (some (i,_))=>h.setK p (.map (setVal x es i) cl) fun h=>.ok unit h
      | some none=>h.setK p (.map (es++[(k,x,cl)]) (cl + 1)) fun h=>.ok unit h
      | none=>.bad
    | _=>.bad
  | _,_=>.bad
def bornAt:List (AV × AV × Nat)→Nat→Nat
  | [],_=>0
  | (_,_,b) :: es,n=>match n with | 0=>b | m + 1=>bornAt es m
def mapEntryS (s:Bool) (zero:AV) (m k:XO) (tm:Tm) (h:Heap):Out AV:=m.withO tm fun v=>k.withO tm fun k=>match isKey s k,v with
  | true,.map p=>match h.get p with
    | .map es cl=>match findE k es 0 with
      | some (some (i,x))=>.ok (.tuple [x,.int .i64 (.ofNat (bornAt es i))]) h
      | some none=>h.setK p (.map (es++[(k,zero,cl)]) (cl + 1)) fun h=>.ok (.tuple [zero,.int .i64 (.ofNat cl)]) h
      | none=>.bad
    | _=>.bad
  | _,_=>.bad
def findBorn (b:Nat):List (AV × AV × Nat)→Nat→Option Nat
  | [],_=>none
  | (_,_,c) :: es,i=>match Nat.beq c b with | true=>some i | false=>findBorn b es (i + 1)
def entryStoreS (m s x:XO) (tm:Tm) (h:Heap):Out AV:=m.withO tm fun v=>s.withN tm fun b=>x.withO tm fun x=>match v with
  | .map p=>match h.get p with
    | .map es cl=>match findBorn b es 0 with
      | some i=>h.setK p (.map (setVal x es i) cl) fun h=>.ok unit h
      | none=>.bad
    | _=>.bad
  | _=>.bad
def rangeMapS (a:XO) (tm:Tm) (h:Heap):Out AV:=a.withO tm fun v=>match v with
  | .nilmap=>h.pushK (.mIter none 0 [] 0) fun p h=>.ok (.ptr p 0) h
  | .map m=>match h.get m with | .map _ cl=>h.pushK (.mIter (some m) cl [] cl) fun p h=>.ok (.ptr p 0) h | _=>.bad
  | _=>.bad
def rangeStrS (a:XO) (tm:Tm) (h:Heap):Out AV:=a.withO tm fun v=>match v with
  | .str l=>h.pushK (.sIter l 0) fun p h=>.ok (.ptr p 0) h
  | _=>.bad
def rangeS:Bool→XO→Tm→Heap→Out AV
  | true=>rangeStrS
  | false=>rangeMapS
def hasN (n:Nat):List Nat→Bool
  | []=>false
  | m :: l=>match Nat.beq n m with | true=>true | false=>hasN n l
def leftE (seen:List Nat):List (AV × AV × Nat)→List (AV × AV × Nat)
  | []=>[]
  | e :: es=>match hasN e.2.2 seen with | true=>leftE seen es | false=>e :: leftE seen es
def over:AV:=.tuple [.bool false]
def nextStrAt (p:Pos) (h:Heap):Out AV:=match h.get p with
  | .sIter l pos=>match nth l pos with
    | none=>.ok over h
    | some b=>match Nat.blt b 128 with
      | true=>h.setK p (.sIter l (pos + 1)) fun h=>.ok (.tuple [.bool true,.int .i64 (.ofNat pos),.int .i32 (.ofNat b)]) h
      | false=>.bad
  | _=>.bad
def nextStrS (a:XO) (tm:Tm) (h:Heap):Out AV:=a.withO tm fun v=>match v with
  | .ptr p o=>(match o with | 0=>nextStrAt p h | _=>.bad)
  | _=>.bad
def nextOf (p m:Pos) (since:Nat) (seen:List Nat) (cl:Nat) (h:Heap):List (AV × AV × Nat)→Out AV
  | []=>.ok over h
  | (k,x,b) :: r=>match r,Nat.blt b since,Nat.blt b cl,seen with
    | [],true,true,[]=>h.setK p (.mIter (some m) since (seen++[b]) cl) fun h=>.ok (.tuple [.bool true,k,x]) h
    | _,_,_,_=>.bad
def nextMapAt (p:Pos) (h:Heap):Out AV:=match h.get p with
  | .mIter m since seen _=>match m with
    | none=>.ok over h
    | some m=>match h.get m with
      | .map es cl=>nextOf p m since seen cl h (leftE seen es)
      | _=>.bad
  | _=>.bad
def nextMapS (a:XO) (tm:Tm) (h:Heap):Out AV:=a.withO tm fun v=>match v with
  | .ptr p o=>(match o with | 0=>nextMapAt p h | _=>.bad)
  | _=>.bad
def nextS:Bool→XO→Tm→Heap→Out AV
  | true=>nextStrS
  | false=>nextMapS
def lastN:List Nat→Option Nat
  | []=>none
  | n :: l=>match l with | []=>some n | _ :: _=>lastN l
def entryAt (p:Pos) (h:Heap):Out AV:=match h.get p with
  | .mIter m _ seen last=>match m with
    | none=>.bad
    | some m=>match h.get m,lastN seen with
      | .map es cl,some b=>match Nat.beq cl last,findBorn b es 0 with
        | true,some i=>(match nth es i with | some (k,x,_)=>.ok (.tuple [k,x]) h | none=>.bad)
        | _,_=>.bad
      | _,_=>.bad
  | _=>.bad
def entryS (a:XO) (tm:Tm) (h:Heap):Out AV:=a.withO tm fun v=>match v with
  | .ptr p o=>(match o with | 0=>entryAt p h | _=>.bad)
  | _=>.bad
def uptrAt (ty:TypeId) (n:Nat) (p:Pos) (h:Heap):Out AV:=match h.get p with
  | .row ty' cs sp=>(match sp,Nat.beq ty' ty,lengthIs cs n with | false,true,true=>.ok (.ptr p 0) h | _,_,_=>.bad)
  | _=>.bad
def uptrS (ty:TypeId) (n:Nat) (a:XO) (tm:Tm) (h:Heap):Out AV:=a.withO tm fun v=>match v with
  | .nilptr=>.ok v h
  | .ptr p o=>(match o with | 0=>uptrAt ty n p h | _=>.bad)
  | _=>.bad
def ustringAt (ty:TypeId) (p:Pos) (o n:Nat) (h:Heap):Out AV:=match h.get p with
  | .row ty' cs _=>match Nat.beq ty' ty,Nat.ble n 140737488355328,sub cs o n with
    | true,true,some l=>(match bytesOf l with | some bs=>h.setK p .dead fun h=>.ok (.str bs) h | none=>.bad)
    | _,_,_=>.bad
  | _=>.bad
def ustringS (ty:TypeId) (a n:XO) (tm:Tm) (h:Heap):Out AV:=a.withO tm fun v=>n.withN tm fun n=>match v with
  | .nilptr=>(match n with | 0=>.ok (.str []) h | _=>.bad)
  | .ptr p o=>(match n with | 0=>.ok (.str []) h | n=>ustringAt ty p o n h)
  | _=>.bad
def sdataS (a:XO) (tm:Tm) (h:Heap):Out AV:=a.withO tm fun v=>match v with
  | .nilslice=>.ok .nilptr h
  | .slice p o len _=>(match len with | 0=>.bad | _=>.ok (.ptr p o) h)
  | _=>.bad

def cmpstrS (a b:XO) (tm:Tm) (h:Heap):Out AV:=a.withO tm fun x=>b.withO tm fun y=>match x,y with
  | .str a,.str b=>okI .i64 (match ltN a b with | true=>-1 | false=>match beqN a b with | true=>0 | false=>1) h
  | _,_=>.bad
def mkbytesS (ty:TypeId) (n:XO) (tm:Tm) (h:Heap):Out AV:=n.withI tm fun k n=>match k,n with
  | .i64,.ofNat n=>(match small n 1 with
    | true=>h.pushK (.row ty (repeatL n [.any]) true) fun p h=>.ok (.slice p 0 n (.up 1)) h
    | false=>.bad)
  | _,_=>.bad

def XI.sem:XI→Tm→Heap→Out AV
  | .mv a=>mvS a
  | .pick c a b=>pickS c a b
  | .nilck a=>nilckS a
  | .bin b x y=>binS b x y
  | .same neg k x y=>sameS neg k x y
  | .sameCells neg mask x y=>sameCellsS neg mask x y
  | .un u a=>unS u a
  | .conv k a=>convS k a
  | .mkif t a=>mkifS t a
  | .mkfn f first cpt=>mkfnS f first cpt
  | .fld off n a=>fldS off n a
  | .faddr off a=>faddrS off a
  | .iaddrA ln esz a i=>iaddrAS ln esz a i
  | .iaddrS esz a i=>iaddrSS esz a i
  | .idxA ln esz n a i=>idxAS ln esz n a i
  | .idxS a i=>idxSS a i
  | .cutStr a lo hi=>cutStrS a lo hi
  | .cutSl esz a lo hi mx=>cutSlS esz a lo hi mx
  | .cutArr ln esz a lo hi mx=>cutArrS ln esz a lo hi mx
  | .extr a i=>extrS a i
  | .tas t zero ok a=>tasS t zero ok a
  | .len s a=>lenS s a
  | .lenC n=>fun _ h=>okI .i64 (.ofNat n) h
  | .cap a=>capS a
  | .minmax mx l=>minmaxS mx l
  | .build zero parts=>buildS zero parts
  | .load n a=>loadS n a
  | .lookup s zero ok m k=>lookupS s zero ok m k
  | .lenM m=>lenMS m
  | .toStr a=>toStrS a
  | .alloc ty zero=>allocS ty zero
  | .box ty a=>boxS ty a
  | .bslice ty _ ln zeros parts=>bsliceS ty ln zeros parts
  | .mkmap=>mkmapS
  | .mkslice ty bytes zero l c=>mksliceS ty bytes zero l c
  | .toBytes ty a=>toBytesS ty a
  | .mark a=>markS a
  | .store n a x=>storeS n a x
  | .append ty esz bytes s x=>appendS ty esz bytes s x
  | .appendZ ty bytes zero s n=>appendZS ty bytes zero s n
  | .copy esz d s=>copyS esz d s
  | .delete s m k=>deleteS s m k
  | .clearM m=>clearMS m
  | .clearS zero s=>clearSS zero s
  | .mapUpd s m k v=>mapUpdS s m k v
  | .mapEntry s zero m k=>mapEntryS s zero m k
  | .entryStore m s v=>entryStoreS m s v
  | .range s a=>rangeS s a
  | .next s a=>nextS s a
  | .entry a=>entryS a
  | .uptr src n a=>uptrS src n a
  | .ptru dst n a=>uptrS dst n a
  | .ustring elem a n=>ustringS elem a n
  | .sdata a=>sdataS a
  | .cmpstr a b=>cmpstrS a b
  | .mkbytes ty n=>mkbytesS ty n
  | .no=>fun _ _=>.bad

end Go.X
