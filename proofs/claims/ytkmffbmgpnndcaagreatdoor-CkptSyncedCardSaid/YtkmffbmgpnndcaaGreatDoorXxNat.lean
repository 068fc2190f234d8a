/- What an operation of X looks at: its operands; quiet instructions leave memory as it is, or make one block. -/
import Derived.Test.YtkmffbmgpnndcaaGreatDoorXxSt
namespace Go.X
open Go

def Agree (tm tm':Tm):XO→Prop
  | .t p=>tm.get p = tm'.get p
  | .c _=>True
section
variable {tm tm':Tm}
theorem withO_congr {x:XO} (h:Agree tm tm' x):x.withO tm = x.withO tm':=by
  funext k
  cases x with
  | c v=>rfl
  | t p=>simp only [XO.withO];rw [show tm.get p = tm'.get p from h]
theorem withI_congr {x:XO} (h:Agree tm tm' x):x.withI tm = x.withI tm':=by funext k;simp only [XO.withI,withO_congr h]
theorem withB_congr {x:XO} (h:Agree tm tm' x):x.withB tm = x.withB tm':=by funext k;simp only [XO.withB,withO_congr h]
theorem withN_congr {x:XO} (h:Agree tm tm' x):x.withN tm = x.withN tm':=by funext k;simp only [XO.withN,withI_congr h]
theorem withNo_congr {x:Option XO} {d:Nat} (h:∀ y ∈ optL x,Agree tm tm' y):withNo x d tm = withNo x d tm':=by
  funext k
  cases x with
  | none=>rfl
  | some y=>simp only [withNo,withN_congr (h y (by simp [optL]))]
theorem withL_congr:∀ {l:List XO},(∀ y ∈ l,Agree tm tm' y)→withL l tm = withL l tm'
  | [],_=>rfl
  | x :: l,h=>by
    funext k
    simp only [withL,withO_congr (h x (by simp)),withL_congr fun y hy=>h y (mS _ hy)]
theorem fillK_congr {no:Out AV}:∀ {l:List (Nat × Nat × XO)},(∀ y ∈ partsL l,Agree tm tm' y)→fillK no l tm = fillK no l tm'
  | [],_=>rfl
  | (o,n,x) :: l,h=>by
    funext cs k
    simp only [fillK,withO_congr (h x (by simp [partsL])),fillK_congr fun y hy=>h y (by simp [partsL];exact .inr hy)]
theorem sem_congr {i:XI} (h:∀ x ∈ i.ops,Agree tm tm' x):i.sem tm = i.sem tm':=by
  have a1:∀ x ∈ i.ops,x.withO tm = x.withO tm':=fun x hx=>withO_congr (h x hx)
  have a2:∀ x ∈ i.ops,x.withI tm = x.withI tm':=fun x hx=>withI_congr (h x hx)
  have a3:∀ x ∈ i.ops,x.withB tm = x.withB tm':=fun x hx=>withB_congr (h x hx)
  have a4:∀ x ∈ i.ops,x.withN tm = x.withN tm':=fun x hx=>withN_congr (h x hx)
  funext hp
  cases i <;> try rfl
  case un u a=>cases u <;> simp only [XI.sem,unS,a2 a (by simp [XI.ops]),a3 a (by simp [XI.ops])]
  case mkfn f a c=>simp only [XI.sem,mkfnS,withL_congr (l:=a) fun y hy=>h y (by simp [XI.ops,hy]),withL_congr (l:=c) fun y hy=>h y (by simp [XI.ops,hy])]
  case minmax m l=>simp only [XI.sem,minmaxS,withL_congr (l:=l) fun y hy=>h y (by simp [XI.ops,hy])]
  case build z ps=>simp only [XI.sem,buildS,fillK_congr (l:=ps) fun y hy=>h y hy]
  case bslice t e n z ps=>simp only [XI.sem,bsliceS,fillK_congr (l:=ps) fun y hy=>h y hy]
  case cutStr a lo hi =>
    have b1:∀ y ∈ optL hi,Agree tm tm' y:=fun y hy=>h y (by simp [XI.ops,hy])
    simp only [XI.sem,cutStrS,a1 a (by simp [XI.ops]),withNo_congr (x:=lo) fun y hy=>h y (by simp [XI.ops,hy])]
    congr 1;funext v
    cases v <;> try rfl
    cases hi with
    | none=>rfl
    | some e=>simp only [withN_congr (b1 e (by simp [optL]))]
  case cutSl e a lo hi mx =>
    have b1:∀ y ∈ optL mx,Agree tm tm' y:=fun y hy=>h y (by simp [XI.ops,hy])
    simp only [XI.sem,cutSlS,a1 a (by simp [XI.ops]),withNo_congr (x:=lo) fun y hy=>h y (by simp [XI.ops,hy]),withNo_congr (x:=hi) fun y hy=>h y (by simp [XI.ops,hy]),withNo_congr (x:=mx) fun y hy=>h y (by simp [XI.ops,hy])]
    cases mx with
    | none=>rfl
    | some e=>simp only [withN_congr (b1 e (by simp [optL]))]
  case cutArr l e a lo hi mx =>
    simp only [XI.sem,cutArrS,a1 a (by simp [XI.ops]),withNo_congr (x:=lo) fun y hy=>h y (by simp [XI.ops,hy]),withNo_congr (x:=hi) fun y hy=>h y (by simp [XI.ops,hy]),withNo_congr (x:=mx) fun y hy=>h y (by simp [XI.ops,hy])]
  case range s a=>cases s <;> simp only [XI.sem,rangeS,rangeMapS,rangeStrS,a1 a (by simp [XI.ops])]
  case next s a=>cases s <;> simp only [XI.sem,nextS,nextMapS,nextStrS,a1 a (by simp [XI.ops])]
  all_goals
    simp only [XI.ops,List.mem_cons,List.not_mem_nil,or_false,forall_eq_or_imp,forall_eq] at a1 a2 a3 a4;simp only [XI.sem,mvS,pickS,nilckS,binS,sameS,sameCellsS,convS,mkifS,fldS,faddrS,iaddrAS,iaddrSS,idxAS,idxSS,extrS,tasS,lenS,capS,loadS,lookupS,lenMS,toStrS,boxS,mksliceS,toBytesS,markS,storeS,appendS,appendZS,copyS,deleteS,clearMS,clearSS,mapUpdS,mapEntryS,entryStoreS,entryS,uptrS,ustringS,sdataS,cmpstrS,mkbytesS,a1,a2,a3,a4]
end
end Go.X

/- Quiet instructions: those that leave memory as it is;those that make one block. -/
namespace Go.X
open Go

def Still (h:Heap) (r:Out AV):Prop:=∀ v h',r = .ok v h'→h' = h
theorem still_ok {h:Heap} {v:AV}:Still h (.ok v h):=fun _ _ e=>by simp only [Out.ok.injEq] at e;exact e.2.symm
theorem still_bad {h:Heap}:Still h .bad:=fun _ _ e=>by simp at e
theorem still_withO {h:Heap} {x:XO} {tm:Tm} {k:AV→Out AV} (hk:∀ v,Still h (k v)):Still h (x.withO tm k):=fun v h' e=>by
  obtain ⟨y,_,h2⟩:=withO_ok e;exact hk y v h' h2
theorem still_withI {h:Heap} {x:XO} {tm:Tm} {k:IntKind→Int→Out AV} (hk:∀ a b,Still h (k a b)):Still h (x.withI tm k):=still_withO fun v=>by cases v <;> first | exact hk _ _ | exact still_bad
theorem still_withB {h:Heap} {x:XO} {tm:Tm} {k:Bool→Out AV} (hk:∀ a,Still h (k a)):Still h (x.withB tm k):=still_withO fun v=>by cases v <;> first | exact hk _ | exact still_bad
theorem still_withN {h:Heap} {x:XO} {tm:Tm} {k:Nat→Out AV} (hk:∀ a,Still h (k a)):Still h (x.withN tm k):=still_withI fun _ n=>by cases n <;> first | exact hk _ | exact still_bad
theorem still_withNo {h:Heap} {x:Option XO} {d:Nat} {tm:Tm} {k:Nat→Out AV} (hk:∀ a,Still h (k a)):Still h (withNo x d tm k):=by
  cases x with
  | none=>exact hk d
  | some x=>exact still_withN hk
theorem still_withL {h:Heap} {tm:Tm}:∀ {l:List XO} {k:List AV→Out AV},(∀ a,Still h (k a))→Still h (withL l tm k)
  | [],_,hk=>hk []
  | _ :: _,_,hk=>still_withO fun v=>still_withL fun vs=>hk (v :: vs)
theorem still_fillK {h:Heap} {tm:Tm}:∀ {l:List (Nat × Nat × XO)} {cs:List AV} {k:List AV→Out AV},(∀ a,Still h (k a))→Still h (fillK .bad l tm cs k)
  | [],cs,_,hk=>hk cs
  | (o, n,x) :: l,cs,k,hk=>still_withO fun v=>by
    cases v.cellsO with
    | none=>exact still_bad
    | some vs =>
      dsimp only
      cases lengthIs vs n with
      | false=>exact still_bad
      | true =>
        dsimp only;rw [spliceK_eq]
        split
        · exact still_fillK hk
        · exact still_bad
theorem still_okI {h:Heap} {k:IntKind} {n:Int}:Still h (okI k n h):=still_ok
theorem still_okB {h:Heap} {b:Bool}:Still h (okB h b):=still_ok
theorem still_bitsI {h:Heap} {f:Nat→Nat→Nat} {s:Int} {k:IntKind} {a b:Int}:Still h (bitsI f s k a b h):=by
  unfold bitsI
  repeat' first | exact still_okI | exact still_bad | split
theorem still_binII {h:Heap} {b:XB} {k:IntKind} {x y:Int}:Still h (binII b k x y h):=by
  cases b <;> first | exact still_okI | exact still_okB | exact still_bad | exact still_bitsI | skip
  · show Still h (quoI k x y h);unfold quoI;split <;> first | exact still_bad | exact still_okI
  · show Still h (remI k x y h);unfold remI;split <;> first | exact still_bad | exact still_okI
theorem still_binSS {h:Heap} {b:XB} {x y:List Nat}:Still h (binSS b x y h):=by
  cases b <;> first | exact still_okB | exact still_bad | skip
  show Still h (match Nat.ble (lenN x (lenN y 0)) 140737488355328 with | true=>.ok (.str (x++y)) h | false=>.bad)
  split <;> first | exact still_bad | exact still_ok
theorem still_binVV {h:Heap} {b:XB} {x y:AV}:Still h (binVV b x y h):=by
  unfold binVV
  split
  · split
    · unfold shlI;repeat' first | exact still_okI | exact still_bad | split
    · unfold shrI;repeat' first | exact still_okI | exact still_bad | split
    · cases sameK _ _ <;> first | exact still_binII | exact still_bad
  · exact still_binSS
  · exact still_bad
theorem still_minmax {h:Heap} {mx:Bool}:∀ {l:List AV} {k:IntKind} {a:Int},Still h (minmaxL mx l k a h)
  | [],k,a=>still_okI
  | v :: vs,k,a=>by
    unfold minmaxL
    repeat' first | exact still_minmax | exact still_bad | split
theorem still_part {h:Heap} {cs:List AV} {o:Nat} {n:Option Nat}:Still h (partOf cs o n h):=by
  unfold partOf
  repeat' first | exact still_ok | exact still_bad | split
theorem still_ptrAdd {h:Heap} {v:AV} {n:Nat}:Still h (ptrAdd v n h):=by
  unfold ptrAdd
  repeat' first | exact still_ok | exact still_bad | split
theorem still_look {h:Heap} {z:AV} {ok:Bool} {r:Option (Option (Nat × AV))}:Still h (lookRes z ok r h):=by
  unfold lookRes
  repeat' first | exact still_ok | exact still_bad | split
def XI.looks:XI→Bool
  | .mv _ | .pick .. | .nilck _ | .bin .. | .same .. | .sameCells .. | .un .. | .conv .. | .mkif .. | .mkfn .. | .fld .. | .faddr .. | .iaddrA .. | .iaddrS .. | .idxA .. | .idxS .. | .cutStr .. | .cutArr .. | .extr ..
  | .tas .. | .len .. | .lenC _ | .cap _ | .minmax .. | .build .. | .sdata _ | .cutSl .. | .load .. | .lookup .. | .lenM _ | .toStr _ | .entry _=>true
  | _=>false
theorem looks_still {i:XI} (hi:i.looks = true) (tm:Tm) (h:Heap):Still h (i.sem tm h):=by
  cases i <;> first | (simp [XI.looks] at hi;done) | skip
  case un u a=>cases u <;> simp only [XI.sem,unS] <;> first | exact still_withI fun _ _=>still_okI | exact still_withB fun _=>still_okB
  case lenC n=>exact still_okI
  case minmax m l=>exact still_withL fun vs=>by repeat' first | exact still_minmax | exact still_bad | split
  case build z ps=>exact still_fillK fun _=>still_ok
  case mkfn f a c=>exact still_withL fun _=>still_withL fun _=>still_ok
  all_goals
    simp only [XI.sem,mvS,pickS,nilckS,binS,sameS,sameCellsS,convS,mkifS,fldS,faddrS,iaddrAS,iaddrSS,idxAS,idxSS,extrS,tasS,lenS,capS,loadS,lookupS,lenMS,toStrS,entryS,entryAt,sdataS,cutStrS,cutSlS,cutArrS]
    repeat' first
      | exact still_ok | exact still_bad | exact still_okI | exact still_okB | exact still_binVV | exact still_part | exact still_ptrAdd | exact still_look
      | (with_reducible refine still_withO fun _=>?_) | (with_reducible refine still_withI fun _ _=>?_) | (with_reducible refine still_withB fun _=>?_) | (with_reducible refine still_withN fun _=>?_) | (with_reducible refine still_withNo fun _=>?_)
      | split
      | (dsimp only)

/-! ### new blocks -/
theorem isNew_push {i:XI} (hi:i.isNew = true) {tm:Tm} {h h':Heap} {v:AV} (hs:i.sem tm h = .ok v h'):∃ o,o ≠ .dead∧h' = h.push o∧v.pos = some h.next:=by
  cases i <;> first | (simp [XI.isNew] at hi;done) | skip
  case alloc t z =>
    simp only [XI.sem,allocS,Heap.pushK_eq,Out.ok.injEq] at hs;obtain ⟨rfl,rfl⟩:=hs;exact ⟨_,by simp,rfl,rfl⟩
  case box t a =>
    obtain ⟨y,_,h2⟩:=withO_ok hs
    cases hc:y.cellsO with
    | none=>rw [hc] at h2;simp at h2
    | some cs =>
      rw [hc] at h2;simp only [Heap.pushK_eq,Out.ok.injEq] at h2;obtain ⟨rfl,rfl⟩:=h2;exact ⟨_,by simp,rfl,rfl⟩
  case mkmap =>
    simp only [XI.sem,mkmapS,Heap.pushK_eq,Out.ok.injEq] at hs;obtain ⟨rfl,rfl⟩:=hs;exact ⟨_,by simp,rfl,rfl⟩
  case mkslice t b z x y =>
    obtain ⟨_,l,_,h2⟩:=withN_ok hs;obtain ⟨_,c,_,h4⟩:=withN_ok h2
    cases c1:Nat.ble l c <;> cases c2:small c b <;> cases c3:Nat.ble c 140737488355328 <;> rw [c1,c2,c3] at h4 <;> simp only [Heap.pushK_eq,Out.ok.injEq,reduceCtorEq] at h4
    obtain ⟨rfl,rfl⟩:=h4;exact ⟨_,by simp,rfl,rfl⟩
  case bslice t e n z ps =>
    have key:∀ (l:List (Nat × Nat × XO)) (cs:List AV),fillK .bad l tm cs (fun cs=>h.pushK (.row t cs false) fun p h=>.ok (.slice p 0 n (.ex n)) h) = .ok v h'→∃ o,o ≠ .dead∧h' = h.push o∧v.pos = some h.next:=by
      intro l
      induction l with
      | nil =>
        intro cs hs;simp only [fillK,Heap.pushK_eq,Out.ok.injEq] at hs;obtain ⟨rfl,rfl⟩:=hs;exact ⟨_,by simp,rfl,rfl⟩
      | cons p l ih =>
        obtain ⟨o,m,x⟩:=p;intro cs hs;obtain ⟨y,_,h2⟩:=withO_ok hs
        cases hc:y.cellsO with
        | none=>rw [hc] at h2;simp at h2
        | some vs =>
          rw [hc] at h2;dsimp only at h2
          cases hl:lengthIs vs m with
          | false=>rw [hl] at h2;simp at h2
          | true =>
            rw [hl] at h2;dsimp only at h2;rw [spliceK_eq] at h2
            split at h2
            · exact ih _ h2
            · simp at h2
    exact key ps z hs
end Go.X

/- Blocks that the abstract machine has made ahead of the model. -/
namespace Go.X
open Go
section
variable {P:Program} {κ:Kp} {h h':Heap} {w:World} {n:Nat} {tm:Tm} {a:Act} {o:Oper} {v:AV} {rnd:Bool}

/-! ### equal values -/
theorem sameK_eq {a b:IntKind} (h:sameK a b = true):a = b:=by cases a <;> cases b <;> first | rfl | simp [sameK] at h
theorem eqI_sound {a b:Int} (h:eqI a b = true):a = b:=by
  cases a <;> cases b <;> simp only [eqI,Bool.false_eq_true] at h
  · rw [Nat.eq_of_beq_eq_true h]
  · rw [Nat.eq_of_beq_eq_true h]
theorem beqN_eq':∀ {x y:List Nat},beqN x y = true→x = y
  | [],[],_=>rfl
  | [],_ :: _,h=>by simp [beqN] at h
  | _ :: _,[],h=>by simp [beqN] at h
  | a :: x,b :: y,h=>by
    simp only [beqN] at h
    cases hb:Nat.beq a b with
    | false=>rw [hb] at h;simp at h
    | true =>
      rw [hb] at h;rw [Nat.eq_of_beq_eq_true hb,beqN_eq' h]
theorem beqB_eq {a b:Bool} (h:beqB a b = true):a = b:=by cases a <;> cases b <;> first | rfl | simp [beqB] at h
theorem beqCap_eq {a b:Cap} (h:beqCap a b = true):a = b:=by
  cases a <;> cases b <;> simp only [beqCap,Bool.false_eq_true] at h
  · rw [Nat.eq_of_beq_eq_true h]
  · rw [Nat.eq_of_beq_eq_true h]
theorem beqPosO_eq {p q:Pos} {o r:Nat} (h:beqPosO p o q r = true):p = q∧o = r:=by
  simp only [beqPosO] at h
  cases hp:p.beq q with
  | false=>rw [hp] at h;simp at h
  | true=>rw [hp] at h;exact ⟨Pos.beq_iff.1 hp,Nat.eq_of_beq_eq_true h⟩
mutual
theorem AV.beq_eq:∀ {a b:AV},AV.beq a b = true→a = b
  | .bool a,b,h=>by cases b <;> simp only [AV.beq,Bool.false_eq_true] at h;rw [beqB_eq h]
  | .int k a,b,h=>by
    cases b <;> simp only [AV.beq,Bool.false_eq_true] at h
    rename_i k' b
    cases hk:sameK k k' with
    | false=>rw [hk] at h;simp at h
    | true=>rw [hk] at h;rw [sameK_eq hk,eqI_sound h]
  | .str a,b,h=>by cases b <;> simp only [AV.beq,Bool.false_eq_true] at h;rw [beqN_eq' h]
  | .nilptr,b,h=>by cases b <;> first | rfl | simp [AV.beq] at h
  | .ptr p o,b,h=>by cases b <;> simp only [AV.beq,Bool.false_eq_true] at h;obtain ⟨rfl,rfl⟩:=beqPosO_eq h;rfl
  | .gptr p o,b,h=>by
    cases b <;> simp only [AV.beq,Bool.false_eq_true] at h
    rename_i q r
    cases hp:Nat.beq p q with
    | false=>rw [hp] at h;simp at h
    | true=>rw [hp] at h;rw [Nat.eq_of_beq_eq_true hp,Nat.eq_of_beq_eq_true h]
  | .iptr cs,b,h=>by cases b <;> simp only [AV.beq,Bool.false_eq_true] at h;rw [AV.beqs_eq h]
  | .nilslice,b,h=>by cases b <;> first | rfl | simp [AV.beq] at h
  | .slice p o l c,b,h=>by
    cases b <;> simp only [AV.beq,Bool.false_eq_true] at h
    rename_i q r l' c'
    cases h1:beqPosO p o q r <;> cases h2:Nat.beq l l' <;> rw [h1,h2] at h <;> simp only [Bool.false_eq_true] at h
    obtain ⟨rfl,rfl⟩:=beqPosO_eq h1;rw [Nat.eq_of_beq_eq_true h2,beqCap_eq h]
  | .imm cs l f,b,h=>by
    cases b <;> simp only [AV.beq,Bool.false_eq_true] at h
    rename_i ds l' f'
    cases h1:Nat.beq l l' <;> cases h2:beqB f f' <;> rw [h1,h2] at h <;> simp only [Bool.false_eq_true] at h
    rw [Nat.eq_of_beq_eq_true h1,beqB_eq h2,AV.beqs_eq h]
  | .nilmap,b,h=>by cases b <;> first | rfl | simp [AV.beq] at h
  | .map p,b,h=>by cases b <;> simp only [AV.beq,Bool.false_eq_true] at h;rw [Pos.beq_iff.1 h]
  | .nilfunc,b,h=>by cases b <;> first | rfl | simp [AV.beq] at h
  | .func f x y,b,h=>by
    cases b <;> simp only [AV.beq,Bool.false_eq_true] at h
    rename_i g c d
    cases h1:Nat.beq f g with
    | false=>rw [h1] at h;simp at h
    | true =>
      rw [h1] at h;dsimp only at h
      cases h2:AV.beqs x c with
      | false=>rw [h2] at h;simp at h
      | true =>
        rw [h2] at h;rw [Nat.eq_of_beq_eq_true h1,AV.beqs_eq h2,AV.beqs_eq h]
  | .niliface,b,h=>by cases b <;> first | rfl | simp [AV.beq] at h
  | .iface t v,b,h=>by
    cases b <;> simp only [AV.beq,Bool.false_eq_true] at h
    rename_i u x
    cases h1:Nat.beq t u with
    | false=>rw [h1] at h;simp at h
    | true=>rw [h1] at h;rw [Nat.eq_of_beq_eq_true h1,AV.beq_eq h]
  | .agg cs,b,h=>by cases b <;> simp only [AV.beq,Bool.false_eq_true] at h;rw [AV.beqs_eq h]
  | .tuple cs,b,h=>by cases b <;> simp only [AV.beq,Bool.false_eq_true] at h;rw [AV.beqs_eq h]
  | .any,b,h=>by cases b <;> first | rfl | simp [AV.beq] at h
  | .yield l,b,h=>by cases b <;> simp only [AV.beq,Bool.false_eq_true] at h;rw [Pos.beq_iff.1 h]
theorem AV.beqs_eq:∀ {a b:List AV},AV.beqs a b = true→a = b
  | [],[],_=>rfl
  | [],_ :: _,h=>by simp [AV.beqs] at h
  | _ :: _,[],h=>by simp [AV.beqs] at h
  | x :: xs,y :: ys,h=>by
    simp only [AV.beqs] at h
    cases h1:AV.beq x y with
    | false=>rw [h1] at h;simp at h
    | true=>rw [h1] at h;rw [AV.beq_eq h1,AV.beqs_eq h]
end
theorem beqEs_eq:∀ {x y:List (AV × AV × Nat)},beqEs x y = true→x = y
  | [],[],_=>rfl
  | [],_ :: _,h=>by simp [beqEs] at h
  | _ :: _,[],h=>by simp [beqEs] at h
  | (k,v,b) :: es,(k',v',b') :: fs,h=>by
    simp only [beqEs] at h
    cases h1:AV.beq k k' <;> cases h2:AV.beq v v' <;> cases h3:Nat.beq b b' <;> rw [h1,h2,h3] at h <;> simp only [Bool.false_eq_true] at h
    rw [AV.beq_eq h1,AV.beq_eq h2,Nat.eq_of_beq_eq_true h3,beqEs_eq h]
theorem beqObj_eq {x y:AObj} (h:beqObj x y = true):x = y:=by
  unfold beqObj at h
  split at h
  · rename_i ty cs sp ty' cs' sp'
    cases h1:Nat.beq ty ty' <;> cases h2:beqB sp sp' <;> rw [h1,h2] at h <;> simp only [Bool.false_eq_true] at h
    rw [Nat.eq_of_beq_eq_true h1,beqB_eq h2,AV.beqs_eq h]
  · rename_i es cl es' cl'
    cases h1:Nat.beq cl cl' <;> rw [h1] at h <;> simp only [Bool.false_eq_true] at h
    rw [Nat.eq_of_beq_eq_true h1,beqEs_eq h]
  · simp at h

/-! ### blocks at places that are there already -/
structure ExtW (κ:Kp) (h:Heap) (w:World) (κ':Kp) (h':Heap) (w':World):Prop where
  le:κ.le κ'
  M:κ'.M = κ.M
  size:w.heap.size ≤ w'.heap.size
  fc:∀ b,b < w.heap.size→(∀ p x,Live κ h p x→x.b ≠ b)→w'.heap[b]? = w.heap[b]?
  lr:∀ p x,Live κ' h' p x→x.b < w.heap.size→∃ q y,Live κ h q y∧y.b = x.b
theorem Ext.allocG (hr:HR P κ h w) {p:Pos} (hp:κ.ρ p = none) (hlt:p.toNat < h.next.toNat) (ob:Obj) (m:Nat) (ho:OR P (κ.at p ⟨w.heap.size,0,m⟩) ⟨w.heap.size,0,m⟩ (World.new w ob) (h.get p)) :
    HR P (κ.at p ⟨w.heap.size,0,m⟩) h (World.new w ob)∧ExtW κ h w (κ.at p ⟨w.heap.size,0,m⟩) h (World.new w ob):=by
  have hle:=Kp.at_le (x:=⟨w.heap.size,0,m⟩) hp;have hold:∀ b,b < w.heap.size→(World.new w ob).heap[b]? = w.heap[b]?:=fun b hb=>by
    simp only [World.new];rw [Array.getElem?_push,if_neg (by omega)]
  have hcase:∀ q y,(κ.at p ⟨w.heap.size,0,m⟩).ρ q = some y→(q = p∧y = ⟨w.heap.size,0,m⟩)∨(q ≠ p∧κ.ρ q = some y):=by
    intro q y e
    by_cases hq:q = p
    · subst hq;rw [Kp.at_same] at e;exact .inl ⟨rfl,(Option.some.inj e).symm⟩
    · rw [Kp.at_ne _ _ hq] at e;exact .inr ⟨hq,e⟩
  have hlive:∀ q y,Live (κ.at p ⟨w.heap.size,0,m⟩) h q y→(q = p∧y = ⟨w.heap.size,0,m⟩)∨(q ≠ p∧Live κ h q y):=by
    intro q y ⟨h1,h2⟩
    rcases hcase q y h1 with h3 | ⟨h3,h4⟩
    · exact .inl h3
    · exact .inr ⟨h3,h4,h2⟩
  refine ⟨⟨?_,?_,?_,?_,?_,hr.clean⟩,hle,rfl,by simp [World.new],fun b hb _=>hold b hb,?_⟩
  · intro q y e
    rcases hcase q y e with ⟨rfl,rfl⟩ | ⟨h3,h4⟩
    · exact ho
    · by_cases hd:h.get q = .dead
      · rw [hd];trivial
      · exact OR.mono hle (hold _ (hr.live_lt ⟨h4,hd⟩)) (hr.obj q y h4)
  · intro q r y z h1 h2 hne
    rcases hlive q y h1 with ⟨rfl,rfl⟩ | ⟨h3,h4⟩ <;> rcases hlive r z h2 with ⟨rfl,rfl⟩ | ⟨h5,h6⟩
    · exact absurd rfl hne
    · have:=hr.live_lt h6;simp only;omega
    · have:=hr.live_lt h4;simp only;omega
    · exact hr.apart q r y z h4 h6 hne
  · intro b ob' hm;rw [hold b (hr.frozen_lt hm)];exact hr.frozen b ob' hm
  · intro q y h1
    rcases hlive q y h1 with ⟨rfl,rfl⟩ | ⟨h3,h4⟩
    · cases hm:κ.M w.heap.size with
      | none=>exact hm
      | some o'=>exact absurd (hr.frozen_lt hm) (by omega)
    · exact hr.off q y h4
  · intro q y e
    rcases hcase q y e with ⟨rfl,rfl⟩ | ⟨h3,h4⟩
    · exact hlt
    · exact hr.top q y h4
  · intro q y h1 hy
    rcases hlive q y h1 with ⟨rfl,rfl⟩ | ⟨h3,h4⟩
    · simp only at hy;omega
    · exact ⟨q,y,h4,rfl⟩
theorem Ext.thenG {κ₀:Kp} {h₀:Heap} {w₀:World} (e:Ext P κ₀ h₀ w₀ κ h w) {p:Pos} (hp:κ.ρ p = none) (hlt:p.toNat < h.next.toNat) (hge:h₀.next.toNat ≤ p.toNat) (ob:Obj) (m:Nat) (ho:OR P (κ.at p ⟨w.heap.size,0,m⟩) ⟨w.heap.size,0,m⟩ (World.new w ob) (h.get p)) :
    Ext P κ₀ h₀ w₀ (κ.at p ⟨w.heap.size,0,m⟩) h (World.new w ob):=by
  obtain ⟨g1,g2⟩:=Ext.allocG e.hr hp hlt ob m ho;refine ⟨e.le.trans g2.le,g2.M.trans e.M,g1,e.next,Nat.le_trans e.size g2.size,?_,?_,?_,e.os,e.output,e.tape⟩
  · intro i hi hl;rw [g2.fc i (Nat.lt_of_lt_of_le hi e.size) ?_,e.fc i hi hl];intro p x hp hx;obtain ⟨q,y,hq,hy⟩:=e.lr p x hp (by omega);exact hl q y hq (hy.trans hx)
  · intro p x hp hx;obtain ⟨q,y,hq,hy⟩:=g2.lr p x hp (Nat.lt_of_lt_of_le hx e.size);obtain ⟨r,z,hr,hz⟩:=e.lr q y hq (by omega);exact ⟨r,z,hr,hz.trans hy⟩
  · intro q hq hn;obtain ⟨h1,h2⟩:=e.gc q hq hn;exact ⟨by rw [Kp.at_ne _ _ (fun e=>by rw [e] at hq;omega)];exact h1,h2⟩
theorem Mark.extW {κ':Kp} {w':World} {B r:Nat} (m:Mark B κ h w r) (e:ExtW κ h w κ' h' w'):Mark B κ' h' w' r:=by
  have hlt:r < w.heap.size:=(Array.getElem?_eq_some_iff.1 m.obj).1;refine ⟨m.old,(e.fc r hlt m.off).trans m.obj,by rw [e.M];exact m.fix,fun p x hl hx=>?_⟩;obtain ⟨q,y,hq,hy⟩:=e.lr p x hl (by omega);exact m.off q y hq (hy.trans hx)
theorem DR.extW {κ':Kp} {w':World} {B:Nat} {ds:List Dfd} {l:List Deferred} (d:DR B κ h w ds l) (e:ExtW κ h w κ' h' w'):DR B κ' h' w' ds l:=by
  induction d with
  | nil=>exact .nil
  | mark hl hm hne ih=>exact .mark ih (hm.extW e) hne
  | cons hl ha hc ih=>exact .cons ih (VRl.mono e.le _ _ ha) (VRl.mono e.le _ _ hc)
theorem Ext.pushG (hr:HR P κ h w) (o:AObj):Ext P κ h w κ (h.push o) w:=by
  have hn:=hr.next_none;have hg:∀ q x,κ.ρ q = some x→(h.push o).get q = h.get q:=fun q x e=>Heap.get_push_lt o (hr.top q x e)
  have hl:∀ q x,Live κ (h.push o) q x→Live κ h q x:=fun q x ⟨h1,h2⟩=>⟨h1,by rw [hg q x h1] at h2;exact h2⟩
  refine ⟨.refl κ,rfl,⟨fun q x e=>by rw [hg q x e];exact hr.obj q x e,fun q r y z h1 h2=>hr.apart q r y z (hl _ _ h1) (hl _ _ h2),hr.frozen,fun q y h1=>hr.off q y (hl _ _ h1),fun q y e=>?_,fun q hq=>by rw [Heap.next_push] at hq;rw [Heap.get_push_ne h o (fun e=>by rw [e] at hq;omega)];exact hr.clean q (by omega)⟩,?_,Nat.le_refl _,fun _ _ _=>rfl,fun q x h1 _=>⟨q,x,hl _ _ h1,rfl⟩,
    fun q hq hn=>⟨hn,Heap.get_push_lt o hq⟩,rfl,rfl,rfl⟩
  · have:=hr.top q y e;rw [Heap.next_push];omega
  · rw [Heap.next_push];omega

/-! ### new blocks,raw -/
inductive NewOb (κ:Kp):AObj→Obj→Nat→Prop
  | row {ty:TypeId} {cs:List AV} {vs:List Value} (hl:VRl κ cs vs) (h1:cs.all AV.one = true):NewOb κ (.row ty cs false) (.cells vs.toArray ty) vs.length
  | map:NewOb κ (.map [] 0) (.map #[] 0) 0
theorem NewOb.or {ob:AObj} {mb:Obj} {m:Nat} (hn:NewOb κ ob mb m) {κ':Kp} (hk:κ.le κ'):OR P κ' ⟨w.heap.size,0,m⟩ (World.new w mb) ob:=by
  cases hn with
  | row hl h1=>exact ⟨_,(0,0),new_heap_same _ _,by simp,by simp [hl.length],VRm.of_list (VRl.mono hk _ _ hl) h1 (fun j hj=>by simp),fun _=>⟨rfl,hl.length⟩,.inl rfl⟩
  | map=>exact ⟨#[],new_heap_same _ _,by simp [VRe]⟩
theorem eqOp_notNew {op:BinOp} {k:SK} {x y:XO} {i:XI} (h:eqOp op k x y = some i):i.isNew = false:=by
  unfold eqOp at h
  split at h <;> first | (simp only [sJ] at h;subst h;rfl) | simp at h
theorem copBin_notNew {op:BinOp} {t:TypeId} {x y:Operand} {i:XI} (h:copBin P op t x y = some i):i.isNew = false:=by
  simp only [copBin,copArrEq,Option.bind_eq_bind,bJ] at h
  repeat' first
    | rfl
    | contradiction
    | (exact eqOp_notNew h)
    | (with_reducible obtain ⟨_,_,h⟩:=h)
    | (simp only [bJ,Option.map_eq_some_iff,sJ] at h)
    | (split at h)
theorem copConv_notNew {s d:TypeId} {x:Operand} {i:XI} (h:copConv P s d x = some i):i.isNew = false:=by
  simp only [copConv,Option.bind_eq_bind,bJ] at h
  repeat' first
    | rfl
    | contradiction
    | (with_reducible obtain ⟨_,_,h⟩:=h)
    | (simp only [bJ,Option.map_eq_some_iff,sJ,reduceCtorEq] at h)
    | (split at h)
theorem copOpO_new {i:XI} (hc:copOpO P rnd o = some (.ins i)) (hi:i.isNew = true) :
    (∃ t z,o.op = .alloc t∧zeroC P t = some z∧i = .alloc t z)∨(∃ t x xo,o.op = .box t x∧opnd x = some xo∧i = .box t xo) ∨
    (∃ t len parts e sz z xs,o.op = .buildSlice t len parts∧elemS P t = some e∧szOf P e = some sz∧¬ len * sz > 2 ^ 24∧zeroC P e = some z∧copParts (fun i=>some (i * sz,sz)) parts.toList = some xs∧i = .bslice e sz len (repeatL len z) xs) ∨
    (∃ t,o.op = .makeMap t none∧i = .mkmap)∨(∃ t x y e b z xo yo,o.op = .makeSlice t x y∧elemS P t = some e∧byOf P e = some b∧zeroC P e = some z∧opnd x = some xo∧opnd y = some yo∧i = .mkslice e b z xo yo):=by
  cases hop:o.op <;> simp only [copOpO,hop] at hc
  case alloc t =>
    simp only [Option.bind_eq_bind,bJ,sJ,XC.ins.injEq] at hc;obtain ⟨z,hz,rfl⟩:=hc;exact .inl ⟨t,z,rfl,hz,rfl⟩
  case box t x =>
    simp only [Option.bind_eq_bind,bJ,sJ,XC.ins.injEq] at hc;obtain ⟨xo,hx,rfl⟩:=hc;exact .inr (.inl ⟨t,x,xo,rfl,hx,rfl⟩)
  case buildSlice t len parts =>
    simp only [Option.bind_eq_bind,bJ] at hc;obtain ⟨e,he,sz,hsz,hc⟩:=hc
    split at hc
    · simp at hc
    · rename_i hfew
      simp only [bJ,sJ,XC.ins.injEq] at hc;obtain ⟨z,hz,xs,hxs,rfl⟩:=hc;exact .inr (.inr (.inl ⟨t,len,parts,e,sz,z,xs,rfl,he,hsz,hfew,hz,hxs,rfl⟩))
  case makeMap t r =>
    cases r with
    | none => 
      simp only [Option.bind_eq_bind,bJ,sJ,XC.ins.injEq] at hc;obtain ⟨_,_,rfl⟩:=hc;exact .inr (.inr (.inr (.inl ⟨t,rfl,rfl⟩)))
    | some x=>simp at hc
  case makeSlice t x y =>
    simp only [Option.bind_eq_bind,bJ,sJ,XC.ins.injEq] at hc;obtain ⟨e,he,b,hb,z,hz,xo,hx,yo,hy,rfl⟩:=hc;exact .inr (.inr (.inr (.inr ⟨t,x,y,e,b,z,xo,yo,rfl,he,hb,hz,hx,hy,rfl⟩)))
  case binOp op t x y yt =>
    exfalso
    simp only [Option.bind_eq_bind,bJ,sJ,XC.ins.injEq] at hc;obtain ⟨_,hb,rfl⟩:=hc;rw [copBin_notNew hb] at hi;simp at hi
  case convert sx dx x =>
    exfalso
    simp only [Option.bind_eq_bind,bJ,sJ,XC.ins.injEq] at hc;obtain ⟨_,hb,rfl⟩:=hc;rw [copConv_notNew hb] at hi;simp at hi
  case call c =>
    exfalso
    split at hc
    · simp only [Option.bind_eq_bind,bJ] at hc;obtain ⟨xs,_,fn,_,hc⟩:=hc
      split at hc
      · simp at hc
      · unfold copExt at hc
        repeat' first
          | contradiction
          | (simp only [sJ,XC.ins.injEq] at hc;subst hc;simp [XI.isNew] at hi;done)
          | (simp only [Option.map_eq_some_iff,XC.ins.injEq] at hc;obtain ⟨_,_,rfl⟩:=hc;simp [XI.isNew] at hi;done)
          | split at hc
    · simp [bJ] at hc
    · simp [bJ] at hc
    · simp only [copBuiltin,Option.bind_eq_bind,bJ] at hc;obtain ⟨xs,_,hc⟩:=hc
      repeat' first
        | contradiction
        | (simp [XI.isNew] at hi;done)
        | (with_reducible obtain ⟨_,_,hc⟩:=hc)
        | (simp only [bJ,sJ,XC.ins.injEq] at hc)
        | (split at hc)
  all_goals exfalso
  all_goals repeat' first
    | contradiction
    | (simp [XI.isNew] at hi;done)
    | (with_reducible obtain ⟨_,_,hc⟩:=hc)
    | (simp only [Option.bind_eq_bind,bJ,sJ,XC.ins.injEq,reduceCtorEq] at hc)
    | (split at hc)
theorem beqMod_ptr {p:Pos} {o:Nat} {v:AV} (h:beqMod (.ptr p o) v = true):∃ q,v = .ptr q o:=by
  cases v <;> simp only [beqMod,Bool.false_eq_true] at h
  exact ⟨_,by rw [Nat.eq_of_beq_eq_true h]⟩
theorem beqMod_map {p:Pos} {v:AV} (h:beqMod (.map p) v = true):∃ q,v = .map q:=by
  cases v <;> simp only [beqMod,Bool.false_eq_true] at h
  exact ⟨_,rfl⟩
theorem beqMod_slice {p:Pos} {o l:Nat} {c:Cap} {v:AV} (h:beqMod (.slice p o l c) v = true):∃ q,v = .slice q o l c:=by
  cases v <;> simp only [beqMod,Bool.false_eq_true] at h
  rename_i q r l' c'
  cases h1:Nat.beq o r <;> cases h2:Nat.beq l l' <;> rw [h1,h2] at h <;> simp only [Bool.false_eq_true] at h
  exact ⟨q,by rw [Nat.eq_of_beq_eq_true h1,Nat.eq_of_beq_eq_true h2,beqCap_eq h]⟩
theorem new_raw {i:XI} (_hr:HR P κ h w) (ht:TR κ n tm a.tmps) (hc:copOp P rnd o = .ins i) (hi:i.isNew = true) (hs:i.sem tm h = .ok v h') :
    ∃ ob mb m u,h' = h.push ob∧v.pos = some h.next∧NewOb κ ob mb m∧(execOp a.eval o).run P w = .ok (.value u) (World.new w mb) ∧
      ∀ (κ':Kp) (p:Pos) (v':AV),κ'.ρ p = some ⟨w.heap.size,0,m⟩→beqMod v v' = true→v'.pos = some p→VR κ' v' u:=by
  have hcO:copOpO P rnd o = some (.ins i):=by
    unfold copOp at hc
    split at hc
    · rename_i x hx;rw [hx,hc]
    · simp only [XC.ins.injEq] at hc;subst hc;simp [XI.isNew] at hi
  rcases copOpO_new hcO hi with ⟨t,z,hop,hz,rfl⟩ | ⟨t,x,xo,hop,hx,rfl⟩ | ⟨t,len,parts,e,sz,z,xs,hop,he,hsz,hfew,hz,hxs,rfl⟩ | ⟨t,hop,rfl⟩ | ⟨t,x,y,e,by_,z,xo,yo,hop,he,hb,hz,hx,hy,rfl⟩
  · obtain ⟨zv,z1,z2,z3,z4⟩:=zeroC_ok hz;simp only [XI.sem,allocS,Heap.pushK_eq,Out.ok.injEq] at hs;obtain ⟨rfl,rfl⟩:=hs;refine ⟨_,_,_,.pointer (some ⟨w.heap.size,0,none⟩),rfl,rfl,.row (ty:=t) (z2 κ) z3,?_,fun κ' p v' hp hb hpos=>?_⟩
    · simp only [execOp,hop,Instr.alloc,Sem.run_bind,z1,Result.andThen_ok,newVar,newRow,newObj,Sem.run,Sem.run_pure];simp [World.new]
    · obtain ⟨q,rfl⟩:=beqMod_ptr hb;simp only [AV.pos,sJ] at hpos;subst hpos;simp only [VR];exact ⟨_,hp,rfl⟩
  · obtain ⟨y,h1,h2⟩:=withO_ok hs;have e1:=opnd_ok ht hx h1
    cases hcs:y.cellsO with
    | none=>rw [hcs] at h2;simp at h2
    | some cs =>
      rw [hcs] at h2;simp only [Heap.pushK_eq,Out.ok.injEq] at h2;obtain ⟨rfl,rfl⟩:=h2;obtain ⟨g1,g2⟩:=cellsO_some e1 hcs;refine ⟨_,_,_,.pointer (some ⟨w.heap.size,0,none⟩),rfl,rfl,.row (ty:=t) g1 g2,?_,fun κ' p v' hp hb hpos=>?_⟩
      · simp only [execOp,hop,Instr.box,Sem.run_bind,Result.andThen_ok,newVar,newRow,newObj,Sem.run,Sem.run_pure];simp [World.new]
      · obtain ⟨q,rfl⟩:=beqMod_ptr hb;simp only [AV.pos,sJ] at hpos;subst hpos;simp only [VR];exact ⟨_,hp,rfl⟩
  · have hu:=elemS_ok he;obtain ⟨j,zv,z1,z2,z3,z4,z5⟩:=zeroC_info hz;have hsi:=szOf_info hsz z1;have hz':sz = zv.cells.size:=by rw [← hsi,z5,(z3 κ).length];simp
    have hrep:=rep_ok (z3 κ) len;rw [← hz'] at hrep;obtain ⟨cs',vs',g1,g2,g3,g4,g5⟩:=fillK_ok ht (place:=fun i=>some (i * sz,sz)) (fun i y hy=>hy) hxs hrep (repeatL_all z4 len) hs;rw [Heap.pushK_eq] at g5;simp only [Out.ok.injEq] at g5;obtain ⟨rfl,rfl⟩:=g5;refine ⟨_,_,_,.slice (some ⟨w.heap.size,0,none⟩) len len,rfl,rfl,.row (ty:=e) g2 g3,?_,fun κ' p v' hp hb hpos=>?_⟩
    · simp only [execOp,hop,Instr.buildSlice,Sem.run_bind,run_underlyingT hu,Result.andThen_ok,run_sizeT hsz,if_neg hfew,Array.toList_map,Sem.run_pure]
      by_cases h0:len * sz = 0
      · simp only [h0,if_true,Sem.run_bind,Sem.run_pure,Result.andThen_ok];have:(Array.map (fun x=>(#[]:Array Value)[x % (#[]:Array Value).size]!) (Array.range 0)) = madeCells zv.cells (len * sz):=by rw [h0];simp [madeCells]
        rw [this,g1];simp [newRow,newObj,Sem.run,World.new]
      · simp only [h0,if_false,Sem.run_bind,Sem.run_pure,Result.andThen_ok,zeroValue,typeInfo,run_program,z1,z2];have:(Array.map (fun x=>zv.cells[x % zv.cells.size]!) (Array.range (len * sz))) = madeCells zv.cells (len * sz):=rfl;rw [this,g1];simp [newRow,newObj,Sem.run,World.new]
    · obtain ⟨q,rfl⟩:=beqMod_slice hb;simp only [AV.pos,sJ] at hpos;subst hpos;simp only [VR];exact ⟨_,_,len,hp,rfl,Nat.le_refl _,.inr rfl,rfl⟩
  · simp only [XI.sem,mkmapS,Heap.pushK_eq,Out.ok.injEq] at hs;obtain ⟨rfl,rfl⟩:=hs;refine ⟨_,_,_,.map (some w.heap.size),rfl,rfl,.map,?_,fun κ' p v' hp hb hpos=>?_⟩
    · simp [execOp,hop,Instr.makeMap,newObj,Sem.run,World.new]
    · obtain ⟨q,rfl⟩:=beqMod_map hb;simp only [AV.pos,sJ] at hpos;subst hpos;simp only [VR];exact ⟨_,hp,rfl⟩
  · obtain ⟨j,zv,z1,z2,z3,z4,z5⟩:=zeroC_info hz;obtain ⟨k1,l,h1,h2⟩:=withN_ok hs;obtain ⟨k2,c,h3,h4⟩:=withN_ok h2;have e1:=opnd_ok ht hx h1;have e2:=opnd_ok ht hy h3;simp only [VR] at e1 e2
    cases c1:Nat.ble l c <;> cases c2:small c by_ <;> cases c3:Nat.ble c 140737488355328 <;> rw [c1,c2,c3] at h4 <;> simp only [Heap.pushK_eq,Out.ok.injEq,reduceCtorEq] at h4
    obtain ⟨rfl,rfl⟩:=h4;have c1:=ble_iff.1 c1;have c2:=ble_iff.1 c2;have c3:=ble_iff.1 c3;have hbi:=byOf_info hb z1;have hm:=run_make (P:=P) w t e j zv (elemS_ok he) z1 z2 k1 k2 (Int.ofNat l) (Int.ofNat c) (Int.natCast_nonneg l) (Int.ofNat_le.2 c1) (by
      rw [hbi,Int.mul_comm];have:((c * by_:Nat):Int) ≤ 140737488355328:=Int.ofNat_le.2 c2;simp only [Int.natCast_mul] at this;simp only [Int.ofNat_eq_natCast];omega) (by simp only [Int.ofNat_eq_natCast];omega)
    have hsz:j.size = zv.cells.size:=by rw [z5,(z3 κ).length];simp
    have hrep:=rep_ok (z3 κ) c;rw [← hsz] at hrep;refine ⟨_,_,_,.slice (some ⟨w.heap.size,0,none⟩) l c,rfl,rfl,.row (ty:=e) hrep (repeatL_all z4 c),?_,fun κ' p v' hp hb hpos=>?_⟩
    · simp only [execOp,hop,e1,e2,Sem.run_bind,hm,Result.andThen_ok,Sem.run_pure];rfl
    · obtain ⟨q,rfl⟩:=beqMod_slice hb;simp only [AV.pos,sJ] at hpos;subst hpos;simp only [VR];exact ⟨_,_,c,hp,rfl,c1,.inr rfl,rfl⟩
end
end Go.X
