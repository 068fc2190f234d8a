/- What is known of files.disk's sorting at this program: slices.SortFunc at files by the library's contract, its comparison walked. No conditions. -/
import Derived.Test.YtkmffbmgpnndcaaGreatDoorProg
import Derived.Test.YtkmffbmgpnndcaaGreatDoorXxName
import Derived.ProofKit
import Derived.Lib.Bytealg
import Derived.Lib.BytesEntry
import Derived.Lib.ConvBytes
import Derived.Tactics2
import Derived.Lib.Walk
import Derived.WalkKit
import Derived.Shelf.SlSortCmp.WholeK
import Derived.Shelf.SlSortCmp.NoneTotal
import Derived.Shelf.Lay
import Derived.Ground.SlsfProg
namespace Go.Proofs.YtkmffbmgpnndcaaGreatDoor
open Go Go.Proofs Go.RowKit Go.Lib Go.Shelf Go.Sort Go.X
theorem run_bytesOf_slice {P:Program} (w:World) (b off n c:Nat) (xs:List Int) (hx:xs.length = n) (hc:∀ i,i < n→w.cell? ⟨b,off + i,none⟩ = some (.int .u8 (xs.getD i 0))) :
    (Extern.Bytes.bytesOf (.slice (some ⟨b,off,none⟩) n c)).run P w = .ok ⟨(Lib.bytesOf xs).toArray⟩ w:=by
  have hl:=run_loadBytesX (P:=P) w xs ⟨b,off,none⟩ .empty (fun j x hj=>by
    have hjl:j < xs.length:=(List.getElem?_eq_some_iff.1 hj).1;have e:(⟨b,off,none⟩:Addr).add j = ⟨b,off + j,none⟩:=by unfold Addr.add;split <;> simp_all
    rw [e,hc j (by omega),List.getD_eq_getElem?_getD,hj];rfl)
  rw [hx] at hl;have he:(⟨ByteArray.empty.data++(Lib.bytesOf xs).toArray⟩:ByteArray) = ⟨(Lib.bytesOf xs).toArray⟩:=by
    apply ByteArray.ext
    show (#[]:Array UInt8)++(Lib.bytesOf xs).toArray = (Lib.bytesOf xs).toArray;simp
  rw [he] at hl;exact hl
theorem run_compareSlices {P:Program} (w:World) (a b:Value) (x y:ByteArray) (ha:(Extern.Bytes.bytesOf a).run P w = .ok x w) (hb:(Extern.Bytes.bytesOf b).run P w = .ok y w) :
    (Extern.BytealgCompare.compare #[a,b]).run P w = .ok (.int .i64 (compareBytes x.data.toList y.data.toList)) w:=by
  change Sem.run P (do pure (goInt (Extern.BytealgCompare.cmp (← Extern.Bytes.bytesOf a) (← Extern.Bytes.bytesOf b)))) w = _
  simp only [Sem.run_bind,ha,hb,Result.andThen];rw [cmp_eq];rfl
theorem run_bytesOf_conv {P:Program} (w w':World) (e:TypeId) (s:ByteArray) (c:Nat) (h:∀ j,j < s.size→w'.cell? ⟨w.heap.size,j,none⟩ = (bytesWorld w e s).cell? ⟨w.heap.size,j,none⟩) :
    (Extern.Bytes.bytesOf (.slice (some ⟨w.heap.size,0,none⟩) s.size c)).run P w' = .ok s w':=by
  have hx:=run_bytesOf_slice (P:=P) w' w.heap.size 0 s.size c (s.data.toList.map fun b=>(b.toNat:Int)) (by simp) (fun i hi=>by
    rw [Nat.zero_add,h i hi,bytesWorld_cell w e s i hi];have hi':i < s.data.toList.length:=by simpa using hi
    have hj:s.data.toList[i]? = some s.data.toList[i]:=List.getElem?_eq_getElem hi';rw [List.getD_eq_getElem?_getD,List.getD_eq_getElem?_getD,List.getElem?_map,hj];rfl)
  rw [hx]
  congr 1
  apply ByteArray.ext
  have:(Lib.bytesOf (s.data.toList.map fun b=>(b.toNat:Int))) = s.data.toList:=by
    unfold Lib.bytesOf;rw [List.map_map];conv=>rhs;rw [← List.map_id s.data.toList]
    exact List.map_congr_left fun b _=>by simp
  rw [this]
set_option maxRecDepth 100000 in
theorem cmp_files (va vb:Value) (s t:ByteArray) (w:World) :
    Calls Tryz.prog 81 #[.agg #[.string s,va],.agg #[.string t,vb]] w fun e w'=>e = .returned (.int .i64 (Lib.compareBytes s.data.toList t.data.toList))∧w' = bytesWorld (bytesWorld ((w.alloc (.cells #[.string s,va] 92)).alloc (.cells #[.string t,vb] 92)) 5 s) 5 t:=by
  go_enter Tryz.func81,Tryz.ntmps81
  go_wp2
  rw [Go.Lib.run_convert_string_bytes _ 9 28 5 s Tryz.underlying9 Tryz.underlying28 Tryz.underlying5];simp only [Result.andThen];rw [Oper.upon_value]
  generalize hw1:Lib.bytesWorld _ 5 s = w1
  have hc1:w1.cell? ⟨w.heap.size + 1,0,none⟩ = some (.string t):=by
    rw [← hw1,bytesWorld_old _ _ _ _ (by simp)];simp
  go_wp2
  rw [Go.Lib.run_convert_string_bytes _ 9 28 5 t Tryz.underlying9 Tryz.underlying28 Tryz.underlying5];simp only [Result.andThen];rw [Oper.upon_value]
  go_wp2
  have hb1:(Extern.Bytes.bytesOf (.slice (some ⟨w.heap.size + 1 + 1,0,none⟩) s.size (grownCap ((w.alloc (.cells #[.string s,va] 92)).alloc (.cells #[.string t,vb] 92)) s.size 0 5))).run Tryz.prog (Lib.bytesWorld w1 5 t) = .ok s (Lib.bytesWorld w1 5 t):=by
    have:=run_bytesOf_conv (P:=Tryz.prog) ((w.alloc (.cells #[.string s,va] 92)).alloc (.cells #[.string t,vb] 92)) (Lib.bytesWorld w1 5 t) 5 s (grownCap ((w.alloc (.cells #[.string s,va] 92)).alloc (.cells #[.string t,vb] 92)) s.size 0 5) (fun j hj=>by
      rw [bytesWorld_old w1 5 t _ (by rw [← hw1,bytesWorld_size];simp),← hw1])
    simpa using this
  have hb2:=run_bytesOf_conv (P:=Tryz.prog) w1 (Lib.bytesWorld w1 5 t) 5 t (grownCap w1 t.size 0 5) (fun j hj=>rfl)
  rw [run_callFunc_extern Tryz.func126 (by kernel_rfl) (by kernel_rfl) (by kernel_rfl) (e:=Extern.BytealgCompare.compare) (by kernel_rfl),run_compareSlices _ _ _ s t hb1 hb2];simp only [Result.andThen];rw [Oper.upon_value]
  go_wp2
  go_ret
  exact ⟨rfl,by rw [hw1]⟩
shelf_lay_g SlLaysF0.n6 Slsf 6 at Tryz 80 as sortFi
theorem sortsF:SortsF Tryz.prog 80 81:=by
  refine sortsF_of sortFi (fun w=>?_) (fun w=>?_) (enters_of Tryz.func81 (by kernel_rfl) rfl) (fun va vb s t w=>?_) (fun w=>?_) ⟨_,_,Tryz.func80,rfl,by decide⟩
  · exact Tryz.isAgg92 w
  · exact Tryz.sizeOf92 w
  · refine (cmp_files va vb s t w).mono ?_;rintro e w' ⟨rfl,rfl⟩;refine ⟨rfl,?_⟩;obtain ⟨o1,e1⟩:=bytesWorld_grow ((w.alloc (.cells #[.string s,va] 92)).alloc (.cells #[.string t,vb] 92)) 5 s;obtain ⟨o2,e2⟩:=bytesWorld_grow (bytesWorld ((w.alloc (.cells #[.string s,va] 92)).alloc (.cells #[.string t,vb] 92)) 5 s) 5 t;refine ⟨2,#[.cells #[.string s,va] 92,.cells #[.string t,vb] 92]++#[o1]++#[o2],?_⟩;rw [e2,e1];simp only [grow,World.drewN,World.alloc]
    congr 1
  · exact AnyF.slices_SortFunc_none sortFi none 0 (.func (.func 81) #[] #[]) w
end Go.Proofs.YtkmffbmgpnndcaaGreatDoor
