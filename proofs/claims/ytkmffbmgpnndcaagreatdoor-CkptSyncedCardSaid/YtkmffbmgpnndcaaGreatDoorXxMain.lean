/- X's runs are the model's: in every world, at every order. -/
import Derived.Test.YtkmffbmgpnndcaaGreatDoorXxCalls
import Derived.Test.YtkmffbmgpnndcaaGreatDoorXxDraw1
namespace Go.X
open Go
theorem calls_sound {P:Program} {E:XEnv} (hmix:P.follows .mixedOrders = true) (hE:EnvOK P E) (m:Nat):CallS P (callNF E m):=callNF_ok hE (fun _ hcall _=>draw_ok hmix hE hcall) m
def panL:Pan→List AV
  | .off=>[]
  | .on v=>[v]
theorem panL_inj {p q:Pan} (h:panL p = panL q):p = q:=by
  cases p <;> cases q <;> simp [panL] at h
  · rfl
  · rw [h]
theorem run_sound {P:Program} {E:XEnv} (hmix:P.follows .mixedOrders = true) (hE:EnvOK P E) {m:Nat} {f:AV} {args:List AV} {pan pan':Pan} {h h':Heap} {v:AV} (hrun:∀ k kp,callNF E m f args pan h k kp = k v pan' h'):CallOK P f args pan h (.ret v) pan' h':=by
  obtain ⟨res,p1,h1,e,hok⟩:=calls_sound hmix hE m f args pan h (fun v p h=>.ok (.tuple (.bool true :: v :: panL p)) h) (fun v p h=>.ok (.tuple [.bool false]) h) _ rfl (by rw [hrun];simp);rw [hrun] at e
  cases res with
  | pan u=>simp [resK] at e
  | ret u =>
    simp only [resK,R.ok.injEq,AV.tuple.injEq,List.cons.injEq,true_and] at e;obtain ⟨⟨rfl,e2⟩,rfl⟩:=e;rw [panL_inj e2] at hok;exact hok
end Go.X
