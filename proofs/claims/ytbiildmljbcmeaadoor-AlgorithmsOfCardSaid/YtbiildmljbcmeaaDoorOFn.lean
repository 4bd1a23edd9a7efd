/- A call that is handed a function beside a pure value. No conditions. -/
import Derived.Test.YtbiildmljbcmeaaDoorP5
open Ab Go TabE
set_option maxRecDepth 20000
set_option linter.unusedSimpArgs false
set_option linter.unusedVariables false
set_option maxHeartbeats 8000000
namespace OFn
theorem opened_fn {E:Env} {k slot f h x g v hf} (hr:aRun E k f [x,.fn g [] []] []=some (.ret v,hf)) (hx:x.pure=true) (hv:v.pure=true):opened [false,true] true (aRun E k) slot f [x,.fn g [] []] h=some (.ret v,h):=by
  have e1:sealM (sealA 20) [false,true] h [x,.fn g [] []]=some ([x,.fn g [] []],h):=by simp [sealM,sealA_of_pure hx]
  have e2:AV.keysL [x,.fn g [] []]=[]:=by simp [AV.keysL,AV.keys,AV.keys_pure x hx]
  have e3:AV.rnL (inK []) [x,.fn g [] []]=[x,.fn g [] []]:=by simp [AV.rnL,AV.rn,rn_pure x hx]
  have e4:sealA 20 hf v=some (v,hf):=sealA_of_pure hv
  have e5:AV.keysL [v]=[]:=by simp [AV.keysL,AV.keys_pure v hv]
  have e6:∀ φ,AV.rnL φ [v]=[v]:=fun φ => by simp [AV.rnL,rn_pure v hv]
  have e7:∀ h:Heap,dd (reach h 3 [])=[]:=fun h => rfl
  unfold opened
  rw [e1]
  simp only [e2,e7]
  unfold lendA
  simp only [lendH,closedH,e2,List.all_nil,and_self,if_true,e3,hr,backR,e4]
  unfold backV Ab.back backA
  simp only [List.length_nil,lentKs,List.range_zero,List.map_nil,List.nil_append,e5,e7,closedH,List.all_nil,and_self,if_true,e6,List.filter_nil,putAll]
theorem exm {x:Option (ARes × Heap)} {r} (h:x.map Prod.fst=some r):∃ hf,x=some (r,hf):=by
  cases x with
  | none => cases h
  | some p => obtain ⟨a,b⟩:=p; cases h; exact ⟨b,rfl⟩
end OFn
