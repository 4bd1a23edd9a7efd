/- The evaluator: own work, no conditions. -/
import Derived.Test.YtbiildmljbcmeaaDoorB35
/- Small lemmas for evaluation with symbols. Own work, no conditions. -/
set_option linter.unusedVariables false
namespace Ab
open Go
theorem sc_int (k n):(AV.int k n).scal=true:=rfl
theorem sc_bool (b):(AV.bool b).scal=true:=rfl
theorem sc_str (l):(AV.str l).scal=true:=rfl
theorem sc_sl (f xs c):(AV.sl f xs c).scal=true:=rfl
theorem sc_ref (k o l c):(AV.ref k o l c).scal=true:=rfl
theorem sc_ptr (k o):(AV.ptr k o).scal=true:=rfl
theorem sc_pel (cs):(AV.pel cs).scal=true:=rfl
theorem sc_nilp:AV.nilp.scal=true:=rfl
theorem sc_fn (f a b):(AV.fn f a b).scal=true:=rfl
theorem sc_nilf:AV.nilf.scal=true:=rfl
theorem sc_if (t v):(AV.iface t v).scal=true:=rfl
theorem sc_nili:AV.nili.scal=true:=rfl
theorem sc_agg (cs):(AV.agg cs).scal=false:=rfl
theorem sc_tup (cs):(AV.tup cs).scal=false:=rfl
theorem sc_mem (xs:List Int):(∀ x ∈ bs xs,x.scal=true)=True:=by
  simp only [eq_iff_iff,iff_true]
  exact List.all_eq_true.1 (bs_scal xs)
theorem bs_kl (l):AV.keysL (bs l)=[]:=AV.keysL_pure _ (bs_pure l)
theorem i_beq (a b:Int):(a == b)=decide (a=b):=by by_cases h:a=b <;> simp [h]
theorem i_bne (a b:Int):(a != b) = !decide (a=b):=by by_cases h:a=b <;> simp [h]
theorem nat_1 (n:Nat):1 + n=n + 1:=Nat.add_comm 1 n
def sealRow (h:Heap) (key:Key) (len:Nat) (cap:Option Nat):Option (AV × Heap) :=
  match lookK h key with
  | some o => if o.live=true ∧ o.esz=1 ∧ o.eagg=false ∧ o.cells.length=len ∧ AV.pureL o.cells=true then some (.sl false o.cells cap,setK h key ⟨o.cells,o.live,false,o.exact,o.esz,o.eagg⟩) else none
  | none => none
def sealX (n:Nat) (h:Heap) (v:AV):Option (AV × Heap):=sealA n h v
def sealY:Option (AV × Heap) → Nat → Heap → AV → Option (AV × Heap)
  | some r,_,_,_ => some r
  | none,n,h,v => sealX n h v
theorem sl_row (n:Nat) (h:Heap) (key:Key) (len:Nat) (cap:Option Nat):sealA (n + 2) h (.ref key 0 len cap)=sealY (sealRow h key len cap) (n + 2) h (.ref key 0 len cap):=by
  cases hr:sealRow h key len cap with
  | none => rfl
  | some r =>
    unfold sealRow at hr
    split at hr
    · rename_i o hk
      split at hr
      · rename_i hc
        obtain ⟨h1,h2,h3,h4,h5⟩:=hc
        cases hr
        simp only [sealY]
        unfold sealA
        have hp:(AV.ref key 0 len cap).pure=false:=rfl
        simp only [hp,Bool.false_eq_true,if_false,hk]
        rw [if_pos ⟨h1,by rw [h2]; omega,fun _ => h2⟩]
        simp only [h2,Nat.mul_one,List.drop_zero]
        rw [List.take_of_length_le (by omega),sealL_of_pure n _ _ h5]
        simp only [h3]
        rw [← h4,chunk_one]
      · cases hr
    · cases hr
theorem sl_pure (n:Nat) (h:Heap) (v:AV) (hp:v.pure=true):sealA (n + 1) h v=some (v,h):=by unfold sealA; rw [if_pos hp]
theorem sl_int (n h k x):sealA (n + 1) h (.int k x)=some (.int k x,h):=rfl
theorem sl_bool (n h b):sealA (n + 1) h (.bool b)=some (.bool b,h):=rfl
theorem sl_str (n h l):sealA (n + 1) h (.str l)=some (.str l,h):=rfl
theorem sl_sl (n h f xs c):sealA (n + 1) h (.sl f xs c)=some (.sl f xs c,h):=rfl
theorem sl_nilp (n h):sealA (n + 1) h .nilp=some (.nilp,h):=rfl
theorem sl_nilf (n h):sealA (n + 1) h .nilf=some (.nilf,h):=rfl
theorem sl_nili (n h):sealA (n + 1) h .nili=some (.nili,h):=rfl
theorem sl_pel (n h cs):sealA (n + 1) h (.pel cs)=some (.pel cs,h):=rfl
theorem sl_agg (n h cs):sealA (n + 1) h (.agg cs)=if AV.pureL cs then some (.agg cs,h) else match sealLW (sealA n) h cs with
    | some (l,h') => if l.all AV.scal then some (.agg l,h') else none
    | none => none:=by
  conv => lhs; unfold sealA
  rfl
theorem sl_tup (n h cs):sealA (n + 1) h (.tup cs)=if AV.pureL cs then some (.tup cs,h) else match sealLW (sealA n) h cs with
    | some (l,h') => some (.tup l,h')
    | none => none:=by
  conv => lhs; unfold sealA
  rfl
theorem sl_fn (n h f a b) (hp:(AV.fn f a b).pure=true):sealA (n + 1) h (.fn f a b)=some (.fn f a b,h):=sl_pure n h _ hp
theorem sl_if (n h t v) (hp:(AV.iface t v).pure=true):sealA (n + 1) h (.iface t v)=some (.iface t v,h):=sl_pure n h _ hp
end Ab
