/- A part of the proof: Plaing. No conditions. -/
import Derived.Test.YtkanidldnnfloaaGreatPIt3g
import Derived.Test.YtkanidldnnfloaaGreatPG7
set_option linter.unusedVariables false
set_option linter.unusedSimpArgs false
namespace Go.Proofs.YtkanidldnnfloaaGreat.P.It
open Am
theorem wrap_id {x:Int} (h1 : -9223372036854775808≤x) (h2:x≤9223372036854775807):IntKind.i64.wrap x=x:=by
 rw [IntKind.wrap_i64]; omega
theorem getI_ok {α:Type} {xs:List α} {i:Nat} (h:i < xs.length):getI xs (i:Int)=some xs[i]:=by
 unfold getI
 rw [if_pos (by omega)]
 simp [h]
theorem wrap_succ {i:Nat} (h:i≤1000000000000):IntKind.i64.wrap ((i:Int)+1)=((i+1:Nat):Int):=by
 rw [wrap_id] <;> omega
theorem wrap_up {k:Int} (h0:0≤k) (h1:k≤1000000000000000000):IntKind.i64.wrap (k+1)=k+1:=wrap_id (by omega) (by omega)
theorem lt_yes {i n:Nat} (h:i < n):decide ((i:Int) < (n:Int))=true:=by simp; omega
theorem lt_no (n:Nat):decide ((n:Int) < (n:Int))=false:=by simp
theorem maxLen_is:maxLen=9223372036854775807:=by decide
theorem getI_set {α:Type} {x:List α} {i:Nat} (h:i < x.length) (v:α):getI (x.set i v) (i:Int)=some v:=by
 rw [getI_ok (by simpa using h)]; simp
theorem mk_ok {α R:Type} (x:List α) (c:Int) (hl:x.length≤68719476736) (h0:0≤c) (hc:c≤1000) (A B:R):(bif decide (0≤(x.length:Int)) && decide ((x.length:Int)≤(x.length:Int)) && decide ((x.length:Int)*c≤140737488355328) && decide ((x.length:Int)≤9223372036854775807) then A else B)=A:=by
 have h1:(x.length:Int)*c≤68719476736*1000:=Int.mul_le_mul (by omega) hc h0 (by omega)
 have h2:(x.length:Int)*c≤140737488355328:=by omega
 have h3:(x.length:Int)≤9223372036854775807:=by omega
 simp [h2,h3]
theorem all_loop {α R:Type} (x:List α) (p:α→Bool) (F E:Option R) (f:Int→Option R) (hl:x.length≤68719476736)
  (h1:∀ (i:Nat) (h:i < x.length),f (i:Int)=bif p x[i] then f ((i+1:Nat):Int) else F) (h2:f (x.length:Int)=E) :
  ∀ (n i:Nat),n+i=x.length→f (i:Int)=bif (x.drop i).all p then E else F
 | 0,i,hn=>by
  obtain rfl:i=x.length:=by omega
  rw [h2,List.drop_eq_nil_of_le (by omega)]
  rfl
 | n+1,i,hn=>by
  have hi:i < x.length:=by omega
  rw [h1 i hi,all_loop x p F E f hl h1 h2 n (i+1) (by omega),List.drop_eq_getElem_cons hi,List.all_cons]
  cases p x[i] <;> rfl
theorem all0 {α R:Type} (x:List α) (p:α→Bool) (F E:Option R) (f:Int→Option R) (hl:x.length≤68719476736)
  (h1:∀ (i:Nat) (h:i < x.length),f (i:Int)=bif p x[i] then f ((i+1:Nat):Int) else F) (h2:f (x.length:Int)=E):f 0=bif x.all p then E else F:=by
 have:=all_loop x p F E f hl h1 h2 x.length 0 (by omega)
 rwa [List.drop_zero] at this
def zI (x:List Int):Nat:=x.length
def zL {α:Type} (f:α→Nat) (x:List α):Nat:=x.length+(x.map f).sum
theorem zL_len {α:Type} (f:α→Nat) (x:List α):x.length≤zL f x:=Nat.le_add_right _ _
theorem zL_mem {α:Type} (f:α→Nat) {x:List α} {y:α} (h:y∈x):f y≤zL f x:=by
 have:f y≤(x.map f).sum:=by
  induction x with
  | nil=>cases h
  | cons a l ih =>
   rw [List.map_cons,List.sum_cons]
   rcases List.mem_cons.1 h with rfl | h
   ·omega
   ·have:=ih h; omega
 unfold zL
 omega
theorem copy_loop {α:Type} (x:List α) (S:α→Option ((α×PUnit)×PUnit)) (f:List α→Int→Option ((List α×PUnit)×PUnit)) (hl:x.length≤68719476736) (hS:∀ y∈x,S y=some ((y,()),()))
  (h1:∀ (i:Nat) (h:i < x.length) (v:List α),v.length=x.length→f v (i:Int)=(S x[i]).bind fun y=>f (v.set i y.1.1) ((i+1:Nat):Int)) (h2:∀ v:List α,f v (x.length:Int)=some ((v,()),())) :
  ∀ (n i:Nat) (v:List α),n+i=x.length→v.length=x.length→f v (i:Int)=some ((v.take i++x.drop i,()),())
 | 0,i,v,hn,hv=>by
  obtain rfl:i=x.length:=by omega
  rw [h2,List.take_of_length_le (by omega),List.drop_eq_nil_of_le (by omega),List.append_nil]
 | n+1,i,v,hn,hv=>by
  have hi:i < x.length:=by omega
  rw [h1 i hi v hv,hS _ (List.getElem_mem hi)]
  simp only [Option.bind_some]
  rw [copy_loop x S f hl hS h1 h2 n (i+1) _ (by omega) (by simpa using hv)]
  congr 3
  have e1:(v.set i x[i]).take (i+1)=v.take i++[x[i]]:=by
   rw [List.take_add_one,List.take_set_of_le (by omega)]
   simp [hv,hi]
  rw [e1,List.append_assoc,List.singleton_append]
  congr 1
  exact (List.drop_eq_getElem_cons hi).symm
theorem copy0 {α:Type} (x:List α) (S:α→Option ((α×PUnit)×PUnit)) (f:List α→Int→Option ((List α×PUnit)×PUnit)) (hl:x.length≤68719476736) (hS:∀ y∈x,S y=some ((y,()),()))
  (h1:∀ (i:Nat) (h:i < x.length) (v:List α),v.length=x.length→f v (i:Int)=(S x[i]).bind fun y=>f (v.set i y.1.1) ((i+1:Nat):Int)) (h2:∀ v:List α,f v (x.length:Int)=some ((v,()),())) (v:List α) (hv:v.length=x.length) :
  f v 0=some ((x,()),()):=by
 have:=copy_loop x S f hl hS h1 h2 x.length 0 v (by omega) hv
 rw [Int.natCast_zero] at this
 rw [this]; simp
theorem eq_loop {α R:Type} (x:List α) (E:Option R) (f:Int→Option R) (hl:x.length≤68719476736)
  (h1:∀ (i:Nat) (h:i < x.length),f (i:Int)=f ((i+1:Nat):Int)) (h2:f (x.length:Int)=E):f 0=E:=by
 have:=all0 x (fun _=>true) E E f hl (fun i h=>by simpa using h1 i h) h2
 rw [this]
 cases x.all _ <;> rfl
def zA (x:Atm):Nat:=zI x.1
def zC (x:Cel):Nat:=zL zA x.2
def zG (x:Reg):Nat:=zL zC x.2
theorem Sw_eqIntS_val (x:List Int) (h:zI x≤68719476736):Sw_eqIntS x x=some ((true,()),()):=by
 have hl:x.length≤68719476736:=h
 rw [Sw_eqIntS_eq]
 simp only [bne_self_eq_false,cond_false]
 refine eq_loop x (some ((true,()),())) (fun i=>Lw_eqIntS_4 x x i) hl (fun i hi => ?_) ?_
 ·rw [Lw_eqIntS_4_eq,lt_yes hi,wrap_succ (by omega)]
  simp only [getI_ok hi,cond_true,Option.bind_some,bne_self_eq_false,beq_self_eq_true,Bool.not_true,cond_false]
 ·rw [Lw_eqIntS_4_eq,lt_no]; rfl
theorem Sw_eqAtom_val (x:Atm) (h:zA x≤68719476736):Sw_eqAtom x x=some ((true,()),()):=by
 have hz:zA x=zI x.1:=rfl
 rw [Sw_eqAtom_eq]
 simp only [bne_self_eq_false,beq_self_eq_true,Bool.not_true,cond_false,Option.bind_some,Sw_eqIntS_val x.1 (by omega)]
theorem Sw_eqAtomS_val (x:List Atm) (h:zL zA x≤68719476736):Sw_eqAtomS x x=some ((true,()),()):=by
 have hl:x.length≤68719476736:=Nat.le_trans (zL_len _ x) h
 rw [Sw_eqAtomS_eq]
 simp only [bne_self_eq_false,cond_false]
 refine eq_loop x (some ((true,()),())) (fun i=>Lw_eqAtomS_4 x x i) hl (fun i hi => ?_) ?_
 ·rw [Lw_eqAtomS_4_eq,lt_yes hi,wrap_succ (by omega)]
  simp only [getI_ok hi,cond_true,Option.bind_some,Sw_eqAtom_val _ (Nat.le_trans (zL_mem _ (List.getElem_mem hi)) h),Bool.not_true,cond_false]
 ·rw [Lw_eqAtomS_4_eq,lt_no]; rfl
theorem Sw_eqCell_val (x:Cel) (h:zC x≤68719476736):Sw_eqCell x x=some ((true,()),()):=by
 have hz:zC x=zL zA x.2:=rfl
 rw [Sw_eqCell_eq]
 simp only [bne_self_eq_false,beq_self_eq_true,Bool.not_true,cond_false,Option.bind_some,Sw_eqAtomS_val x.2 (by omega)]
theorem Sw_eqCellS_val (x:List Cel) (h:zL zC x≤68719476736):Sw_eqCellS x x=some ((true,()),()):=by
 have hl:x.length≤68719476736:=Nat.le_trans (zL_len _ x) h
 rw [Sw_eqCellS_eq]
 simp only [bne_self_eq_false,cond_false]
 refine eq_loop x (some ((true,()),())) (fun i=>Lw_eqCellS_4 x x i) hl (fun i hi => ?_) ?_
 ·rw [Lw_eqCellS_4_eq,lt_yes hi,wrap_succ (by omega)]
  simp only [getI_ok hi,cond_true,Option.bind_some,Sw_eqCell_val _ (Nat.le_trans (zL_mem _ (List.getElem_mem hi)) h),Bool.not_true,cond_false]
 ·rw [Lw_eqCellS_4_eq,lt_no]; rfl
theorem Sw_eqRegion_val (x:Reg) (h:zG x≤68719476736):Sw_eqRegion x x=some ((true,()),()):=by
 have hz:zG x=zL zC x.2:=rfl
 rw [Sw_eqRegion_eq]
 simp only [bne_self_eq_false,beq_self_eq_true,Bool.not_true,cond_false,Option.bind_some,Sw_eqCellS_val x.2 (by omega)]
def mL {α:Type} (m:α→Int→α×Int):List α→Int→List α×Int
 | [],k=>([],k)
 | y::l,k=>((m y k).1::(mL m l (m y k).2).1,(mL m l (m y k).2).2)
def mI (_:Int) (k:Int):Int×Int:=(k,k+1)
def Md {α:Type} (m:α→Int→α×Int) (z:α→Nat):Prop:=∀ y k,k≤(m y k).2∧(m y k).2≤k+12*z y+12
theorem mL_md {α:Type} {m:α→Int→α×Int} {z:α→Nat} (h:Md m z):∀ (x:List α) (k:Int),k≤(mL m x k).2∧(mL m x k).2≤k+12*zL z x
 | [],k=>by simp [mL,zL]
 | y::l,k=>by
  have h1:=h y k
  have h2:=mL_md h l (m y k).2
  have e:zL z (y::l)=1+z y+zL z l:=by simp only [zL,List.length_cons,List.map_cons,List.sum_cons]; omega
  simp only [mL]
  omega
theorem mdI:Md mI (fun _=>0):=fun y k=>by unfold mI; simp only []; omega
theorem mL_mdI (x:List Int) (k:Int):k≤(mL mI x k).2∧(mL mI x k).2≤k+12*zI x:=by
 have:=mL_md mdI x k
 have e:zL (fun _:Int=>0) x=zI x:=by
  unfold zL zI
  have:∀ l:List Int,(l.map (fun _=>0)).sum=0:=fun l=>by induction l <;> simp_all
  rw [this]; rfl
 rw [e] at this
 exact this
theorem mL_len {α:Type} (m:α→Int→α×Int):∀ (x:List α) (k:Int),(mL m x k).1.length=x.length
 | [],_=>rfl
 | y::l,k=>by simp only [mL,List.length_cons,mL_len m l]
theorem mark_loop {α:Type} (m:α→Int→α×Int) (z:α→Nat) (hm:∀ y k,k≤(m y k).2) (f:List α→Int→Int→Option ((Int×PUnit)×List α×PUnit))
  (h1:∀ (v:List α) (k:Int) (i:Nat) (hi:i < v.length),v.length≤68719476736→0≤k→(m v[i] k).2≤1000000000000000000→z v[i]≤68719476736→f v k (i:Int)=f (v.set i (m v[i] k).1) (m v[i] k).2 ((i+1:Nat):Int))
  (h2:∀ v k,f v k (v.length:Int)=some ((k,()),v,())) (hmL:∀ x k,k≤(mL m x k).2) :
  ∀ (x pre:List α) (k:Int),0≤k→(mL m x k).2≤1000000000000000000→(pre++x).length≤68719476736→(∀ y∈x,z y≤68719476736)→f (pre++x) k (pre.length:Int)=some (((mL m x k).2,()),pre++(mL m x k).1,())
 | [],pre,k,_,_,_,_=>by
  rw [List.append_nil,h2]
  simp [mL]
 | y::l,pre,k,h0,hk,hl,hz=>by
  have hy:(pre++y::l)[pre.length]'(by simp)=y:=by simp
  have a1:=hm y k
  have a2:=hmL l (m y k).2
  simp only [mL] at hk ⊢
  rw [h1 (pre++y::l) k pre.length (by simp) hl h0 (by rw [hy]; omega) (by rw [hy]; exact hz y (by simp)),hy]
  have e:(pre++y::l).set pre.length (m y k).1=(pre++[(m y k).1])++l:=by simp
  rw [e]
  have:=mark_loop m z hm f h1 h2 hmL l (pre++[(m y k).1]) (m y k).2 (by omega) hk (by simp at hl ⊢; omega) (fun q hq=>hz q (List.mem_cons_of_mem _ hq))
  rw [List.length_append,List.length_singleton] at this
  rw [this,List.append_assoc,List.singleton_append]
theorem mark0 {α:Type} (m:α→Int→α×Int) (z:α→Nat) (hm:∀ y k,k≤(m y k).2) (f:List α→Int→Int→Option ((Int×PUnit)×List α×PUnit)) (hmL:∀ x k,k≤(mL m x k).2) (x:List α) (k:Int) (h0:0≤k) (hk:(mL m x k).2≤1000000000000000000) (hl:x.length≤68719476736) (hz:∀ y∈x,z y≤68719476736)
  (h1:∀ (v:List α) (k:Int) (i:Nat) (hi:i < v.length),v.length≤68719476736→0≤k→(m v[i] k).2≤1000000000000000000→z v[i]≤68719476736→f v k (i:Int)=f (v.set i (m v[i] k).1) (m v[i] k).2 ((i+1:Nat):Int))
  (h2:∀ v k,f v k (v.length:Int)=some ((k,()),v,())) :
  f x k 0=some (((mL m x k).2,()),(mL m x k).1,()):=by
 have:=mark_loop m z hm f h1 h2 hmL x [] k h0 hk (by simpa using hl) hz
 simpa using this
theorem held_loop {α:Type} (m:α→Int→α×Int) (z:α→Nat) (hm:∀ y k,k≤(m y k).2) (f:List α→Int→Int→Option ((Int×PUnit)×PUnit))
  (h1:∀ (v:List α) (k:Int) (i:Nat) (hi:i < v.length) (y:α),v[i]=(m y k).1→v.length≤68719476736→0≤k→(m y k).2≤1000000000000000000→z y≤68719476736→f v k (i:Int)=f v (m y k).2 ((i+1:Nat):Int))
  (h2:∀ v k,f v k (v.length:Int)=some ((k,()),())) (hmL:∀ x k,k≤(mL m x k).2) :
  ∀ (x pre:List α) (k:Int),0≤k→(mL m x k).2≤1000000000000000000→(pre++x).length≤68719476736→(∀ y∈x,z y≤68719476736)→f (pre++(mL m x k).1) k (pre.length:Int)=some (((mL m x k).2,()),())
 | [],pre,k,_,_,_,_=>by
  simp only [mL,List.append_nil]
  rw [h2]
 | y::l,pre,k,h0,hk,hl,hz=>by
  have a1:=hm y k
  have a2:=hmL l (m y k).2
  simp only [mL] at hk ⊢
  rw [h1 _ k pre.length (by simp) y (by simp) (by simp [mL_len] at hl ⊢; omega) h0 (by omega) (hz y (by simp))]
  have:=held_loop m z hm f h1 h2 hmL l (pre++[(m y k).1]) (m y k).2 (by omega) hk (by simp at hl ⊢; omega) (fun q hq=>hz q (List.mem_cons_of_mem _ hq))
  rw [List.length_append,List.length_singleton,List.append_assoc,List.singleton_append] at this
  exact this
theorem held0 {α:Type} (m:α→Int→α×Int) (z:α→Nat) (hm:∀ y k,k≤(m y k).2) (f:List α→Int→Int→Option ((Int×PUnit)×PUnit)) (hmL:∀ x k,k≤(mL m x k).2) (x:List α) (k:Int) (h0:0≤k) (hk:(mL m x k).2≤1000000000000000000) (hl:x.length≤68719476736) (hz:∀ y∈x,z y≤68719476736)
  (h1:∀ (v:List α) (k:Int) (i:Nat) (hi:i < v.length) (y:α),v[i]=(m y k).1→v.length≤68719476736→0≤k→(m y k).2≤1000000000000000000→z y≤68719476736→f v k (i:Int)=f v (m y k).2 ((i+1:Nat):Int))
  (h2:∀ v k,f v k (v.length:Int)=some ((k,()),())) :
  f (mL m x k).1 k 0=some (((mL m x k).2,()),()):=by
 have:=held_loop m z hm f h1 h2 hmL x [] k h0 hk (by simpa using hl) hz
 simpa using this
theorem Sw_markIntS_val (x:List Int) (k:Int) (h0:0≤k) (hk:(mL mI x k).2≤1000000000000000000) (hl:x.length≤68719476736):Sw_markIntS x k=some (((mL mI x k).2,()),(mL mI x k).1,()):=by
 rw [Sw_markIntS_eq]
 refine mark0 mI (fun _=>0) (fun y k=>(mdI y k).1) (fun v k i=>Lw_markIntS_2 v k i) (fun x k=>(mL_mdI x k).1) x k h0 hk hl (fun _ _=>Nat.zero_le _) (fun v k i hi hl h0 hk hz => ?_) (fun v k=>by rw [Lw_markIntS_2_eq,lt_no]; rfl)
 have hk2:k+1≤1000000000000000000:=hk
 have w0:IntKind.i64.wrap (k+1)=k+1:=wrap_up (by omega) (by omega)
 rw [Lw_markIntS_2_eq,lt_yes hi,wrap_succ (by omega)]
 simp only [cond_true,Option.bind_some,getI_ok hi,getI_set hi,List.set_set,Int.toNat_natCast,w0]
 try rfl
theorem Sw_heldIntS_val (x:List Int) (k:Int) (h0:0≤k) (hk:(mL mI x k).2≤1000000000000000000) (hl:x.length≤68719476736):Sw_heldIntS (mL mI x k).1 k=some (((mL mI x k).2,()),()):=by
 rw [Sw_heldIntS_eq]
 refine held0 mI (fun _=>0) (fun y k=>(mdI y k).1) (fun v k i=>Lw_heldIntS_2 v k i) (fun x k=>(mL_mdI x k).1) x k h0 hk hl (fun _ _=>Nat.zero_le _) (fun v k i hi y hy hl h0 hk hz => ?_) (fun v k=>by rw [Lw_heldIntS_2_eq,lt_no]; rfl)
 have hk2:k+1≤1000000000000000000:=hk
 have w0:IntKind.i64.wrap (k+1)=k+1:=wrap_up (by omega) (by omega)
 rw [Lw_heldIntS_2_eq,lt_yes hi,getI_ok hi,hy,wrap_succ (by omega)]
 simp only [mI,cond_true,Option.bind_some,bne_self_eq_false,beq_self_eq_true,Bool.not_true,cond_false,w0]
noncomputable def mA (x:Atm) (k:Int):Atm×Int:=(((mL mI x.1 k).1,(mL mI x.1 k).2,((mL mI x.1 k).2+1).tmod 3 == 0),(mL mI x.1 k).2+1+1)
theorem mdA:Md mA zA:=fun x k=>by
 have q0:=mL_mdI x.1 k
 have hz:zA x=zI x.1:=rfl
 unfold mA
 simp only []
 omega
theorem Sw_markAtomS_val (x:List Atm) (k:Int) (h0:0≤k) (hk:(mL mA x k).2≤1000000000000000000) (hz:zL zA x≤68719476736):Sw_markAtomS x k=some (((mL mA x k).2,()),(mL mA x k).1,()):=by
 rw [Sw_markAtomS_eq]
 refine mark0 mA zA (fun y k=>(mdA y k).1) (fun v k i=>Lw_markAtomS_2 v k i) (fun x k=>(mL_md mdA x k).1) x k h0 hk (Nat.le_trans (zL_len _ x) hz) (fun y hy=>Nat.le_trans (zL_mem _ hy) hz) (fun v k i hi hl h0 hk hz => ?_) (fun v k=>by rw [Lw_markAtomS_2_eq,lt_no]; rfl)
 have q0:=mL_mdI v[i].1 k
 have hk2:(mL mI v[i].1 k).2+1+1≤1000000000000000000:=hk
 have hz2:zI v[i].1≤68719476736:=by have hz3:zA v[i]≤68719476736:=hz; simp only [zA] at hz3; omega
 have s0:=Sw_markIntS_val v[i].1 k (by omega) (by omega) (by unfold zI at *; omega)
 have w1:IntKind.i64.wrap ((mL mI v[i].1 k).2+1)=(mL mI v[i].1 k).2+1:=wrap_up (by omega) (by omega)
 have w2:IntKind.i64.wrap ((mL mI v[i].1 k).2+1+1)=(mL mI v[i].1 k).2+1+1:=wrap_up (by omega) (by omega)
 rw [Lw_markAtomS_2_eq,lt_yes hi,wrap_succ (by omega)]
 simp only [cond_true,Option.bind_some,getI_ok hi,getI_set hi,List.set_set,Int.toNat_natCast,s0,w1,w2]
 try rfl
theorem Sw_heldAtomS_val (x:List Atm) (k:Int) (h0:0≤k) (hk:(mL mA x k).2≤1000000000000000000) (hz:zL zA x≤68719476736):Sw_heldAtomS (mL mA x k).1 k=some (((mL mA x k).2,()),()):=by
 rw [Sw_heldAtomS_eq]
 refine held0 mA zA (fun y k=>(mdA y k).1) (fun v k i=>Lw_heldAtomS_2 v k i) (fun x k=>(mL_md mdA x k).1) x k h0 hk (Nat.le_trans (zL_len _ x) hz) (fun y hy=>Nat.le_trans (zL_mem _ hy) hz) (fun v k i hi y hy hl h0 hk hz => ?_) (fun v k=>by rw [Lw_heldAtomS_2_eq,lt_no]; rfl)
 have q0:=mL_mdI y.1 k
 have hk2:(mL mI y.1 k).2+1+1≤1000000000000000000:=hk
 have hz2:zI y.1≤68719476736:=by have hz3:zA y≤68719476736:=hz; simp only [zA] at hz3; omega
 have s0:=Sw_heldIntS_val y.1 k (by omega) (by omega) (by unfold zI at *; omega)
 have n0:decide ((mL mI y.1 k).2 < 0)=false:=decide_eq_false (by omega)
 have w1:IntKind.i64.wrap ((mL mI y.1 k).2+1)=(mL mI y.1 k).2+1:=wrap_up (by omega) (by omega)
 have w2:IntKind.i64.wrap ((mL mI y.1 k).2+1+1)=(mL mI y.1 k).2+1+1:=wrap_up (by omega) (by omega)
 rw [Lw_heldAtomS_2_eq,lt_yes hi,getI_ok hi,hy,wrap_succ (by omega)]
 simp only [mA,cond_true,Option.bind_some,bne_self_eq_false,beq_self_eq_true,Bool.not_true,cond_false,s0,n0,w1,w2]
noncomputable def mC (x:Cel) (k:Int):Cel×Int:=((k,(mL mA x.2 (k+1)).1),(mL mA x.2 (k+1)).2)
theorem mdC:Md mC zC:=fun x k=>by
 have q1:=mL_md mdA x.2 (k+1)
 have hz:zC x=zL zA x.2:=rfl
 unfold mC
 simp only []
 omega
theorem Sw_markCellS_val (x:List Cel) (k:Int) (h0:0≤k) (hk:(mL mC x k).2≤1000000000000000000) (hz:zL zC x≤68719476736):Sw_markCellS x k=some (((mL mC x k).2,()),(mL mC x k).1,()):=by
 rw [Sw_markCellS_eq]
 refine mark0 mC zC (fun y k=>(mdC y k).1) (fun v k i=>Lw_markCellS_2 v k i) (fun x k=>(mL_md mdC x k).1) x k h0 hk (Nat.le_trans (zL_len _ x) hz) (fun y hy=>Nat.le_trans (zL_mem _ hy) hz) (fun v k i hi hl h0 hk hz => ?_) (fun v k=>by rw [Lw_markCellS_2_eq,lt_no]; rfl)
 have q1:=mL_md mdA v[i].2 (k+1)
 have hk2:(mL mA v[i].2 (k+1)).2≤1000000000000000000:=hk
 have hz2:zL zA v[i].2≤68719476736:=by have hz3:zC v[i]≤68719476736:=hz; simp only [zC] at hz3; omega
 have w0:IntKind.i64.wrap (k+1)=k+1:=wrap_up (by omega) (by omega)
 have s1:=Sw_markAtomS_val v[i].2 (k+1) (by omega) (by omega) (by omega)
 rw [Lw_markCellS_2_eq,lt_yes hi,wrap_succ (by omega)]
 simp only [cond_true,Option.bind_some,getI_ok hi,getI_set hi,List.set_set,Int.toNat_natCast,w0,s1]
 try rfl
theorem Sw_heldCellS_val (x:List Cel) (k:Int) (h0:0≤k) (hk:(mL mC x k).2≤1000000000000000000) (hz:zL zC x≤68719476736):Sw_heldCellS (mL mC x k).1 k=some (((mL mC x k).2,()),()):=by
 rw [Sw_heldCellS_eq]
 refine held0 mC zC (fun y k=>(mdC y k).1) (fun v k i=>Lw_heldCellS_2 v k i) (fun x k=>(mL_md mdC x k).1) x k h0 hk (Nat.le_trans (zL_len _ x) hz) (fun y hy=>Nat.le_trans (zL_mem _ hy) hz) (fun v k i hi y hy hl h0 hk hz => ?_) (fun v k=>by rw [Lw_heldCellS_2_eq,lt_no]; rfl)
 have q1:=mL_md mdA y.2 (k+1)
 have hk2:(mL mA y.2 (k+1)).2≤1000000000000000000:=hk
 have hz2:zL zA y.2≤68719476736:=by have hz3:zC y≤68719476736:=hz; simp only [zC] at hz3; omega
 have w0:IntKind.i64.wrap (k+1)=k+1:=wrap_up (by omega) (by omega)
 have s1:=Sw_heldAtomS_val y.2 (k+1) (by omega) (by omega) (by omega)
 have n1:decide ((mL mA y.2 (k+1)).2 < 0)=false:=decide_eq_false (by omega)
 rw [Lw_heldCellS_2_eq,lt_yes hi,getI_ok hi,hy,wrap_succ (by omega)]
 simp only [mC,cond_true,Option.bind_some,bne_self_eq_false,beq_self_eq_true,Bool.not_true,cond_false,w0,s1,n1]
noncomputable def tG (x:Reg) (k:Int):Reg×Int:=((x.1,(mL mC x.2 k).1),(mL mC x.2 k).2)
theorem tdG (x:Reg) (k:Int):k≤(tG x k).2∧(tG x k).2≤k+12*zG x:=by
 have q0:=mL_md mdC x.2 k
 have hz:zG x=zL zC x.2:=rfl
 unfold tG
 simp only []
 omega
theorem Sw_markRegion_val (x:Reg) (k:Int) (h0:0≤k) (hk:(tG x k).2≤1000000000000000000) (hz:zG x≤68719476736):Sw_markRegion x k=some (((tG x k).2,()),(tG x k).1,()):=by
 have q0:=mL_md mdC x.2 k
 have hk2:(mL mC x.2 k).2≤1000000000000000000:=hk
 have hz2:zL zC x.2≤68719476736:=hz
 have s0:=Sw_markCellS_val x.2 k (by omega) (by omega) (by omega)
 rw [Sw_markRegion_eq]
 simp only [tG,Option.bind_some,cond_false,s0]
theorem Sw_heldRegion_val (x:Reg) (k:Int) (h0:0≤k) (hk:(tG x k).2≤1000000000000000000) (hz:zG x≤68719476736):Sw_heldRegion (tG x k).1 k=some (((tG x k).2,()),()):=by
 have q0:=mL_md mdC x.2 k
 have hk2:(mL mC x.2 k).2≤1000000000000000000:=hk
 have hz2:zL zC x.2≤68719476736:=hz
 have s0:=Sw_heldCellS_val x.2 k (by omega) (by omega) (by omega)
 have n0:decide ((mL mC x.2 k).2 < 0)=false:=decide_eq_false (by omega)
 rw [Sw_heldRegion_eq]
 simp only [tG,Option.bind_some,cond_false,s0,n0]
theorem Ss_l1In_val (a b c:Int):Ss_l1In a b c=some ((decide (b≤a) && decide (a≤c),()),()):=by
 rw [Ss_l1In_eq]
 by_cases h:a≥b
 ·simp [h]
 ·simp [h]
def numB (a:Int):Bool:=decide (-400000000≤a) && decide (a≤400000000)
theorem Ss_IsNumber_val (a:Int):Ss_IsNumber a=some ((numB a,()),()):=by
 rw [Ss_IsNumber_eq,Ss_l1In_val,Option.bind_some]; rfl
theorem Si_IsNumber_val (a:Int):Si_IsNumber a=some ((numB a,()),()):=by
 rw [Si_IsNumber_eq]
 unfold numB
 by_cases h:a ≥ -400000000
 ·simp [h]
 ·simp [h]
theorem Si_absolute_val {a:Int} (h:numB a=true):Si_absolute a=some (((a.natAbs:Int),()),()):=by
 simp only [numB,Bool.and_eq_true,decide_eq_true_eq] at h
 rw [Si_absolute_eq]
 by_cases h0:a < 0
 ·simp only [h0,decide_true,cond_true]
  rw [wrap_id (by omega) (by omega)]
  congr 3; omega
 ·simp only [h0,decide_false,cond_false]
  congr 3; omega
theorem Si_absolute_nat (a:Nat):Si_absolute (a:Int)=some (((a:Int),()),()):=by
 rw [Si_absolute_eq]
 have:decide ((a:Int) < 0)=false:=by simp
 rw [this,cond_false]
theorem Ss_l1Abs_val {a:Int} (h:numB a=true):Ss_l1Abs a=some (((a.natAbs:Int),()),()):=by
 simp only [numB,Bool.and_eq_true,decide_eq_true_eq] at h
 rw [Ss_l1Abs_eq]
 rw [wrap_id (by omega) (by omega)]
 simp only [cond_true]
 congr 3
 split <;> omega
theorem L114_val:∀ (n:Nat) (a b:Int),b.natAbs≤n→0≤a→0≤b→Li_commonDivisor_2 a b=some ((((Nat.gcd a.natAbs b.natAbs:Nat):Int),()),())
 | n,a,b,hn,ha,hb=>by
  rw [Li_commonDivisor_2_eq]
  by_cases h0:b=0
  ·subst h0
   simp only [bne_self_eq_false,cond_false]
   simp
   omega
  ·have:(b != 0)=true:=by simpa using h0
   rw [this,cond_true,cond_true]
   have hlt:a.natAbs % b.natAbs < b.natAbs:=Nat.mod_lt _ (by omega)
   have hm:=Int.natAbs_tmod a b
   cases n with
   | zero=>omega
   | succ n =>
    rw [L114_val n b (Int.tmod a b) (by omega) hb (Int.tmod_nonneg _ ha),hm]
    congr 4
    rw [Nat.gcd_comm a.natAbs,Nat.gcd_rec b.natAbs a.natAbs,Nat.gcd_comm]
 termination_by n=>n
theorem Si_commonDivisor_val (a:Nat) {b:Int} (hb:numB b=true):Si_commonDivisor (a:Int) b=some ((((Nat.gcd a b.natAbs:Nat):Int),()),()):=by
 rw [Si_commonDivisor_eq,Si_absolute_nat,Si_absolute_val hb]
 simp only [Option.bind_some]
 rw [L114_val _ _ _ (Nat.le_refl _) (by omega) (by omega)]
 simp
def gl (x:List Int) (g:Nat):Nat:=x.foldl (fun g y=>Nat.gcd g y.natAbs) g
theorem gl_gcd:∀ (x:List Int) (g h:Nat),gl x (Nat.gcd g h)=Nat.gcd (gl x g) h
 | [],_,_=>rfl
 | y::x,g,h=>by
  change gl x (Nat.gcd (Nat.gcd g h) y.natAbs)=Nat.gcd (gl x (Nat.gcd g y.natAbs)) h
  rw [show Nat.gcd (Nat.gcd g h) y.natAbs=Nat.gcd (Nat.gcd g y.natAbs) h by rw [Nat.gcd_assoc,Nat.gcd_comm h,← Nat.gcd_assoc],gl_gcd x]
theorem gl_is (x:List Int) (k:Nat):gl x k=Nat.gcd (gl x 0) k:=by
 rw [← gl_gcd,Nat.gcd_zero_left]
theorem Ls_l2Gcd_6_val (x:List Int) (i:Int):∀ (n:Nat) (a b:Int),b.natAbs≤n→0≤a→0≤b→Ls_l2Gcd_6 x a i b=Ls_l2Gcd_3 x ((Nat.gcd a.natAbs b.natAbs:Nat):Int) (IntKind.i64.wrap (i+1))
 | n,a,b,hn,ha,hb=>by
  rw [Ls_l2Gcd_6_eq]
  by_cases h0:b=0
  ·subst h0
   simp only [bne_self_eq_false,cond_false]
   congr 1
   simp
   omega
  ·have:(b != 0)=true:=by simpa using h0
   rw [this,cond_true,cond_true]
   have hlt:a.natAbs % b.natAbs < b.natAbs:=Nat.mod_lt _ (by omega)
   have hm:=Int.natAbs_tmod a b
   cases n with
   | zero=>omega
   | succ n =>
    rw [Ls_l2Gcd_6_val x i n b (Int.tmod a b) (by omega) hb (Int.tmod_nonneg _ ha),hm]
    congr 2
    rw [Nat.gcd_comm a.natAbs,Nat.gcd_rec b.natAbs a.natAbs,Nat.gcd_comm]
 termination_by n=>n
theorem Ls_l2Gcd_3_val (x:List Int) (hl:x.length≤68719476736) (hx:∀ y∈x,numB y=true):∀ (n i g:Nat),n+i=x.length→Ls_l2Gcd_3 x (g:Int) (i:Int)=some ((((gl (x.drop i) g:Nat):Int),()),())
 | 0,i,g,hn=>by
  obtain rfl:i=x.length:=by omega
  rw [Ls_l2Gcd_3_eq,lt_no,List.drop_eq_nil_of_le (by omega)]
  rfl
 | n+1,i,g,hn=>by
  have hi:i < x.length:=by omega
  rw [Ls_l2Gcd_3_eq,lt_yes hi,getI_ok hi,cond_true,Option.bind_some,Ss_l1Abs_val (hx _ (List.getElem_mem hi)),Option.bind_some,Ls_l2Gcd_6_val x i _ _ _ (Nat.le_refl _) (Int.natCast_nonneg _) (Int.natCast_nonneg _),wrap_succ (by omega),Ls_l2Gcd_3_val x hl hx n (i+1) _ (by omega),List.drop_eq_getElem_cons hi]
  simp only [Int.natAbs_natCast]
  rfl
theorem Ss_l2Gcd_val (x:List Int) (k:Int) (hl:x.length≤68719476736) (hx:∀ y∈x,numB y=true) (hk:numB k=true):Ss_l2Gcd x k=some ((((gl x k.natAbs:Nat):Int),()),()):=by
 rw [Ss_l2Gcd_eq,Ss_l1Abs_val hk,Option.bind_some]
 have:=Ls_l2Gcd_3_val x hl hx x.length 0 k.natAbs (by omega)
 simpa using this
theorem Li_divisorOf_3_val (x:List Int) (hl:x.length≤68719476736) (hx:∀ y∈x,numB y=true):∀ (n i g:Nat),n+i=x.length→Li_divisorOf_3 x (g:Int) x (x.length:Int) (i:Int)=some ((((gl (x.drop i) g:Nat):Int),()),())
 | 0,i,g,hn=>by
  obtain rfl:i=x.length:=by omega
  rw [Li_divisorOf_3_eq,lt_no,List.drop_eq_nil_of_le (by omega)]
  rfl
 | n+1,i,g,hn=>by
  have hi:i < x.length:=by omega
  rw [Li_divisorOf_3_eq,lt_yes hi,getI_ok hi,cond_true,Option.bind_some,Si_commonDivisor_val _ (hx _ (List.getElem_mem hi)),Option.bind_some,wrap_succ (by omega),Li_divisorOf_3_val x hl hx n (i+1) _ (by omega),List.drop_eq_getElem_cons hi]
  rfl
theorem Si_divisorOf_val (x:List Int) (hl:x.length≤68719476736) (hx:∀ y∈x,numB y=true):Si_divisorOf x=some ((((gl x 0:Nat):Int),()),()):=by
 rw [Si_divisorOf_eq]
 have:=Li_divisorOf_3_val x hl hx x.length 0 0 (by omega)
 simpa using this
def atomB (a:Atm):Bool := !(decide ((a.1.length:Int) > 4)) && (numB a.2.1 && (a.1.all numB && decide (((gl a.1 a.2.1.natAbs:Nat):Int)≤1)))
theorem Ss_IsAtom_val (a:Atm):Ss_IsAtom a=some ((atomB a,()),()):=by
 rw [Ss_IsAtom_eq,Ss_IsNumber_val]
 unfold atomB
 cases h:decide ((a.1.length:Int) > 4) with
 | true=>rfl
 | false =>
  have hl:a.1.length≤68719476736:=by simp at h; omega
  simp only [cond_false,Option.bind_some,Bool.not_false,Bool.true_and]
  cases hk:numB a.2.1 with
  | false=>rfl
  | true =>
   simp only [Bool.not_true,cond_false,Bool.true_and]
   have:=all_loop a.1 numB (some ((false,()),())) (Ls_IsAtom_4 a (a.1.length:Int)) (fun i=>Ls_IsAtom_4 a i) hl (fun i hi=>by
    rw [Ls_IsAtom_4_eq,getI_ok hi,wrap_succ (by omega)]
    simp only [lt_yes hi,cond_true,Option.bind_some,Ss_IsNumber_val]
    cases numB a.1[i] <;> rfl) rfl a.1.length 0 (by omega)
   simp only [List.drop_zero,Int.natCast_zero] at this
   rw [show Ls_IsAtom_4 a 0=_ from this]
   cases ha:a.1.all numB with
   | false=>rfl
   | true =>
    rw [cond_true,Ls_IsAtom_4_eq,lt_no,cond_false,Ss_l2Gcd_val a.1 _ hl (List.all_eq_true.1 ha) hk]
    rfl
theorem Si_IsAtom_val (a:Atm):Si_IsAtom a=some ((atomB a,()),()):=by
 rw [Si_IsAtom_eq,Si_IsNumber_val]
 unfold atomB
 cases h:decide ((a.1.length:Int) > 4) with
 | true=>rfl
 | false =>
  have hl:a.1.length≤68719476736:=by simp at h; omega
  simp only [cond_false,Option.bind_some,Bool.not_false,Bool.true_and]
  cases hk:numB a.2.1 with
  | false=>rfl
  | true =>
   simp only [Bool.not_true,cond_false,Bool.true_and]
   have:=all_loop a.1 numB (some ((false,()),())) (Li_IsAtom_4 a a.1 (a.1.length:Int) (a.1.length:Int)) (fun i=>Li_IsAtom_4 a a.1 (a.1.length:Int) i) hl (fun i hi=>by
    rw [Li_IsAtom_4_eq,getI_ok hi,wrap_succ (by omega)]
    simp only [lt_yes hi,cond_true,Option.bind_some,Si_IsNumber_val]
    cases numB a.1[i] <;> rfl) rfl a.1.length 0 (by omega)
   simp only [List.drop_zero,Int.natCast_zero] at this
   rw [show Li_IsAtom_4 a a.1 (a.1.length:Int) 0=_ from this]
   cases ha:a.1.all numB with
   | false=>rfl
   | true =>
    rw [cond_true,Li_IsAtom_4_eq,lt_no,cond_false,Si_divisorOf_val a.1 hl (List.all_eq_true.1 ha),Option.bind_some,Si_commonDivisor_val _ hk,Option.bind_some,← gl_is]
    rfl
theorem tmod_num {a b:Int} (ha:numB a=true) (hb:b≠0):numB (Int.tmod a b)=true:=by
 simp only [numB,Bool.and_eq_true,decide_eq_true_eq] at ha ⊢
 have h1:=Int.natAbs_tmod a b
 have h2:a.natAbs % b.natAbs≤a.natAbs:=Nat.mod_le _ _
 omega
theorem L104_val:∀ (n:Nat) (a b:Int),b.natAbs≤n→numB a=true→numB b=true→Ls_GcdOf_3 a b=some ((((Nat.gcd a.natAbs b.natAbs:Nat):Int),()),())
 | n,a,b,hn,ha,hb=>by
  rw [Ls_GcdOf_3_eq]
  by_cases h0:b=0
  ·subst h0
   simp only [bne_self_eq_false,cond_false,Ss_l1Abs_val ha,Option.bind_some]
   simp
  ·have:(b != 0)=true:=by simpa using h0
   rw [this,cond_true,cond_true]
   have hlt:a.natAbs % b.natAbs < b.natAbs:=Nat.mod_lt _ (by omega)
   have hm:=Int.natAbs_tmod a b
   cases n with
   | zero=>omega
   | succ n =>
    rw [L104_val n b (Int.tmod a b) (by omega) hb (tmod_num ha h0),hm]
    congr 4
    rw [Nat.gcd_comm a.natAbs,Nat.gcd_rec b.natAbs a.natAbs,Nat.gcd_comm]
 termination_by n=>n
def gcdB (a b:Int):Int:=bif numB a && numB b then ((Nat.gcd a.natAbs b.natAbs:Nat):Int) else 0
theorem Ss_GcdOf_val (a b:Int):Ss_GcdOf a b=some ((gcdB a b,()),()):=by
 rw [Ss_GcdOf_eq,Ss_IsNumber_val,Ss_IsNumber_val]
 unfold gcdB
 cases ha:numB a <;> cases hb:numB b <;> simp only [Option.bind_some,Bool.not_true,Bool.not_false,cond_true,cond_false,Bool.and_true,Bool.and_false,Bool.and_self]
 exact L104_val _ a b (Nat.le_refl _) ha hb
theorem Si_GcdOf_val (a b:Int):Si_GcdOf a b=some ((gcdB a b,()),()):=by
 rw [Si_GcdOf_eq,Si_IsNumber_val,Si_IsNumber_val]
 unfold gcdB
 cases ha:numB a <;> cases hb:numB b <;> simp only [Option.bind_some,Bool.not_true,Bool.not_false,cond_true,cond_false,Bool.and_true,Bool.and_false,Bool.and_self]
 rw [Si_commonDivisor_eq,Si_absolute_val ha,Si_absolute_val hb]
 simp only [Option.bind_some]
 rw [L114_val _ _ _ (Nat.le_refl _) (by omega) (by omega)]
 simp
def ratB (r:Int×Int):Bool:=decide (1≤r.2) && decide (r.2≤400000000) && numB r.1 && (gcdB r.1 r.2 == 1)
theorem Ss_IsRatio_val (r:Int×Int):Ss_IsRatio r=some ((ratB r,()),()):=by
 rw [Ss_IsRatio_eq,Ss_l1In_val,Ss_IsNumber_val,Ss_GcdOf_val]
 unfold ratB
 simp only [Option.bind_some]
 cases h1:(decide (1≤r.2) && decide (r.2≤400000000)) <;> cases h2:numB r.1 <;> simp
theorem Si_IsRatio_val (r:Int×Int):Si_IsRatio r=some ((ratB r,()),()):=by
 rw [Si_IsRatio_eq,Si_IsNumber_val,Si_GcdOf_val]
 unfold ratB
 simp only [Option.bind_some,ge_iff_le]
 cases h1:decide (1≤r.2) <;> cases h3:decide (r.2≤400000000) <;> cases h2:numB r.1 <;> simp
theorem abs71 {a:Int} (h:a.natAbs≤4000000000000000000):Si_absolute a=some (((a.natAbs:Int),()),()):=by
 rw [Si_absolute_eq]
 by_cases h0:a < 0
 ·simp only [h0,decide_true,cond_true]
  rw [wrap_id (by omega) (by omega)]
  congr 3; omega
 ·simp only [h0,decide_false,cond_false]
  congr 3; omega
theorem abs124 {a:Int} (h:a.natAbs≤4000000000000000000):Ss_l1Abs a=some (((a.natAbs:Int),()),()):=by
 rw [Ss_l1Abs_eq]
 rw [wrap_id (by omega) (by omega)]
 simp only [cond_true]
 congr 3
 split <;> omega
theorem tdiv_le (a b:Int):(a.tdiv b).natAbs≤a.natAbs:=by
 rw [Int.natAbs_tdiv]
 exact Nat.div_le_self _ _
def low (n d:Int):Int×Int:=bif ratB (n.tdiv (Nat.gcd n.natAbs d.natAbs:Nat),d.tdiv (Nat.gcd n.natAbs d.natAbs:Nat)) then (n.tdiv (Nat.gcd n.natAbs d.natAbs:Nat),d.tdiv (Nat.gcd n.natAbs d.natAbs:Nat)) else (0,0)
def redB (n d:Int):Int×Int:=bif d == 0 then (0,0) else bif decide (d < 0) then low (-n) (-d) else low n d
theorem L90_val:∀ (k:Nat) (n d:Int) (x4:Int×Int) (a b:Int),b.natAbs≤k→a.natAbs≤4000000000000000000→b.natAbs≤4000000000000000000→n.natAbs≤4000000000000000000→d.natAbs≤4000000000000000000 →
  Nat.gcd a.natAbs b.natAbs=Nat.gcd n.natAbs d.natAbs→Nat.gcd n.natAbs d.natAbs≠0→Ls_l2Make_7 n d x4 a b=some ((low n d,()),())
 | k,n,d,x4,a,b,hk,ha,hb,hn,hd,hg,h0=>by
  rw [Ls_l2Make_7_eq]
  by_cases hb0:b=0
  ·subst hb0
   simp only [bne_self_eq_false,cond_false,abs124 ha,Option.bind_some]
   have hg':a.natAbs=Nat.gcd n.natAbs d.natAbs:=by simpa using hg
   have hne:((a.natAbs:Int) != 0)=true:=by simp; omega
   rw [hne,cond_true,cond_true,hg']
   have e1:=tdiv_le n ((Nat.gcd n.natAbs d.natAbs:Nat):Int)
   have e2:=tdiv_le d ((Nat.gcd n.natAbs d.natAbs:Nat):Int)
   rw [wrap_id (by omega) (by omega),wrap_id (by omega) (by omega),Ss_IsRatio_val]
   simp only [Option.bind_some]
   unfold low
   cases ratB (n.tdiv (Nat.gcd n.natAbs d.natAbs:Nat),d.tdiv (Nat.gcd n.natAbs d.natAbs:Nat)) <;> rfl
  ·have:(b != 0)=true:=by simpa using hb0
   rw [this,cond_true,cond_true]
   have hlt:a.natAbs % b.natAbs < b.natAbs:=Nat.mod_lt _ (by omega)
   have hm:=Int.natAbs_tmod a b
   cases k with
   | zero=>omega
   | succ k =>
    refine L90_val k n d x4 b (Int.tmod a b) (by omega) hb (by omega) hn hd ?_ h0
    rw [hm,← hg,Nat.gcd_comm a.natAbs,Nat.gcd_rec b.natAbs a.natAbs,Nat.gcd_comm]
 termination_by k=>k
theorem Ss_l2Make_val {n d:Int} (hn:n.natAbs≤4000000000000000000) (hd:d.natAbs≤4000000000000000000):Ss_l2Make n d=some ((redB n d,()),()):=by
 rw [Ss_l2Make_eq]
 unfold redB
 by_cases h0:d=0
 ·subst h0
  rfl
 ·have:(d == 0)=false:=by simpa using h0
  rw [this,cond_false,cond_false]
  have hg:Nat.gcd n.natAbs d.natAbs≠0:=fun h=>by
   have:=Nat.gcd_eq_zero_iff.1 h
   omega
  by_cases hs:d < 0
  ·simp only [hs,decide_true,cond_true]
   rw [wrap_id (by omega) (by omega),wrap_id (by omega) (by omega),Int.zero_sub,Int.zero_sub]
   exact L90_val _ _ _ _ _ _ (Nat.le_refl _) (by omega) (by omega) (by omega) (by omega) rfl (by rwa [Int.natAbs_neg,Int.natAbs_neg])
  ·simp only [hs,decide_false,cond_false]
   exact L90_val _ _ _ _ _ _ (Nat.le_refl _) (by omega) (by omega) (by omega) (by omega) rfl hg
theorem Si_commonDivisor_big {a b:Int} (ha:a.natAbs≤4000000000000000000) (hb:b.natAbs≤4000000000000000000):Si_commonDivisor a b=some ((((Nat.gcd a.natAbs b.natAbs:Nat):Int),()),()):=by
 rw [Si_commonDivisor_eq,abs71 ha,abs71 hb]
 simp only [Option.bind_some]
 rw [L114_val _ _ _ (Nat.le_refl _) (by omega) (by omega)]
 simp
theorem Si_reducedRatio_val {n d:Int} (hn:n.natAbs≤4000000000000000000) (hd:d.natAbs≤4000000000000000000):Si_reducedRatio n d=some ((redB n d,()),()):=by
 rw [Si_reducedRatio_eq]
 unfold redB
 by_cases h0:d=0
 ·subst h0
  rfl
 ·have:(d == 0)=false:=by simpa using h0
  rw [this,cond_false,cond_false]
  have hg:Nat.gcd n.natAbs d.natAbs≠0:=fun h=>by
   have:=Nat.gcd_eq_zero_iff.1 h
   omega
  have hlow:∀ n d:Int,n.natAbs≤4000000000000000000→d.natAbs≤4000000000000000000→Nat.gcd n.natAbs d.natAbs≠0 →
    ((Si_commonDivisor n d).bind fun (y:(Int×PUnit)×PUnit) =>
   bif y.fst.fst != 0 then
    bif y.fst.fst != 0 then
     (Si_IsRatio (IntKind.i64.wrap (n.tdiv y.fst.fst),IntKind.i64.wrap (d.tdiv y.fst.fst))).bind
      fun (y_1:(Bool×PUnit)×PUnit) =>
      bif !y_1.fst.fst then some (((ty3.zero,(Ty.int IntKind.i64).zero),()),())
      else some (((IntKind.i64.wrap (n.tdiv y.fst.fst),IntKind.i64.wrap (d.tdiv y.fst.fst)),()),())
    else none
   else none)=some ((low n d,()),()):=by
   intro n d hn hd hg
   rw [Si_commonDivisor_big hn hd]
   simp only [Option.bind_some]
   have hne:(((Nat.gcd n.natAbs d.natAbs:Nat):Int) != 0)=true:=by
    simp only [bne_iff_ne,ne_eq]
    omega
   have e1:=tdiv_le n ((Nat.gcd n.natAbs d.natAbs:Nat):Int)
   have e2:=tdiv_le d ((Nat.gcd n.natAbs d.natAbs:Nat):Int)
   rw [hne,cond_true,cond_true,wrap_id (by omega) (by omega),wrap_id (by omega) (by omega),Si_IsRatio_val]
   simp only [Option.bind_some]
   unfold low
   cases ratB (n.tdiv (Nat.gcd n.natAbs d.natAbs:Nat),d.tdiv (Nat.gcd n.natAbs d.natAbs:Nat)) <;> rfl
  by_cases hs:d < 0
  ·simp only [hs,decide_true,cond_true]
   rw [wrap_id (x:=0 - n) (by omega) (by omega),wrap_id (x:=0 - d) (by omega) (by omega),Int.zero_sub,Int.zero_sub]
   exact hlow _ _ (by omega) (by omega) (by rwa [Int.natAbs_neg,Int.natAbs_neg])
  ·simp only [hs,decide_false,cond_false]
   exact hlow _ _ hn hd hg
theorem rat_bd {r:Int×Int} (h:ratB r=true):r.1.natAbs≤400000000∧r.2.natAbs≤400000000∧1≤r.2:=by
 simp only [ratB,numB,Bool.and_eq_true,decide_eq_true_eq] at h
 omega
theorem prod_bd {a b:Int} (ha:a.natAbs≤400000000) (hb:b.natAbs≤400000000):(a*b).natAbs≤160000000000000000:=by
 rw [Int.natAbs_mul]
 exact Nat.mul_le_mul ha hb
theorem wrap_prod {a b:Int} (ha:a.natAbs≤400000000) (hb:b.natAbs≤400000000):IntKind.i64.wrap (a*b)=a*b:=by
 have:=prod_bd ha hb
 exact wrap_id (by omega) (by omega)
def addB (a b:Int×Int):Int×Int:=bif ratB a && ratB b then redB (a.1*b.2+b.1*a.2) (a.2*b.2) else (0,0)
theorem Ss_AddRatios_val (a b:Int×Int):Ss_AddRatios a b=some ((addB a b,()),()):=by
 rw [Ss_AddRatios_eq,Ss_IsRatio_val,Ss_IsRatio_val]
 unfold addB
 cases ha:ratB a <;> cases hb:ratB b <;> simp only [Option.bind_some,Bool.not_true,Bool.not_false,cond_true,cond_false,Bool.and_true,Bool.and_false,Bool.and_self]
 obtain ⟨a1,a2,_⟩:=rat_bd ha
 obtain ⟨b1,b2,_⟩:=rat_bd hb
 have e1:=prod_bd a1 b2
 have e2:=prod_bd b1 a2
 have e3:=prod_bd a2 b2
 rw [wrap_prod a1 b2,wrap_prod b1 a2,wrap_prod a2 b2,wrap_id (by omega) (by omega),Ss_l2Make_val (by omega) (by omega)]
 rfl
theorem Si_AddRatios_val (a b:Int×Int):Si_AddRatios a b=some ((addB a b,()),()):=by
 rw [Si_AddRatios_eq,Si_IsRatio_val,Si_IsRatio_val]
 unfold addB
 cases ha:ratB a <;> cases hb:ratB b <;> simp only [Option.bind_some,Bool.not_true,Bool.not_false,cond_true,cond_false,Bool.and_true,Bool.and_false,Bool.and_self]
 obtain ⟨a1,a2,_⟩:=rat_bd ha
 obtain ⟨b1,b2,_⟩:=rat_bd hb
 have e1:=prod_bd a1 b2
 have e2:=prod_bd b1 a2
 have e3:=prod_bd a2 b2
 rw [wrap_prod a1 b2,wrap_prod b1 a2,wrap_prod a2 b2,wrap_id (by omega) (by omega),Si_reducedRatio_val (by omega) (by omega)]
 rfl
def mulB (a b:Int×Int):Int×Int:=bif ratB a && ratB b then redB (a.1*b.1) (a.2*b.2) else (0,0)
theorem Ss_MultiplyRatios_val (a b:Int×Int):Ss_MultiplyRatios a b=some ((mulB a b,()),()):=by
 rw [Ss_MultiplyRatios_eq,Ss_IsRatio_val,Ss_IsRatio_val]
 unfold mulB
 cases ha:ratB a <;> cases hb:ratB b <;> simp only [Option.bind_some,Bool.not_true,Bool.not_false,cond_true,cond_false,Bool.and_true,Bool.and_false,Bool.and_self]
 obtain ⟨a1,a2,_⟩:=rat_bd ha
 obtain ⟨b1,b2,_⟩:=rat_bd hb
 have e1:=prod_bd a1 b1
 have e3:=prod_bd a2 b2
 rw [wrap_prod a1 b1,wrap_prod a2 b2,Ss_l2Make_val (by omega) (by omega)]
 rfl
theorem Si_MultiplyRatios_val (a b:Int×Int):Si_MultiplyRatios a b=some ((mulB a b,()),()):=by
 rw [Si_MultiplyRatios_eq,Si_IsRatio_val,Si_IsRatio_val]
 unfold mulB
 cases ha:ratB a <;> cases hb:ratB b <;> simp only [Option.bind_some,Bool.not_true,Bool.not_false,cond_true,cond_false,Bool.and_true,Bool.and_false,Bool.and_self]
 obtain ⟨a1,a2,_⟩:=rat_bd ha
 obtain ⟨b1,b2,_⟩:=rat_bd hb
 have e1:=prod_bd a1 b1
 have e3:=prod_bd a2 b2
 rw [wrap_prod a1 b1,wrap_prod a2 b2,Si_reducedRatio_val (by omega) (by omega)]
 rfl
def lessB (a b:Int×Int):Bool:=decide (IntKind.i64.wrap (a.1*b.2) < IntKind.i64.wrap (b.1*a.2))
theorem Ss_l1Less_val (a b:Int×Int):Ss_l1Less a b=some ((lessB a b,()),()):=Ss_l1Less_eq a b
theorem Si_CompareRatios_val {a b:Int×Int} (ha:ratB a=true) (hb:ratB b=true):∃ c,Si_CompareRatios a b=some ((c,()),())∧(c != -1) = !lessB a b:=by
 rw [Si_CompareRatios_eq,Si_IsRatio_val,Si_IsRatio_val]
 simp only [Option.bind_some,ha,hb,Bool.not_true,cond_false]
 change ∃ c,(bif lessB a b then _ else _)=_∧_
 cases h:lessB a b with
 | true=>exact ⟨-1,rfl,rfl⟩
 | false =>
  rw [cond_false]
  cases h2:decide (IntKind.i64.wrap (a.1*b.2) > IntKind.i64.wrap (b.1*a.2)) with
  | true=>exact ⟨1,rfl,rfl⟩
  | false=>exact ⟨0,rfl,rfl⟩
abbrev Stp:=(Int×Int)×(Int×Int)×Int×Int
def trk (x:List Stp):Nat→Nat→Bool
 | 0,_=>true
 | n+1,i=>(match x[i]? with
  | some s=>ratB s.1 && ratB s.2.1 && ratB s.2.2 && (match i with
   | 0=>true
   | j+1=>match x[j]? with
    | some s'=>lessB s'.1 s.1
    | none=>true)
  | none=>true) && trk x n (i+1)
theorem L14_val (x:List Stp) (hl:x.length≤1048576):∀ (n i:Nat),n+i=x.length→Ls_IsTrack_2 x (i:Int)=some ((trk x n i && (decide (1≤(x.length:Int)) && decide ((x.length:Int)≤6)),()),())
 | 0,i,hn=>by
  rw [Ls_IsTrack_2_eq]
  have:decide ((i:Int) < (x.length:Int))=false:=by simp; omega
  rw [this,cond_false,Ss_l1In_val]
  simp [trk]
 | n+1,i,hn=>by
  rw [Ls_IsTrack_2_eq]
  have hi:i < x.length:=by omega
  have:decide ((i:Int) < (x.length:Int))=true:=by simp; omega
  rw [this,cond_true,getI_ok hi]
  simp only [Option.bind_some,Ss_IsRatio_val]
  rw [show IntKind.i64.wrap ((i:Int)+1)=((i+1:Nat):Int) by rw [wrap_id] <;> omega,L14_val x hl n (i+1) (by omega)]
  simp only [trk,List.getElem?_eq_getElem hi]
  cases h1:ratB x[i].1 <;> cases h2:ratB x[i].2.1 <;> cases h3:ratB x[i].2.2 <;> simp
  cases i with
  | zero=>simp
  | succ j =>
   have:(0:Int) < ((j+1:Nat):Int):=by omega
   simp only [this,decide_true,cond_true]
   rw [show IntKind.i64.wrap (((j+1:Nat):Int) - 1)=((j:Nat):Int) by rw [wrap_id] <;> omega,getI_ok (by omega)]
   simp only [Option.bind_some,Ss_l1Less_val,List.getElem?_eq_getElem (show j < x.length by omega)]
   cases lessB x[j].1 x[j+1].1 <;> simp
theorem L16_val (x:List Stp) (hl:x.length≤1048576):∀ (n i:Nat),n+i=x.length→(∀ j (h:j < x.length),i=j+1→ratB x[j].1=true)→Li_IsTrack_4 x x (x.length:Int) (i:Int)=some ((trk x n i,()),())
 | 0,i,hn,_=>by
  rw [Li_IsTrack_4_eq]
  have:decide ((i:Int) < (x.length:Int))=false:=by simp; omega
  rw [this,cond_false]
  rfl
 | n+1,i,hn,hp=>by
  rw [Li_IsTrack_4_eq]
  have hi:i < x.length:=by omega
  have:decide ((i:Int) < (x.length:Int))=true:=by simp; omega
  rw [this,cond_true,getI_ok hi]
  simp only [Option.bind_some,Si_IsRatio_val]
  simp only [trk,List.getElem?_eq_getElem hi]
  cases h1:ratB x[i].1
  ·simp
  rw [show IntKind.i64.wrap ((i:Int)+1)=((i+1:Nat):Int) by rw [wrap_id] <;> omega,L16_val x hl n (i+1) (by omega) (fun j hj e=>by
   have:j=i:=by omega
   subst this
   exact h1)]
  cases h2:ratB x[i].2.1 <;> cases h3:ratB x[i].2.2 <;> simp
  cases i with
  | zero=>simp
  | succ j =>
   have:(0:Int) < ((j+1:Nat):Int):=by omega
   simp only [this,decide_true,cond_true]
   rw [show IntKind.i64.wrap (((j+1:Nat):Int) - 1)=((j:Nat):Int) by rw [wrap_id] <;> omega,getI_ok (by omega)]
   simp only [Option.bind_some,List.getElem?_eq_getElem (show j < x.length by omega)]
   obtain ⟨c,hc,hc2⟩:=Si_CompareRatios_val (hp j (by omega) rfl) h1
   rw [hc]
   simp only [Option.bind_some,hc2]
   cases lessB x[j].1 x[j+1].1 <;> simp
theorem isTrack_same (x:List Stp) (hl:x.length≤1048576):∃ b,Ss_IsTrack x=some ((b,()),())∧Si_IsTrack x=some ((b,()),()):=by
 refine ⟨trk x x.length 0 && (decide (1≤(x.length:Int)) && decide ((x.length:Int)≤6)),?_,?_⟩
 ·rw [Ss_IsTrack_eq]
  exact L14_val x hl x.length 0 (by omega)
 ·rw [Si_IsTrack_eq]
  by_cases h1:(x.length:Int) < 1
  ·have:¬ (1≤(x.length:Int)):=by omega
   simp [h1,this]
  ·by_cases h2:(x.length:Int) > 6
   ·have:¬ ((x.length:Int)≤6):=by omega
    simp only [h1,h2,decide_false,decide_true,cond_false,cond_true,this]
    simp
   ·have e1:1≤(x.length:Int):=by omega
    have e2:(x.length:Int)≤6:=by omega
    simp only [h1,h2,decide_false,cond_false,e1,e2,decide_true,Bool.and_self,Bool.and_true]
    exact L16_val x hl x.length 0 (by omega) (fun j _ e=>by omega)
def isTrk (x:List Stp):Bool:=trk x x.length 0 && (decide (1≤(x.length:Int)) && decide ((x.length:Int)≤6))
theorem Ss_IsTrack_val (x:List Stp) (hl:x.length≤1048576):Ss_IsTrack x=some ((isTrk x,()),()):=by
 rw [Ss_IsTrack_eq]
 exact L14_val x hl x.length 0 (by omega)
theorem Si_IsTrack_val (x:List Stp) (hl:x.length≤1048576):Si_IsTrack x=some ((isTrk x,()),()):=by
 obtain ⟨b,h1,h2⟩:=isTrack_same x hl
 rw [Ss_IsTrack_val x hl] at h1
 injection h1 with h1
 injection h1 with h1 _
 injection h1 with h1 _
 rw [h2,h1]
theorem isTrk_len {x:List Stp} (h:isTrk x=true):1≤x.length∧x.length≤6:=by
 simp only [isTrk,Bool.and_eq_true,decide_eq_true_eq] at h
 omega
def mk6 (k:Int):Stp:=((k,k+1),(k+2,k+3),k+4,k+5)
def mkL:Nat→Int→List Stp
 | 0,_=>[]
 | n+1,k=>mk6 k::mkL n (k+6)
theorem set_nat {α:Type} (x:List α) (i:Nat) (v:α):x.set ((i:Int)).toNat v=x.set i v:=by rw [Int.toNat_natCast]
def negB (a:Int×Int):Int×Int:=bif ratB a then (-a.1,a.2) else (0,0)
theorem Ss_NegateRatio_val (a:Int×Int):Ss_NegateRatio a=some ((negB a,()),()):=by
 rw [Ss_NegateRatio_eq,Ss_IsRatio_val]
 unfold negB
 cases ha:ratB a <;> simp only [Option.bind_some,Bool.not_true,Bool.not_false,cond_true,cond_false]
 obtain ⟨a1,a2,_⟩:=rat_bd ha
 rw [wrap_id (by omega) (by omega),Int.zero_sub]
theorem Si_NegateRatio_val (a:Int×Int):Si_NegateRatio a=some ((negB a,()),()):=by
 rw [Si_NegateRatio_eq,Si_IsRatio_val]
 unfold negB
 cases ha:ratB a <;> simp only [Option.bind_some,Bool.not_true,Bool.not_false,cond_true,cond_false]
 obtain ⟨a1,a2,_⟩:=rat_bd ha
 rw [wrap_id (by omega) (by omega),Int.zero_sub]
theorem Si_subtractRatios_val (a b:Int×Int):Si_subtractRatios a b=some ((addB a (negB b),()),()):=by
 rw [Si_subtractRatios_eq,Si_NegateRatio_val]
 simp only [Option.bind_some,Si_AddRatios_val]
def divB (a b:Int×Int):Int×Int:=bif ratB a && ratB b then (bif b.1 == 0 then (0,0) else redB (a.1*b.2) (a.2*b.1)) else (0,0)
theorem Ss_DivideRatios_val (a b:Int×Int):Ss_DivideRatios a b=some ((divB a b,()),()):=by
 rw [Ss_DivideRatios_eq,Ss_IsRatio_val,Ss_IsRatio_val]
 unfold divB
 cases ha:ratB a <;> cases hb:ratB b <;> simp only [Option.bind_some,Bool.not_true,Bool.not_false,cond_true,cond_false,Bool.and_true,Bool.and_false,Bool.and_self]
 obtain ⟨a1,a2,_⟩:=rat_bd ha
 obtain ⟨b1,b2,_⟩:=rat_bd hb
 have e1:=prod_bd a1 b2
 have e3:=prod_bd a2 b1
 cases (b.1 == 0)
 ·rw [cond_false,cond_false,wrap_prod a1 b2,wrap_prod a2 b1,Ss_l2Make_val (by omega) (by omega)]
  rfl
 ·rfl
theorem Si_DivideRatios_val (a b:Int×Int):Si_DivideRatios a b=some ((divB a b,()),()):=by
 rw [Si_DivideRatios_eq,Si_IsRatio_val,Si_IsRatio_val]
 unfold divB
 cases ha:ratB a <;> cases hb:ratB b <;> simp only [Option.bind_some,Bool.not_true,Bool.not_false,cond_true,cond_false,Bool.and_true,Bool.and_false,Bool.and_self]
 obtain ⟨a1,a2,_⟩:=rat_bd ha
 obtain ⟨b1,b2,_⟩:=rat_bd hb
 have e1:=prod_bd a1 b2
 have e3:=prod_bd a2 b1
 cases (b.1 == 0)
 ·rw [cond_false,cond_false,wrap_prod a1 b2,wrap_prod a2 b1,Si_reducedRatio_val (by omega) (by omega)]
  rfl
 ·rfl
abbrev Lin:=(Int×Int)×Int×Int
def linB (t a u b:Int×Int):Lin:=(divB (addB b (negB a)) (addB u (negB t)),addB a (negB (mulB (divB (addB b (negB a)) (addB u (negB t))) t)))
theorem Ss_l8Through_val (t a u b:Int×Int):Ss_l8Through t a u b=some ((linB t a u b,()),()):=by
 rw [Ss_l8Through_eq]
 simp only [Ss_NegateRatio_val,Ss_AddRatios_val,Ss_DivideRatios_val,Ss_MultiplyRatios_val,Option.bind_some]
 rfl
theorem Si_lineBetween_val (a t b u:Int×Int):Si_lineBetween a t b u=some ((linB t a u b,()),()):=by
 rw [Si_lineBetween_eq]
 simp only [Si_subtractRatios_val,Si_DivideRatios_val,Si_MultiplyRatios_val,Option.bind_some]
 rfl
def linOk (l:Lin):Bool:=ratB l.1 && ratB l.2
theorem Si_line_valid_val (l:Lin):Si_line_valid l=some ((linOk l,()),()):=by
 rw [Si_line_valid_eq,Si_IsRatio_val]
 simp only [Option.bind_some,Si_IsRatio_val]
 unfold linOk
 cases ratB l.1 <;> rfl
def xL (a b:Stp):Lin:=linB a.1 a.2.1 b.1 b.2.1
def yL (a b:Stp):Lin:=linB a.1 a.2.2 b.1 b.2.2
def legOk (a b:Stp):Bool:=linOk (xL a b) && linOk (yL a b)
theorem Ss_l8Leg_val (a b:Stp):Ss_l8Leg a b=some ((xL a b,yL a b,legOk a b,()),()):=by
 rw [Ss_l8Leg_eq]
 simp only [Ss_l8Through_val,Ss_IsRatio_val,Option.bind_some]
 unfold legOk linOk
 show (bif ratB (xL a b).1 then _ else _)=_
 change (bif ratB (xL a b).1 then (bif ratB (xL a b).2 then (bif ratB (yL a b).1 then some ((xL a b,yL a b,ratB (yL a b).2,()),()) else some ((xL a b,yL a b,false,()),())) else some ((xL a b,yL a b,false,()),())) else some ((xL a b,yL a b,false,()),()))=_
 cases ratB (xL a b).1 <;> cases ratB (xL a b).2 <;> cases ratB (yL a b).1 <;> rfl
abbrev Leg:=(Int×Int)×(Int×Int)×Lin×Lin
def legOf (a b:Stp):Leg:=(a.1,b.1,xL a b,yL a b)
theorem Si_legBetween_val (a b:Stp):Si_legBetween a b=some ((legOf a b,legOk a b,()),()):=by
 rw [Si_legBetween_eq]
 simp only [Si_lineBetween_val,Si_line_valid_val,Option.bind_some]
 unfold legOk
 change (bif linOk (xL a b) then some ((legOf a b,linOk (yL a b),()),()) else some ((legOf a b,false,()),()))=_
 cases linOk (xL a b) <;> rfl
theorem ratB_zero:ratB (0,1)=true:=by decide
theorem less_irr (a:Int×Int):lessB a a=false:=by
 unfold lessB
 simp
theorem rat_gcd {a:Int×Int} (ha:ratB a=true):Nat.gcd a.1.natAbs a.2.natAbs=1:=by
 have hb:=rat_bd ha
 have e1:numB a.1=true:=by simp only [numB,Bool.and_eq_true,decide_eq_true_eq]; omega
 have e2:numB a.2=true:=by simp only [numB,Bool.and_eq_true,decide_eq_true_eq]; omega
 simp only [ratB,gcdB,e1,e2,Bool.and_eq_true,Bool.and_self,cond_true,beq_iff_eq] at ha
 omega
theorem trk_spec (x:List Stp):∀ (n i:Nat),trk x n i=true→∀ j (hj:j < x.length),i≤j→j < i+n→ratB x[j].1=true∧ratB x[j].2.1=true∧ratB x[j].2.2=true∧∀ k (hk:k < x.length),j=k+1→lessB x[k].1 x[j].1=true
 | 0,i,h,j,hj,h1,h2=>absurd h2 (by omega)
 | n+1,i,h,j,hj,h1,h2=>by
  simp only [trk,Bool.and_eq_true] at h
  obtain ⟨h3,h4⟩:=h
  by_cases hij:j=i
  ·subst hij
   rw [List.getElem?_eq_getElem hj] at h3
   simp only [Bool.and_eq_true] at h3
   obtain ⟨⟨⟨e1,e2⟩,e3⟩,e4⟩:=h3
   refine ⟨e1,e2,e3,fun k hk hjk => ?_⟩
   subst hjk
   simp only [List.getElem?_eq_getElem hk] at e4
   exact e4
  ·exact trk_spec x n (i+1) h4 j hj (by omega) (by omega)
theorem isTrk_spec {x:List Stp} (h:isTrk x=true) (j:Nat) (hj:j < x.length):ratB x[j].1=true∧ratB x[j].2.1=true∧ratB x[j].2.2=true∧∀ k (hk:k < x.length),j=k+1→lessB x[k].1 x[j].1=true:=by
 simp only [isTrk,Bool.and_eq_true] at h
 exact trk_spec x x.length 0 h.1 j hj (by omega) (by omega)
theorem eqR {a b:Int×Int}:(a.1 == b.1 && a.2 == b.2)=decide (a=b):=by
 obtain ⟨a1,a2⟩:=a
 obtain ⟨b1,b2⟩:=b
 rw [Bool.eq_iff_iff]
 simp
def lexI:List Int→List Int→Int
 | x::xs,y::ys=>if x=y then lexI xs ys else if x < y then -1 else 1
 | _,_=>0
theorem lexI_self:∀ x:List Int,lexI x x=0
 | []=>rfl
 | x::xs=>by simp [lexI,lexI_self xs]
theorem lexI_eq:∀ {x y:List Int},x.length=y.length→lexI x y=0→x=y
 | [],[],_,_=>rfl
 | x::xs,y::ys,hl,h=>by
  simp only [lexI] at h
  split at h
  ·rename_i e
   rw [e,lexI_eq (by simpa using hl) h]
  ·split at h <;> omega
theorem lexI_flip:∀ x y:List Int,lexI y x = -lexI x y
 | [],[]=>rfl
 | [],_::_=>rfl
 | _::_,[]=>rfl
 | x::xs,y::ys=>by
  simp only [lexI]
  by_cases h:x=y
  ·rw [if_pos h,if_pos h.symm,lexI_flip xs ys]
  ·rw [if_neg h,if_neg (Ne.symm h)]
   by_cases h2:x < y
   ·rw [if_pos h2,if_neg (by omega)]; rfl
   ·rw [if_neg h2,if_pos (by omega)]
theorem lexI_vals (x y:List Int):lexI x y = -1∨lexI x y=0∨lexI x y=1:=by
 induction x generalizing y with
 | nil=>cases y <;> simp [lexI]
 | cons a x ih =>
  cases y with
  | nil=>simp [lexI]
  | cons b y =>
   simp only [lexI]
   split
   ·exact ih y
   ·split <;> simp
theorem lexI_trans:∀ {x y z:List Int},lexI x y < 0→lexI y z < 0→lexI x z < 0
 | [],_,_,h,_=>by simp [lexI] at h
 | _::_,[],_,h,_=>by simp [lexI] at h
 | _::_,_::_,[],_,h=>by simp [lexI] at h
 | x::xs,y::ys,z::zs,h1,h2=>by
  simp only [lexI] at h1 h2 ⊢
  by_cases e1:x=y
  ·subst e1
   rw [if_pos rfl] at h1
   by_cases e2:x=z
   ·rw [if_pos e2] at h2 ⊢
    exact lexI_trans h1 h2
   ·rw [if_neg e2] at h2 ⊢
    exact h2
  ·rw [if_neg e1] at h1
   have h1:x < y:=by
    by_cases h:x < y
    ·exact h
    ·rw [if_neg h] at h1; omega
   by_cases e2:y=z
   ·subst e2
    rw [if_neg e1,if_pos h1]; omega
   ·rw [if_neg e2] at h2
    have h2:y < z:=by
     by_cases h:y < z
     ·exact h
     ·rw [if_neg h] at h2; omega
    rw [if_neg (by omega),if_pos (by omega)]; omega
def sgn (a b:Int):Int:=if a < b then -1 else if b < a then 1 else 0
theorem q_lt {a1 a2 b1 b2 c1 c2:Int} (h1:0 < a2) (h2:0 < b2) (h3:0 < c2) (x:a1*b2 < b1*a2) (y:b1*c2 < c1*b2):a1*c2 < c1*a2:=by
 have p:=Int.mul_lt_mul_of_pos_right x h3
 have q:=Int.mul_lt_mul_of_pos_right y h1
 have:a1*c2*b2 < c1*a2*b2:=by
  have e1:a1*c2*b2=a1*b2*c2:=by rw [Int.mul_assoc,Int.mul_comm c2,← Int.mul_assoc]
  have e2:c1*a2*b2=c1*b2*a2:=by rw [Int.mul_assoc,Int.mul_comm a2,← Int.mul_assoc]
  have e3:b1*a2*c2=b1*c2*a2:=by rw [Int.mul_assoc,Int.mul_comm a2,← Int.mul_assoc]
  omega
 exact Int.lt_of_mul_lt_mul_right this (Int.le_of_lt h2)
theorem q_le {a1 a2 b1 b2 c1 c2:Int} (h1:0 < a2) (h2:0 < b2) (h3:0 < c2) (x:a1*b2≤b1*a2) (y:b1*c2≤c1*b2):a1*c2≤c1*a2:=by
 have p:=Int.mul_le_mul_of_nonneg_right x (Int.le_of_lt h3)
 have q:=Int.mul_le_mul_of_nonneg_right y (Int.le_of_lt h1)
 have:a1*c2*b2≤c1*a2*b2:=by
  have e1:a1*c2*b2=a1*b2*c2:=by rw [Int.mul_assoc,Int.mul_comm c2,← Int.mul_assoc]
  have e2:c1*a2*b2=c1*b2*a2:=by rw [Int.mul_assoc,Int.mul_comm a2,← Int.mul_assoc]
  have e3:b1*a2*c2=b1*c2*a2:=by rw [Int.mul_assoc,Int.mul_comm a2,← Int.mul_assoc]
  omega
 exact Int.le_of_mul_le_mul_right this h2
def dD (a:Atm):Int:=if gl a.1 0=0 then 1 else (gl a.1 0:Nat)
def dv (a:Atm):List Int:=a.1.map (fun x=>x.tdiv (dD a))
def wayB (a b:Atm):Int:=lexI (dv a) (dv b)
def strB (a b:Atm):Int:=if sgn (a.2.1*dD b) (b.2.1*dD a)≠0 then sgn (a.2.1*dD b) (b.2.1*dD a) else if a.2.2=b.2.2 then 0 else if a.2.2=true then 1 else -1
def cmpB (a b:Atm):Int:=if wayB a b≠0 then wayB a b else strB a b
def okA (n:Nat) (a:Atm):Prop:=atomB a=true∧a.1.length=n∧gl a.1 0≠0
theorem dD_pos (a:Atm):0 < dD a:=by
 unfold dD
 split
 ·omega
 ·have:0 < gl a.1 0:=Nat.pos_of_ne_zero (by assumption)
  exact Int.natCast_pos.2 this
theorem dv_len (a:Atm):(dv a).length=a.1.length:=by simp [dv]
theorem way_eq {n:Nat} {a b:Atm} (ha:a.1.length=n) (hb:b.1.length=n):wayB a b=0↔dv a=dv b:=by
 constructor
 ·intro h
  exact lexI_eq (by rw [dv_len,dv_len,ha,hb]) h
 ·intro h
  unfold wayB
  rw [h,lexI_self]
theorem sgn_lt {a b:Int}:sgn a b < 0↔a < b:=by
 unfold sgn
 split
 ·simp; assumption
 ·split <;> simp <;> omega
theorem sgn_zero {a b:Int}:sgn a b=0↔a=b:=by
 unfold sgn
 split
 ·simp; omega
 ·split <;> simp <;> omega
theorem str_lt {a b:Atm}:strB a b < 0↔a.2.1*dD b < b.2.1*dD a∨(a.2.1*dD b=b.2.1*dD a∧a.2.2=false∧b.2.2=true):=by
 unfold strB
 by_cases h:sgn (a.2.1*dD b) (b.2.1*dD a)=0
 ·rw [if_neg (by simpa using h)]
  have e:=sgn_zero.1 h
  rw [e]
  cases a.2.2 <;> cases b.2.2 <;> simp
 ·rw [if_pos h,sgn_lt]
  have e:a.2.1*dD b≠b.2.1*dD a:=fun e=>h (sgn_zero.2 e)
  constructor
  ·exact .inl
  ·rintro (h | h)
   ·exact h
   ·exact absurd h.1 e
theorem cmp_lt {a b:Atm}:cmpB a b < 0↔wayB a b < 0∨(wayB a b=0∧strB a b < 0):=by
 unfold cmpB
 split
 ·rename_i h
  constructor
  ·exact .inl
  ·rintro (h2 | h2)
   ·exact h2
   ·exact absurd h2.1 h
 ·rename_i h
  have h:wayB a b=0:=by simpa using h
  rw [h]; simp
theorem gl_dvd:∀ (x:List Int) (g:Nat),(gl x g) ∣ g∧∀ y∈x,gl x g ∣ y.natAbs
 | [],g=>⟨Nat.dvd_refl _,by simp⟩
 | a::x,g=>by
  obtain ⟨h1,h2⟩:=gl_dvd x (Nat.gcd g a.natAbs)
  have e:gl (a::x) g=gl x (Nat.gcd g a.natAbs):=rfl
  rw [e]
  refine ⟨Nat.dvd_trans h1 (Nat.gcd_dvd_left _ _),fun y hy => ?_⟩
  rcases List.mem_cons.1 hy with rfl | hy
  ·exact Nat.dvd_trans h1 (Nat.gcd_dvd_right _ _)
  ·exact h2 y hy
theorem coef_of (a:Atm):a.1=(dv a).map (· * dD a):=by
 unfold dv
 rw [List.map_map]
 have:∀ y∈a.1,((· * dD a) ∘ fun x=>x.tdiv (dD a)) y=y:=by
  intro y hy
  simp only [Function.comp]
  unfold dD
  split
  ·simp
  ·exact Int.tdiv_mul_cancel (Int.natAbs_dvd_natAbs.1 (by simpa using (gl_dvd a.1 0).2 y hy))
 conv=>lhs; rw [← List.map_id a.1]
 exact (List.map_congr_left fun y hy=>(this y hy).symm)
theorem atom_same {n:Nat} {a b:Atm} (ha:okA n a) (hb:okA n b) (h1:dv a=dv b) (h2:a.2.1*dD b=b.2.1*dD a) (h3:a.2.2=b.2.2):a=b:=by
 have cop:∀ {a:Atm},okA n a→∃ g:Nat,dD a=(g:Int)∧Nat.Coprime g a.2.1.natAbs∧0 < g:=by
  intro a h
  refine ⟨gl a.1 0,by unfold dD; rw [if_neg h.2.2],?_,Nat.pos_of_ne_zero h.2.2⟩
  have:=h.1
  unfold atomB at this
  simp only [Bool.and_eq_true,decide_eq_true_eq] at this
  have h4:=this.2.2.2
  rw [gl_is] at h4
  have h5:Nat.gcd (gl a.1 0) a.2.1.natAbs≤1:=by omega
  have h6:0 < Nat.gcd (gl a.1 0) a.2.1.natAbs:=Nat.gcd_pos_of_pos_left _ (Nat.pos_of_ne_zero h.2.2)
  unfold Nat.Coprime; omega
 obtain ⟨g,e1,c1,p1⟩:=cop ha
 obtain ⟨k,e2,c2,p2⟩:=cop hb
 rw [e1,e2] at h2
 have h4:a.2.1.natAbs*k=b.2.1.natAbs*g:=by
  have:=congrArg Int.natAbs h2
  simpa [Int.natAbs_mul] using this
 have d1:g ∣ k:=c1.dvd_of_dvd_mul_left (by rw [h4]; exact Nat.dvd_mul_left _ _)
 have d2:k ∣ g:=c2.dvd_of_dvd_mul_left (by rw [← h4]; exact Nat.dvd_mul_left _ _)
 have e:g=k:=Nat.dvd_antisymm d1 d2
 subst e
 have h5:a.2.1=b.2.1:=Int.eq_of_mul_eq_mul_right (by omega) h2
 have h6:a.1=b.1:=by rw [coef_of a,coef_of b,h1,e1,e2]
 obtain ⟨a1,a2,a3⟩:=a
 obtain ⟨b1,b2,b3⟩:=b
 simp only at h3 h5 h6
 rw [h3,h5,h6]
theorem str_trans {a b c:Atm} (h1:strB a b < 0) (h2:strB b c < 0):strB a c < 0:=by
 rw [str_lt] at *
 have pa:=dD_pos a
 have pb:=dD_pos b
 have pc:=dD_pos c
 rcases h1 with h1 | ⟨h1,h3,h4⟩
 ·rcases h2 with h2 | ⟨h2,h5,h6⟩
  ·exact .inl (q_lt pa pb pc h1 h2)
  ·left
   have:=q_le pa pb pc (Int.le_of_lt h1) (Int.le_of_eq h2)
   rcases Int.lt_or_eq_of_le this with h | h
   ·exact h
   ·exfalso
    have:=q_le (a1:=b.2.1) (a2:=dD b) (b1:=c.2.1) (b2:=dD c) (c1:=a.2.1) (c2:=dD a) pb pc pa (Int.le_of_eq h2) (Int.le_of_eq h.symm)
    omega
 ·rcases h2 with h2 | ⟨h2,h5,h6⟩
  ·left
   have:=q_le pa pb pc (Int.le_of_eq h1) (Int.le_of_lt h2)
   rcases Int.lt_or_eq_of_le this with h | h
   ·exact h
   ·exfalso
    have:=q_le (a1:=c.2.1) (a2:=dD c) (b1:=a.2.1) (b2:=dD a) (c1:=b.2.1) (c2:=dD b) pc pa pb (Int.le_of_eq h.symm) (Int.le_of_eq h1)
    omega
  ·rw [h4] at h5; cases h5
theorem str_ntrans {a b c:Atm} (h1:¬ strB a b < 0) (h2:¬ strB b c < 0):¬ strB a c < 0:=by
 rw [str_lt] at *
 have pa:=dD_pos a
 have pb:=dD_pos b
 have pc:=dD_pos c
 have h1a:b.2.1*dD a≤a.2.1*dD b:=by have:=not_or.1 h1; omega
 have h2a:c.2.1*dD b≤b.2.1*dD c:=by have:=not_or.1 h2; omega
 have h3:=q_le (a1:=c.2.1) (a2:=dD c) (b1:=b.2.1) (b2:=dD b) (c1:=a.2.1) (c2:=dD a) pc pb pa h2a h1a
 rintro (h | ⟨h,h4,h5⟩)
 ·omega
 ·have e1:a.2.1*dD b=b.2.1*dD a:=by
   have:=q_le (a1:=a.2.1) (a2:=dD a) (b1:=c.2.1) (b2:=dD c) (c1:=b.2.1) (c2:=dD b) pa pc pb (Int.le_of_eq h) h2a
   omega
  have e2:b.2.1*dD c=c.2.1*dD b:=by
   have:=q_le (a1:=b.2.1) (a2:=dD b) (b1:=a.2.1) (b2:=dD a) (c1:=c.2.1) (c2:=dD c) pb pa pc h1a (Int.le_of_eq h)
   omega
  cases hb:b.2.2
  ·exact h2 (.inr ⟨e2,hb,h5⟩)
  ·exact h1 (.inr ⟨e1,h4,hb⟩)
theorem str_irr (a:Atm):¬ strB a a < 0:=by
 rw [str_lt]
 rintro (h | ⟨_,h1,h2⟩)
 ·omega
 ·rw [h1] at h2; cases h2
theorem ordA {n:Nat}:OrdOn (okA n) cmpB:=by
 have key:∀ {x y:Atm},okA n x→okA n y→wayB x y=0→dv x=dv y:=fun hx hy h=>(way_eq hx.2.1 hy.2.1).1 h
 refine ⟨fun x hx h => ?_,fun x y z hx hy hz h1 h2 => ?_,fun x y z hx hy hz h1 h2 h => ?_,fun x y hx hy h1 h2 => ?_⟩
 ·rw [cmp_lt] at h
  have e:wayB x x=0:=lexI_self _
  rw [e] at h
  rcases h with h | h
  ·omega
  ·exact str_irr x h.2
 ·rw [cmp_lt] at *
  rcases h1 with h1 | ⟨h1,h3⟩
  ·rcases h2 with h2 | ⟨h2,h4⟩
   ·exact .inl (lexI_trans h1 h2)
   ·left
    have:=key hy hz h2
    unfold wayB at *
    rw [← this]; exact h1
  ·have e1:=key hx hy h1
   rcases h2 with h2 | ⟨h2,h4⟩
   ·left
    unfold wayB at *
    rw [e1]; exact h2
   ·right
    refine ⟨?_,str_trans h3 h4⟩
    unfold wayB at *
    rw [e1]; exact h2
 ·rw [cmp_lt] at *
  have h1:=not_or.1 h1
  have h2:=not_or.1 h2
  have f1:=lexI_flip (dv x) (dv y)
  have f2:=lexI_flip (dv y) (dv z)
  have f3:=lexI_flip (dv x) (dv z)
  have v1:=lexI_vals (dv x) (dv y)
  have v2:=lexI_vals (dv y) (dv z)
  have u1:=h1.1
  have u2:=h2.1
  unfold wayB at u1 u2
  by_cases w1:wayB x y=0
  ·have e1:=key hx hy w1
   have s1:¬ strB x y < 0:=fun h=>h1.2 ⟨w1,h⟩
   by_cases w2:wayB y z=0
   ·have e2:=key hy hz w2
    have s2:¬ strB y z < 0:=fun h=>h2.2 ⟨w2,h⟩
    rcases h with h | h
    ·unfold wayB at h
     rw [e1,e2,lexI_self] at h; omega
    ·exact str_ntrans s1 s2 h.2
   ·have:wayB x z=wayB y z:=by unfold wayB; rw [e1]
    rw [this] at h
    rcases h with h | h
    ·exact h2.1 h
    ·exact w2 h.1
  ·have g1:lexI (dv y) (dv x) < 0:=by unfold wayB at w1; omega
   by_cases w2:wayB y z=0
   ·have e2:=key hy hz w2
    have:wayB x z=wayB x y:=by unfold wayB; rw [e2]
    rw [this] at h
    rcases h with h | h
    ·exact h1.1 h
    ·exact w1 h.1
   ·have g2:lexI (dv z) (dv y) < 0:=by unfold wayB at w2; omega
    have g3:=lexI_trans g2 g1
    unfold wayB at h
    omega
 ·rw [cmp_lt] at *
  have h1:=not_or.1 h1
  have h2:=not_or.1 h2
  have f1:=lexI_flip (dv x) (dv y)
  have w:wayB x y=0:=by
   have a1:=h1.1
   have a2:=h2.1
   unfold wayB at *
   omega
  have w':wayB y x=0:=by unfold wayB at *; omega
  have s1:¬ strB x y < 0:=fun h=>h1.2 ⟨w,h⟩
  have s2:¬ strB y x < 0:=fun h=>h2.2 ⟨w',h⟩
  rw [str_lt] at s1 s2
  have s1:=not_or.1 s1
  have s2:=not_or.1 s2
  have e:x.2.1*dD y=y.2.1*dD x:=by omega
  refine atom_same hx hy (key hx hy w) e ?_
  have t1:¬ (x.2.2=false∧y.2.2=true):=fun h=>s1.2 ⟨e,h⟩
  have t2:¬ (y.2.2=false∧x.2.2=true):=fun h=>s2.2 ⟨e.symm,h⟩
  cases hx2:x.2.2 <;> cases hy2:y.2.2 <;> simp_all
structure Best (n:Nat) (S l:List Atm):Prop where
 sorted:S.Pairwise fun x y=>wayB x y < 0
 sub:∀ s∈S,s∈l
 dom:∀ a∈l,∃ s∈S,wayB s a=0∧¬ strB s a < 0
theorem way_sym {a b:Atm} (h:wayB a b=0):wayB b a=0:=by
 have:=lexI_flip (dv a) (dv b)
 unfold wayB at *; omega
theorem best_sub {n:Nat} {S S' l l':List Atm} (hV:∀ a∈l,okA n a) (hm:∀ a,a∈l↔a∈l') (h:Best n S l) (h':Best n S' l'):∀ s∈S,s∈S':=by
 intro s hs
 have hsl:=h.sub s hs
 obtain ⟨t,ht,w1,s1⟩:=h'.dom s ((hm s).1 hsl)
 have htl:=(hm t).2 (h'.sub t ht)
 obtain ⟨u,hu,w2,s2⟩:=h.dom t htl
 have ks:=hV s hsl
 have kt:=hV t htl
 have ku:=hV u (h.sub u hu)
 have e1:dv t=dv s:=(way_eq kt.2.1 ks.2.1).1 w1
 have e2:dv u=dv t:=(way_eq ku.2.1 kt.2.1).1 w2
 have w3:wayB u s=0:=(way_eq ku.2.1 ks.2.1).2 (e2.trans e1)
 have hus:u=s:=by
  apply Classical.byContradiction
  intro hne
  have key:∀ {a b:Atm},a∈S→b∈S→a≠b→wayB a b < 0∨wayB b a < 0:=by
   intro a b ha hb hne
   obtain ⟨i,hi,rfl⟩:=List.getElem_of_mem ha
   obtain ⟨j,hj,rfl⟩:=List.getElem_of_mem hb
   rcases Nat.lt_trichotomy i j with hij | hij | hij
   ·exact .inl (List.pairwise_iff_getElem.1 h.sorted i j hi hj hij)
   ·subst hij; exact absurd rfl hne
   ·exact .inr (List.pairwise_iff_getElem.1 h.sorted j i hj hi hij)
  rcases key hu hs hne with h1 | h1
  ·omega
  ·have:=way_sym w3; omega
 subst hus
 have o := @ordA n
 have:t=u:=o.anti t u kt ku (fun hc=>by
  rw [cmp_lt] at hc
  rcases hc with hc | hc
  ·omega
  ·exact s1 hc.2) (fun hc=>by
  rw [cmp_lt] at hc
  rcases hc with hc | hc
  ·omega
  ·exact s2 hc.2)
 rw [← this]; exact ht
theorem best_unique {n:Nat} {S S' l l':List Atm} (hV:∀ a∈l,okA n a) (hm:∀ a,a∈l↔a∈l') (h:Best n S l) (h':Best n S' l'):S=S':=by
 have nd:∀ {S l:List Atm},Best n S l→S.Nodup:=by
  intro S l h
  refine h.sorted.imp fun {a b} hab he => ?_
  subst he
  have:wayB a a=0:=lexI_self _
  omega
 have hp:S.Perm S':=(List.perm_ext_iff_of_nodup (nd h) (nd h')).2 fun a=>⟨best_sub hV hm h h' a,best_sub (fun a ha=>hV a ((hm a).2 ha)) (fun a=>(hm a).symm) h' h a⟩
 refine List.Perm.eq_of_pairwise (le:=fun x y=>wayB x y < 0) (fun a b _ _ h1 h2 => ?_) h.sorted h'.sorted hp
 have:=lexI_flip (dv a) (dv b)
 unfold wayB at *; omega
def lastR:List Atm→List Atm
 | []=>[]
 | [a]=>[a]
 | a::b::l=>if wayB a b=0 then lastR (b::l) else a::lastR (b::l)
theorem lastR_best {n:Nat}:∀ (l:List Atm),(∀ a∈l,okA n a)→l.Pairwise (fun x y=>¬ cmpB y x < 0)→Best n (lastR l) l
 | [],_,_=>⟨List.Pairwise.nil,fun s h=>h,by simp⟩
 | [a],_,_=>⟨by simp [lastR],fun s h=>h,fun x hx=>⟨a,by simp [lastR],by
   rw [List.mem_singleton.1 hx]
   exact ⟨lexI_self _,str_irr a⟩⟩⟩
 | a::b::l,hV,hP=>by
  have hP2:=List.pairwise_cons.1 hP
  have ih:=lastR_best (b::l) (fun x hx=>hV x (List.mem_cons_of_mem _ hx)) hP2.2
  have ka:=hV a (by simp)
  have kb:=hV b (by simp)
  have up:∀ x∈b::l,¬ wayB x a < 0:=fun x hx h=>hP2.1 x hx (cmp_lt.2 (.inl h))
  by_cases hw:wayB a b=0
  ·have e:lastR (a::b::l)=lastR (b::l):=by simp [lastR,hw]
   rw [e]
   refine ⟨ih.sorted,fun s hs=>List.mem_cons_of_mem _ (ih.sub s hs),fun x hx => ?_⟩
   rcases List.mem_cons.1 hx with rfl | hx
   ·obtain ⟨s,hs,w1,s1⟩:=ih.dom b (by simp)
    have ks:=hV s (List.mem_cons_of_mem _ (ih.sub s hs))
    have e1:dv s=dv b:=(way_eq ks.2.1 kb.2.1).1 w1
    have e2:dv x=dv b:=(way_eq ka.2.1 kb.2.1).1 hw
    refine ⟨s,hs,(way_eq ks.2.1 ka.2.1).2 (e1.trans e2.symm),?_⟩
    have s2:¬ strB b x < 0:=fun h=>hP2.1 b (by simp) (cmp_lt.2 (.inr ⟨way_sym hw,h⟩))
    exact str_ntrans s1 s2
   ·exact ih.dom x hx
  ·have e:lastR (a::b::l)=a::lastR (b::l):=by simp [lastR,hw]
   rw [e]
   have hab:wayB a b < 0:=by
    have h1:=up b (by simp)
    have:=lexI_flip (dv a) (dv b)
    unfold wayB at *; omega
   refine ⟨List.pairwise_cons.2 ⟨fun x hx => ?_,ih.sorted⟩,fun s hs => ?_,fun x hx => ?_⟩
   ·have hxl:=ih.sub x hx
    rcases List.mem_cons.1 hxl with rfl | hxl
    ·exact hab
    ·have hbx:¬ wayB x b < 0:=fun h=>(List.pairwise_cons.1 hP2.2).1 x hxl (cmp_lt.2 (.inl h))
     have kx:=hV x (by simp [hxl])
     have f:=lexI_flip (dv x) (dv b)
     by_cases h0:wayB b x=0
     ·have e3:dv b=dv x:=(way_eq kb.2.1 kx.2.1).1 h0
      unfold wayB at hab ⊢
      rw [← e3]; exact hab
     ·have h2:wayB b x < 0:=by unfold wayB at *; omega
      exact lexI_trans hab h2
   ·rcases List.mem_cons.1 hs with rfl | hs
    ·simp
    ·exact List.mem_cons_of_mem _ (ih.sub s hs)
   ·rcases List.mem_cons.1 hx with rfl | hx
    ·exact ⟨x,by simp,lexI_self _,str_irr x⟩
    ·obtain ⟨s,hs,h⟩:=ih.dom x hx
     exact ⟨s,List.mem_cons_of_mem _ hs,h⟩
def putB:List Atm→Atm→List Atm
 | [],a=>[a]
 | s::S,a=>if wayB s a < 0 then s::putB S a else if wayB s a=0 then (if strB s a < 0 then a::S else s::S) else a::s::S
theorem putB_sub (a:Atm):∀ (S:List Atm),∀ s∈putB S a,s∈S∨s=a
 | [],s,h=>by simp [putB] at h; exact .inr h
 | t::S,s,h=>by
  simp only [putB] at h
  split at h
  ·rcases List.mem_cons.1 h with rfl | h
   ·simp
   ·rcases putB_sub a S s h with h | h
    ·exact .inl (List.mem_cons_of_mem _ h)
    ·exact .inr h
  ·split at h
   ·split at h
    ·rcases List.mem_cons.1 h with rfl | h
     ·exact .inr rfl
     ·exact .inl (List.mem_cons_of_mem _ h)
    ·exact .inl h
   ·rcases List.mem_cons.1 h with rfl | h
    ·exact .inr rfl
    ·exact .inl h
theorem putB_dom {n:Nat} {a:Atm} (ka:okA n a):∀ (S:List Atm),(∀ s∈S,okA n s)→(∃ s∈putB S a,wayB s a=0∧¬ strB s a < 0)∧∀ t∈S,∃ s∈putB S a,wayB s t=0∧¬ strB s t < 0
 | [],_=>⟨⟨a,by simp [putB],lexI_self _,str_irr a⟩,by simp⟩
 | t::S,hV=>by
  obtain ⟨h1,h2⟩:=putB_dom ka S (fun s hs=>hV s (List.mem_cons_of_mem _ hs))
  have kt:=hV t (by simp)
  have self:∀ x:Atm,wayB x x=0∧¬ strB x x < 0:=fun x=>⟨lexI_self _,str_irr x⟩
  simp only [putB]
  split
  ·obtain ⟨s,hs,hh⟩:=h1
   refine ⟨⟨s,List.mem_cons_of_mem _ hs,hh⟩,fun u hu => ?_⟩
   rcases List.mem_cons.1 hu with rfl | hu
   ·exact ⟨u,by simp,self u⟩
   ·obtain ⟨s,hs,hh⟩:=h2 u hu
    exact ⟨s,List.mem_cons_of_mem _ hs,hh⟩
  ·split
   ·rename_i hw
    split
    ·rename_i hst
     refine ⟨⟨a,by simp,self a⟩,fun u hu => ?_⟩
     rcases List.mem_cons.1 hu with rfl | hu
     ·refine ⟨a,by simp,way_sym hw,fun h => ?_⟩
      exact str_irr a (str_trans h hst)
     ·exact ⟨u,List.mem_cons_of_mem _ hu,self u⟩
    ·rename_i hst
     exact ⟨⟨t,by simp,hw,hst⟩,fun u hu=>⟨u,hu,self u⟩⟩
   ·exact ⟨⟨a,by simp,self a⟩,fun u hu=>⟨u,List.mem_cons_of_mem _ hu,self u⟩⟩
theorem putB_sorted {n:Nat} {a:Atm} (ka:okA n a):∀ (S:List Atm),(∀ s∈S,okA n s)→S.Pairwise (fun x y=>wayB x y < 0)→(putB S a).Pairwise fun x y=>wayB x y < 0
 | [],_,_=>by simp [putB]
 | t::S,hV,hP=>by
  have hP2:=List.pairwise_cons.1 hP
  have kt:=hV t (by simp)
  simp only [putB]
  split
  ·rename_i hw
   refine List.pairwise_cons.2 ⟨fun x hx => ?_,putB_sorted ka S (fun s hs=>hV s (List.mem_cons_of_mem _ hs)) hP2.2⟩
   rcases putB_sub a S x hx with hx | rfl
   ·exact hP2.1 x hx
   ·exact hw
  ·rename_i hw
   split
   ·rename_i hw0
    have e:dv t=dv a:=(way_eq kt.2.1 ka.2.1).1 hw0
    split
    ·refine List.pairwise_cons.2 ⟨fun x hx => ?_,hP2.2⟩
     have:=hP2.1 x hx
     unfold wayB at this ⊢
     rw [← e]; exact this
    ·exact hP
   ·rename_i hw0
    have h1:wayB a t < 0:=by
     have:=lexI_flip (dv t) (dv a)
     unfold wayB at *; omega
    refine List.pairwise_cons.2 ⟨fun x hx => ?_,hP⟩
    rcases List.mem_cons.1 hx with rfl | hx
    ·exact h1
    ·exact lexI_trans h1 (hP2.1 x hx)
theorem putB_best {n:Nat} {a:Atm} {S l:List Atm} (ka:okA n a) (hV:∀ a∈l,okA n a) (h:Best n S l):Best n (putB S a) (l++[a]):=by
 have hS:∀ s∈S,okA n s:=fun s hs=>hV s (h.sub s hs)
 obtain ⟨d1,d2⟩:=putB_dom ka S hS
 refine ⟨putB_sorted ka S hS h.sorted,fun s hs => ?_,fun x hx => ?_⟩
 ·rcases putB_sub a S s hs with hs | rfl
  ·exact List.mem_append_left _ (h.sub s hs)
  ·simp
 ·rcases List.mem_append.1 hx with hx | hx
  ·obtain ⟨s,hs,w1,s1⟩:=h.dom x hx
   obtain ⟨t,ht,w2,s2⟩:=d2 s hs
   have kx:=hV x hx
   have ks:=hS s hs
   have kt:okA n t:=by
    rcases putB_sub a S t ht with h | rfl
    ·exact hS t h
    ·exact ka
   have e1:=(way_eq ks.2.1 kx.2.1).1 w1
   have e2:=(way_eq kt.2.1 ks.2.1).1 w2
   exact ⟨t,ht,(way_eq kt.2.1 kx.2.1).2 (e2.trans e1),str_ntrans s2 s1⟩
  ·rw [List.mem_singleton.1 hx]; exact d1
theorem fold_best {n:Nat}:∀ (l m S:List Atm),(∀ a∈l,okA n a)→(∀ a∈m,okA n a)→Best n S m→Best n (l.foldl putB S) (m++l)
 | [],m,S,_,_,h=>by simpa using h
 | a::l,m,S,hl,hm,h=>by
  have ka:=hl a (by simp)
  have:=fold_best l (m++[a]) (putB S a) (fun x hx=>hl x (List.mem_cons_of_mem _ hx)) (fun x hx=>by
   rcases List.mem_append.1 hx with hx | hx
   ·exact hm x hx
   ·rw [List.mem_singleton.1 hx]; exact ka) (putB_best ka hm h)
  simpa using this
theorem norm_same {n:Nat} {l l':List Atm} (hV:∀ a∈l,okA n a) (hm:∀ a,a∈l↔a∈l'):lastR (sortBy cmpB l)=l'.foldl putB []:=by
 have hp:=sortBy_perm cmpB l
 have h1:Best n (lastR (sortBy cmpB l)) (sortBy cmpB l):=lastR_best _ (fun a ha=>hV a (hp.mem_iff.1 ha)) (sortBy_pairwise ordA hV)
 have h2:Best n (l'.foldl putB []) ([]++l'):=fold_best l' [] [] (fun a ha=>hV a ((hm a).2 ha)) (by simp) ⟨List.Pairwise.nil,by simp,by simp⟩
 rw [List.nil_append] at h2
 exact best_unique (fun a ha=>hV a (hp.mem_iff.1 ha)) (fun a=>(hp.mem_iff).trans (hm a)) h1 h2
theorem atomB_spec {a:Atm} (h:atomB a=true):a.1.length≤4∧numB a.2.1=true∧∀ y∈a.1,numB y=true:=by
 unfold atomB at h
 simp only [Bool.and_eq_true,Bool.not_eq_true',decide_eq_false_iff_not,List.all_eq_true] at h
 exact ⟨by omega,h.2.1,h.2.2.1⟩
theorem numB_bd {y:Int} (h:numB y=true) : -400000000≤y∧y≤400000000:=by
 unfold numB at h
 simpa using h
theorem gl_le:∀ (x:List Int) (g:Nat),(∀ y∈x,numB y=true)→g≤400000000→gl x g≤400000000
 | [],g,_,hg=>hg
 | a::x,g,h,hg=>by
  have e:gl (a::x) g=gl x (Nat.gcd g a.natAbs):=rfl
  rw [e]
  refine gl_le x _ (fun y hy=>h y (List.mem_cons_of_mem _ hy)) ?_
  have hb:=numB_bd (h a (by simp))
  by_cases h0:g=0
  ·subst h0
   rw [Nat.gcd_zero_left]; omega
  ·exact Nat.le_trans (Nat.gcd_le_left _ (Nat.pos_of_ne_zero h0)) hg
theorem dD_le {a:Atm} (h:atomB a=true):dD a≤400000000:=by
 have:=gl_le a.1 0 (atomB_spec h).2.2 (by omega)
 unfold dD
 split <;> omega
theorem max_dD (a:Atm):(bif true then if 1 < ((gl a.1 0:Nat):Int) then ((gl a.1 0:Nat):Int) else 1 else if ((gl a.1 0:Nat):Int) < 1 then ((gl a.1 0:Nat):Int) else 1)=dD a:=by
 simp only [cond_true]
 unfold dD
 by_cases h:gl a.1 0=0
 ·rw [if_pos h,h]; rfl
 ·rw [if_neg h]
  by_cases h2:1 < ((gl a.1 0:Nat):Int)
  ·rw [if_pos h2]
  ·rw [if_neg h2]; omega
theorem Si_divisor_at {a:Atm} (h:atomB a=true):Si_divisorOf a.1=some ((((gl a.1 0:Nat):Int),()),()):=Si_divisorOf_val a.1 (by have:=(atomB_spec h).1; omega) (atomB_spec h).2.2
theorem Si_hasVariables_val {a:Atm} (h:atomB a=true):Si_hasVariables a=some ((gl a.1 0 != 0,()),()):=by
 rw [Si_hasVariables_eq,Si_divisor_at h]
 simp only [Option.bind_some]
 congr 3
 cases hg:gl a.1 0 with
 | zero=>rfl
 | succ n=>simp; omega
theorem Si_directionDivisor_val {a:Atm} (h:atomB a=true):Si_directionDivisor a=some ((dD a,()),()):=by
 rw [Si_directionDivisor_eq,Si_divisor_at h]
 simp only [Option.bind_some]
 unfold dD
 cases hg:gl a.1 0 with
 | zero=>rfl
 | succ n =>
  have:(((n+1:Nat):Int) == 0)=false:=by simp; omega
  rw [this]; rfl
theorem Ss_l2Steep_val {a:Atm} (h:atomB a=true):Ss_l2Steep a=some ((((gl a.1 0:Nat):Int),()),()):=by
 rw [Ss_l2Steep_eq,Ss_l2Gcd_val a.1 0 (by have:=(atomB_spec h).1; omega) (atomB_spec h).2.2 (by decide)]; rfl
theorem gl_zero:∀ (x:List Int),gl x 0=0↔∀ y∈x,y=0:=by
 intro x
 constructor
 ·intro h y hy
  have:=(gl_dvd x 0).2 y hy
  rw [h] at this
  have:=Nat.eq_zero_of_zero_dvd this
  omega
 ·intro h
  induction x with
  | nil=>rfl
  | cons a x ih =>
   have e:gl (a::x) 0=gl x (Nat.gcd 0 a.natAbs):=rfl
   rw [e,h a (by simp)]
   exact ih fun y hy=>h y (List.mem_cons_of_mem _ hy)
theorem Ss_l2Constant_val (a:Atm) (hl:a.1.length≤68719476736):Ss_l2Constant a=some ((gl a.1 0 == 0,()),()):=by
 rw [Ss_l2Constant_eq]
 rw [all0 a.1 (fun y=>y == 0) (some ((false,()),())) (some ((true,()),())) (fun i=>Ls_l2Constant_2 a i) hl (fun i hi=>by
  rw [Ls_l2Constant_2_eq,lt_yes hi,getI_ok hi,wrap_succ (by omega)]
  simp only [cond_true,Option.bind_some,bne]
  cases a.1[i] == 0 <;> rfl) (by rw [Ls_l2Constant_2_eq,lt_no]; rfl)]
 have e:a.1.all (fun y=>y == 0)=(gl a.1 0 == 0):=by
  rw [Bool.eq_iff_iff,List.all_eq_true,beq_iff_eq,gl_zero]
  simp
 rw [e]
 cases gl a.1 0 == 0 <;> rfl
theorem tdiv_wrap {y D:Int} (h:numB y=true):IntKind.i64.wrap (y.tdiv D)=y.tdiv D:=by
 have:=numB_bd h
 have h2:(y.tdiv D).natAbs≤y.natAbs:=tdiv_le y D
 exact wrap_id (by omega) (by omega)
theorem Si_sign_val (a b:Int):Si_sign a b=some ((sgn a b,()),()):=by
 rw [Si_sign_eq]
 unfold sgn
 by_cases h1:a < b
 ·rw [if_pos h1,decide_eq_true h1]; rfl
 ·rw [if_neg h1,decide_eq_false h1]
  by_cases h2:b < a
  ·have:a > b:=h2
   rw [if_pos h2,decide_eq_true this]; rfl
  ·have:¬ a > b:=h2
   rw [if_neg h2,decide_eq_false this]; rfl
theorem lexI_step {x y:List Int} {i:Nat} (hx:i < x.length) (hy:i < y.length):lexI (x.drop i) (y.drop i)=if x[i]=y[i] then lexI (x.drop (i+1)) (y.drop (i+1)) else if x[i] < y[i] then -1 else 1:=by
 rw [List.drop_eq_getElem_cons hx,List.drop_eq_getElem_cons hy]; rfl
theorem dD_ne (a:Atm):(dD a != 0)=true:=by
 have:=dD_pos a
 simp; omega
theorem Li_compareDirections_3_val {a b:Atm} (ha:atomB a=true) (hb:atomB b=true) (hl:a.1.length=b.1.length):∀ (n i:Nat),n+i=a.1.length →
  Li_compareDirections_3 a b (dD a) (dD b) (a.1.length:Int) (i:Int)=some ((lexI ((dv a).drop i) ((dv b).drop i),()),())
 | 0,i,hn=>by
  obtain rfl:i=a.1.length:=by omega
  rw [Li_compareDirections_3_eq,lt_no]
  have e1:(dv a).drop a.1.length=[]:=List.drop_eq_nil_of_le (by rw [dv_len]; omega)
  rw [e1]; rfl
 | n+1,i,hn=>by
  have hi:i < a.1.length:=by omega
  have hi2:i < b.1.length:=by omega
  have na:=(atomB_spec ha).2.2 _ (List.getElem_mem hi)
  have nb:=(atomB_spec hb).2.2 _ (List.getElem_mem hi2)
  rw [Li_compareDirections_3_eq,lt_yes hi,getI_ok hi,getI_ok hi2,dD_ne,dD_ne,wrap_succ (by have:=(atomB_spec ha).1; omega)]
  simp only [cond_true,Option.bind_some]
  rw [tdiv_wrap na,tdiv_wrap nb,Si_sign_val]
  simp only [Option.bind_some]
  rw [Li_compareDirections_3_val ha hb hl n (i+1) (by omega),lexI_step (i:=i) (by rw [dv_len]; exact hi) (by rw [dv_len]; exact hi2)]
  have e1:(dv a)[i]'(by rw [dv_len]; exact hi)=a.1[i].tdiv (dD a):=by simp [dv]
  have e2:(dv b)[i]'(by rw [dv_len]; exact hi2)=b.1[i].tdiv (dD b):=by simp [dv]
  rw [e1,e2]
  generalize a.1[i].tdiv (dD a)=x
  generalize b.1[i].tdiv (dD b)=y
  by_cases h:x=y
  ·rw [if_pos h,sgn_zero.2 h]; rfl
  ·rw [if_neg h]
   unfold sgn
   by_cases h1:x < y
   ·rw [if_pos h1,if_pos h1]; rfl
   ·rw [if_neg h1,if_neg h1,if_pos (by omega)]; rfl
theorem Si_compareDirections_val {a b:Atm} (ha:atomB a=true) (hb:atomB b=true) (hl:a.1.length=b.1.length):Si_compareDirections a b=some ((wayB a b,()),()):=by
 rw [Si_compareDirections_eq,Si_directionDivisor_val ha,Si_directionDivisor_val hb]
 simp only [Option.bind_some]
 have:=Li_compareDirections_3_val ha hb hl a.1.length 0 (by omega)
 rw [Int.natCast_zero] at this
 rw [this]; rfl
theorem Ls_l2Way_4_val {a b:Atm} (ha:atomB a=true) (hb:atomB b=true) (hl:a.1.length=b.1.length):∀ (n i:Nat),n+i=a.1.length →
  Ls_l2Way_4 a b (dD a) (dD b) (i:Int)=some ((lexI ((dv a).drop i) ((dv b).drop i),()),())
 | 0,i,hn=>by
  obtain rfl:i=a.1.length:=by omega
  rw [Ls_l2Way_4_eq,lt_no]
  have e1:(dv a).drop a.1.length=[]:=List.drop_eq_nil_of_le (by rw [dv_len]; omega)
  rw [e1]; rfl
 | n+1,i,hn=>by
  have hi:i < a.1.length:=by omega
  have hi2:i < b.1.length:=by omega
  have na:=(atomB_spec ha).2.2 _ (List.getElem_mem hi)
  have nb:=(atomB_spec hb).2.2 _ (List.getElem_mem hi2)
  rw [Ls_l2Way_4_eq,lt_yes hi,lt_yes hi2,getI_ok hi,getI_ok hi2,dD_ne,dD_ne,wrap_succ (by have:=(atomB_spec ha).1; omega)]
  simp only [cond_true,Option.bind_some]
  rw [tdiv_wrap na,tdiv_wrap nb,Ls_l2Way_4_val ha hb hl n (i+1) (by omega),lexI_step (i:=i) (by rw [dv_len]; exact hi) (by rw [dv_len]; exact hi2)]
  have e1:(dv a)[i]'(by rw [dv_len]; exact hi)=a.1[i].tdiv (dD a):=by simp [dv]
  have e2:(dv b)[i]'(by rw [dv_len]; exact hi2)=b.1[i].tdiv (dD b):=by simp [dv]
  rw [e1,e2]
  generalize a.1[i].tdiv (dD a)=x
  generalize b.1[i].tdiv (dD b)=y
  by_cases h:x=y
  ·rw [if_pos h,h]; simp
  ·rw [if_neg h]
   have e:(x != y)=true:=by simpa using h
   rw [e,cond_true]
   by_cases h1:x < y
   ·rw [if_pos h1,decide_eq_true h1]; rfl
   ·rw [if_neg h1,decide_eq_false h1]; rfl
theorem Ss_l2Way_val {a b:Atm} (ha:atomB a=true) (hb:atomB b=true) (hl:a.1.length=b.1.length):Ss_l2Way a b=some ((wayB a b,()),()):=by
 rw [Ss_l2Way_eq,Ss_l2Steep_val ha,Ss_l2Steep_val hb]
 simp only [Option.bind_some]
 rw [max_dD,max_dD]
 have:=Ls_l2Way_4_val ha hb hl a.1.length 0 (by omega)
 rw [Int.natCast_zero] at this
 rw [this]; rfl
theorem mul_wrap {a b:Atm} (ha:atomB a=true) (hb:atomB b=true):IntKind.i64.wrap (a.2.1*dD b)=a.2.1*dD b:=by
 have h1:=numB_bd (atomB_spec ha).2.1
 have h2:=dD_pos b
 have h3:=dD_le hb
 exact wrap_prod (by omega) (by omega)
theorem Ss_l2Stronger_val {a b:Atm} (ha:atomB a=true) (hb:atomB b=true):Ss_l2Stronger a b=some ((!decide (strB a b < 0),()),()):=by
 rw [Ss_l2Stronger_eq,Ss_l2Steep_val ha,Ss_l2Steep_val hb]
 simp only [Option.bind_some]
 rw [max_dD,max_dD,mul_wrap ha hb,mul_wrap hb ha]
 have hs := @str_lt a b
 generalize a.2.1*dD b=x at *
 generalize b.2.1*dD a=y at *
 by_cases h1:x > y
 ·have:¬ strB a b < 0:=fun h=>by
   rcases hs.1 h with h | h <;> omega
  rw [decide_eq_true h1,decide_eq_false this]; rfl
 ·rw [decide_eq_false h1]
  by_cases h2:x=y
  ·subst h2
   simp only [cond_false,beq_self_eq_true,cond_true]
   cases h3:a.2.2
   ·cases h4:b.2.2
    ·have:¬ strB a b < 0:=fun h=>by
      rcases hs.1 h with h | h
      ·omega
      ·rw [h4] at h; exact absurd h.2.2 (by simp)
     rw [decide_eq_false this]; rfl
    ·have:strB a b < 0:=hs.2 (.inr ⟨rfl,h3,h4⟩)
     rw [decide_eq_true this]; rfl
   ·have:¬ strB a b < 0:=fun h=>by
     rcases hs.1 h with h | h
     ·omega
     ·rw [h3] at h; exact absurd h.2.1 (by simp)
    rw [decide_eq_false this]; rfl
  ·have e:(x == y)=false:=by simpa using h2
   have:strB a b < 0:=hs.2 (.inl (by omega))
   rw [e,decide_eq_true this]; rfl
theorem Si_CompareAtoms_val {a b:Atm} (ha:atomB a=true) (hb:atomB b=true) (hl:a.1.length=b.1.length):Si_CompareAtoms a b=some ((cmpB a b,()),()):=by
 have e0:((a.1.length:Int) != (b.1.length:Int))=false:=by rw [hl]; simp
 rw [Si_CompareAtoms_eq,Si_IsAtom_val,Si_IsAtom_val,ha,hb,e0,Si_compareDirections_val ha hb hl,Si_directionDivisor_val ha,Si_directionDivisor_val hb]
 simp only [Option.bind_some,Bool.not_true,cond_false]
 rw [mul_wrap ha hb,mul_wrap hb ha,Si_sign_val]
 simp only [Option.bind_some]
 unfold cmpB strB
 by_cases h:wayB a b=0
 ·rw [h]
  simp only [bne_self_eq_false,cond_false,ne_eq,not_true_eq_false,if_false]
  by_cases h2:sgn (a.2.1*dD b) (b.2.1*dD a)=0
  ·rw [h2]
   simp only [bne_self_eq_false,cond_false,not_true_eq_false,if_false]
   cases a.2.2 <;> cases b.2.2 <;> rfl
  ·have e:(sgn (a.2.1*dD b) (b.2.1*dD a) != 0)=true:=by simpa using h2
   rw [e,if_pos h2]; rfl
 ·have e:(wayB a b != 0)=true:=by simpa using h
  rw [e,if_pos h]; rfl
theorem sz8 {n:Nat} (h:n≤68719476736):decide ((0+n)*8≤140737488355328)=true:=by simp; omega
theorem szc {n c:Nat} (h:n≤68719476736) (hc:c≤1000):decide ((n+1)*c≤140737488355328)=true:=by
 have:=Nat.mul_le_mul (show n+1≤68719476737 by omega) hc
 simp; omega
theorem Ss_l3Atom_val (a:Atm) (h:a.1.length≤68719476736):Ss_l3Atom a=some ((a,()),()):=by
 rw [Ss_l3Atom_eq,sz8 h]; rfl
theorem Si_copyAtom_val (a:Atm) (h:a.1.length≤68719476736):Si_copyAtom a=some ((a,()),()):=by
 rw [Si_copyAtom_eq,Si_copyNumbers_eq,sz8 h]; rfl
theorem drop0 {α:Type} (l:List α):l.drop (Int.toNat 0)=l:=rfl
theorem ok1 {n m:Nat} (h1:n≤m) (h2:m≤1000000):(decide ((0:Nat)≤0) && decide (0≤(n:Int)) && decide ((n:Int)≤(m:Int)))=true:=by simp; omega
theorem ok2 {n m:Nat} (h1:n≤m):(decide (0≤(n:Int)) && decide ((n:Int)≤(m:Int)) && decide ((m:Int)≤(m:Int)))=true:=by simp; omega
theorem set_at {α:Type} {S:List α} {i:Nat} (hi:i < S.length) (a:α):S.set i a=S.take i++a::S.drop (i+1):=by
 rw [List.set_eq_take_append_cons_drop,if_pos hi]
theorem len40 {S:List Atm} (hS:S.length≤1000000) (i:Nat):decide ((0+(List.drop (Int.toNat 0) (S.take i)).length)*40≤140737488355328)=true∧decide (((List.drop (Int.toNat 0) (S.take i)).length+1)*40≤140737488355328)=true ∧
  ∀ a:Atm,decide (((List.drop (Int.toNat 0) (S.take i)++[a]).length+(S.drop i).length)*40≤140737488355328)=true:=by
 rw [drop0]
 refine ⟨?_,?_,fun a => ?_⟩ <;> simp only [List.length_append,List.length_take,List.length_drop,List.length_singleton,decide_eq_true_eq] <;> omega
theorem Ls_l3Put_2_val {n:Nat} {a:Atm} (ka:okA n a) {S:List Atm} (hV:∀ s∈S,okA n s) (hS:S.length≤1000000):∀ (m i:Nat),m+i=S.length →
  Ls_l3Put_2 S a (i:Int)=some ((S.take i++putB (S.drop i) a,()),())
 | 0,i,hm=>by
  obtain rfl:i=S.length:=by omega
  obtain ⟨l1,l2,l3⟩:=len40 hS S.length
  have l3:=l3 a
  rw [Ls_l3Put_2_eq,lt_no,Int.toNat_natCast]
  have et:S.take S.length=S:=List.take_of_length_le (Nat.le_refl _)
  simp only [cond_false,ok1 (Nat.le_refl _) hS,ok2 (Nat.le_refl S.length),et,cond_true] at l1 l2 l3 ⊢
  rw [l1,l2,l3,drop0]
  simp [putB]
 | m+1,i,hm=>by
  have hi:i < S.length:=by omega
  have ks:=hV _ (List.getElem_mem hi)
  have hl:S[i].1.length=a.1.length:=ks.2.1.trans ka.2.1.symm
  have hway:=Ss_l2Way_val ks.1 ka.1 hl
  have hstr:=Ss_l2Stronger_val ks.1 ka.1
  obtain ⟨l1,l2,l3⟩:=len40 hS i
  have l3:=l3 a
  have et:S.take S.length=S:=List.take_of_length_le (Nat.le_refl _)
  have l4:decide ((0+S.length)*40≤140737488355328)=true:=by simp; omega
  rw [Ls_l3Put_2_eq,lt_yes hi,getI_ok hi,wrap_succ (by omega),Int.toNat_natCast]
  simp only [cond_true,Option.bind_some,hway,hstr,ok1 (Nat.le_of_lt hi) hS,ok2 (Nat.le_of_lt hi),et,l1,l2,l3,l4]
  rw [List.drop_eq_getElem_cons hi]
  simp only [putB]
  by_cases w:wayB S[i] a < 0
  ·rw [decide_eq_true w,if_pos w,cond_true,Ls_l3Put_2_val ka hV hS m (i+1) (by omega)]
   have e:S.take (i+1)=S.take i++[S[i]]:=by rw [List.take_add_one,List.getElem?_eq_getElem hi]; rfl
   rw [e,List.append_assoc]; rfl
  ·rw [decide_eq_false w,if_neg w,cond_false]
   by_cases w0:wayB S[i] a=0
   ·have e:(wayB S[i] a == 0)=true:=by simpa using w0
    rw [e,if_pos w0,cond_true]
    by_cases st:strB S[i] a < 0
    ·rw [decide_eq_true st,if_pos st]
     simp only [Bool.not_true,cond_false]
     rw [set_at hi]
    ·rw [decide_eq_false st,if_neg st]
     simp only [Bool.not_false,cond_true]
     rw [← List.drop_eq_getElem_cons hi,List.take_append_drop]
   ·have e:(wayB S[i] a == 0)=false:=by simpa using w0
    rw [e,if_neg w0,cond_false,drop0]
    simp
theorem Ss_l3Put_val {n:Nat} {a:Atm} (ka:okA n a) {S:List Atm} (hV:∀ s∈S,okA n s) (hS:S.length≤1000000):Ss_l3Put S a=some ((putB S a,()),()):=by
 rw [Ss_l3Put_eq]
 have:=Ls_l3Put_2_val ka hV hS S.length 0 (by omega)
 rw [Int.natCast_zero] at this
 rw [this]; simp
theorem putB_len (a:Atm):∀ S:List Atm,(putB S a).length≤S.length+1
 | []=>by simp [putB]
 | s::S=>by
  have:=putB_len a S
  simp only [putB]
  split
  ·simp; omega
  ·split
   ·split <;> simp
   ·simp
theorem putB_ok {n:Nat} {a:Atm} (ka:okA n a) {S:List Atm} (hV:∀ s∈S,okA n s):∀ s∈putB S a,okA n s:=fun s hs=>by
 rcases putB_sub a S s hs with h | rfl
 ·exact hV s h
 ·exact ka
def badA (a:Atm):Bool:=gl a.1 0 == 0 && (decide (a.2.1 > 0) || (a.2.1 == 0 && a.2.2))
def varA (a:Atm):Bool:=gl a.1 0 != 0
def noneC (d:Int):Cel:=(d,[(List.replicate d.toNat (0:Int),1,false)])
def normB (d:Int) (l:List Atm):Cel:=bif l.any badA then noneC d else (d,(l.filter varA).foldl putB [])
def okV (n:Nat) (a:Atm):Prop:=atomB a=true∧a.1.length=n
theorem okA_of {n:Nat} {a:Atm} (h:okV n a) (hv:varA a=true):okA n a:=⟨h.1,h.2,by unfold varA at hv; simpa using hv⟩
theorem mk8 {d:Int} (h0:0≤d) (h1:d≤1000):(decide (0≤d) && decide (d≤d) && decide (d*8≤140737488355328) && decide (d≤9223372036854775807))=true:=by simp; omega
theorem Ss_l3None_val {d:Int} (h0:0≤d) (h1:d≤1000):Ss_l3None d=some ((noneC d,()),()):=by
 rw [Ss_l3None_eq,mk8 h0 h1]; rfl
theorem Si_emptyCell_val {d:Int} (h0:0≤d) (h1:d≤1000):Si_emptyCell d=some ((noneC d,()),()):=by
 rw [Si_emptyCell_eq,mk8 h0 h1]; rfl
theorem Ls_l3Normal_3_val {n:Nat} {d:Int} (h0:0≤d) (h1:d≤1000) {l:List Atm} (hV:∀ a∈l,okV n a) (hl:l.length≤1000) (z:Cel):∀ (m i:Nat) (S:List Atm),m+i=l.length→(∀ s∈S,okA n s)→S.length≤i →
  Ls_l3Normal_3 d l z (d,S) (i:Int)=some ((bif (l.drop i).any badA then noneC d else (d,((l.drop i).filter varA).foldl putB S),()),())
 | 0,i,S,hm,_,_=>by
  obtain rfl:i=l.length:=by omega
  rw [Ls_l3Normal_3_eq,lt_no,List.drop_eq_nil_of_le (Nat.le_refl _)]; rfl
 | m+1,i,S,hm,hS,hSl=>by
  have hi:i < l.length:=by omega
  have kv:=hV _ (List.getElem_mem hi)
  have h4:=(atomB_spec kv.1).1
  rw [Ls_l3Normal_3_eq,lt_yes hi,getI_ok hi,wrap_succ (by omega)]
  simp only [cond_true,Option.bind_some]
  rw [Ss_l2Constant_val _ (by omega),List.drop_eq_getElem_cons hi,List.any_cons,List.filter_cons]
  simp only [Option.bind_some]
  have ih:=fun S h1 h2=>Ls_l3Normal_3_val h0 h1 hV hl z m (i+1) S (by omega)
  cases hg:gl l[i].1 0 == 0
  ·have hv:varA l[i]=true:=by unfold varA bne; rw [hg]; rfl
   have hb:badA l[i]=false:=by unfold badA; rw [hg]; rfl
   have ka:=okA_of kv hv
   rw [hv,hb,cond_false,Ss_l3Atom_val _ (by omega)]
   simp only [Option.bind_some]
   rw [Ss_l3Put_val ka hS (by omega)]
   simp only [Option.bind_some]
   have:=Ls_l3Normal_3_val h0 h1 hV hl z m (i+1) (putB S l[i]) (by omega) (putB_ok ka hS) (by have:=putB_len l[i] S; omega)
   rw [this]; rfl
  ·have hv:varA l[i]=false:=by unfold varA bne; rw [hg]; rfl
   rw [hv,cond_true,Ss_l2Truth_eq]
   have e1:badA l[i]=(decide (l[i].2.1 > 0) || (l[i].2.1 == 0 && l[i].2.2)):=by unfold badA; rw [hg]; rfl
   rw [e1]
   have:=Ls_l3Normal_3_val h0 h1 hV hl z m (i+1) S (by omega) hS (by omega)
   by_cases c1:l[i].2.1 < 0
   ·have c2:¬ l[i].2.1 > 0:=by omega
    have c3:(l[i].2.1 == 0)=false:=by simp; omega
    rw [decide_eq_true c1,decide_eq_false c2,c3]
    simp only [cond_true,Option.bind_some,Bool.not_true,cond_false,Bool.false_and,Bool.or_self,Bool.false_or]
    rw [this]; rfl
   ·rw [decide_eq_false c1]
    by_cases c3:l[i].2.1=0
    ·have c4:(l[i].2.1 == 0)=true:=by simpa using c3
     have c2:¬ l[i].2.1 > 0:=by omega
     rw [decide_eq_false c2,c4]
     cases l[i].2.2
     ·simp only [cond_false,cond_true,Option.bind_some,Bool.not_true,Bool.not_false,Bool.and_false,Bool.or_self,Bool.false_or]
      rw [this]; rfl
     ·simp only [cond_false,cond_true,Option.bind_some,Bool.not_true,Bool.not_false,Bool.and_true,Bool.or_true,Bool.true_or]
      rw [Ss_l3None_val h0 h1]; rfl
    ·have c4:(l[i].2.1 == 0)=false:=by simpa using c3
     have c2:l[i].2.1 > 0:=by omega
     rw [decide_eq_true c2,c4]
     simp only [cond_false,cond_true,Option.bind_some,Bool.not_false,Bool.true_or]
     rw [Ss_l3None_val h0 h1]; rfl
theorem Ss_l3Normal_val {n:Nat} {d:Int} (h0:0≤d) (h1:d≤1000) {l:List Atm} (hV:∀ a∈l,okV n a) (hl:l.length≤1000):Ss_l3Normal d l=some ((normB d l,()),()):=by
 rw [Ss_l3Normal_eq]
 have:=Ls_l3Normal_3_val h0 h1 hV hl (0,[]) l.length 0 [] (by omega) (by simp) (by simp)
 rw [Int.natCast_zero] at this
 rw [this]; rfl
abbrev uAtm:Ty := .pair ty59 (.pair ty3 ty4)
theorem cmpOf_val {n:Nat} {a b:Atm} (ha:okV n a) (hb:okV n b):semslices__SortFunc_loop_example_g03413_impl_Atom_loop_example_g03413_impl_Atom (a,(b,()))=some ((cmpOf uAtm semslices__SortFunc_loop_example_g03413_impl_Atom_loop_example_g03413_impl_Atom a b,()),()) ∧
  cmpOf uAtm semslices__SortFunc_loop_example_g03413_impl_Atom_loop_example_g03413_impl_Atom a b=cmpB a b:=by
 have h:semslices__SortFunc_loop_example_g03413_impl_Atom_loop_example_g03413_impl_Atom (a,(b,()))=some ((cmpB a b,()),()):=Si_CompareAtoms_val ha.1 hb.1 (ha.2.trans hb.2.symm)
 have e:cmpOf uAtm semslices__SortFunc_loop_example_g03413_impl_Atom_loop_example_g03413_impl_Atom a b=cmpB a b:=by
  unfold cmpOf
  rw [h]
 exact ⟨by rw [e]; exact h,e⟩
theorem ord_to {α:Type} {V:α→Prop} {cf cg:α→α→Int} (h:OrdOn V cf) {W:α→Prop} (hW:∀ x,W x→V x) (he:∀ x y,W x→W y→cg x y=cf x y):OrdOn W cg:=by
 refine ⟨fun x hx => ?_,fun x y z hx hy hz h1 h2 => ?_,fun x y z hx hy hz h1 h2 => ?_,fun x y hx hy h1 h2 => ?_⟩
 ·rw [he x x hx hx]; exact h.irrefl x (hW x hx)
 ·rw [he _ _ hx hy] at h1
  rw [he _ _ hy hz] at h2
  rw [he _ _ hx hz]
  exact h.trans x y z (hW _ hx) (hW _ hy) (hW _ hz) h1 h2
 ·rw [he _ _ hx hy] at h1
  rw [he _ _ hy hz] at h2
  rw [he _ _ hx hz]
  exact h.ntrans x y z (hW _ hx) (hW _ hy) (hW _ hz) h1 h2
 ·rw [he _ _ hx hy] at h1
  rw [he _ _ hy hx] at h2
  exact h.anti x y (hW _ hx) (hW _ hy) h1 h2
theorem sort_val {n:Nat} {K:List Atm} (hV:∀ a∈K,okA n a) (hl:K.length≤1000000) :
  Sslices__SortFunc_loop_example_g03413_impl_Atom_loop_example_g03413_impl_Atom K (Value.func (Fn.func 102) #[] #[])=some ((),sortBy cmpB K,()):=by
 have hv:∀ a∈K,okV n a:=fun a ha=>⟨(hV a ha).1,(hV a ha).2.1⟩
 have hO:OrdOn (fun a=>a∈K) (cmpOf uAtm semslices__SortFunc_loop_example_g03413_impl_Atom_loop_example_g03413_impl_Atom) :=
  ord_to (@ordA n) (fun a ha=>hV a ha) (fun x y hx hy=>(cmpOf_val (hv x hx) (hv y hy)).2)
 have hs:sortBy cmpB K=sortBy (cmpOf uAtm semslices__SortFunc_loop_example_g03413_impl_Atom_loop_example_g03413_impl_Atom) K:=by
  have hp:=sortBy_perm cmpB K
  refine sortBy_unique hO (fun a ha=>ha) hp ?_
  have:=sortBy_pairwise (@ordA n) hV
  refine List.Pairwise.imp_of_mem (fun {a b} ha hb h => ?_) this
  rw [(cmpOf_val (hv b (hp.mem_iff.1 hb)) (hv a (hp.mem_iff.1 ha))).2]
  exact h
 show sortSem 85 uAtm 2 102 _ (K,(Value.func (Fn.func 102) #[] #[],()))=_
 unfold sortSem
 rw [if_pos ⟨rfl,⟨fun a ha b hb=>(cmpOf_val (hv a ha) (hv b hb)).1,hO⟩,Nat.lt_of_le_of_lt hl (by decide)⟩]
 rw [hs]; rfl
theorem Li_normalOf_13_val {n:Nat} {d:Int} {K:List Atm} (hV:∀ a∈K,okA n a) (hl:K.length≤1000) (z:Cel):∀ (m i:Nat) (out:List Atm),m+i=K.length→out.length≤i →
  Li_normalOf_13 z ((i:Int),K) (d,out) (K.length:Int) (i:Int)=some (((d,out++lastR (K.drop i)),()),())
 | 0,i,out,hm,_=>by
  obtain rfl:i=K.length:=by omega
  rw [Li_normalOf_13_eq]
  dsimp only
  rw [lt_no,List.drop_eq_nil_of_le (Nat.le_refl _),cond_false]
  simp [lastR]
 | m+1,i,out,hm,ho=>by
  have hi:i < K.length:=by omega
  have k1:=hV _ (List.getElem_mem hi)
  have ei:((i:Int)+1)=((i+1:Nat):Int):=by omega
  have dd:(V.dead.idle && decide ((i:Int)≤(i:Int)))=true:=by simp [V.idle,V.owns]
  have sz:decide ((out.length+1)*40≤140737488355328)=true:=szc (by omega) (by omega)
  rw [Li_normalOf_13_eq]
  dsimp only
  rw [lt_yes hi,getI_ok hi,dd,wrap_succ (by omega),sz,ei]
  simp only [cond_true,Option.bind_some]
  have ih:=fun out h=>Li_normalOf_13_val (d:=d) hV hl z m (i+1) out (by omega) h
  by_cases h2:i+1 < K.length
  ·have k2:=hV _ (List.getElem_mem h2)
   have e2:decide (((i+1:Nat):Int)≤((i+1:Nat):Int))=true:=by simp
   rw [lt_yes h2,getI_ok h2,e2]
   simp only [cond_true,Option.bind_some]
   rw [Si_compareDirections_val k1.1 k2.1 (k1.2.1.trans k2.2.1.symm)]
   simp only [Option.bind_some]
   rw [List.drop_eq_getElem_cons hi,List.drop_eq_getElem_cons h2]
   simp only [lastR]
   rw [← List.drop_eq_getElem_cons h2]
   by_cases w:wayB K[i] K[i+1]=0
   ·have e:(wayB K[i] K[i+1] == 0)=true:=by simpa using w
    rw [e,if_pos w,cond_true,ih out (by omega)]
   ·have e:(wayB K[i] K[i+1] == 0)=false:=by simpa using w
    rw [e,if_neg w,cond_false,ih (out++[K[i]]) (by simp; omega),List.append_assoc]; rfl
  ·have hz:i+1=K.length:=by omega
   have e2:decide (((i+1:Nat):Int) < (K.length:Int))=false:=by simp; omega
   rw [e2,cond_false,ih (out++[K[i]]) (by simp; omega),List.drop_eq_getElem_cons hi,List.drop_eq_nil_of_le (by omega)]
   simp [lastR]
def normI (d:Int) (l:List Atm):Cel:=bif l.any badA then noneC d else (d,lastR (sortBy cmpB (l.filter varA)))
theorem Li_normalOf_3_val {n:Nat} {d:Int} (h0:0≤d) (h1:d≤1000) {l:List Atm} (hV:∀ a∈l,okV n a) (hl:l.length≤1000) (z:Cel):∀ (m i:Nat) (K:List Atm),m+i=l.length→(∀ s∈K,okA n s)→K.length≤i →
  Li_normalOf_3 d l z K l (l.length:Int) (i:Int)=some ((bif (l.drop i).any badA then noneC d else (d,lastR (sortBy cmpB (K++(l.drop i).filter varA))),()),())
 | 0,i,K,hm,hK,hKl=>by
  obtain rfl:i=l.length:=by omega
  rw [Li_normalOf_3_eq,lt_no,List.drop_eq_nil_of_le (Nat.le_refl _),cond_false,sort_val hK (by omega)]
  simp only [Option.bind_some,List.any_nil,cond_false,List.filter_nil,List.append_nil]
  have hp:=sortBy_perm cmpB K
  have:=Li_normalOf_13_val (d:=d) (K:=sortBy cmpB K) (fun a ha=>hK a (hp.mem_iff.1 ha)) (by rw [hp.length_eq]; omega) z (sortBy cmpB K).length 0 [] (by omega) (by simp)
  rw [Int.natCast_zero] at this
  rw [this]; simp
 | m+1,i,K,hm,hK,hKl=>by
  have hi:i < l.length:=by omega
  have kv:=hV _ (List.getElem_mem hi)
  have h4:=(atomB_spec kv.1).1
  rw [Li_normalOf_3_eq,lt_yes hi,getI_ok hi,wrap_succ (by omega)]
  simp only [cond_true,Option.bind_some]
  rw [Si_hasVariables_val kv.1,List.drop_eq_getElem_cons hi,List.any_cons,List.filter_cons]
  simp only [Option.bind_some]
  cases hg:gl l[i].1 0 == 0
  ·have hv:varA l[i]=true:=by unfold varA bne; rw [hg]; rfl
   have hv2:(gl l[i].1 0 != 0)=true:=hv
   have hb:badA l[i]=false:=by unfold badA; rw [hg]; rfl
   have ka:=okA_of kv hv
   rw [hv,hv2,hb,Bool.not_true,cond_false,Si_copyAtom_val _ (by omega)]
   simp only [Option.bind_some]
   rw [szc (by omega) (by omega),cond_true]
   have:=Li_normalOf_3_val h0 h1 hV hl z m (i+1) (K++[l[i]]) (by omega) (fun s hs=>by
    rcases List.mem_append.1 hs with h | h
    ·exact hK s h
    ·rw [List.mem_singleton.1 h]; exact ka) (by simp; omega)
   rw [this]
   simp
  ·have hv:varA l[i]=false:=by unfold varA bne; rw [hg]; rfl
   have hv2:(gl l[i].1 0 != 0)=false:=hv
   rw [hv,hv2,Bool.not_false,cond_true]
   have e1:badA l[i]=(decide (l[i].2.1 > 0) || (l[i].2.1 == 0 && l[i].2.2)):=by unfold badA; rw [hg]; rfl
   rw [e1]
   have:=Li_normalOf_3_val h0 h1 hV hl z m (i+1) K (by omega) hK (by omega)
   cases c1:decide (l[i].2.1 > 0)
   ·cases c2:l[i].2.1 == 0
    ·simp only [cond_false,Bool.false_and,Bool.or_self,Bool.false_or]
     rw [this]; rfl
    ·cases c3:l[i].2.2
     ·simp only [cond_false,cond_true,Bool.and_false,Bool.or_self,Bool.false_or]
      rw [this]; rfl
     ·simp only [cond_false,cond_true,Bool.and_true,Bool.or_true,Bool.true_or]
      rw [Si_emptyCell_val h0 h1]; rfl
   ·simp only [cond_true,Bool.true_or]
    rw [Si_emptyCell_val h0 h1]; rfl
theorem Si_normalOf_val {n:Nat} {d:Int} (h0:0≤d) (h1:d≤1000) {l:List Atm} (hV:∀ a∈l,okV n a) (hl:l.length≤1000):Si_normalOf d l=some ((normI d l,()),()):=by
 rw [Si_normalOf_eq]
 have:=Li_normalOf_3_val h0 h1 hV hl (0,[]) l.length 0 [] (by omega) (by simp) (by simp)
 rw [Int.natCast_zero] at this
 rw [this]; rfl
theorem norm_eq {n:Nat} {d:Int} {l l':List Atm} (hV:∀ a∈l,okV n a) (hm:∀ a,a∈l↔a∈l'):normI d l=normB d l':=by
 have e1:l.any badA=l'.any badA:=by
  rw [Bool.eq_iff_iff,List.any_eq_true,List.any_eq_true]
  exact ⟨fun ⟨x,hx,h⟩=>⟨x,(hm x).1 hx,h⟩,fun ⟨x,hx,h⟩=>⟨x,(hm x).2 hx,h⟩⟩
 have e2:lastR (sortBy cmpB (l.filter varA))=(l'.filter varA).foldl putB []:=norm_same (n:=n) (fun a ha=>okA_of (hV a (List.mem_filter.1 ha).1) (List.mem_filter.1 ha).2) (fun a=>by
  rw [List.mem_filter,List.mem_filter,hm a])
 unfold normI normB
 rw [e1,e2]
theorem gcd_bd {g:Nat} {y:Int} (hg:g≤4000000000000000000) (hy:y.natAbs≤4000000000000000000):Nat.gcd g y.natAbs≤4000000000000000000:=by
 by_cases h0:g=0
 ·subst h0
  rw [Nat.gcd_zero_left]; exact hy
 ·exact Nat.le_trans (Nat.gcd_le_left _ (Nat.pos_of_ne_zero h0)) hg
theorem gl_bd:∀ (x:List Int) (g:Nat),(∀ y∈x,y.natAbs≤4000000000000000000)→g≤4000000000000000000→gl x g≤4000000000000000000
 | [],g,_,hg=>hg
 | a::x,g,h,hg=>gl_bd x (Nat.gcd g a.natAbs) (fun y hy=>h y (List.mem_cons_of_mem _ hy)) (gcd_bd hg (h a (by simp)))
theorem Ls_l2Gcd_3_big (x:List Int) (hl:x.length≤68719476736) (hx:∀ y∈x,y.natAbs≤4000000000000000000):∀ (n i g:Nat),n+i=x.length→Ls_l2Gcd_3 x (g:Int) (i:Int)=some ((((gl (x.drop i) g:Nat):Int),()),())
 | 0,i,g,hn=>by
  obtain rfl:i=x.length:=by omega
  rw [Ls_l2Gcd_3_eq,lt_no,List.drop_eq_nil_of_le (by omega)]
  rfl
 | n+1,i,g,hn=>by
  have hi:i < x.length:=by omega
  rw [Ls_l2Gcd_3_eq,lt_yes hi,getI_ok hi,cond_true,Option.bind_some,abs124 (hx _ (List.getElem_mem hi)),Option.bind_some,Ls_l2Gcd_6_val x i _ _ _ (Nat.le_refl _) (Int.natCast_nonneg _) (Int.natCast_nonneg _),wrap_succ (by omega),Ls_l2Gcd_3_big x hl hx n (i+1) _ (by omega),List.drop_eq_getElem_cons hi]
  simp only [Int.natAbs_natCast]
  rfl
theorem Ss_l2Gcd_big (x:List Int) (k:Int) (hl:x.length≤68719476736) (hx:∀ y∈x,y.natAbs≤4000000000000000000) (hk:k.natAbs≤4000000000000000000):Ss_l2Gcd x k=some ((((gl x k.natAbs:Nat):Int),()),()):=by
 rw [Ss_l2Gcd_eq,abs124 hk,Option.bind_some]
 have:=Ls_l2Gcd_3_big x hl hx x.length 0 k.natAbs (by omega)
 simpa using this
theorem Li_divisorOf_3_big (x:List Int) (hl:x.length≤68719476736) (hx:∀ y∈x,y.natAbs≤4000000000000000000):∀ (n i g:Nat),n+i=x.length→g≤4000000000000000000→Li_divisorOf_3 x (g:Int) x (x.length:Int) (i:Int)=some ((((gl (x.drop i) g:Nat):Int),()),())
 | 0,i,g,hn,_=>by
  obtain rfl:i=x.length:=by omega
  rw [Li_divisorOf_3_eq,lt_no,List.drop_eq_nil_of_le (by omega)]
  rfl
 | n+1,i,g,hn,hg=>by
  have hi:i < x.length:=by omega
  have hy:=hx _ (List.getElem_mem hi)
  rw [Li_divisorOf_3_eq,lt_yes hi,getI_ok hi,cond_true,Option.bind_some,Si_commonDivisor_big (by simpa using hg) hy,Option.bind_some,wrap_succ (by omega)]
  simp only [Int.natAbs_natCast]
  rw [Li_divisorOf_3_big x hl hx n (i+1) _ (by omega) (gcd_bd hg hy),List.drop_eq_getElem_cons hi]
  rfl
theorem Si_divisorOf_big (x:List Int) (hl:x.length≤68719476736) (hx:∀ y∈x,y.natAbs≤4000000000000000000):Si_divisorOf x=some ((((gl x 0:Nat):Int),()),()):=by
 rw [Si_divisorOf_eq]
 have:=Li_divisorOf_3_big x hl hx x.length 0 0 (by omega) (by omega)
 simpa using this
def oneG (g:Nat):Int:=if g=0 then 1 else (g:Int)
def mkB (x:List Int) (k:Int) (st:Bool):Atm×Bool :=
 bif atomB (x.map (fun y=>y.tdiv (oneG (gl x k.natAbs))),k.tdiv (oneG (gl x k.natAbs)),st) then ((x.map (fun y=>y.tdiv (oneG (gl x k.natAbs))),k.tdiv (oneG (gl x k.natAbs)),st),true) else (([],0,false),false)
theorem oneG_ne (g:Nat):(oneG g != 0)=true:=by
 unfold oneG
 split
 ·rfl
 ·simp; omega
theorem max_oneG (g:Nat):(bif true then if 1 < (g:Int) then (g:Int) else 1 else if (g:Int) < 1 then (g:Int) else 1)=oneG g:=by
 simp only [cond_true]
 unfold oneG
 by_cases h:g=0
 ·rw [if_pos h,h]; rfl
 ·rw [if_neg h]
  by_cases h2:1 < (g:Int)
  ·rw [if_pos h2]
  ·rw [if_neg h2]; omega
theorem tdiv_wrap2 {y D:Int} (h:y.natAbs≤4000000000000000000):IntKind.i64.wrap (y.tdiv D)=y.tdiv D:=by
 have h2:(y.tdiv D).natAbs≤y.natAbs:=tdiv_le y D
 exact wrap_id (by omega) (by omega)
theorem fill_loop {α β R:Type} (x:List α) (g:α→β) (E:List β→Option R) (f:List β→Int→Option R)
  (h1:∀ (i:Nat) (hi:i < x.length) (v:List β),v.length=x.length→f v (i:Int)=f (v.set i (g x[i])) ((i+1:Nat):Int)) (h2:∀ v,v.length=x.length→f v (x.length:Int)=E v) :
  ∀ (n i:Nat) (v:List β),n+i=x.length→v.length=x.length→f v (i:Int)=E (v.take i++(x.drop i).map g)
 | 0,i,v,hn,hv=>by
  obtain rfl:i=x.length:=by omega
  rw [h2 v hv,List.take_of_length_le (by omega),List.drop_eq_nil_of_le (by omega)]; simp
 | n+1,i,v,hn,hv=>by
  have hi:i < x.length:=by omega
  rw [h1 i hi v hv,fill_loop x g E f h1 h2 n (i+1) _ (by omega) (by simpa using hv)]
  congr 1
  have e1:(v.set i (g x[i])).take (i+1)=v.take i++[g x[i]]:=by
   rw [List.take_add_one,List.take_set_of_le (by omega)]
   simp [hv,hi]
  rw [e1,List.append_assoc,List.drop_eq_getElem_cons hi,List.map_cons]; rfl
theorem fill0 {α β R:Type} (x:List α) (g:α→β) (E:List β→Option R) (f:List β→Int→Option R)
  (h1:∀ (i:Nat) (hi:i < x.length) (v:List β),v.length=x.length→f v (i:Int)=f (v.set i (g x[i])) ((i+1:Nat):Int)) (h2:∀ v,v.length=x.length→f v (x.length:Int)=E v) (v:List β) (hv:v.length=x.length):f v 0=E (x.map g):=by
 have:=fill_loop x g E f h1 h2 x.length 0 v (by omega) hv
 rw [Int.natCast_zero] at this
 rw [this]; simp
theorem app0 {α β R:Type} (x:List α) (g:α→β) (E:List β→Option R) (f:List β→Int→Option R)
  (h1:∀ (i:Nat) (hi:i < x.length) (o:List β),o.length=i→f o (i:Int)=f (o++[g x[i]]) ((i+1:Nat):Int)) (h2:∀ o,f o (x.length:Int)=E o):f [] 0=E (x.map g):=by
 have key:∀ (n i:Nat) (o:List β),n+i=x.length→o.length=i→f o (i:Int)=E (o++(x.drop i).map g):=by
  intro n
  induction n with
  | zero =>
   intro i o hn ho
   obtain rfl:i=x.length:=by omega
   rw [h2,List.drop_eq_nil_of_le (by omega)]; simp
  | succ n ih =>
   intro i o hn ho
   have hi:i < x.length:=by omega
   rw [h1 i hi o ho,ih (i+1) _ (by omega) (by simp; omega),List.drop_eq_getElem_cons hi,List.map_cons,List.append_assoc]; rfl
 have:=key x.length 0 [] (by omega) rfl
 rw [Int.natCast_zero] at this
 rw [this]; simp
theorem Si_makeOf_val {x:List Int} {k:Int} {st:Bool} (hl:x.length≤1000) (hx:∀ y∈x,y.natAbs≤4000000000000000000) (hk:k.natAbs≤4000000000000000000):Si_makeOf x k st=some (((mkB x k st).1,(mkB x k st).2,()),()):=by
 have hg:=gl_bd x 0 hx (by omega)
 have hmk:=mk_ok (R:=Option ((Atm×Bool×PUnit)×PUnit)) x 8 (by omega) (by omega) (by omega)
 have loop:∀ D:Int,(D != 0)=true→Li_makeOf_6 x ([],0,false) D (List.replicate x.length (0:Int),k.tdiv D,st) x (x.length:Int) 0=(bif atomB (x.map (fun y=>y.tdiv D),k.tdiv D,st) then some (((x.map (fun y=>y.tdiv D),k.tdiv D,st),true,()),()) else some ((([],0,false),false,()),())):=by
  intro D hD
  refine fill0 x (fun y=>y.tdiv D) (fun v=>(bif atomB (v,k.tdiv D,st) then some (((v,k.tdiv D,st),true,()),()) else some ((([],0,false),false,()),()))) (fun v i=>Li_makeOf_6 x ([],0,false) D (v,k.tdiv D,st) x (x.length:Int) i) (fun i hi v hv => ?_) (fun v hv => ?_) _ (by simp)
  ·rw [Li_makeOf_6_eq,lt_yes hi,getI_ok hi,wrap_succ (by omega),hD]
   simp only [cond_true,Option.bind_some]
   rw [getI_ok (by omega),tdiv_wrap2 (hx _ (List.getElem_mem hi)),Int.toNat_natCast]
   simp only [Option.bind_some]
  ·rw [Li_makeOf_6_eq,lt_no,cond_false,Si_IsAtom_val]
   simp only [Option.bind_some]
   cases atomB (v,k.tdiv D,st) <;> rfl
 rw [Si_makeOf_eq,Si_divisorOf_big x (by omega) hx]
 simp only [Option.bind_some]
 rw [Si_commonDivisor_big (by simpa using hg) hk]
 simp only [Option.bind_some,Int.natAbs_natCast]
 rw [← gl_is]
 unfold mkB
 by_cases h0:gl x k.natAbs=0
 ·have e:oneG (gl x k.natAbs)=1:=by unfold oneG; rw [if_pos h0]
  rw [e,h0]
  have e2:(((0:Nat):Int) == 0)=true:=rfl
  rw [e2,cond_true,hmk,tdiv_wrap2 hk,loop 1 rfl]
  cases atomB (x.map (fun y=>y.tdiv 1),k.tdiv 1,st) <;> rfl
 ·have e:oneG (gl x k.natAbs)=((gl x k.natAbs:Nat):Int):=by unfold oneG; rw [if_neg h0]
  have e2:(((gl x k.natAbs:Nat):Int) == 0)=false:=by simpa using h0
  have e3:(((gl x k.natAbs:Nat):Int) != 0)=true:=by simpa using h0
  rw [e,e2,cond_false,hmk,e3,cond_true,tdiv_wrap2 hk,loop _ e3]
  cases atomB (x.map (fun y=>y.tdiv ((gl x k.natAbs:Nat):Int)),k.tdiv ((gl x k.natAbs:Nat):Int),st) <;> rfl
theorem Ss_l2Atom_val {x:List Int} {k:Int} {st:Bool} (hl:x.length≤1000) (hx:∀ y∈x,y.natAbs≤4000000000000000000) (hk:k.natAbs≤4000000000000000000):Ss_l2Atom x k st=some (((mkB x k st).1,(mkB x k st).2,()),()):=by
 have loop:∀ D:Int,(D != 0)=true→Ls_l2Atom_4 x ([],0,false) D ([],k.tdiv D,st) 0=(bif atomB (x.map (fun y=>y.tdiv D),k.tdiv D,st) then some (((x.map (fun y=>y.tdiv D),k.tdiv D,st),true,()),()) else some ((([],0,false),false,()),())):=by
  intro D hD
  refine app0 x (fun y=>y.tdiv D) (fun v=>(bif atomB (v,k.tdiv D,st) then some (((v,k.tdiv D,st),true,()),()) else some ((([],0,false),false,()),()))) (fun v i=>Ls_l2Atom_4 x ([],0,false) D (v,k.tdiv D,st) i) (fun i hi v hv => ?_) (fun v => ?_)
  ·have hs:decide ((v.length+1)*8≤140737488355328)=true:=szc (by omega) (by omega)
   rw [Ls_l2Atom_4_eq,lt_yes hi,getI_ok hi,wrap_succ (by omega),hD]
   simp only [cond_true,Option.bind_some]
   rw [hs,cond_true,tdiv_wrap2 (hx _ (List.getElem_mem hi))]
  ·rw [Ls_l2Atom_4_eq,lt_no,cond_false,Ss_IsAtom_val]
   simp only [Option.bind_some]
   cases atomB (v,k.tdiv D,st) <;> rfl
 rw [Ss_l2Atom_eq,Ss_l2Gcd_big x k (by omega) hx hk]
 simp only [Option.bind_some]
 rw [max_oneG,oneG_ne,cond_true,tdiv_wrap2 hk,loop _ (oneG_ne _)]
 unfold mkB
 cases atomB _ <;> rfl
theorem mkB_ok {x:List Int} {k:Int} {st:Bool} (h:(mkB x k st).2=true):okV x.length (mkB x k st).1:=by
 unfold mkB at *
 cases ha:atomB (x.map (fun y=>y.tdiv (oneG (gl x k.natAbs))),k.tdiv (oneG (gl x k.natAbs)),st)
 ·rw [ha] at h; cases h
 ·exact ⟨ha,by simp⟩
def coefL (L:Lin) (v:Nat) (s:Int):List Int:=bif v == 1 then [(0 - s)*L.1.1*L.2.2,s*L.1.2*L.2.2,0] else [(0 - s)*L.1.1*L.2.2,0,s*L.1.2*L.2.2]
def konL (L:Lin) (s:Int):Int:=(0 - s)*L.2.1*L.1.2
def atomL (L:Lin) (v:Nat) (s:Int):Atm×Bool:=mkB (coefL L v s) (konL L s) false
theorem linOk_bd {L:Lin} (h:linOk L=true):L.1.1.natAbs≤400000000∧L.1.2.natAbs≤400000000∧L.2.1.natAbs≤400000000∧L.2.2.natAbs≤400000000:=by
 unfold linOk at h
 simp only [Bool.and_eq_true] at h
 have h1:=rat_bd h.1
 have h2:=rat_bd h.2
 exact ⟨h1.1,h1.2.1,h2.1,h2.2.1⟩
theorem sgn_mul {s a:Int} (hs:s=1∨s = -1) (ha:a.natAbs≤400000000):(s*a).natAbs≤400000000∧IntKind.i64.wrap (s*a)=s*a:=by
 have:(s*a).natAbs≤400000000:=by
  rcases hs with rfl | rfl
  ·simpa using ha
  ·simpa using ha
 exact ⟨this,wrap_id (by omega) (by omega)⟩
theorem three {s a b:Int} (hs:s=1∨s = -1) (ha:a.natAbs≤400000000) (hb:b.natAbs≤400000000):(s*a*b).natAbs≤160000000000000000∧IntKind.i64.wrap (IntKind.i64.wrap (s*a)*b)=s*a*b:=by
 obtain ⟨h1,h2⟩:=sgn_mul hs ha
 rw [h2]
 exact ⟨prod_bd h1 hb,wrap_prod h1 hb⟩
theorem neg1 {s:Int} (hs:s=1∨s = -1):(0 - s=1∨0 - s = -1)∧IntKind.i64.wrap (0 - s)=0 - s:=by
 rcases hs with rfl | rfl <;> exact ⟨by omega,by decide⟩
theorem coefL_bd {L:Lin} {v:Nat} {s:Int} (hs:s=1∨s = -1) (hL:linOk L=true):(coefL L v s).length=3∧(∀ y∈coefL L v s,y.natAbs≤4000000000000000000)∧(konL L s).natAbs≤4000000000000000000:=by
 obtain ⟨b1,b2,b3,b4⟩:=linOk_bd hL
 have t1:=(three (neg1 hs).1 b1 b4).1
 have t2:=(three hs b2 b4).1
 have t3:=(three (neg1 hs).1 b3 b2).1
 refine ⟨by unfold coefL; cases v == 1 <;> rfl,fun y hy => ?_,by unfold konL; omega⟩
 unfold coefL at hy
 cases hv:v == 1
 ·rw [hv] at hy
  simp only [cond_false,List.mem_cons,List.not_mem_nil,or_false] at hy
  rcases hy with rfl | rfl | rfl <;> first | omega | simp
 ·rw [hv] at hy
  simp only [cond_true,List.mem_cons,List.not_mem_nil,or_false] at hy
  rcases hy with rfl | rfl | rfl <;> first | omega | simp
theorem Si_make_at {L:Lin} {v:Nat} {s:Int} (hs:s=1∨s = -1) (hL:linOk L=true):Si_makeOf (coefL L v s) (konL L s) false=some (((atomL L v s).1,(atomL L v s).2,()),()):=by
 obtain ⟨h1,h2,h3⟩:=coefL_bd (v:=v) hs hL
 exact Si_makeOf_val (by rw [h1]; omega) h2 h3
theorem Ss_make_at {L:Lin} {v:Nat} {s:Int} (hs:s=1∨s = -1) (hL:linOk L=true):Ss_l2Atom (coefL L v s) (konL L s) false=some (((atomL L v s).1,(atomL L v s).2,()),()):=by
 obtain ⟨h1,h2,h3⟩:=coefL_bd (v:=v) hs hL
 exact Ss_l2Atom_val (by rw [h1]; omega) h2 h3
theorem atomL_ok {L:Lin} {v:Nat} {s:Int} (hs:s=1∨s = -1) (hL:linOk L=true) (h:(atomL L v s).2=true):okV 3 (atomL L v s).1:=by
 have:=mkB_ok h
 rwa [(coefL_bd (v:=v) hs hL).1] at this
def lineI (L:Lin) (v:Nat):List Atm×Bool:=bif (atomL L v 1).2 && (atomL L v (-1)).2 then ([(atomL L v 1).1,(atomL L v (-1)).1],true) else ([],false)
theorem r3:List.replicate (Int.toNat 3) (0:Int)=[0,0,0]:=rfl
theorem g3:getI [(0:Int),0,0] 0=some 0:=rfl
theorem s3 (x:Int):[(0:Int),0,0].set (Int.toNat 0) x=[x,0,0]:=rfl
theorem Si_onLine_step {L:Lin} {v:Nat} (hv:v=1∨v=2) (hL:linOk L=true) (o:List Atm) (ho:o.length≤10) (i:Nat) (hi:i < 2):Li_onLine_3 (v:Int) L o [1,-1] 2 (i:Int) =
  bif !(atomL L v ([1,-1][i]'hi)).2 then some (([],false,()),()) else Li_onLine_3 (v:Int) L (o++[(atomL L v ([1,-1][i]'hi)).1]) [1,-1] 2 ((i+1:Nat):Int):=by
 have hs:([1,-1][i]'hi:Int)=1∨([1,-1][i]'hi:Int) = -1:=by
  match i,hi with
  | 0,_=>exact .inl rfl
  | 1,_=>exact .inr rfl
 obtain ⟨b1,b2,b3,b4⟩:=linOk_bd hL
 obtain ⟨n1,n2⟩:=neg1 hs
 have e1:=(three n1 b1 b4).2
 have e2:=(three hs b2 b4).2
 have e3:=(three n1 b3 b2).2
 have hg:getI [(1:Int),-1] (i:Int)=some ([1,-1][i]'hi):=getI_ok (xs:=[(1:Int),-1]) hi
 have hlt:decide ((i:Int) < 2)=true:=by simp; omega
 have hsz:decide ((o.length+1)*40≤140737488355328)=true:=szc (by omega) (by omega)
 have hm:=Si_make_at (v:=v) hs hL
 rw [Li_onLine_3_eq,hlt,hg,r3,g3,wrap_succ (by omega),hsz]
 generalize ([1,-1][i]'hi:Int)=s at *
 simp only [cond_true,Option.bind_some,s3,n2,e1,e2,e3]
 rcases hv with rfl | rfl
 ·have q1:getI [(0 - s)*L.1.1*L.2.2,(0:Int),0] ((1:Nat):Int)=some 0:=rfl
  have q2:[(0 - s)*L.1.1*L.2.2,(0:Int),0].set (((1:Nat):Int)).toNat (s*L.1.2*L.2.2)=coefL L 1 s:=rfl
  rw [q1,q2]
  simp only [Option.bind_some]
  show (Si_makeOf (coefL L 1 s) (konL L s) false).bind _=_
  rw [hm]
  simp only [Option.bind_some]
 ·have q1:getI [(0 - s)*L.1.1*L.2.2,(0:Int),0] ((2:Nat):Int)=some 0:=rfl
  have q2:[(0 - s)*L.1.1*L.2.2,(0:Int),0].set (((2:Nat):Int)).toNat (s*L.1.2*L.2.2)=coefL L 2 s:=rfl
  rw [q1,q2]
  simp only [Option.bind_some]
  show (Si_makeOf (coefL L 2 s) (konL L s) false).bind _=_
  rw [hm]
  simp only [Option.bind_some]
theorem Si_onLine_val {L:Lin} {v:Nat} (hv:v=1∨v=2) (hL:linOk L=true):Si_onLine L (v:Int)=some (((lineI L v).1,(lineI L v).2,()),()):=by
 rw [Si_onLine_eq]
 have h0:=Si_onLine_step hv hL [] (by simp) 0 (by omega)
 have h1:=Si_onLine_step hv hL [(atomL L v 1).1] (by simp) 1 (by omega)
 have h2:Li_onLine_3 (v:Int) L [(atomL L v 1).1,(atomL L v (-1)).1] [1,-1] 2 ((2:Nat):Int)=some (([(atomL L v 1).1,(atomL L v (-1)).1],true,()),()):=by
  rw [Li_onLine_3_eq]; rfl
 change Li_onLine_3 (v:Int) L [] [1,-1] 2 0=bif !(atomL L v 1).2 then _ else Li_onLine_3 (v:Int) L [(atomL L v 1).1] [1,-1] 2 ((1:Nat):Int) at h0
 change Li_onLine_3 (v:Int) L [(atomL L v 1).1] [1,-1] 2 ((1:Nat):Int)=bif !(atomL L v (-1)).2 then _ else Li_onLine_3 (v:Int) L [(atomL L v 1).1,(atomL L v (-1)).1] [1,-1] 2 ((2:Nat):Int) at h1
 show Li_onLine_3 (v:Int) L [] [1,-1] 2 0=_
 rw [h0,h1,h2]
 unfold lineI
 cases (atomL L v 1).2 <;> cases (atomL L v (-1)).2 <;> rfl
def endLo (r:Int×Int):Atm:=([0 - r.2,0,0],r.1,false)
def endHi (r:Int×Int):Atm:=([r.2,0,0],0 - r.1,false)
theorem wrap_neg {a:Int} (h:a.natAbs≤400000000):IntKind.i64.wrap (0 - a)=0 - a:=wrap_id (by omega) (by omega)
theorem end_ok {a b c:Int} (hb:b.natAbs=c.natAbs) (hr:ratB (a,c)=true):atomB ([b],a,false)=true∧atomB ([b,0,0],a,false)=true:=by
 have h1:=rat_bd hr
 have h2:=rat_gcd hr
 simp only at h1 h2
 have na:numB a=true:=by unfold numB; simp; omega
 have nb:numB b=true:=by unfold numB; simp; omega
 have g1:gl [b] a.natAbs=1:=by
  show Nat.gcd a.natAbs b.natAbs=1
  rw [hb]; exact h2
 have g2:gl [b,0,0] a.natAbs=1:=by
  show Nat.gcd (Nat.gcd (Nat.gcd a.natAbs b.natAbs) (0:Int).natAbs) (0:Int).natAbs=1
  rw [hb,h2]; rfl
 constructor
 ·unfold atomB
  simp only [na,g1,List.all_cons,nb,List.all_nil]
  rfl
 ·unfold atomB
  simp only [na,g2,List.all_cons,nb,List.all_nil]
  rfl
theorem rat_neg {r:Int×Int} (h:ratB r=true):ratB (0 - r.1,r.2)=true:=by
 have h1:=rat_bd h
 have h2:=rat_gcd h
 unfold ratB at *
 simp only [Bool.and_eq_true,decide_eq_true_eq] at h ⊢
 have n1:numB (0 - r.1)=true:=by unfold numB; simp; omega
 have n2:numB r.2=true:=by unfold numB; simp; omega
 refine ⟨⟨⟨h.1.1.1,h.1.1.2⟩,n1⟩,?_⟩
 unfold gcdB
 rw [n1,n2]
 simp only [Bool.and_self,cond_true]
 have e:(0 - r.1).natAbs=r.1.natAbs:=by omega
 rw [e,h2]; rfl
theorem mkB_one {b a c:Int} (hb:b.natAbs=c.natAbs) (hr:ratB (a,c)=true):mkB [b] a false=(([b],a,false),true):=by
 have h2:=rat_gcd hr
 simp only at h2
 have g1:gl [b] a.natAbs=1:=by
  show Nat.gcd a.natAbs b.natAbs=1
  rw [hb]; exact h2
 unfold mkB
 rw [g1]
 have e:oneG 1=1:=rfl
 rw [e]
 simp only [List.map_cons,List.map_nil,Int.tdiv_one,(end_ok hb hr).1,cond_true]
theorem Ss_l8Ends_val {p q:Int×Int} (hp:ratB p=true) (hq:ratB q=true):Ss_l8Ends p q=some (([([0 - p.2],p.1,false),([q.2],0 - q.1,false)],()),()):=by
 have b1:=rat_bd hp
 have b2:=rat_bd hq
 have m1:=mkB_one (b:=0 - p.2) (a:=p.1) (c:=p.2) (by omega) hp
 have m2:=mkB_one (b:=q.2) (a:=0 - q.1) (c:=q.2) rfl (rat_neg hq)
 rw [Ss_l8Ends_eq,wrap_neg (by omega),wrap_neg b2.1]
 rw [Ss_l2Atom_val (by simp) (by simp; omega) (by omega),Option.bind_some,Ss_l2Atom_val (by simp) (by simp; omega) (by omega),Option.bind_some,m1,m2]
theorem ends_ok {p q:Int×Int} (hp:ratB p=true) (hq:ratB q=true):okV 3 (endLo p)∧okV 3 (endHi q):=by
 refine ⟨⟨?_,rfl⟩,⟨?_,rfl⟩⟩
 ·exact (end_ok (a:=p.1) (b:=0 - p.2) (c:=p.2) (by omega) hp).2
 ·exact (end_ok (a:=0 - q.1) (b:=q.2) (c:=q.2) rfl (rat_neg hq)).2
theorem Si_during_val {g:Leg} (hp:ratB g.1=true) (hq:ratB g.2.1=true):Si_leg_during g 3=some (([endLo g.1,endHi g.2.1],()),()):=by
 have b1:=rat_bd hp
 have b2:=rat_bd hq
 rw [Si_leg_during_eq]
 have c1:(decide ((0:Int)≤3) && decide ((3:Int)≤3) && decide ((3:Int)*8≤140737488355328) && decide ((3:Int)≤9223372036854775807))=true:=by decide
 rw [c1,r3,g3,s3,s3,wrap_neg (by omega),wrap_neg b2.1]
 rfl
theorem Sw_toRatio_val (r:Int×Int):Sw_toRatio r=some ((r,()),()):=Sw_toRatio_eq r
theorem Sw_toStop_val (s:Stp):Sw_toStop s=some ((s,()),()):=by
 rw [Sw_toStop_eq]; simp only [Sw_toRatio_val,Option.bind_some]
theorem Sw_toStopS_val (x:List Stp) (hl:x.length≤1048576):Sw_toStopS x=some ((x,()),()):=by
 rw [Sw_toStopS_eq,mk_ok x 48 (by omega) (by omega) (by omega)]
 exact copy0 x Sw_toStop (fun v i=>Lw_toStopS_3 x v i) (by omega) (fun y _=>Sw_toStop_val y) (fun i hi v hv=>by
  rw [Lw_toStopS_3_eq,lt_yes hi,wrap_succ (by omega)]
  simp only [getI_ok hi,getI_ok (show i < v.length by omega),cond_true,Option.bind_some,Int.toNat_natCast]) (fun v=>by rw [Lw_toStopS_3_eq,lt_no]; rfl) _ (by simp)
theorem Sw_eqRatio_val (a:Int×Int):Sw_eqRatio a a=some ((true,()),()):=by
 rw [Sw_eqRatio_eq]; simp
theorem Sw_eqStop_val (a:Stp):Sw_eqStop a a=some ((true,()),()):=by
 rw [Sw_eqStop_eq]; simp [Sw_eqRatio_val]
theorem Sw_eqStopS_val (x:List Stp) (hl:x.length≤1048576):Sw_eqStopS x x=some ((true,()),()):=by
 rw [Sw_eqStopS_eq]
 simp only [bne_self_eq_false,cond_false]
 refine eq_loop x (some ((true,()),())) (fun i=>Lw_eqStopS_4 x x i) (by omega) (fun i hi => ?_) ?_
 ·rw [Lw_eqStopS_4_eq,lt_yes hi,wrap_succ (by omega)]
  simp only [getI_ok hi,cond_true,Option.bind_some,Sw_eqStop_val,Bool.not_true,cond_false]
 ·rw [Lw_eqStopS_4_eq,lt_no]; rfl
theorem Sw_szStopS_val (x:List Stp) (k:Int) (h1:(x.length:Int)≤9223372036854775807) (hk:0≤k) (hk2:k≤1048576):∃ m,Sw_szStopS x k=some ((m,()),())∧(m < 0∨(0≤m∧m≤k∧(x.length:Int)≤k)):=by
 rw [Sw_szStopS_eq,wrap_id (by omega) (by omega)]
 by_cases h:k - (x.length:Int) < 0
 ·exact ⟨-1,by simp [h],.inl (by omega)⟩
 ·exact ⟨k - (x.length:Int),by simp only [h,decide_false,cond_false],.inr (by omega)⟩
theorem L20_val:∀ (n i:Nat) (x:List Stp) (k:Int),n+i=x.length→x.length≤1048576→0≤k→k+6*n≤1000000000 →
  Lw_markStopS_2 x k (i:Int)=some ((k+6*n,()),x.take i++mkL n k,())
 | 0,i,x,k,hn,hl,h0,hk=>by
  rw [Lw_markStopS_2_eq]
  have:decide ((i:Int) < (x.length:Int))=false:=by simp; omega
  rw [this,cond_false,List.take_of_length_le (by omega)]
  simp [mkL]
 | n+1,i,x,k,hn,hl,h0,hk=>by
  rw [Lw_markStopS_2_eq]
  have hi:i < x.length:=by omega
  have:decide ((i:Int) < (x.length:Int))=true:=by simp; omega
  have w1:IntKind.i64.wrap (k+1)=k+1:=wrap_id (by omega) (by omega)
  have w2:IntKind.i64.wrap (k+1+1)=k+2:=by rw [wrap_id (by omega) (by omega)]; omega
  have w3:IntKind.i64.wrap (k+2+1)=k+3:=by rw [wrap_id (by omega) (by omega)]; omega
  have w4:IntKind.i64.wrap (k+3+1)=k+4:=by rw [wrap_id (by omega) (by omega)]; omega
  have w5:IntKind.i64.wrap (k+4+1)=k+5:=by rw [wrap_id (by omega) (by omega)]; omega
  have w6:IntKind.i64.wrap (k+5+1)=k+6:=by rw [wrap_id (by omega) (by omega)]; omega
  have w7:IntKind.i64.wrap ((i:Int)+1)=((i+1:Nat):Int):=by rw [wrap_id] <;> omega
  rw [this,cond_true,getI_ok hi]
  simp only [Option.bind_some,set_nat,List.set_set,getI_set hi,w1,w2,w3,w4,w5,w6,w7]
  rw [L20_val n (i+1) _ (k+6) (by simp; omega) (by simpa using hl) (by omega) (by omega)]
  have e1:(x.set i (mk6 k)).take (i+1)=x.take i++[mk6 k]:=by
   rw [List.take_add_one,List.take_set_of_le (by omega)]
   simp [hi]
  have e2:((k,k+1),(k+2,k+3),k+4,k+5)=mk6 k:=rfl
  rw [e2,e1,List.append_assoc]
  congr 3
  omega
theorem Sw_markStopS_val {x:List Stp} {k:Int} (hl:x.length≤1048576) (h0:0≤k) (hk:k+6*x.length≤1000000000):Sw_markStopS x k=some ((k+6*x.length,()),mkL x.length k,()):=by
 rw [Sw_markStopS_eq]
 exact L20_val x.length 0 x k (by omega) hl h0 hk
def prs:List Stp→List (Stp×Stp)
 | a::b::l=>(a,b)::prs (b::l)
 | _=>[]
def legsP (x:List Stp):List (Stp×Stp):=if x.length=1 then x.map fun s=>(s,s) else prs x
theorem drop_cons {α:Type} {x:List α} {i:Nat} (h:i < x.length):x.drop i=x[i]::x.drop (i+1):=List.drop_eq_getElem_cons h
theorem prs_step {x:List Stp} {i:Nat} (h:i+1 < x.length):prs (x.drop i)=(x[i],x[i+1])::prs (x.drop (i+1)):=by
 rw [drop_cons (show i < x.length by omega),drop_cons h]
 rfl
theorem prs_end {x:List Stp} {i:Nat} (h:¬ i+1 < x.length):prs (x.drop i)=[]:=by
 have:(x.drop i).length≤1:=by simp; omega
 match hd:x.drop i,this with
 | [],_=>rfl
 | [a],_=>rfl
 | a::b::l,h=>simp at h
theorem prs_len:∀ x:List Stp,(prs x).length=x.length - 1
 | []=>rfl
 | [_]=>rfl
 | a::b::l=>by simp [prs,prs_len (b::l)]
theorem legsP_len (x:List Stp):(legsP x).length≤x.length:=by
 unfold legsP
 split
 ·simp
 ·rw [prs_len]; omega
theorem prs_mem {x:List Stp} {p:Stp×Stp} (h:p∈prs x):∃ i,∃ h:i+1 < x.length,p=(x[i],x[i+1]):=by
 induction x with
 | nil=>cases h
 | cons a l ih =>
  match l,h with
  | [],h=>cases h
  | b::l,h =>
   rcases List.mem_cons.1 h with rfl | h
   ·exact ⟨0,by simp,rfl⟩
   ·obtain ⟨i,hi,e⟩:=ih h
    exact ⟨i+1,by simp at hi ⊢; omega,by simpa using e⟩
def lineP (p:Stp×Stp):Lin×Lin×Bool:=if p.1.1=p.2.1 then (((0,1),p.1.2.1),((0,1),p.1.2.2),true) else (xL p.1 p.2,yL p.1 p.2,legOk p.1 p.2)
def legP (p:Stp×Stp):Leg:=(p.1.1,p.2.1,(lineP p).1,(lineP p).2.1)
def okP (p:Stp×Stp):Bool:=(lineP p).2.2
structure GoodP (p:Stp×Stp):Prop where
 a:ratB p.1.1=true
 b:ratB p.2.1=true
 x:okP p=true→linOk (lineP p).1=true
 y:okP p=true→linOk (lineP p).2.1=true
theorem linOk_rest {b:Int×Int} (h:ratB b=true):linOk ((0,1),b)=true:=by
 unfold linOk
 rw [Bool.and_eq_true]
 exact ⟨ratB_zero,h⟩
theorem legsP_good {x:List Stp} (h:isTrk x=true):∀ p∈legsP x,GoodP p:=by
 intro p hp
 have hl:=isTrk_len h
 unfold legsP at hp
 split at hp
 ·rename_i h1
  match x,h1,hp with
  | [s],_,hp =>
   simp only [List.map_cons,List.map_nil,List.mem_singleton] at hp
   subst hp
   have:=isTrk_spec h 0 (by simp)
   refine ⟨this.1,this.1,fun _ => ?_,fun _ => ?_⟩
   ·unfold lineP; rw [if_pos rfl]; exact linOk_rest this.2.1
   ·unfold lineP; rw [if_pos rfl]; exact linOk_rest this.2.2.1
 ·obtain ⟨i,hi,rfl⟩:=prs_mem hp
  have s1:=isTrk_spec h i (by omega)
  have s2:=isTrk_spec h (i+1) hi
  have hne:¬ (x[i]).1=(x[i+1]).1:=fun e=>by
   have:=s2.2.2.2 i (by omega) rfl
   rw [e,less_irr] at this
   cases this
  refine ⟨s1.1,s2.1,fun ho => ?_,fun ho => ?_⟩
  ·unfold okP lineP at ho
   unfold lineP
   rw [if_neg hne] at ho ⊢
   unfold legOk at ho
   rw [Bool.and_eq_true] at ho
   exact ho.1
  ·unfold okP lineP at ho
   unfold lineP
   rw [if_neg hne] at ho ⊢
   unfold legOk at ho
   rw [Bool.and_eq_true] at ho
   exact ho.2
def twoL (p:Stp×Stp):List Stp:=[p.1,p.2]
theorem Ls_l8Legs_5_val (x:List Stp) (hl:x.length≤1000):∀ (n i:Nat) (o:List (List Stp)),n+(i+1)=x.length→o.length≤i→Ls_l8Legs_5 x o ((i+1:Nat):Int)=some ((o++(prs (x.drop i)).map twoL,()),())
 | 0,i,o,hn,ho=>by
  rw [Ls_l8Legs_5_eq]
  have:decide (((i+1:Nat):Int) < (x.length:Int))=false:=by simp; omega
  rw [this,cond_false,prs_end (by omega)]
  simp
 | n+1,i,o,hn,ho=>by
  rw [Ls_l8Legs_5_eq]
  have hi:i+1 < x.length:=by omega
  have hd:decide ((o.length+1)*24≤140737488355328)=true:=szc (by omega) (by omega)
  rw [lt_yes hi,cond_true,show IntKind.i64.wrap (((i+1:Nat):Int) - 1)=((i:Nat):Int) by rw [wrap_id] <;> omega,getI_ok (show i < x.length by omega),getI_ok hi]
  simp only [Option.bind_some]
  rw [hd,cond_true,wrap_succ (by omega),Ls_l8Legs_5_val x hl n (i+1) _ (by omega) (by simp; omega),prs_step hi]
  simp [twoL]
theorem Ss_l8Legs_val {x:List Stp} (h:isTrk x=true):Ss_l8Legs x=some (((legsP x).map twoL,()),()):=by
 have hl:=isTrk_len h
 rw [Ss_l8Legs_eq]
 unfold legsP
 by_cases h1:x.length=1
 ·match x,h1 with
  | [s],_=>rfl
 ·have:((x.length:Int) == 1)=false:=by rw [beq_eq_false_iff_ne]; omega
  rw [this,cond_false,if_neg h1]
  have:=Ls_l8Legs_5_val x (by omega) (x.length - 1) 0 [] (by omega) (by simp)
  simpa using this
theorem Ss_l1Whole_val (n:Int):Ss_l1Whole n=some (((n,1),()),()):=Ss_l1Whole_eq n
theorem Ss_l8Lines_val (p:Stp×Stp):Ss_l8Lines (twoL p)=some (((lineP p).1,(lineP p).2.1,okP p,()),()):=by
 have g0:getI (twoL p) 0=some p.1:=rfl
 have g1:getI (twoL p) 1=some p.2:=rfl
 rw [Ss_l8Lines_eq,g0,g1]
 simp only [Option.bind_some,Ss_l1Whole_val,Ss_l8Leg_val]
 rw [eqR]
 unfold okP lineP
 by_cases h:p.1.1=p.2.1
 ·rw [if_pos h]
  simp only [h,decide_true,cond_true]
 ·rw [if_neg h]
  simp only [h,decide_false,cond_false]
theorem Li_legsOf_8_P (x:List Stp) (hx:isTrk x=true):∀ (n i:Nat) (l:List Leg),n+(i+1)=x.length→l.length≤i →
  Li_legsOf_8 x l ((i+1:Nat):Int)=some ((bif (prs (x.drop i)).all okP then l++(prs (x.drop i)).map legP else [],(prs (x.drop i)).all okP,()),())
 | 0,i,l,hn,hv=>by
  rw [Li_legsOf_8_eq]
  have:decide (((i+1:Nat):Int) < (x.length:Int))=false:=by simp; omega
  rw [this,cond_false,prs_end (by omega)]
  simp
 | n+1,i,l,hn,hv=>by
  have hl:=isTrk_len hx
  rw [Li_legsOf_8_eq]
  have hi:i+1 < x.length:=by omega
  have s2:=isTrk_spec hx (i+1) hi
  have hne:¬ (x[i]).1=(x[i+1]).1:=fun e=>by
   have:=s2.2.2.2 i (by omega) rfl
   rw [e,less_irr] at this
   cases this
  rw [lt_yes hi,cond_true,show IntKind.i64.wrap (((i+1:Nat):Int) - 1)=((i:Nat):Int) by rw [wrap_id] <;> omega,getI_ok (show i < x.length by omega),getI_ok hi]
  have e1:legP (x[i],x[i+1])=legOf x[i] x[i+1]:=by unfold legP lineP; rw [if_neg hne]; rfl
  have e2:okP (x[i],x[i+1])=legOk x[i] x[i+1]:=by unfold okP lineP; rw [if_neg hne]
  simp only [Option.bind_some,Si_legBetween_val,prs_step hi,List.all_cons,List.map_cons,e1,e2]
  cases hk:legOk x[i] x[i+1] with
  | false=>rfl
  | true =>
   simp only [Bool.not_true,cond_false,cond_true,Bool.true_and]
   have hd:decide ((l.length+1)*96≤140737488355328)=true:=szc (by omega) (by omega)
   rw [hd,cond_true,wrap_succ (by omega),Li_legsOf_8_P x hx n (i+1) _ (by omega) (by simp; omega)]
   cases (prs (x.drop (i+1))).all okP <;> simp
def legsI (x:List Stp):List Leg×Bool:=bif isTrk x && (legsP x).all okP then ((legsP x).map legP,true) else ([],false)
theorem Si_legsOf_P (x:List Stp) (hl:x.length≤1048576):Si_legsOf x=some (((legsI x).1,(legsI x).2,()),()):=by
 rw [Si_legsOf_eq,Si_IsTrack_val x hl]
 simp only [Option.bind_some]
 unfold legsI
 cases h:isTrk x with
 | false=>rfl
 | true =>
  have hl:=isTrk_len h
  simp only [Bool.not_true,cond_false,Bool.true_and]
  unfold legsP
  by_cases h1:x.length=1
  ·match x,h1 with
   | [s],_ =>
    simp only [List.length_singleton,if_true,List.map_cons,List.map_nil,List.all_cons,List.all_nil,okP,lineP,Bool.and_self,cond_true]
    simp [getI,legP,lineP]
  ·have:((x.length:Int) == 1)=false:=by rw [beq_eq_false_iff_ne]; omega
   rw [this,cond_false,if_neg h1]
   have:=Li_legsOf_8_P x h (x.length - 1) 0 [] (by omega) (by simp)
   rw [List.drop_zero] at this
   refine this.trans ?_
   cases (prs x).all okP <;> simp
def fourP (p:Stp×Stp):List (Atm×Bool):=[atomL (lineP p).1 1 (-1),atomL (lineP p).1 1 1,atomL (lineP p).2.1 2 (-1),atomL (lineP p).2.1 2 1]
def atomsP (p:Stp×Stp):List Atm:=endLo p.1.1::endHi p.2.1::(fourP p).map (·.1)
def cellP (p:Stp×Stp):Option Cel:=bif okP p && (fourP p).all (·.2) then some (normB 3 (atomsP p)) else none
def trkS:List (Stp×Stp)→List Cel→Option (List Cel)
 | [],o=>some o
 | p::l,o=>match cellP p with
  | some c=>trkS l (o++[c])
  | none=>none
theorem and4 (a b c d:Bool):(a && (b && (c && d)))=((b && a) && (d && c)):=by cases a <;> cases b <;> cases c <;> cases d <;> rfl
def regR (o:Option (List Cel)) (d:Int):Reg×Bool:=match o with
 | some l=>((d,l),true)
 | none=>((0,[]),false)
def regO (r:Reg×Bool):Option ((Reg×Bool×PUnit)×PUnit):=some ((r.1,r.2,()),())
theorem Ls_TR_23_step (x2 x4:Reg) (x5:List (List Stp)) (x6:Int) (x9:Bool) (x11:Cel) (x13:List Lin) {v:Nat} (hv:v=0∨v=1) {L:Lin} (hL:linOk L=true) {s:Int} (hs:s=1∨s = -1) (ho:x11.2.length≤1000) :
  Ls_TrackRegion_23 x2 x4 x5 x6 x9 x11 x13 (v:Int) L s=bif !(atomL L (v+1) (0 - s)).2 then some (((0,[]),false,()),()) else Ls_TrackRegion_23 x2 x4 x5 x6 x9 (x11.1,x11.2++[(atomL L (v+1) (0 - s)).1]) x13 (v:Int) L (s - 2):=by
 obtain ⟨b1,b2,b3,b4⟩:=linOk_bd hL
 obtain ⟨n1,n2⟩:=neg1 hs
 have e1:=(three hs b1 b4).2
 have e2:=(three n1 b2 b4).2
 have e3:=(three hs b3 b2).2
 have es:0 - (0 - s)=s:=by omega
 have hsz:decide ((x11.2.length+1)*40≤140737488355328)=true:=szc (by omega) (by omega)
 have hm:=Ss_make_at (v:=v+1) n1 hL
 have hge:decide (s ≥ -1)=true:=by rcases hs with rfl | rfl <;> rfl
 have w2:IntKind.i64.wrap (s - 2)=s - 2:=wrap_id (by omega) (by omega)
 have hk:konL L (0 - s)=s*L.2.1*L.1.2:=by unfold konL; rw [es]
 rw [Ls_TrackRegion_23_eq,hge,e1,n2,e2,e3,hsz,w2]
 rcases hv with rfl | rfl
 ·have q0:IntKind.i64.wrap (1+((0:Nat):Int))=1:=by decide
  have q1:getI [s*L.1.1*L.2.2,(0:Int),0] 1=some 0:=rfl
  have q2:[s*L.1.1*L.2.2,(0:Int),0].set ((1:Int)).toNat ((0 - s)*L.1.2*L.2.2)=coefL L (0+1) (0 - s):=by
   show [s*L.1.1*L.2.2,(0 - s)*L.1.2*L.2.2,0]=[(0 - (0 - s))*L.1.1*L.2.2,(0 - s)*L.1.2*L.2.2,0]
   rw [es]
  rw [q0,q1,cond_true,Option.bind_some,Option.bind_some,Option.bind_some,Option.bind_some,q2,← hk,hm,Option.bind_some]
  rfl
 ·have q0:IntKind.i64.wrap (1+((1:Nat):Int))=2:=by decide
  have q1:getI [s*L.1.1*L.2.2,(0:Int),0] 2=some 0:=rfl
  have q2:[s*L.1.1*L.2.2,(0:Int),0].set ((2:Int)).toNat ((0 - s)*L.1.2*L.2.2)=coefL L (1+1) (0 - s):=by
   show [s*L.1.1*L.2.2,0,(0 - s)*L.1.2*L.2.2]=[(0 - (0 - s))*L.1.1*L.2.2,0,(0 - s)*L.1.2*L.2.2]
   rw [es]
  rw [q0,q1,cond_true,Option.bind_some,Option.bind_some,Option.bind_some,Option.bind_some,q2,← hk,hm,Option.bind_some]
  rfl
theorem Ls_TR_23_val (x2 x4:Reg) (x5:List (List Stp)) (x6:Int) (x9:Bool) (d:Int) (o:List Atm) (x13:List Lin) {v:Nat} (hv:v=0∨v=1) {L:Lin} (hL:linOk L=true) (ho:o.length≤100) :
  Ls_TrackRegion_23 x2 x4 x5 x6 x9 (d,o) x13 (v:Int) L 1=bif (atomL L (v+1) (-1)).2 && (atomL L (v+1) 1).2 then Ls_TrackRegion_17 x2 x4 x5 x6 x9 (d,o++[(atomL L (v+1) (-1)).1]++[(atomL L (v+1) 1).1]) x13 ((v+1:Nat):Int) else some (((0,[]),false,()),()):=by
 rw [Ls_TR_23_step x2 x4 x5 x6 x9 (d,o) x13 hv hL (.inl rfl) (by dsimp only; omega)]
 rw [show (0 - 1:Int) = -1 from rfl,show (1 - 2:Int) = -1 from rfl]
 cases (atomL L (v+1) (-1)).2 with
 | false=>rfl
 | true =>
  simp only [Bool.not_true,cond_false,Bool.true_and]
  rw [Ls_TR_23_step x2 x4 x5 x6 x9 _ x13 hv hL (.inr rfl) (by simp; omega)]
  rw [show (0 - -1:Int)=1 from rfl,show (-1 - 2:Int) = -3 from rfl]
  cases (atomL L (v+1) 1).2 with
  | false=>rfl
  | true =>
   simp only [Bool.not_true,cond_false,cond_true]
   rw [Ls_TrackRegion_23_eq]
   rw [show decide ((-3:Int) ≥ -1)=false from rfl,cond_false,wrap_succ (by omega)]
theorem fourP_ok {p:Stp×Stp} (g:GoodP p) (h:okP p=true):∀ a∈fourP p,a.2=true→okV 3 a.1:=by
 have lx:=g.x h
 have ly:=g.y h
 intro a ha
 unfold fourP at ha
 simp only [List.mem_cons,List.not_mem_nil,or_false] at ha
 rcases ha with rfl | rfl | rfl | rfl
 ·exact atomL_ok (.inr rfl) lx
 ·exact atomL_ok (.inl rfl) lx
 ·exact atomL_ok (.inr rfl) ly
 ·exact atomL_ok (.inl rfl) ly
theorem atomsP_ok {p:Stp×Stp} (g:GoodP p) (h:okP p=true) (h4:(fourP p).all (·.2)=true):∀ a∈atomsP p,okV 3 a:=by
 intro a ha
 have he:=ends_ok g.a g.b
 unfold atomsP at ha
 rcases List.mem_cons.1 ha with rfl | ha
 ·exact he.1
 rcases List.mem_cons.1 ha with rfl | ha
 ·exact he.2
 obtain ⟨b,hb,rfl⟩:=List.mem_map.1 ha
 exact fourP_ok g h b hb (List.all_eq_true.1 h4 b hb)
theorem Ls_TR_17_val (x2:Reg) (d:Int) (O:List Cel) (x5:List (List Stp)) {i:Nat} {p:Stp×Stp} (g:GoodP p) (hi:i≤1000) (hO:O.length≤1000) :
  Ls_TrackRegion_17 x2 (d,O) x5 (i:Int) (okP p) (3,[endLo p.1.1,endHi p.2.1]) [(lineP p).1,(lineP p).2.1] 0=match cellP p with
   | some c=>Ls_TrackRegion_6 x2 (d,O++[c]) x5 ((i+1:Nat):Int)
   | none=>some (((0,[]),false,()),()):=by
 rw [Ls_TrackRegion_17_eq,show decide ((0:Int) < 2)=true from rfl,cond_true]
 unfold cellP
 cases h:okP p with
 | false=>rfl
 | true =>
  have lx:=g.x h
  have ly:=g.y h
  have hok:=atomsP_ok g h
  have g0:getI [(lineP p).1,(lineP p).2.1] 0=some (lineP p).1:=rfl
  have g1:getI [(lineP p).1,(lineP p).2.1] ((0+1:Nat):Int)=some (lineP p).2.1:=rfl
  rw [g0]
  simp only [Bool.not_true,cond_false,Option.bind_some]
  have:=Ls_TR_23_val x2 (d,O) x5 (i:Int) true 3 [endLo p.1.1,endHi p.2.1] [(lineP p).1,(lineP p).2.1] (v:=0) (.inl rfl) lx (by simp)
  rw [Int.natCast_zero] at this
  rw [this]
  unfold atomsP fourP at *
  simp only [List.all_cons,List.all_nil,List.map_cons,List.map_nil,Nat.zero_add,Bool.true_and,Bool.and_true] at *
  cases hx:(atomL (lineP p).1 1 (-1)).2 && (atomL (lineP p).1 1 1).2 with
  | false =>
   have:((atomL (lineP p).1 1 (-1)).2 && ((atomL (lineP p).1 1 1).2 && ((atomL (lineP p).2.1 2 (-1)).2 && (atomL (lineP p).2.1 2 1).2)))=false:=by
    rw [← Bool.and_assoc,hx]; rfl
   rw [this]; rfl
  | true =>
   rw [cond_true,Ls_TrackRegion_17_eq,show decide (((1:Nat):Int) < 2)=true from rfl,cond_true,g1]
   simp only [Bool.not_true,cond_false,Option.bind_some]
   have:=Ls_TR_23_val x2 (d,O) x5 (i:Int) true 3 ([endLo p.1.1,endHi p.2.1]++[(atomL (lineP p).1 1 (-1)).1]++[(atomL (lineP p).1 1 1).1]) [(lineP p).1,(lineP p).2.1] (v:=1) (.inr rfl) ly (by simp)
   rw [this]
   have hok:((atomL (lineP p).2.1 2 (-1)).2 && (atomL (lineP p).2.1 2 1).2)=true→_:=fun hy=>hok (by rw [← Bool.and_assoc,hx,hy]; rfl)
   rw [← Bool.and_assoc,hx,Bool.true_and]
   cases hy:(atomL (lineP p).2.1 (1+1) (-1)).2 && (atomL (lineP p).2.1 (1+1) 1).2 with
   | false=>rfl
   | true =>
    rw [cond_true,cond_true,Ls_TrackRegion_17_eq,show decide (((1+1:Nat):Int) < 2)=false from rfl,cond_false]
    have hn:=Ss_l3Normal_val (n:=3) (d:=3) (by omega) (by omega) (hok (show ((atomL (lineP p).2.1 2 (-1)).2 && (atomL (lineP p).2.1 2 1).2)=true from hy)) (by simp)
    have hd:decide ((O.length+1)*32≤140737488355328)=true:=szc (by omega) (by omega)
    simp only [List.cons_append,List.nil_append,List.append_assoc]
    rw [hn]
    simp only [Option.bind_some]
    rw [hd,cond_true,wrap_succ (by omega)]
theorem Ls_TR_12_val (x2 x4:Reg) (x5:List (List Stp)) (x6:Int) (p q:Lin) (k:Bool) (a b:Int×Int) :
  Ls_TrackRegion_12 x2 x4 x5 x6 p q k [([0 - a.2],a.1,false),([b.2],0 - b.1,false)] (3,[]) 0=Ls_TrackRegion_17 x2 x4 x5 x6 k (3,[endLo a,endHi b]) [p,q] 0:=by
 rw [Ls_TrackRegion_12_eq]
 have g0:getI [(([0 - a.2],a.1,false):Atm),([b.2],0 - b.1,false)] 0=some ([0 - a.2],a.1,false):=rfl
 have g1:getI [(([0 - a.2],a.1,false):Atm),([b.2],0 - b.1,false)] 1=some ([b.2],0 - b.1,false):=rfl
 have c0:getI [0 - a.2] 0=some (0 - a.2):=rfl
 have c1:getI [b.2] 0=some b.2:=rfl
 rw [show decide ((0:Int) < 2)=true from rfl,g0]
 simp only [cond_true,Option.bind_some,c0,List.length_nil,List.nil_append]
 rw [show decide ((0+1)*40≤140737488355328)=true from rfl,cond_true,show IntKind.i64.wrap (0+1)=1 by decide]
 rw [Ls_TrackRegion_12_eq]
 rw [show decide ((1:Int) < 2)=true from rfl,g1]
 simp only [cond_true,Option.bind_some,c1,List.length_cons,List.length_nil]
 rw [show decide ((0+1+1)*40≤140737488355328)=true from rfl,cond_true,show IntKind.i64.wrap (1+1)=2 by decide]
 rw [Ls_TrackRegion_12_eq]
 rfl
theorem Ls_TR_6_val (x2:Reg) (d:Int) (P:List (Stp×Stp)) (hP:∀ p∈P,GoodP p) (hl:P.length≤100):∀ (n i:Nat) (O:List Cel),n+i=P.length→O.length≤i →
  Ls_TrackRegion_6 x2 (d,O) (P.map twoL) (i:Int)=regO (regR (trkS (P.drop i) O) d)
 | 0,i,O,hn,hO=>by
  rw [Ls_TrackRegion_6_eq]
  have:decide ((i:Int) < ((P.map twoL).length:Int))=false:=by simp; omega
  rw [this,cond_false,List.drop_eq_nil_of_le (by omega)]
  rfl
 | n+1,i,O,hn,hO=>by
  have hi:i < P.length:=by omega
  have hi':i < (P.map twoL).length:=by simpa using hi
  have gp:=hP P[i] (List.getElem_mem hi)
  have hg:(P.map twoL)[i]=twoL P[i]:=by simp
  have t0:getI (twoL P[i]) 0=some P[i].1:=rfl
  have t1:getI (twoL P[i]) 1=some P[i].2:=rfl
  rw [Ls_TrackRegion_6_eq,lt_yes hi',cond_true,getI_ok hi',hg]
  simp only [Option.bind_some,Ss_l8Lines_val,t0,t1,Ss_l8Ends_val gp.a gp.b]
  rw [Ls_TR_12_val,Ls_TR_17_val x2 d O _ gp (by omega) (by omega),drop_cons hi]
  unfold trkS
  cases cellP P[i] with
  | none=>rfl
  | some c=>exact Ls_TR_6_val x2 d P hP hl n (i+1) _ (by omega) (by simp; omega)
def trackR (x:List Stp):Reg×Bool:=bif isTrk x then regR (trkS (legsP x) []) 3 else ((0,[]),false)
theorem Ss_TrackRegion_val (x:List Stp) (hl:x.length≤1048576):Ss_TrackRegion x=regO (trackR x):=by
 rw [Ss_TrackRegion_eq,Ss_IsTrack_val x hl]
 simp only [Option.bind_some]
 unfold trackR
 cases h:isTrk x with
 | false=>rfl
 | true =>
  have h6:=isTrk_len h
  have hp:=legsP_len x
  simp only [Bool.not_true,cond_false,cond_true,Ss_l8Legs_val h,Option.bind_some]
  have:=Ls_TR_6_val (0,[]) 3 (legsP x) (legsP_good h) (by omega) (legsP x).length 0 [] (by omega) (by simp)
  simpa using this
theorem Li_TR_6_val (x2:Reg) (d:Int) (P:List (Stp×Stp)) (hP:∀ p∈P,GoodP p) (hk:P.all okP=true) (hl:P.length≤100):∀ (n i:Nat) (O:List Cel),n+i=P.length→O.length≤i →
  Li_TrackRegion_6 x2 (P.map legP) (d,O) (P.length:Int) (i:Int)=regO (regR (trkS (P.drop i) O) d)
 | 0,i,O,hn,hO=>by
  rw [Li_TrackRegion_6_eq]
  have:decide ((i:Int) < (P.length:Int))=false:=by simp; omega
  rw [this,cond_false,List.drop_eq_nil_of_le (by omega)]
  rfl
 | n+1,i,O,hn,hO=>by
  have hi:i < P.length:=by omega
  have hi':i < (P.map legP).length:=by simpa using hi
  have gp:=hP P[i] (List.getElem_mem hi)
  have ho:okP P[i]=true:=List.all_eq_true.1 hk _ (List.getElem_mem hi)
  have hg:(P.map legP)[i]=legP P[i]:=by simp
  have lx:=gp.x ho
  have ly:=gp.y ho
  have hdu:=Si_during_val (g:=legP P[i]) gp.a gp.b
  have h1:Si_onLine (lineP P[i]).1 1=_:=Si_onLine_val (v:=1) (.inl rfl) lx
  have h2:Si_onLine (lineP P[i]).2.1 2=_:=Si_onLine_val (v:=2) (.inr rfl) ly
  have hok:=atomsP_ok gp ho
  rw [Li_TrackRegion_6_eq,lt_yes hi,cond_true,getI_ok hi',hg]
  simp only [Option.bind_some,hdu]
  rw [show (legP P[i]).2.2.1=(lineP P[i]).1 from rfl,show (legP P[i]).2.2.2=(lineP P[i]).2.1 from rfl,h1,h2,drop_cons hi]
  simp only [Option.bind_some]
  have hc:cellP P[i]=bif ((atomL (lineP P[i]).1 1 1).2 && (atomL (lineP P[i]).1 1 (-1)).2) && ((atomL (lineP P[i]).2.1 2 1).2 && (atomL (lineP P[i]).2.1 2 (-1)).2) then some (normB 3 (atomsP P[i])) else none:=by
   unfold cellP fourP
   rw [ho]
   simp only [List.all_cons,List.all_nil,Bool.true_and,Bool.and_true]
   rw [and4]
  have h4:(fourP P[i]).all (·.2)=(((atomL (lineP P[i]).1 1 1).2 && (atomL (lineP P[i]).1 1 (-1)).2) && ((atomL (lineP P[i]).2.1 2 1).2 && (atomL (lineP P[i]).2.1 2 (-1)).2)):=by
   unfold fourP
   simp only [List.all_cons,List.all_nil,Bool.true_and,Bool.and_true]
   rw [and4]
  rw [h4] at hok
  unfold trkS
  rw [hc]
  unfold lineI
  cases hx:((atomL (lineP P[i]).1 1 1).2 && (atomL (lineP P[i]).1 1 (-1)).2) with
  | false=>rfl
  | true =>
   cases hy:((atomL (lineP P[i]).2.1 2 1).2 && (atomL (lineP P[i]).2.1 2 (-1)).2) with
   | false=>rfl
   | true =>
    rw [hx,hy] at hok
    have hok:=hok rfl
    have hd:decide ((O.length+1)*32≤140737488355328)=true:=szc (by omega) (by omega)
    have hm:∀ a,a∈([endLo P[i].1.1,endHi P[i].2.1]++[(atomL (lineP P[i]).1 1 1).1,(atomL (lineP P[i]).1 1 (-1)).1]++[(atomL (lineP P[i]).2.1 2 1).1,(atomL (lineP P[i]).2.1 2 (-1)).1])↔a∈atomsP P[i]:=by
     intro a
     unfold atomsP fourP
     simp only [List.cons_append,List.nil_append,List.map_cons,List.map_nil,List.mem_cons,List.not_mem_nil,or_false]
     constructor
     ·rintro (h | h | h | h | h | h) <;> simp [h]
     ·rintro (h | h | h | h | h | h) <;> simp [h]
    have hn:=Si_normalOf_val (n:=3) (d:=3) (l:=[endLo P[i].1.1,endHi P[i].2.1]++[(atomL (lineP P[i]).1 1 1).1,(atomL (lineP P[i]).1 1 (-1)).1]++[(atomL (lineP P[i]).2.1 2 1).1,(atomL (lineP P[i]).2.1 2 (-1)).1]) (by omega) (by omega) (fun a ha=>hok a ((hm a).1 ha)) (by simp)
    rw [norm_eq (n:=3) (fun a ha=>hok a ((hm a).1 ha)) hm] at hn
    simp only [Bool.and_self,cond_true,Bool.not_true,cond_false]
    have e1:(legP P[i]).1=P[i].1.1:=rfl
    have e2:(legP P[i]).2.1=P[i].2.1:=rfl
    rw [e1,e2,hn]
    simp only [Option.bind_some]
    rw [hd]
    simp only [List.length_cons,List.length_nil,List.length_append]
    rw [wrap_succ (by omega)]
    exact Li_TR_6_val x2 d P hP hk hl n (i+1) _ (by omega) (by simp; omega)
theorem trkS_bad:∀ (P:List (Stp×Stp)) (O:List Cel),P.all okP=false→trkS P O=none
 | [],O,h=>by cases h
 | p::P,O,h=>by
  unfold trkS
  cases hk:okP p with
  | false=>unfold cellP; rw [hk]; rfl
  | true =>
   rw [List.all_cons,hk,Bool.true_and] at h
   cases cellP p with
   | none=>rfl
   | some c=>exact trkS_bad P _ h
theorem Si_TrackRegion_val (x:List Stp) (hl:x.length≤1048576):Si_TrackRegion x=regO (trackR x):=by
 rw [Si_TrackRegion_eq,Si_legsOf_P x hl]
 simp only [Option.bind_some]
 unfold trackR legsI
 cases h:isTrk x with
 | false=>rfl
 | true =>
  have h6:=isTrk_len h
  have hp:=legsP_len x
  rw [Bool.true_and,cond_true]
  cases ha:(legsP x).all okP with
  | false =>
   rw [trkS_bad _ _ ha]; rfl
  | true =>
   simp only [Bool.not_true,cond_false,cond_true,List.length_map]
   have:=Li_TR_6_val (0,[]) 3 (legsP x) (legsP_good h) ha (by omega) (legsP x).length 0 [] (by omega) (by simp)
   simpa using this
theorem fold_len:∀ (l S:List Atm),(l.foldl putB S).length≤S.length+l.length
 | [],S=>by simp
 | a::l,S=>by
  have:=fold_len l (putB S a)
  have h2:=putB_len a S
  simp only [List.foldl_cons,List.length_cons]
  omega
theorem fold_sub:∀ (l S:List Atm),∀ s∈l.foldl putB S,s∈S∨s∈l
 | [],S,s,h => .inl h
 | a::l,S,s,h=>by
  rcases fold_sub l (putB S a) s h with h | h
  ·rcases putB_sub a S s h with h | rfl
   ·exact .inl h
   ·exact .inr (by simp)
  ·exact .inr (by simp [h])
theorem zL_bd {α:Type} (f:α→Nat) (n:Nat):∀ l:List α,(∀ a∈l,f a≤n)→zL f l≤l.length*(n+1)
 | [],_=>by simp [zL]
 | a::l,h=>by
  have h1:=h a (by simp)
  have h2:=zL_bd f n l (fun b hb=>h b (by simp [hb]))
  simp only [zL,List.length_cons,List.map_cons,List.sum_cons,Nat.add_mul,Nat.one_mul] at h2 ⊢
  omega
theorem normB_z {d:Int} {l:List Atm} {n:Nat} (hd:d≤4) (hn:4≤n) (hl:∀ a∈l,zA a≤n):zC (normB d l)≤(l.length+1)*(n+1):=by
 unfold normB
 cases l.any badA with
 | true =>
  show zL zA [(List.replicate d.toNat (0:Int),1,false)]≤_
  have:zL zA [((List.replicate d.toNat (0:Int),1,false):Atm)]=1+d.toNat:=by simp [zL,zA,zI]
  rw [this]
  have:n+1≤(l.length+1)*(n+1):=Nat.le_mul_of_pos_left _ (by omega)
  omega
 | false =>
  show zL zA ((l.filter varA).foldl putB [])≤_
  have h1:=fold_len (l.filter varA) []
  have h2:=List.length_filter_le varA l
  refine Nat.le_trans (zL_bd zA n _ fun a ha => ?_) (Nat.mul_le_mul_right _ (by simp at h1; omega))
  rcases fold_sub _ _ a ha with h | h
  ·cases h
  ·exact hl a (List.mem_filter.1 h).1
theorem okV_z {n:Nat} {a:Atm} (h:okV n a):zA a≤4:=by
 have:=(atomB_spec h.1).1
 unfold zA zI
 exact this
theorem trkS_z:∀ (P:List (Stp×Stp)) (O r:List Cel),(∀ p∈P,GoodP p)→(∀ c∈O,zC c≤35)→trkS P O=some r→r.length≤O.length+P.length∧∀ c∈r,zC c≤35
 | [],O,r,_,hO,h=>by
  simp only [trkS,Option.some.injEq] at h
  subst h
  exact ⟨by simp,hO⟩
 | p::P,O,r,hP,hO,h=>by
  unfold trkS at h
  cases hc:cellP p with
  | none=>rw [hc] at h; cases h
  | some c =>
   rw [hc] at h
   have hz:zC c≤35:=by
    unfold cellP at hc
    cases hk:okP p && (fourP p).all (·.2) with
    | false=>rw [hk] at hc; cases hc
    | true =>
     rw [hk] at hc
     simp only [cond_true,Option.some.injEq] at hc
     subst hc
     rw [Bool.and_eq_true] at hk
     exact normB_z (n:=4) (by omega) (by omega) (fun a ha=>okV_z (atomsP_ok (hP p (by simp)) hk.1 hk.2 a ha))
   have:=trkS_z P (O++[c]) r (fun q hq=>hP q (by simp [hq])) (fun b hb=>by
    rcases List.mem_append.1 hb with hb | hb
    ·exact hO b hb
    ·rw [List.mem_singleton.1 hb]; exact hz) h
   simp only [List.length_append,List.length_cons,List.length_nil] at this ⊢
   exact ⟨by omega,this.2⟩
theorem trackR_z (x:List Stp):zG (trackR x).1≤1000:=by
 unfold trackR
 cases h:isTrk x with
 | false=>simp [zG,zL]
 | true =>
  rw [cond_true]
  have h6:=isTrk_len h
  have hp:=legsP_len x
  cases ht:trkS (legsP x) [] with
  | none=>simp [regR,zG,zL]
  | some r =>
   have:=trkS_z _ _ _ (legsP_good h) (fun c hc=>by cases hc) ht
   show zL zC r≤1000
   have h2:=zL_bd zC 35 r this.2
   have h3:r.length*36≤6*36:=Nat.mul_le_mul_right _ (by have:=this.1; simp at this; omega)
   omega
theorem law_TrackRegion (x:List Stp) (hx:x.length≤maxLen):Sw_FnExactTrackRegion x=some ((true,()),()):=by
 rw [maxLen_is] at hx
 rw [Sw_FnExactTrackRegion_eq]
 obtain ⟨m,h1,h2⟩:=Sw_szStopS_val x 1048576 (by omega) (by omega) (by omega)
 rw [h1,Option.bind_some]
 dsimp only
 rcases h2 with h2 | ⟨h2,h3,h4⟩
 ·rw [show decide (m < 0)=true by simp; omega]; rfl
 have hl:x.length≤1048576:=by omega
 rw [show decide (m < 0)=false by simp; omega,cond_false,Sw_toStopS_val x hl,Option.bind_some]
 dsimp only
 have w1:=Ss_TrackRegion_val x hl
 have w2:=Si_TrackRegion_val x hl
 have w3:=trackR_z x
 generalize trackR x=r at *
 obtain ⟨r,ok⟩:=r
 unfold regO at w1 w2
 dsimp only at w1 w2 w3
 have q3:=tdG r 1
 have n1:decide ((1+6*(x.length:Int)) < 0)=false:=decide_eq_false (by omega)
 have n2:decide ((tG r 1).2 < 0)=false:=decide_eq_false (by omega)
 have m1:=Sw_markStopS_val (x:=x) (k:=1) hl (by omega) (by omega)
 have m3:=Sw_markRegion_val r 1 (by omega) (by omega) (by omega)
 have m4:=Sw_heldRegion_val r 1 (by omega) (by omega) (by omega)
 have e3:=Sw_eqRegion_val r (by omega)
 rw [w1,Option.bind_some,Option.bind_some,w2,Option.bind_some]
 dsimp only
 rw [e3,Option.bind_some]
 simp only [Bool.not_true,cond_false,beq_self_eq_true,Option.bind_some,Sw_eqStopS_val x hl,m1,n1,e3,m3,m4,n2,bne_self_eq_false,w2]
end Go.Proofs.YtkanidldnnfloaaGreat.P.It
