/- A part of the proof: Plainh. No conditions. -/
import Derived.Test.YtbhogmdpmkpinaaGreatPIt3h
import Derived.Test.YtbhogmdpmkpinaaGreatPG8
set_option linter.unusedVariables false
set_option linter.unusedSimpArgs false
namespace Go.Proofs.YtbhogmdpmkpinaaGreat.P.It
open Am
variable{n v:Nat}{a b:aa}{R α β:Type}{d k p q y:Int}{c m:ab}{x z:aX}{S l l':List aa}{r:List ab}{s:dn}{K:List (List ab)}
theorem cj{x:Int}(h1 : -9223372036854775808<=x)(h2:x<=9223372036854775807):IntKind.i64.wrap x=x:=by
 rw[IntKind.wrap_i64];omega
theorem aA{xs:List α}{i:Nat}(h:i<xs.length):ae xs (i:Int)=some xs[i]:=by
 unfold ae;rw[if_pos (by omega)];simp[h]
theorem aN{i:Nat}(h:i<=1000000000000):IntKind.i64.wrap ((i:Int)+1)=((i+1:Nat):Int):=by
 rw[cj]<;>omega
theorem aQ{i:Nat}(h:i<n):decide ((i:Int)<(n:Int))=true:=by simp;omega
theorem aV(n:Nat):decide ((n:Int)<(n:Int))=false:=by simp
theorem n9:decide ((-1:Int)<0)=true:=by decide
theorem lx:maxLen=9223372036854775807:=by decide
theorem kD{R:Type}(x:List α)(c:Int)(hl:x.length<=68719476736)(h0:0<=c)(hc:c<=1000)(A B:R):(bif decide (0<=(x.length:Int))&&decide ((x.length:Int)<=(x.length:Int))&&decide ((x.length:Int)*c<=140737488355328)&&decide ((x.length:Int)<=9223372036854775807)then A else B)=A:=by
 have h1:(x.length:Int)*c<=68719476736*1000:=Int.mul_le_mul (by omega) hc h0 (by omega);have h2:(x.length:Int)*c<=140737488355328:=by omega
 have h3:(x.length:Int)<=9223372036854775807:=by omega
 simp[h2,h3]
theorem lU(x:List α)(p:α->Bool)(F E:Option R)(f:Int->Option R)(hl:x.length<=68719476736)
  (h1:∀(i:Nat) (h:i<x.length),f (i:Int)=bif p x[i]then f ((i+1:Nat):Int)else F) (h2:f (x.length:Int)=E) :
  ∀(n i:Nat),n+i=x.length->f (i:Int)=bif (x.drop i).all p then E else F
 | 0,i,hn=>by
  obtain rfl:i=x.length:=by omega
  rw[h2,List.drop_eq_nil_of_le (by omega)];rfl
 | n+1,i,hn=>by
  have hi:i<x.length:=by omega
  rw[h1 i hi,lU x p F E f hl h1 h2 n (i+1) (by omega),List.drop_eq_getElem_cons hi,List.all_cons];cases p x[i]<;>rfl
theorem Cr(x:List α)(p:α->Bool)(F E:Option R)(f:Int->Option R)(hl:x.length<=68719476736)
  (h1:∀(i:Nat) (h:i<x.length),f (i:Int)=bif p x[i]then f ((i+1:Nat):Int)else F) (h2:f (x.length:Int)=E):f 0=bif x.all p then E else F:=by
 have:=lU x p F E f hl h1 h2 x.length 0 (by omega)
 rwa [List.drop_zero]at this
def dp{α:Type}(p:α->Bool)(x:List α):Int:=if x.findIdx p<x.length then (x.findIdx p:Int)else -1
theorem JK(x:List α)(p:α->Bool)(r:Int->Option R)(f:Int->Option R)
  (h1:∀(i:Nat) (h:i<x.length),f (i:Int)=bif p x[i]then r (i:Int)else f ((i+1:Nat):Int)) (h2:f (x.length:Int)=r (-1)) :
  ∀(n i:Nat),n+i=x.length->(∀j (h:j<x.length),j<i->p x[j]=false)->f (i:Int)=r (dp p x)
 | 0,i,hn,hp=>by
  obtain rfl:i=x.length:=by omega
  have:x.findIdx p=x.length:=List.findIdx_eq_length.2 (λy hy=>by
   obtain⟨j,hj,rfl⟩:=List.mem_iff_getElem.1 hy;exact hp j hj hj)
  rw[h2];unfold dp;rw[if_neg (by omega)]
 | n+1,i,hn,hp=>by
  have hi:i<x.length:=by omega
  rw[h1 i hi];cases hb:p x[i]with
  | true =>
   have:x.findIdx p=i:=(List.findIdx_eq hi).2 ⟨hb,λj hj=>hp j (by omega) hj⟩;unfold dp;rw[this,if_pos hi];rfl
  | false =>
   rw[cond_false];exact JK x p r f h1 h2 n (i+1) (by omega) (λj hj cR=>by
    by_cases he:j=i
    ·subst he;exact hb
    ·exact hp j hj (by omega))
def fa(k:Int)(n:Nat):Int:=if (n:Int)<=k then k - n else -1
theorem fw(h:¬(n:Int)<=k):fa k n = -1:=if_neg h
theorem oo(h:(n:Int)<=k):fa k n=k - n:=if_pos h
theorem mQ(k:Int)(n:Nat):(fa k n = -1/\¬(n:Int)<=k)\/∃m,fa k n=m/\m=k - n/\0<=m:=by
 by_cases h:(n:Int)<=k
 ·exact .inr ⟨_,oo h,rfl,by omega⟩
 ·exact .inl ⟨fw h,h⟩
theorem q6{a b:Nat}{u:R}(h:0<=k - (a:Int)):some ((fa (k - (a:Int)) b,u),u)=some ((fa k (a+b),u),u):=by
 congr 3;unfold fa;by_cases h1:(b:Int)<=k - a
 ·rw[if_pos h1,if_pos (by omega)];omega
 ·rw[if_neg h1,if_neg (by omega)]
def zB(x:ByteArray):Nat:=x.size
def zI(x:List Int):Nat:=x.length
def zL{α:Type}(f:α->Nat)(x:List α):Nat:=x.length+(x.map f).sum
theorem gG(f:α->Nat)(x:List α):x.length<=zL f x:=Nat.le_add_right _ _
theorem gh(f:α->Nat){x:List α}{y:α}(h:y∈x):f y<=zL f x:=by
 have:f y<=(x.map f).sum:=by
  induction x with
  | nil=>cases h
  | cons a l ih =>
   rw[List.map_cons,List.sum_cons];rcases List.mem_cons.1 h with rfl|h
   ·omega
   ·have:=ih h;omega
 unfold zL;omega
theorem q7(x:List α)(W:α->Prop)(g:α->Nat)(S:α->Int->Option ((Int×PUnit)×PUnit))(f:Int->Int->Option ((Int×PUnit)×PUnit))(hl:x.length<=1048576)(hW:∀y∈x,W y)
  (hS:∀y k,W y->0<=k->k<=1048576->S y k=some ((fa k (g y),()),()))
  (h1:∀(i:Nat) (h:i<x.length) k,f k (i:Int)=(S x[i] k).bind λy=>bif decide (y.1.1<0)then some ((-1,()),())else f y.1.1 ((i+1:Nat):Int)) (h2:∀k,f k (x.length:Int)=some ((k,()),())) :
  ∀(n i:Nat) (k:Int),n+i=x.length->0<=k->k<=1048576->f k (i:Int)=some ((fa k ((x.drop i).map g).sum,()),())
 | 0,i,k,hn,h0,hk=>by
  obtain rfl:i=x.length:=by omega
  rw[h2,List.drop_eq_nil_of_le (by omega),oo (by simpa using h0)];simp
 | n+1,i,k,hn,h0,hk=>by
  have hi:i<x.length:=by omega
  rw[h1 i hi,hS x[i] k (hW _ (List.getElem_mem hi)) h0 hk,List.drop_eq_getElem_cons hi,List.map_cons,List.sum_cons];simp only[Option.bind_some];rcases mQ k (g x[i])with⟨e,a⟩|⟨m,e,a,d⟩
  ·rw[e,n9,cond_true,fw (by omega)]
  ·have c:decide (m<0)=false:=by simp;omega
   rw[e,c,cond_false,q7 x W g S f hl hW hS h1 h2 n (i+1) m (by omega) d (by omega),a];exact q6 (by omega)
theorem Wu(x:List α)(S:α->Option ((α×PUnit)×PUnit))(f:List α->Int->Option ((List α×PUnit)×PUnit))(hl:x.length<=68719476736)(hS:∀y∈x,S y=some ((y,()),()))
  (h1:∀(i:Nat) (h:i<x.length) (v:List α),v.length=x.length->f v (i:Int)=(S x[i]).bind λy=>f (v.set i y.1.1) ((i+1:Nat):Int)) (h2:∀v:List α,f v (x.length:Int)=some ((v,()),())) :
  ∀(n i:Nat) (v:List α),n+i=x.length->v.length=x.length->f v (i:Int)=some ((v.take i++x.drop i,()),())
 | 0,i,v,hn,hv=>by
  obtain rfl:i=x.length:=by omega
  rw[h2,List.take_of_length_le (by omega),List.drop_eq_nil_of_le (by omega),List.append_nil]
 | n+1,i,v,hn,hv=>by
  have hi:i<x.length:=by omega
  rw[h1 i hi v hv,hS _ (List.getElem_mem hi)];simp only[Option.bind_some];rw[Wu x S f hl hS h1 h2 n (i+1) _ (by omega) (by simpa using hv)];congr 3;have e1:(v.set i x[i]).take (i+1)=v.take i++[x[i]]:=by
   rw[List.take_add_one,List.take_set_of_le (by omega)];simp[hv,hi]
  rw[e1,List.append_assoc,List.singleton_append];congr 1;exact (List.drop_eq_getElem_cons hi).symm
theorem pW(x:List α)(S:α->Option ((α×PUnit)×PUnit))(f:List α->Int->Option ((List α×PUnit)×PUnit))(hl:x.length<=68719476736)(hS:∀y∈x,S y=some ((y,()),()))
  (h1:∀(i:Nat) (h:i<x.length) (v:List α),v.length=x.length->f v (i:Int)=(S x[i]).bind λy=>f (v.set i y.1.1) ((i+1:Nat):Int)) (h2:∀v:List α,f v (x.length:Int)=some ((v,()),())) (v:List α) (hv:v.length=x.length) :
  f v 0=some ((x,()),()):=by
 have:=Wu x S f hl hS h1 h2 x.length 0 v (by omega) hv;rw[Int.natCast_zero]at this;rw[this];simp
theorem p3(x:List α)(E:Option R)(f:Int->Option R)(hl:x.length<=68719476736)
  (h1:∀(i:Nat) (h:i<x.length),f (i:Int)=f ((i+1:Nat):Int)) (h2:f (x.length:Int)=E):f 0=E:=by
 have:=Cr x (λ_=>true) E E f hl (λi h=>by simpa using h1 i h) h2;rw[this];cases x.all _<;>rfl
def zA(x:aa):Nat:=zI x.1
abbrev xE:Ty:=.agg (.pair (.slice 0 (.int .i64)) (.pair (.int .i64) .bool))
def zC(x:ab):Nat:=zL zA x.2
abbrev aa1:Ty:=.agg (.pair (.int .i64) (.slice 0 xE))
def zR(x:Rw):Nat:=zB x.1+zC x.2
abbrev DR:Ty:=.agg (.pair .str aa1)
def zQ(x:Rel):Nat:=zB x.1+zL zR x.2.2
abbrev tN:Ty:=.agg (.pair .str (.pair (.int .i64) (.slice 0 DR)))
def zN(x:ak):Nat:=zA x.2.1+zB x.2.2.1+zB x.2.2.2.1+zI x.2.2.2.2.1
abbrev tM:Ty:=.agg (.pair (.int .i64) (.pair xE (.pair .str (.pair .str (.pair (.slice 0 (.int .i64)) (.pair (.int .i64) (.pair (.int .i64) (.int .i64))))))))
def zS(x:dn):Nat:=zL (zL zN) x.1+zL (zL zQ) x.2
abbrev aa2:Ty:=.agg (.pair (.slice 0 (.slice 0 tM)) (.slice 0 (.slice 0 tN)))
theorem VI(x:List Int)(k:Int)(w:cY (.slice 0 (.int .i64)) x)(h0:0<=k)(hk:k<=1048576):AJ x k=some ((fa k (zI x),()),()):=by
 have hl:x.length<=maxLen:=w.1;rw[lx]at hl;rw[ajU,cj (by omega) (by omega)];by_cases h:k - (x.length:Int)<0
 ·simp only[h,decide_true,cond_true];rw[fw (by unfold zI;omega)]
 ·simp only[h,decide_false,cond_false];rw[oo (by unfold zI;omega)];rfl
theorem VH(x:aa)(k:Int)(w:cY xE x)(h0:0<=k)(hk:k<=1048576):vB x k=some ((fa k (zA x),()),()):=by
 have hz:zA x=zI x.1:=rfl;rw[ajR];rw[VI _ _ w.1 (by omega) (by omega)];simp only[Option.bind_some];rcases mQ k (zI x.1)with⟨e1,a1⟩|⟨k1,e1,a1,d1⟩
 ·rw[e1];simp only[n9,cond_true];rw[fw (by rw[hz];omega)]
 have c1:decide (k1<0)=false:=by simp;omega
 rw[e1];simp only[c1,cond_false];rw[oo (by rw[hz];omega)];congr 3<;>(rw[hz];omega)
theorem ajQ(x:List aa)(k:Int)(w:cY (.slice 0 xE) x)(h0:0<=k)(hk:k<=1048576):AI x k=some ((fa k (zL zA x),()),()):=by
 have hl:x.length<=maxLen:=w.1;rw[lx]at hl;rw[ajP,cj (by omega) (by omega)];have hz:zL zA x=x.length+(x.map zA).sum:=rfl;by_cases h:k - (x.length:Int)<0
 ·simp only[h,decide_true,cond_true];rw[fw (by rw[hz];omega)]
 ·simp only[h,decide_false,cond_false];have:=q7 x (cY xE) zA vB (λk i=>zo x k i) (by omega) w.2 (λy k w h0 hk=>VH y k w h0 hk) (λi hi k=>by
   rw[Uy,aA hi,aQ hi,aN (by omega)];simp only[cond_true,Option.bind_some]) (λk=>by rw[Uy,aV];rfl) x.length 0 (k - (x.length:Int)) (by omega) (by omega) (by omega)
  rw[Int.natCast_zero]at this;refine this.trans ?_;rw[List.drop_zero,hz,q6 (by omega)]
theorem ajT(x:ab)(k:Int)(w:cY aa1 x)(h0:0<=k)(hk:k<=1048576):Hp x k=some ((fa k (zC x),()),()):=by
 have hz:zC x=zL zA x.2:=rfl;rw[ajS];rw[ajQ _ _ w.2 (by omega) (by omega)];simp only[Option.bind_some];rcases mQ k (zL zA x.2)with⟨e1,a1⟩|⟨k1,e1,a1,d1⟩
 ·rw[e1];simp only[n9,cond_true];rw[fw (by rw[hz];omega)]
 have c1:decide (k1<0)=false:=by simp;omega
 rw[e1];simp only[c1,cond_false];rw[oo (by rw[hz];omega)];congr 3<;>(rw[hz];omega)
theorem aka(x:Rw)(k:Int)(w:cY DR x)(h0:0<=k)(hk:k<=1048576):AO x k=some ((fa k (zR x),()),()):=by
 have hz:zR x=zB x.1+zC x.2:=rfl;rw[aj9];have b1:zB x.1<=maxLen:=w.1;rw[lx]at b1;obtain⟨k1,e1,a1⟩:∃m,IntKind.i64.wrap (k - ((ByteArray.size x.1:Nat):Int))=m/\m=k - (zB x.1:Int):=⟨_,cj (by unfold zB at b1;omega) (by unfold zB at b1;omega),rfl⟩;simp only[e1];by_cases d1:k1<0
 ·simp only[d1,decide_true,cond_true];rw[fw (by rw[hz];omega)]
 simp only[d1,decide_false,cond_false];rw[ajT _ _ w.2 (by omega) (by omega)];simp only[Option.bind_some];rcases mQ k1 (zC x.2)with⟨e2,a2⟩|⟨k2,e2,a2,d2⟩
 ·rw[e2];simp only[n9,cond_true];rw[fw (by rw[hz];omega)]
 have c2:decide (k2<0)=false:=by simp;omega
 rw[e2];simp only[c2,cond_false];rw[oo (by rw[hz];omega)];congr 3<;>(rw[hz];omega)
theorem aj8(x:List Rw)(k:Int)(w:cY (.slice 0 DR) x)(h0:0<=k)(hk:k<=1048576):AP x k=some ((fa k (zL zR x),()),()):=by
 have hl:x.length<=maxLen:=w.1;rw[lx]at hl;rw[aj7,cj (by omega) (by omega)];have hz:zL zR x=x.length+(x.map zR).sum:=rfl;by_cases h:k - (x.length:Int)<0
 ·simp only[h,decide_true,cond_true];rw[fw (by rw[hz];omega)]
 ·simp only[h,decide_false,cond_false];have:=q7 x (cY DR) zR AO (λk i=>zu x k i) (by omega) w.2 (λy k w h0 hk=>aka y k w h0 hk) (λi hi k=>by
   rw[UD,aA hi,aQ hi,aN (by omega)];simp only[cond_true,Option.bind_some]) (λk=>by rw[UD,aV];rfl) x.length 0 (k - (x.length:Int)) (by omega) (by omega) (by omega)
  rw[Int.natCast_zero]at this;refine this.trans ?_;rw[List.drop_zero,hz,q6 (by omega)]
theorem aj6(x:Rel)(k:Int)(w:cY tN x)(h0:0<=k)(hk:k<=1048576):AM x k=some ((fa k (zQ x),()),()):=by
 have hz:zQ x=zB x.1+zL zR x.2.2:=rfl;rw[aj5];have b1:zB x.1<=maxLen:=w.1;rw[lx]at b1;obtain⟨k1,e1,a1⟩:∃m,IntKind.i64.wrap (k - ((ByteArray.size x.1:Nat):Int))=m/\m=k - (zB x.1:Int):=⟨_,cj (by unfold zB at b1;omega) (by unfold zB at b1;omega),rfl⟩;simp only[e1];by_cases d1:k1<0
 ·simp only[d1,decide_true,cond_true];rw[fw (by rw[hz];omega)]
 simp only[d1,decide_false,cond_false];rw[aj8 _ _ w.2.2 (by omega) (by omega)];simp only[Option.bind_some];rcases mQ k1 (zL zR x.2.2)with⟨e2,a2⟩|⟨k2,e2,a2,d2⟩
 ·rw[e2];simp only[n9,cond_true];rw[fw (by rw[hz];omega)]
 have c2:decide (k2<0)=false:=by simp;omega
 rw[e2];simp only[c2,cond_false];rw[oo (by rw[hz];omega)];congr 3<;>(rw[hz];omega)
theorem aj4(x:List Rel)(k:Int)(w:cY (.slice 0 tN) x)(h0:0<=k)(hk:k<=1048576):vD x k=some ((fa k (zL zQ x),()),()):=by
 have hl:x.length<=maxLen:=w.1;rw[lx]at hl;rw[aj3,cj (by omega) (by omega)];have hz:zL zQ x=x.length+(x.map zQ).sum:=rfl;by_cases h:k - (x.length:Int)<0
 ·simp only[h,decide_true,cond_true];rw[fw (by rw[hz];omega)]
 ·simp only[h,decide_false,cond_false];have:=q7 x (cY tN) zQ AM (λk i=>zt x k i) (by omega) w.2 (λy k w h0 hk=>aj6 y k w h0 hk) (λi hi k=>by
   rw[UC,aA hi,aQ hi,aN (by omega)];simp only[cond_true,Option.bind_some]) (λk=>by rw[UC,aV];rfl) x.length 0 (k - (x.length:Int)) (by omega) (by omega) (by omega)
  rw[Int.natCast_zero]at this;refine this.trans ?_;rw[List.drop_zero,hz,q6 (by omega)]
theorem aj2(x:List (List Rel))(k:Int)(w:cY (.slice 0 (.slice 0 tN)) x)(h0:0<=k)(hk:k<=1048576):AN x k=some ((fa k (zL (zL zQ) x),()),()):=by
 have hl:x.length<=maxLen:=w.1;rw[lx]at hl;rw[aj1,cj (by omega) (by omega)];have hz:zL (zL zQ) x=x.length+(x.map (zL zQ)).sum:=rfl;by_cases h:k - (x.length:Int)<0
 ·simp only[h,decide_true,cond_true];rw[fw (by rw[hz];omega)]
 ·simp only[h,decide_false,cond_false];have:=q7 x (cY (.slice 0 tN)) (zL zQ) vD (λk i=>zr x k i) (by omega) w.2 (λy k w h0 hk=>aj4 y k w h0 hk) (λi hi k=>by
   rw[UB,aA hi,aQ hi,aN (by omega)];simp only[cond_true,Option.bind_some]) (λk=>by rw[UB,aV];rfl) x.length 0 (k - (x.length:Int)) (by omega) (by omega) (by omega)
  rw[Int.natCast_zero]at this;refine this.trans ?_;rw[List.drop_zero,hz,q6 (by omega)]
theorem aj0(x:ak)(k:Int)(w:cY tM x)(h0:0<=k)(hk:k<=1048576):AK x k=some ((fa k (zN x),()),()):=by
 have hz:zN x=zA x.2.1+zB x.2.2.1+zB x.2.2.2.1+zI x.2.2.2.2.1:=rfl;rw[ajZ];rw[VH _ _ w.2.1 (by omega) (by omega)];simp only[Option.bind_some];rcases mQ k (zA x.2.1)with⟨e1,a1⟩|⟨k1,e1,a1,d1⟩
 ·rw[e1];simp only[n9,cond_true];rw[fw (by rw[hz];omega)]
 have c1:decide (k1<0)=false:=by simp;omega
 rw[e1];simp only[c1,cond_false];have b2:zB x.2.2.1<=maxLen:=w.2.2.1;rw[lx]at b2;obtain⟨k2,e2,a2⟩:∃m,IntKind.i64.wrap (k1 - ((ByteArray.size x.2.2.1:Nat):Int))=m/\m=k1 - (zB x.2.2.1:Int):=⟨_,cj (by unfold zB at b2;omega) (by unfold zB at b2;omega),rfl⟩;simp only[e2];by_cases d2:k2<0
 ·simp only[d2,decide_true,cond_true];rw[fw (by rw[hz];omega)]
 simp only[d2,decide_false,cond_false];have b3:zB x.2.2.2.1<=maxLen:=w.2.2.2.1;rw[lx]at b3;obtain⟨k3,e3,a3⟩:∃m,IntKind.i64.wrap (k2 - ((ByteArray.size x.2.2.2.1:Nat):Int))=m/\m=k2 - (zB x.2.2.2.1:Int):=⟨_,cj (by unfold zB at b3;omega) (by unfold zB at b3;omega),rfl⟩;simp only[e3];by_cases d3:k3<0
 ·simp only[d3,decide_true,cond_true];rw[fw (by rw[hz];omega)]
 simp only[d3,decide_false,cond_false];rw[VI _ _ w.2.2.2.2.1 (by omega) (by omega)];simp only[Option.bind_some];rcases mQ k3 (zI x.2.2.2.2.1)with⟨e4,a4⟩|⟨k4,e4,a4,d4⟩
 ·rw[e4];simp only[n9,cond_true];rw[fw (by rw[hz];omega)]
 have c4:decide (k4<0)=false:=by simp;omega
 rw[e4];simp only[c4,cond_false];rw[oo (by rw[hz];omega)];congr 3<;>(rw[hz];omega)
theorem ajY(x:List ak)(k:Int)(w:cY (.slice 0 tM) x)(h0:0<=k)(hk:k<=1048576):vC x k=some ((fa k (zL zN x),()),()):=by
 have hl:x.length<=maxLen:=w.1;rw[lx]at hl;rw[ajX,cj (by omega) (by omega)];have hz:zL zN x=x.length+(x.map zN).sum:=rfl;by_cases h:k - (x.length:Int)<0
 ·simp only[h,decide_true,cond_true];rw[fw (by rw[hz];omega)]
 ·simp only[h,decide_false,cond_false];have:=q7 x (cY tM) zN AK (λk i=>zq x k i) (by omega) w.2 (λy k w h0 hk=>aj0 y k w h0 hk) (λi hi k=>by
   rw[UA,aA hi,aQ hi,aN (by omega)];simp only[cond_true,Option.bind_some]) (λk=>by rw[UA,aV];rfl) x.length 0 (k - (x.length:Int)) (by omega) (by omega) (by omega)
  rw[Int.natCast_zero]at this;refine this.trans ?_;rw[List.drop_zero,hz,q6 (by omega)]
theorem ajW(x:List (List ak))(k:Int)(w:cY (.slice 0 (.slice 0 tM)) x)(h0:0<=k)(hk:k<=1048576):AL x k=some ((fa k (zL (zL zN) x),()),()):=by
 have hl:x.length<=maxLen:=w.1;rw[lx]at hl;rw[ajV,cj (by omega) (by omega)];have hz:zL (zL zN) x=x.length+(x.map (zL zN)).sum:=rfl;by_cases h:k - (x.length:Int)<0
 ·simp only[h,decide_true,cond_true];rw[fw (by rw[hz];omega)]
 ·simp only[h,decide_false,cond_false];have:=q7 x (cY (.slice 0 tM)) (zL zN) vC (λk i=>zp x k i) (by omega) w.2 (λy k w h0 hk=>ajY y k w h0 hk) (λi hi k=>by
   rw[Uz,aA hi,aQ hi,aN (by omega)];simp only[cond_true,Option.bind_some]) (λk=>by rw[Uz,aV];rfl) x.length 0 (k - (x.length:Int)) (by omega) (by omega) (by omega)
  rw[Int.natCast_zero]at this;refine this.trans ?_;rw[List.drop_zero,hz,q6 (by omega)]
theorem akc(x:dn)(k:Int)(w:cY aa2 x)(h0:0<=k)(hk:k<=1048576):Hq x k=some ((fa k (zS x),()),()):=by
 have hz:zS x=zL (zL zN) x.1+zL (zL zQ) x.2:=rfl;rw[akb];rw[ajW _ _ w.1 (by omega) (by omega)];simp only[Option.bind_some];rcases mQ k (zL (zL zN) x.1)with⟨e1,a1⟩|⟨k1,e1,a1,d1⟩
 ·rw[e1];simp only[n9,cond_true];rw[fw (by rw[hz];omega)]
 have c1:decide (k1<0)=false:=by simp;omega
 rw[e1];simp only[c1,cond_false];rw[aj2 _ _ w.2 (by omega) (by omega)];simp only[Option.bind_some];rcases mQ k1 (zL (zL zQ) x.2)with⟨e2,a2⟩|⟨k2,e2,a2,d2⟩
 ·rw[e2];simp only[n9,cond_true];rw[fw (by rw[hz];omega)]
 have c2:decide (k2<0)=false:=by simp;omega
 rw[e2];simp only[c2,cond_false];rw[oo (by rw[hz];omega)];congr 3<;>(rw[hz];omega)
theorem VK(x:List Int)(h:zI x<=68719476736):vF x=some ((x,()),()):=by
 have hl:x.length<=68719476736:=h;rw[aki,kD x 8 hl (by omega) (by omega)];exact pW x (λy=>some ((y,()),())) (λv i=>zw x v i) hl (λy _=>rfl) (λi hi v hv=>by
  rw[UF,aQ hi,aN (by omega)];simp only[aA hi,aA (show i<v.length by omega),cond_true,Option.bind_some,Int.toNat_natCast]) (λv=>by rw[UF,aV];rfl) _ (by simp)
theorem VJ(x:aa)(h:zA x<=68719476736):vE x=some ((x,()),()):=by
 have hz:zA x=zI x.1:=rfl;rw[akf,VK _ (by omega)];rfl
theorem ake(x:List aa)(h:zL zA x<=68719476736):AQ x=some ((x,()),()):=by
 have hl:x.length<=68719476736:=Nat.le_trans (gG _ x) h;rw[akd,kD x 40 hl (by omega) (by omega)];exact pW x vE (λv i=>zv x v i) hl (λy hy=>VJ y (Nat.le_trans (gh _ hy) h)) (λi hi v hv=>by
  rw[UE,aQ hi,aN (by omega)];simp only[aA hi,aA (show i<v.length by omega),cond_true,Option.bind_some,Int.toNat_natCast]) (λv=>by rw[UE,aV];rfl) _ (by simp)
theorem akh(x:ab)(h:zC x<=68719476736):Hr x=some ((x,()),()):=by
 have hz:zC x=zL zA x.2:=rfl;rw[akg,ake _ (by omega)];rfl
theorem aky(x:Rw)(h:zR x<=68719476736):AV x=some ((x,()),()):=by
 have hz:zR x=zB x.1+zC x.2:=rfl;rw[akx,akh _ (by omega)];rfl
theorem akw(x:List Rw)(h:zL zR x<=68719476736):AW x=some ((x,()),()):=by
 have hl:x.length<=68719476736:=Nat.le_trans (gG _ x) h;rw[akv,kD x 48 hl (by omega) (by omega)];exact pW x AV (λv i=>zG x v i) hl (λy hy=>aky y (Nat.le_trans (gh _ hy) h)) (λi hi v hv=>by
  rw[UK,aQ hi,aN (by omega)];simp only[aA hi,aA (show i<v.length by omega),cond_true,Option.bind_some,Int.toNat_natCast]) (λv=>by rw[UK,aV];rfl) _ (by simp)
theorem aku(x:Rel)(h:zQ x<=68719476736):AT x=some ((x,()),()):=by
 have hz:zQ x=zB x.1+zL zR x.2.2:=rfl;rw[akt,akw _ (by omega)];rfl
theorem aks(x:List Rel)(h:zL zQ x<=68719476736):vH x=some ((x,()),()):=by
 have hl:x.length<=68719476736:=Nat.le_trans (gG _ x) h;rw[akr,kD x 48 hl (by omega) (by omega)];exact pW x AT (λv i=>zF x v i) hl (λy hy=>aku y (Nat.le_trans (gh _ hy) h)) (λi hi v hv=>by
  rw[UJ,aQ hi,aN (by omega)];simp only[aA hi,aA (show i<v.length by omega),cond_true,Option.bind_some,Int.toNat_natCast]) (λv=>by rw[UJ,aV];rfl) _ (by simp)
theorem akq(x:List (List Rel))(h:zL (zL zQ) x<=68719476736):AU x=some ((x,()),()):=by
 have hl:x.length<=68719476736:=Nat.le_trans (gG _ x) h;rw[akp,kD x 24 hl (by omega) (by omega)];exact pW x vH (λv i=>zD x v i) hl (λy hy=>aks y (Nat.le_trans (gh _ hy) h)) (λi hi v hv=>by
  rw[UI,aQ hi,aN (by omega)];simp only[aA hi,aA (show i<v.length by omega),cond_true,Option.bind_some,Int.toNat_natCast]) (λv=>by rw[UI,aV];rfl) _ (by simp)
theorem ako(x:ak)(h:zN x<=68719476736):AR x=some ((x,()),()):=by
 have hz:zN x=zA x.2.1+zB x.2.2.1+zB x.2.2.2.1+zI x.2.2.2.2.1:=rfl;rw[akn,VJ _ (by omega),VK _ (by omega)];rfl
theorem akm(x:List ak)(h:zL zN x<=68719476736):vG x=some ((x,()),()):=by
 have hl:x.length<=68719476736:=Nat.le_trans (gG _ x) h;rw[akl,kD x 128 hl (by omega) (by omega)];exact pW x AR (λv i=>zy x v i) hl (λy hy=>ako y (Nat.le_trans (gh _ hy) h)) (λi hi v hv=>by
  rw[UH,aQ hi,aN (by omega)];simp only[aA hi,aA (show i<v.length by omega),cond_true,Option.bind_some,Int.toNat_natCast]) (λv=>by rw[UH,aV];rfl) _ (by simp)
theorem akk(x:List (List ak))(h:zL (zL zN) x<=68719476736):AS x=some ((x,()),()):=by
 have hl:x.length<=68719476736:=Nat.le_trans (gG _ x) h;rw[akj,kD x 24 hl (by omega) (by omega)];exact pW x vG (λv i=>zx x v i) hl (λy hy=>akm y (Nat.le_trans (gh _ hy) h)) (λi hi v hv=>by
  rw[UG,aQ hi,aN (by omega)];simp only[aA hi,aA (show i<v.length by omega),cond_true,Option.bind_some,Int.toNat_natCast]) (λv=>by rw[UG,aV];rfl) _ (by simp)
theorem akA(x:dn)(h:zS x<=68719476736):vI x=some ((x,()),()):=by
 have hz:zS x=zL (zL zN) x.1+zL (zL zQ) x.2:=rfl;rw[akz,akk _ (by omega),akq _ (by omega)];rfl
theorem VG(x:List Int)(h:zI x<=68719476736):vA x x=some ((true,()),()):=by
 have hl:x.length<=68719476736:=h;rw[ajw];simp only[bne_self_eq_false,cond_false];refine p3 x (some ((true,()),())) (λi=>zi x x i) hl (λi hi=>?_) ?_
 ·rw[Us,aQ hi,aN (by omega)];simp only[aA hi,cond_true,Option.bind_some,bne_self_eq_false,beq_self_eq_true,Bool.not_true,cond_false]
 ·rw[Us,aV];rfl
theorem VF(x:aa)(h:zA x<=68719476736):AA x x=some ((true,()),()):=by
 have hz:zA x=zI x.1:=rfl;rw[ajt];simp only[bne_self_eq_false,beq_self_eq_true,Bool.not_true,cond_false,Option.bind_some,VG x.1 (by omega)]
theorem ajs(x:List aa)(h:zL zA x<=68719476736):AB x x=some ((true,()),()):=by
 have hl:x.length<=68719476736:=Nat.le_trans (gG _ x) h;rw[ajr];simp only[bne_self_eq_false,cond_false];refine p3 x (some ((true,()),())) (λi=>zh x x i) hl (λi hi=>?_) ?_
 ·rw[Ur,aQ hi,aN (by omega)];simp only[aA hi,cond_true,Option.bind_some,VF _ (Nat.le_trans (gh _ (List.getElem_mem hi)) h),Bool.not_true,cond_false]
 ·rw[Ur,aV];rfl
theorem ajv(x:ab)(h:zC x<=68719476736):Hk x x=some ((true,()),()):=by
 have hz:zC x=zL zA x.2:=rfl;rw[aju];simp only[bne_self_eq_false,beq_self_eq_true,Bool.not_true,cond_false,Option.bind_some,ajs x.2 (by omega)]
theorem ajM(x:Rw)(h:zR x<=68719476736):Hn x x=some ((true,()),()):=by
 have hz:zR x=zB x.1+zC x.2:=rfl;rw[ajL];simp only[bne_self_eq_false,beq_self_eq_true,Bool.not_true,cond_false,Option.bind_some,ajv x.2 (by omega)]
theorem ajK(x:List Rw)(h:zL zR x<=68719476736):AH x x=some ((true,()),()):=by
 have hl:x.length<=68719476736:=Nat.le_trans (gG _ x) h;rw[ajJ];simp only[bne_self_eq_false,cond_false];refine p3 x (some ((true,()),())) (λi=>zn x x i) hl (λi hi=>?_) ?_
 ·rw[Ux,aQ hi,aN (by omega)];simp only[aA hi,cond_true,Option.bind_some,ajM _ (Nat.le_trans (gh _ (List.getElem_mem hi)) h),Bool.not_true,cond_false]
 ·rw[Ux,aV];rfl
theorem ajI(x:Rel)(h:zQ x<=68719476736):Hm x x=some ((true,()),()):=by
 have hz:zQ x=zB x.1+zL zR x.2.2:=rfl;rw[ajH];simp only[bne_self_eq_false,beq_self_eq_true,Bool.not_true,cond_false,Option.bind_some,ajK x.2.2 (by omega)]
theorem ajG(x:List Rel)(h:zL zQ x<=68719476736):AF x x=some ((true,()),()):=by
 have hl:x.length<=68719476736:=Nat.le_trans (gG _ x) h;rw[ajF];simp only[bne_self_eq_false,cond_false];refine p3 x (some ((true,()),())) (λi=>zm x x i) hl (λi hi=>?_) ?_
 ·rw[Uw,aQ hi,aN (by omega)];simp only[aA hi,cond_true,Option.bind_some,ajI _ (Nat.le_trans (gh _ (List.getElem_mem hi)) h),Bool.not_true,cond_false]
 ·rw[Uw,aV];rfl
theorem ajE(x:List (List Rel))(h:zL (zL zQ) x<=68719476736):AG x x=some ((true,()),()):=by
 have hl:x.length<=68719476736:=Nat.le_trans (gG _ x) h;rw[ajD];simp only[bne_self_eq_false,cond_false];refine p3 x (some ((true,()),())) (λi=>zl x x i) hl (λi hi=>?_) ?_
 ·rw[Uv,aQ hi,aN (by omega)];simp only[aA hi,cond_true,Option.bind_some,ajG _ (Nat.le_trans (gh _ (List.getElem_mem hi)) h),Bool.not_true,cond_false]
 ·rw[Uv,aV];rfl
theorem ajC(x:ak)(h:zN x<=68719476736):Hl x x=some ((true,()),()):=by
 have hz:zN x=zA x.2.1+zB x.2.2.1+zB x.2.2.2.1+zI x.2.2.2.2.1:=rfl;rw[ajB];simp only[bne_self_eq_false,beq_self_eq_true,Bool.not_true,cond_false,Option.bind_some,VF x.2.1 (by omega),VG x.2.2.2.2.1 (by omega)]
theorem ajA(x:List ak)(h:zL zN x<=68719476736):AD x x=some ((true,()),()):=by
 have hl:x.length<=68719476736:=Nat.le_trans (gG _ x) h;rw[ajz];simp only[bne_self_eq_false,cond_false];refine p3 x (some ((true,()),())) (λi=>zk x x i) hl (λi hi=>?_) ?_
 ·rw[Uu,aQ hi,aN (by omega)];simp only[aA hi,cond_true,Option.bind_some,ajC _ (Nat.le_trans (gh _ (List.getElem_mem hi)) h),Bool.not_true,cond_false]
 ·rw[Uu,aV];rfl
theorem ajy(x:List (List ak))(h:zL (zL zN) x<=68719476736):AE x x=some ((true,()),()):=by
 have hl:x.length<=68719476736:=Nat.le_trans (gG _ x) h;rw[ajx];simp only[bne_self_eq_false,cond_false];refine p3 x (some ((true,()),())) (λi=>zj x x i) hl (λi hi=>?_) ?_
 ·rw[Ut,aQ hi,aN (by omega)];simp only[aA hi,cond_true,Option.bind_some,ajA _ (Nat.le_trans (gh _ (List.getElem_mem hi)) h),Bool.not_true,cond_false]
 ·rw[Ut,aV];rfl
theorem ajO(x:dn)(h:zS x<=68719476736):Ho x x=some ((true,()),()):=by
 have hz:zS x=zL (zL zN) x.1+zL (zL zQ) x.2:=rfl;rw[ajN];simp only[bne_self_eq_false,beq_self_eq_true,Bool.not_true,cond_false,Option.bind_some,ajy x.1 (by omega),ajE x.2 (by omega)]
def gA(a:aa):Prop:=a.1.length<=68719476736
def gC(c:ab):Prop:=c.2.length<=68719476736/\∀a∈c.2,gA a
def gR(r:Rw):Prop:=r.1.size<=68719476736/\gC r.2
def gL(r:Rel):Prop:=r.1.size<=68719476736/\r.2.2.length<=68719476736/\∀y∈r.2.2,gR y
theorem Xf{x:ByteArray}{i:Nat}(h:i<x.data.toList.length):nE x (i:Int)=some ((x.data.toList[i].toNat:Nat):Int):=by
 unfold nE;rw[if_pos (by omega)];have h':i<x.size:=by simpa using h
 simp only[Int.toNat_natCast];rw[show x[i]?=some x[i]from getElem?_pos x i h'];simp only[Option.map_some];congr 3
def jh(x:ByteArray)(a b:Int):Bool:=x.data.toList.all (λc => !(decide (((c.toNat:Nat):Int)<a)) && !(decide (((c.toNat:Nat):Int)>b)))&&(decide (1<=(x.size:Int))&&decide ((x.size:Int)<=6))
theorem tX(x:ByteArray):x.size=x.data.toList.length:=by simp
theorem iH(a b c:Int):gJ a b c=some ((decide (b<=a)&&decide (a<=c),()),()):=by
 rw[aiQ];by_cases h:a>=b
 ·simp[h]
 ·simp[h]
theorem Hh(x:ByteArray)(a b:Int)(hl:x.size<=68719476736):si x a b=some ((jh x a b,()),()):=by
 rw[ajj];have:=lU x.data.toList (λc => !(decide (((c.toNat:Nat):Int)<a)) && !(decide (((c.toNat:Nat):Int)>b))) (some ((false,()),())) (some ((decide (1<=(x.size:Int))&&decide ((x.size:Int)<=6),()),())) (λi=>u4 x a b i) (by rw[<-tX];exact hl) (λi hi=>by
  have hb:i<x.size:=by rw[tX];exact hi
  rw[Ul,Xf hi,aN (by omega)];simp only[aQ hb,cond_true,Option.bind_some];cases decide (((x.data.toList[i].toNat:Nat):Int)<a)<;>cases decide (((x.data.toList[i].toNat:Nat):Int)>b)<;>rfl) (by rw[Ul,<-tX,aV,iH];rfl) x.data.toList.length 0 (by omega)
 simp only[List.drop_zero,Int.natCast_zero]at this;rw[show u4 x a b 0=_ from this];unfold jh;cases x.data.toList.all _<;>rfl
theorem Vc(x:ByteArray)(a b:Int):vl x a b=some ((jh x a b,()),()):=by
 rw[ahS];unfold jh;by_cases h1:(x.size:Int)<1
 ·have:¬(1<=(x.size:Int)):=by omega
  simp[h1,this]
 ·by_cases h2:(x.size:Int)>6
  ·have:¬((x.size:Int)<=6):=by omega
   simp only[h1,h2,decide_false,decide_true,cond_false,cond_true,this,Bool.and_false]
  ·have e1:1<=(x.size:Int):=by omega
   have e2:(x.size:Int)<=6:=by omega
   simp only[h1,h2,decide_false,cond_false,e1,e2,decide_true,Bool.and_self,Bool.and_true];have:=lU x.data.toList (λc => !(decide (((c.toNat:Nat):Int)<a)) && !(decide (((c.toNat:Nat):Int)>b))) (some ((false,()),())) (some ((true,()),())) (λi=>uM x a b i) (by rw[<-tX];omega) (λi hi=>by
    have hb:i<x.size:=by rw[tX];exact hi
    rw[SN,Xf hi,aN (by omega)];simp only[aQ hb,cond_true,Option.bind_some];cases decide (((x.data.toList[i].toNat:Nat):Int)<a)<;>cases decide (((x.data.toList[i].toNat:Nat):Int)>b)<;>rfl) (by rw[SN,<-tX,aV];rfl) x.data.toList.length 0 (by omega)
   simp only[List.drop_zero,Int.natCast_zero]at this;rw[show uM x a b 0=_ from this];cases x.data.toList.all _<;>rfl
theorem ahQ(x:ByteArray):GU x=some ((jh x 65 90,()),()):=by
 rw[ahP,Vc];rfl
theorem Vb(x:ByteArray):z8 x=some ((jh x 97 122,()),()):=by
 rw[ahO,Vc];rfl
def dt(a:Int):Bool:=decide (-400000000<=a)&&decide (a<=400000000)
theorem Vp(a:Int):Aj a=some ((dt a,()),()):=by
 rw[aix,iH,Option.bind_some];rfl
theorem UU(a:Int):zT a=some ((dt a,()),()):=by
 rw[aha];unfold dt;by_cases h:a >= -400000000
 ·simp[h]
 ·simp[h]
theorem ahx{a:Int}(h:dt a=true):rY a=some (((a.natAbs:Int),()),()):=by
 simp only[dt,Bool.and_eq_true,decide_eq_true_eq]at h;rw[GP];by_cases h0:a<0
 ·simp only[h0,decide_true,cond_true];rw[cj (by omega) (by omega)];congr 3;omega
 ·simp only[h0,decide_false,cond_false];congr 3;omega
theorem ahw(a:Nat):rY (a:Int)=some (((a:Int),()),()):=by
 rw[GP];have:decide ((a:Int)<0)=false:=by simp
 rw[this,cond_false]
theorem Vu{a:Int}(h:dt a=true):vt a=some (((a.natAbs:Int),()),()):=by
 simp only[dt,Bool.and_eq_true,decide_eq_true_eq]at h;rw[Vt];rw[cj (by omega) (by omega)];simp only[cond_true];congr 3;split<;>omega
theorem EU:∀(n:Nat) (a b:Int),b.natAbs<=n->0<=a->0<=b->yI a b=some ((((Nat.gcd a.natAbs b.natAbs:Nat):Int),()),())
 | n,a,b,hn,ha,hb=>by
  rw[afs];by_cases h0:b=0
  ·subst h0;simp only[bne_self_eq_false,cond_false];simp;omega
  ·have:(b != 0)=true:=by simpa using h0
   rw[this,cond_true,cond_true];have ax:a.natAbs % b.natAbs<b.natAbs:=Nat.mod_lt _ (by omega);have hm:=Int.natAbs_tmod a b;cases n with
   | zero=>omega
   | succ n =>
    rw[EU n b (Int.tmod a b) (by omega) hb (Int.tmod_nonneg _ ha),hm];congr 4;rw[Nat.gcd_comm a.natAbs,Nat.gcd_rec b.natAbs a.natAbs,Nat.gcd_comm]
 termination_by n=>n
theorem U3(a:Nat){b:Int}(hb:dt b=true):pK (a:Int) b=some ((((Nat.gcd a b.natAbs:Nat):Int),()),()):=by
 rw[U2,ahw,ahx hb];simp only[Option.bind_some];rw[EU _ _ _ (Nat.le_refl _) (by omega) (by omega)];simp
def gl(x:List Int)(g:Nat):Nat:=x.foldl (λg y=>Nat.gcd g y.natAbs) g
theorem Xm:∀(x:List Int) (g h:Nat),gl x (Nat.gcd g h)=Nat.gcd (gl x g) h
 | [],_,_=>rfl
 | y::x,g,h=>by
  change gl x (Nat.gcd (Nat.gcd g h) y.natAbs)=Nat.gcd (gl x (Nat.gcd g y.natAbs)) h;rw[show Nat.gcd (Nat.gcd g h) y.natAbs=Nat.gcd (Nat.gcd g y.natAbs) h by rw[Nat.gcd_assoc,Nat.gcd_comm h,<-Nat.gcd_assoc],Xm x]
theorem JS(x:List Int)(k:Nat):gl x k=Nat.gcd (gl x 0) k:=by
 rw[<-Xm,Nat.gcd_zero_left]
theorem E1(x:List Int)(i:Int):∀(n:Nat) (a b:Int),b.natAbs<=n->0<=a->0<=b->y6 x a i b=rR x ((Nat.gcd a.natAbs b.natAbs:Nat):Int) (IntKind.i64.wrap (i+1))
 | n,a,b,hn,ha,hb=>by
  rw[afw];by_cases h0:b=0
  ·subst h0;simp only[bne_self_eq_false,cond_false];congr 1;simp;omega
  ·have:(b != 0)=true:=by simpa using h0
   rw[this,cond_true,cond_true];have ax:a.natAbs % b.natAbs<b.natAbs:=Nat.mod_lt _ (by omega);have hm:=Int.natAbs_tmod a b;cases n with
   | zero=>omega
   | succ n =>
    rw[E1 x i n b (Int.tmod a b) (by omega) hb (Int.tmod_nonneg _ ha),hm];congr 2;rw[Nat.gcd_comm a.natAbs,Nat.gcd_rec b.natAbs a.natAbs,Nat.gcd_comm]
 termination_by n=>n
theorem TY(x:List Int)(hl:x.length<=68719476736)(hx:∀y∈x,dt y=true):∀(n i g:Nat),n+i=x.length->rR x (g:Int) (i:Int)=some ((((gl (x.drop i) g:Nat):Int),()),())
 | 0,i,g,hn=>by
  obtain rfl:i=x.length:=by omega
  rw[y5,aV,List.drop_eq_nil_of_le (by omega)];rfl
 | n+1,i,g,hn=>by
  have hi:i<x.length:=by omega
  rw[y5,aQ hi,aA hi,cond_true,Option.bind_some,Vu (hx _ (List.getElem_mem hi)),Option.bind_some,E1 x i _ _ _ (Nat.le_refl _) (Int.natCast_nonneg _) (Int.natCast_nonneg _),aN (by omega),TY x hl hx n (i+1) _ (by omega),List.drop_eq_getElem_cons hi];simp only[Int.natAbs_natCast];rfl
theorem Vy(x:List Int)(k:Int)(hl:x.length<=68719476736)(hx:∀y∈x,dt y=true)(hk:dt k=true):pN x k=some ((((gl x k.natAbs:Nat):Int),()),()):=by
 rw[Vx,Vu hk,Option.bind_some];have:=TY x hl hx x.length 0 k.natAbs (by omega);simpa using this
theorem SG(x:List Int)(hl:x.length<=68719476736)(hx:∀y∈x,dt y=true):∀(n i g:Nat),n+i=x.length->uK x (g:Int) x (x.length:Int) (i:Int)=some ((((gl (x.drop i) g:Nat):Int),()),())
 | 0,i,g,hn=>by
  obtain rfl:i=x.length:=by omega
  rw[yK,aV,List.drop_eq_nil_of_le (by omega)];rfl
 | n+1,i,g,hn=>by
  have hi:i<x.length:=by omega
  rw[yK,aQ hi,aA hi,cond_true,Option.bind_some,U3 _ (hx _ (List.getElem_mem hi)),Option.bind_some,aN (by omega),SG x hl hx n (i+1) _ (by omega),List.drop_eq_getElem_cons hi];rfl
theorem U7(x:List Int)(hl:x.length<=68719476736)(hx:∀y∈x,dt y=true):ni x=some ((((gl x 0:Nat):Int),()),()):=by
 rw[U6];have:=SG x hl hx x.length 0 0 (by omega);simpa using this
def bK(a:aa):Bool := !(decide ((a.1.length:Int)>4))&&(dt a.2.1&&(a.1.all dt&&decide (((gl a.1 a.2.1.natAbs:Nat):Int)<=1)))
theorem r7(a:aa):nm a=some ((bK a,()),()):=by
 rw[ais,Vp];unfold bK;cases h:decide ((a.1.length:Int)>4)with
 | true=>rfl
 | false =>
  have hl:a.1.length<=68719476736:=by simp at h;omega
  simp only[cond_false,Option.bind_some,Bool.not_false,Bool.true_and];cases hk:dt a.2.1 with
  | false=>rfl
  | true =>
   simp only[Bool.not_true,cond_false,Bool.true_and];have:=lU a.1 dt (some ((false,()),())) (rM a (a.1.length:Int)) (λi=>rM a i) hl (λi hi=>by
    rw[Tr,aA hi,aN (by omega)];simp only[aQ hi,cond_true,Option.bind_some,Vp];cases dt a.1[i]<;>rfl) rfl a.1.length 0 (by omega)
   simp only[List.drop_zero,Int.natCast_zero]at this;rw[show rM a 0=_ from this];cases ha:a.1.all dt with
   | false=>rfl
   | true =>
    rw[cond_true,Tr,aV,cond_false,Vy a.1 _ hl (List.all_eq_true.1 ha) hk];rfl
theorem oE(a:aa):kT a=some ((bK a,()),()):=by
 rw[ag5,UU];unfold bK;cases h:decide ((a.1.length:Int)>4)with
 | true=>rfl
 | false =>
  have hl:a.1.length<=68719476736:=by simp at h;omega
  simp only[cond_false,Option.bind_some,Bool.not_false,Bool.true_and];cases hk:dt a.2.1 with
  | false=>rfl
  | true =>
   simp only[Bool.not_true,cond_false,Bool.true_and];have:=lU a.1 dt (some ((false,()),())) (rF a a.1 (a.1.length:Int) (a.1.length:Int)) (λi=>rF a a.1 (a.1.length:Int) i) hl (λi hi=>by
    rw[Sg,aA hi,aN (by omega)];simp only[aQ hi,cond_true,Option.bind_some,UU];cases dt a.1[i]<;>rfl) rfl a.1.length 0 (by omega)
   simp only[List.drop_zero,Int.natCast_zero]at this;rw[show rF a a.1 (a.1.length:Int) 0=_ from this];cases ha:a.1.all dt with
   | false=>rfl
   | true =>
    rw[cond_true,Sg,aV,cond_false,U7 a.1 hl (List.all_eq_true.1 ha),Option.bind_some,U3 _ hk,Option.bind_some,<-JS];rfl
def bt(c:ab):Bool:=c.2.all (λa=>bK a && !((a.1.length:Int) != c.1))&&(decide (0<=c.1)&&decide (c.1<=4)&&decide ((c.2.length:Int)<=16))
theorem r8(c:ab)(hl:c.2.length<=68719476736):np c=some ((bt c,()),()):=by
 rw[ait];have:=lU c.2 (λa=>bK a && !((a.1.length:Int) != c.1)) (some ((false,()),())) (rN c (c.2.length:Int)) (λi=>rN c i) hl (λi hi=>by
  rw[Tt,aA hi,aN (by omega)];simp only[aQ hi,cond_true,Option.bind_some,r7];cases bK c.2[i]<;>cases ((c.2[i].1.length:Int) != c.1)<;>rfl) rfl c.2.length 0 (by omega)
 simp only[List.drop_zero,Int.natCast_zero]at this;rw[show rN c 0=_ from this,Tt,aV,iH];unfold bt;cases c.2.all _<;>cases (decide (0<=c.1)&&decide (c.1<=4))<;>rfl
theorem nc(c:ab):kU c=some ((bt c,()),()):=by
 rw[ag6];unfold bt;by_cases h1:c.1<0
 ·have:¬(0<=c.1):=by omega
  simp[h1,this]
 by_cases h2:c.1>4
 ·have:¬(c.1<=4):=by omega
  simp[h1,h2,this]
 by_cases h3:(c.2.length:Int)>16
 ·have:¬((c.2.length:Int)<=16):=by omega
  simp only[h1,h2,h3,this,decide_false,decide_true,cond_false,cond_true,Bool.and_false]
 ·have e1:0<=c.1:=by omega
  have e2:c.1<=4:=by omega
  have e3:(c.2.length:Int)<=16:=by omega
  simp only[h1,h2,h3,e1,e2,e3,decide_false,decide_true,cond_false,Bool.and_self,Bool.and_true];have:=lU c.2 (λa=>bK a && !((a.1.length:Int) != c.1)) (some ((false,()),())) (some ((true,()),())) (λi=>uA c c.2 (c.2.length:Int) i) (by omega) (λi hi=>by
   rw[Sh,aA hi,aN (by omega)];simp only[aQ hi,cond_true,Option.bind_some,oE];cases bK c.2[i]<;>cases ((c.2[i].1.length:Int) != c.1)<;>rfl) (by rw[Sh,aV];rfl) c.2.length 0 (by omega)
  simp only[List.drop_zero,Int.natCast_zero]at this;rw[show uA c c.2 (c.2.length:Int) 0=_ from this];cases c.2.all _<;>rfl
def tR(d:Int)(r:Rw):Bool:=jh r.1 97 122&&(bt r.2 && !(r.2.1 != d))
def jc(r:Rel):Bool:=jh r.1 65 90&&(decide (0<=r.2.1)&&decide (r.2.1<=4)&&(decide ((r.2.2.length:Int)<=8)&&r.2.2.all (tR r.2.1)))
theorem Vr(r:Rel)(h:gL r):vq r=some ((jc r,()),()):=by
 obtain⟨h0,hl,hg⟩:=h;rw[aiy];have:=lU r.2.2 (tR r.2.1) (some ((false,()),())) (rQ r (r.2.2.length:Int)) (λi=>rQ r i) hl (λi hi=>by
  have C6:=hg _ (List.getElem_mem hi);rw[TB,aA hi,aN (by omega)];simp only[aQ hi,cond_true,Option.bind_some,Hh _ _ _ C6.1,r8 _ C6.2.1];unfold tR;cases jh r.2.2[i].1 97 122<;>cases bt r.2.2[i].2<;>cases (r.2.2[i].2.1 != r.2.1)<;>rfl) rfl r.2.2.length 0 (by omega)
 simp only[List.drop_zero,Int.natCast_zero]at this;rw[show rQ r 0=_ from this,TB,aV,iH,Hh _ _ _ h0];unfold jc;cases r.2.2.all _<;>cases jh r.1 65 90<;>cases (decide (0<=r.2.1)&&decide (r.2.1<=4))<;>cases decide ((r.2.2.length:Int)<=8)<;>rfl
theorem UW(r:Rel):va r=some ((jc r,()),()):=by
 rw[ahc,ahQ];unfold jc;cases jh r.1 65 90 with
 | false=>rfl
 | true =>
  simp only[Option.bind_some,Bool.not_true,cond_false,Bool.true_and];by_cases h1:r.2.1<0
  ·have:¬(0<=r.2.1):=by omega
   simp[h1,this]
  by_cases h2:r.2.1>4
  ·have:¬(r.2.1<=4):=by omega
   simp[h1,h2,this]
  by_cases h3:(r.2.2.length:Int)>8
  ·have:¬((r.2.2.length:Int)<=8):=by omega
   simp only[h1,h2,h3,this,decide_false,decide_true,cond_false,cond_true,Bool.and_false,Bool.false_and]
  ·have e1:0<=r.2.1:=by omega
   have e2:r.2.1<=4:=by omega
   have e3:(r.2.2.length:Int)<=8:=by omega
   simp only[h1,h2,h3,e1,e2,e3,decide_false,decide_true,cond_false,Bool.and_self,Bool.true_and];have:=lU r.2.2 (tR r.2.1) (some ((false,()),())) (some ((true,()),())) (λi=>uE r r.2.2 (r.2.2.length:Int) i) (by omega) (λi hi=>by
    rw[Sn,aA hi,aN (by omega)];simp only[aQ hi,cond_true,Option.bind_some,Vb,nc];unfold tR;cases jh r.2.2[i].1 97 122<;>cases bt r.2.2[i].2<;>cases (r.2.2[i].2.1 != r.2.1)<;>rfl) (by rw[Sn,aV];rfl) r.2.2.length 0 (by omega)
   simp only[List.drop_zero,Int.natCast_zero]at this;rw[show uE r r.2.2 (r.2.2.length:Int) 0=_ from this];cases r.2.2.all _<;>rfl
def named(n:ByteArray)(r:Rel):Bool:=r.1.toList==n.toList
theorem G6(x:List Rel)(n:ByteArray)(hl:x.length<=68719476736):pM x n=some ((dp (named n) x,()),()):=by
 rw[ain];exact JK x (named n) (λi=>some ((i,()),())) (λi=>yR x n i) (λi hi=>by
  rw[Tj,aA hi,aN (by omega)];simp only[aQ hi,cond_true,Option.bind_some];rfl) (by rw[Tj,aV];rfl) x.length 0 (by omega) (λj _ h=>by omega)
theorem GH(x:List Rel)(n:ByteArray)(hl:x.length<=68719476736):rW x n=some ((dp (named n) x,()),()):=by
 rw[ag0];exact JK x (named n) (λi=>some ((i,()),())) (λi=>yB x n x (x.length:Int) i) (λi hi=>by
  rw[Se,aA hi,aN (by omega)];simp only[aQ hi,cond_true,Option.bind_some];rfl) (by rw[Se,aV];rfl) x.length 0 (by omega) (λj _ h=>by omega)
theorem ala(p:α->Bool)(x:List α)(i:Nat)(hi:i<x.length)(hp:p x[i]=true):decide (dp p (x.take i)>=0)=(dp p x != (i:Int)):=by
 have h1:x.findIdx p<=i:=Nat.le_of_not_lt λh=>by
  have:=List.not_of_lt_findIdx h;rw[hp]at this;cases this
 have h2:(x.take i).findIdx p=min i (x.findIdx p):=List.findIdx_take;have h3:(x.take i).length=i:=by simp;omega
 unfold dp;rw[h2,h3,if_pos (by omega:x.findIdx p<x.length)];by_cases h:x.findIdx p=i
 ·rw[if_neg (by omega),h];simp
 ·rw[if_pos (by omega)];have e1:((x.findIdx p:Nat):Int)≠(i:Int):=by omega
  have e2:((min i (x.findIdx p):Nat):Int)>=0:=by omega
  simp[e1,e2]
def oF(p:Nat->Bool):Nat->Nat->Bool
 | 0,_=>true
 | n+1,i=>p i&&oF p n (i+1)
theorem KO(l:Nat)(p:Nat->Bool)(F E:Option R)(f:Int->Option R)
  (h1:∀(i:Nat),i<l->f (i:Int)=bif p i then f ((i+1:Nat):Int)else F) (h2:f (l:Int)=E) :
  ∀(n i:Nat),n+i=l->f (i:Int)=bif oF p n i then E else F
 | 0,i,hn=>by
  obtain rfl:i=l:=by omega
  rw[h2];rfl
 | n+1,i,hn=>by
  rw[h1 i (by omega),KO l p F E f h1 h2 n (i+1) (by omega)];cases h:p i<;>simp[oF,h]
def oL(x:List Rel)(i:Nat):Bool:=match x[i]? with
 | some r=>jc r && !(decide (dp (named r.1) (x.take i)>=0))
 | none=>true
def gi(x:List Rel):Bool:=oF (oL x) x.length 0&&decide ((x.length:Int)<=6)
theorem Vm(x:List Rel)(h:x.length<=68719476736/\∀a∈x,gL a):vn x=some ((gi x,()),()):=by
 obtain⟨hl,hg⟩:=h;rw[aiu];have:=KO x.length (oL x) (some ((false,()),())) (rO x (x.length:Int)) (λi=>rO x i) (λi hi=>by
  rw[Tu,aA hi,aN (by omega)];have e:(decide ((0:Int)<=(i:Int))&&decide ((i:Int)<=(x.length:Int)))=true:=by simp;omega
  have e2:pM (List.drop (Int.toNat 0) (List.take ((i:Int)).toNat x)) x[i].1=some ((dp (named x[i].1) (x.take i),()),()):=by
   have:List.drop (Int.toNat 0) (List.take ((i:Int)).toNat x)=x.take i:=by simp
   rw[this];exact G6 _ _ (by simp;omega)
  have e0:(decide (0<=0)&&decide ((0:Int)<=(i:Int))&&decide ((i:Int)<=(x.length:Int)))=true:=by simp;omega
  simp only[aQ hi,cond_true,Option.bind_some,Vr _ (hg _ (List.getElem_mem hi)),e2];rw[e0];unfold oL;rw[List.getElem?_eq_getElem hi];simp only[];cases jc x[i]<;>cases decide (dp (named x[i].1) (x.take i)>=0)<;>rfl) rfl x.length 0 (by omega)
 simp only[Int.natCast_zero]at this;rw[show rO x 0=_ from this,Tu,aV];unfold gi;cases oF (oL x) x.length 0<;>rfl
theorem UR(x:List Rel):u7 x=some ((gi x,()),()):=by
 rw[ag7];unfold gi;by_cases h:(x.length:Int)>6
 ·have:¬((x.length:Int)<=6):=by omega
  simp only[h,this,decide_true,decide_false,cond_true,Bool.and_false]
 ·have e:(x.length:Int)<=6:=by omega
  simp only[h,e,decide_true,decide_false,cond_false,Bool.and_true];have:=KO x.length (oL x) (some ((false,()),())) (some ((true,()),())) (λi=>uB x x (x.length:Int) i) (λi hi=>by
   rw[Si,aA hi,aN (by omega)];simp only[aQ hi,cond_true,Option.bind_some,UW,GH _ _ (show x.length<=68719476736 by omega)];unfold oL;rw[List.getElem?_eq_getElem hi];simp only[];rw[ala _ x i hi (by simp[named])];cases jc x[i]<;>cases (dp (named x[i].1) x != (i:Int))<;>rfl) (by rw[Si,aV];rfl) x.length 0 (by omega)
  simp only[Int.natCast_zero]at this;rw[show uB x x (x.length:Int) 0=_ from this];cases oF (oL x) x.length 0<;>rfl
theorem WN(p:α->Bool)(x:List α):(decide (dp p x<0)=true)\/(decide (dp p x<0)=false/\∃y,ae x (dp p x)=some y):=by
 unfold dp;by_cases h:x.findIdx p<x.length
 ·right;rw[if_pos h];refine⟨by simp,x[x.findIdx p],aA h⟩
 ·left;rw[if_neg h];decide
def emp(x:ByteArray):Bool:=x.toList==(ByteArray.mk #[]).toList
def pB(a:aa):Bool:=((a.1.length:Int)==0)&&((a.2.1==0) && !a.2.2)
def df(v:Int):Bool:=decide (0<=v)&&decide (v<=3)
def DL(n:ak):Bool:=emp n.2.2.1&&(emp n.2.2.2.1 && !decide ((n.2.2.2.2.1.length:Int)>0))
def K8(x:ByteArray):Bool:=emp x||jh x 97 122
def po(db:List Rel)(n:ak):Bool:=(n.2.2.2.2.1.all df)&&(!decide (dp (named n.2.2.1) db<0)&&(match ae db (dp (named n.2.2.1) db)with
 | some r=>(r.2.1==(n.2.2.2.2.1.length:Int))&&K8 n.2.2.2.1
 | none=>false))
theorem ajd(a:aa):He a=some ((pB a,()),()):=by
 rw[ajc];unfold pB;generalize ((a.1.length:Int)==0)=b1;generalize (a.2.1==0)=b2;cases b1<;>cases b2<;>rfl
theorem ahU(a:aa):GW a=some ((pB a,()),()):=by
 rw[ahT];unfold pB;generalize ((a.1.length:Int)==0)=b1;generalize (a.2.1==0)=b2;cases b1<;>cases b2<;>rfl
theorem GV(v:Int):vk v=some ((df v,()),()):=by
 rw[ahR];unfold df;by_cases h:v>=0
 ·have:(v<4)=(v<=3):=by apply propext;omega
  simp[h,this]
 ·have:¬0<=v:=by omega
  simp[h]
theorem afx(db:List Rel)(n:ak)(hb:zN n<=68719476736):rV db n (dp (named n.2.2.1) db) 0=some ((po db n,()),()):=by
 have hz:zN n=zA n.2.1+zB n.2.2.1+zB n.2.2.2.1+zI n.2.2.2.2.1:=rfl;have:=Cr n.2.2.2.2.1 df (some ((false,()),())) (rV db n (dp (named n.2.2.1) db) (n.2.2.2.2.1.length:Int)) (λi=>rV db n (dp (named n.2.2.1) db) i) (by unfold zI at hz;omega) (λi hi=>by
  rw[Ui,aA hi,aQ hi,aN (by unfold zI at hz;omega)];simp only[cond_true,Option.bind_some,iH];change (bif !df _ then _ else _)=_;cases df n.2.2.2.2.1[i]<;>rfl) rfl
 rw[this,Ui,aV,cond_false];unfold po;have hd:decide (dp (named n.2.2.1) db>=0) = !decide (dp (named n.2.2.1) db<0):=by
  by_cases h:dp (named n.2.2.1) db<0
  ·have:¬dp (named n.2.2.1) db>=0:=by omega
   simp[h]
  ·have:dp (named n.2.2.1) db>=0:=by omega
   simp[h,this]
 rw[hd,Hh _ _ _ (by unfold zB at hz;omega)];cases n.2.2.2.2.1.all df with
 | false=>rfl
 | true =>
  rcases WN (named n.2.2.1) db with h|⟨h,r,hr⟩
  ·rw[h];rfl
  ·rw[h,hr];simp only[Bool.not_false,cond_true,Option.bind_some,Bool.true_and];unfold K8 emp;generalize (r.2.1==(n.2.2.2.2.1.length:Int))=b1;generalize (ByteArray.toList n.2.2.2.1==(ByteArray.mk #[]).toList)=b2;cases b1<;>cases b2<;>rfl
def iX(db:List Rel)(n:ak):Bool:=bif n.1==0 then bK n.2.1&&((n.2.1.1.length:Int)==4)else bif n.1==1 then po db n else (decide (2<=n.1)&&decide (n.1<=6))&&df n.2.2.2.2.2.1
theorem afi(db:List Rel)(n:ak)(hd:db.length<=68719476736)(hb:zN n<=68719476736):fB db n=some ((iX db n,()),()):=by
 rw[afh,r7,G6 _ _ hd];simp only[Option.bind_some,afx db n hb,iH];unfold iX df;generalize (n.1==0)=b0;generalize (n.1==1)=b1;generalize (bK n.2.1)=b2;generalize (decide (2<=n.1)&&decide (n.1<=6))=b3;cases b0<;>cases b1<;>cases b2<;>cases b3<;>rfl
def hM(n:ak):Bool:=((n.1==3||n.1==4)||n.2.2.2.2.2.2.2==0)&&(!decide (n.1<=1)||n.2.2.2.2.2.2.1==0)
def re(n:ak):Bool:=(n.1==5||n.1==6)||n.2.2.2.2.2.1==0
theorem afg(db:List Rel)(n:ak)(hd:db.length<=68719476736)(hb:zN n<=68719476736):rB db n=some ((re n&&(hM n&&iX db n),()),()):=by
 rw[aff,afi db n hd hb];unfold re hM;simp only[bne];generalize (n.1==5)=b5;generalize (n.1==6)=b6;generalize (n.1==3)=b3;generalize (n.1==4)=b4;generalize (decide (n.1<=1))=b1;generalize (n.2.2.2.2.2.1==0)=c1;generalize (n.2.2.2.2.2.2.1==0)=c2;generalize (n.2.2.2.2.2.2.2==0)=c3;cases b5<;>cases b6<;>cases b3<;>cases b4<;>cases b1<;>cases c1<;>cases c2<;>cases c3<;>rfl
def dU(db:List Rel)(n:ak):Bool:=(n.1==0||pB n.2.1)&&((n.1==1||DL n)&&(re n&&(hM n&&iX db n)))
theorem ajf(db:List Rel)(n:ak)(hd:db.length<=68719476736)(hb:zN n<=68719476736):Aw db n=some ((dU db n,()),()):=by
 rw[aje,afg db n hd hb,ajd];unfold dU DL emp;simp only[bne,Option.bind_some];generalize (n.1==0)=b0;generalize (n.1==1)=b1;generalize pB n.2.1=b2;generalize (ByteArray.toList n.2.2.1==(ByteArray.mk #[]).toList)=b3;generalize (ByteArray.toList n.2.2.2.1==(ByteArray.mk #[]).toList)=b4;generalize (decide ((n.2.2.2.2.1.length:Int)>0))=b5;generalize (re n&&(hM n&&iX db n))=b6;cases b0<;>cases b1<;>cases b2<;>cases b3<;>cases b4<;>cases b5<;>rfl
theorem ae8(n:ak)(hb:n.2.2.2.2.1.length<=68719476736):yr n=some ((n.2.2.2.2.1.all df,()),()):=by
 rw[ae7];have:=Cr n.2.2.2.2.1 df (some ((false,()),())) (some ((true,()),())) (λi=>yL n n.2.2.2.2.1 (n.2.2.2.2.1.length:Int) i) hb (λi hi=>by
  rw[SH,aA hi,aQ hi,aN (by omega)];simp only[cond_true,Option.bind_some,GV];cases df n.2.2.2.2.1[i]<;>rfl) (by rw[SH,aV];rfl)
 rw[this];cases n.2.2.2.2.1.all df<;>rfl
def tr(db:List Rel)(n:ak):Bool:=bif n.1==0 then (n.2.2.2.2.2.1==0)&&(bK n.2.1&&((n.2.1.1.length:Int)==4))else bif n.1==1 then (n.2.2.2.2.2.1==0)&&po db n else bif n.1==5||n.1==6 then df n.2.2.2.2.2.1 else n.2.2.2.2.2.1==0
theorem afb(db:List Rel)(n:ak)(hd:db.length<=68719476736)(hb:zN n<=68719476736):yt db n=some ((tr db n,()),()):=by
 have hz:zN n=zA n.2.1+zB n.2.2.1+zB n.2.2.2.1+zI n.2.2.2.2.1:=rfl;rw[afa,oE,GH _ _ hd,Vb,ae8 n (by unfold zI at hz;omega),QP,QP,GV];simp only[Option.bind_some,bne];unfold tr po K8 emp;rcases WN (named n.2.2.1) db with h|⟨h,r,hr⟩
 ·rw[h];generalize (n.1==0)=b0;generalize (n.1==1)=b1;generalize (n.1==5)=b5;generalize (n.1==6)=b6;generalize (n.2.2.2.2.2.1==0)=c1;generalize (bK n.2.1)=b2;generalize (n.2.2.2.2.1.all df)=b3;cases b0<;>cases b1<;>cases b5<;>cases b6<;>cases c1<;>cases b2<;>cases b3<;>rfl
 ·rw[h,hr];simp only[Option.bind_some];generalize (n.1==0)=b0;generalize (n.1==1)=b1;generalize (n.1==5)=b5;generalize (n.1==6)=b6;generalize (n.2.2.2.2.2.1==0)=c1;generalize (bK n.2.1)=b2;generalize (n.2.2.2.2.1.all df)=b3;generalize (r.2.1==(n.2.2.2.2.1.length:Int))=c2;generalize (ByteArray.toList n.2.2.2.1==(ByteArray.mk #[]).toList)=c3;generalize jh n.2.2.2.1 97 122=c4;cases b0<;>cases b1<;>cases b5<;>cases b6<;>cases c1<;>cases b2<;>cases b3<;>cases c2<;>cases c3<;>cases c4<;>rfl
def wa(db:List Rel)(n:ak):Bool:=(n.1==0||pB n.2.1)&&((n.1==1||DL n)&&tr db n)
theorem ahJ(db:List Rel)(n:ak)(hd:db.length<=68719476736)(hb:zN n<=68719476736):z6 db n=some ((wa db n,()),()):=by
 rw[ahI,ae9,afb db n hd hb,ahU];unfold wa DL emp;simp only[bne,Option.bind_some];generalize (n.1==0)=b0;generalize (n.1==1)=b1;generalize pB n.2.1=b2;generalize (ByteArray.toList n.2.2.1==(ByteArray.mk #[]).toList)=b3;generalize (ByteArray.toList n.2.2.2.1==(ByteArray.mk #[]).toList)=b4;generalize (decide ((n.2.2.2.2.1.length:Int)>0))=b5;generalize tr db n=b6;cases b0<;>cases b1<;>cases b2<;>cases b3<;>cases b4<;>cases b5<;>rfl
theorem LD(db:List Rel)(n:ak):dU db n=(wa db n&&(hM n&&(decide (0<=n.1)&&decide (n.1<=6)))):=by
 unfold dU wa;have key:(re n&&(hM n&&iX db n))=(tr db n&&(hM n&&(decide (0<=n.1)&&decide (n.1<=6)))):=by
  unfold re iX tr;by_cases h0:n.1=0
  ·rw[h0];cases (n.2.2.2.2.2.1==0)<;>cases hM n<;>cases (bK n.2.1&&((n.2.1.1.length:Int)==4))<;>rfl
  by_cases h1:n.1=1
  ·rw[h1];cases (n.2.2.2.2.2.1==0)<;>cases hM n<;>cases po db n<;>rfl
  by_cases h2:2<=n.1/\n.1<=6
  ·have e0:(n.1==0)=false:=by simpa using h0
   have e1:(n.1==1)=false:=by simpa using h1
   have e2:decide (2<=n.1)=true:=by simp[h2.1]
   have e3:decide (n.1<=6)=true:=by simp[h2.2]
   have e4:decide (0<=n.1)=true:=by simp;omega
   rw[e0,e1,e2,e3,e4];by_cases h5:n.2.2.2.2.2.1=0
   ·rw[h5];cases (n.1==5)<;>cases (n.1==6)<;>cases hM n<;>rfl
   ·have e5:(n.2.2.2.2.2.1==0)=false:=by simpa using h5
    rw[e5];cases (n.1==5)<;>cases (n.1==6)<;>cases hM n<;>cases df n.2.2.2.2.2.1<;>rfl
  ·have e0:(n.1==0)=false:=by simpa using h0
   have e1:(n.1==1)=false:=by simpa using h1
   have e2:(decide (2<=n.1)&&decide (n.1<=6))=false:=by
    rw[Bool.and_eq_false_iff];by_cases h:2<=n.1
    ·right;simp;omega
    ·left;simp;omega
   have e3:(decide (0<=n.1)&&decide (n.1<=6))=false:=by
    rw[Bool.and_eq_false_iff];by_cases h:0<=n.1
    ·right;simp;omega
    ·left;simp;omega
   rw[e0,e1,e2,e3];simp
 rw[key];simp only[Bool.and_assoc]
def ar(k:Int):Nat:=bif k==3||k==4 then 2 else bif decide (k>1)then 1 else 0
def eE(n:ak)(i:Int)(T:List Int):Option (List Int):=match ar n.1,T with
 | 0,T=>some (i::T)
 | 1,r::T=>bif r==n.2.2.2.2.2.2.1 then some (i::T)else none
 | 2,r::s::T=>bif r==n.2.2.2.2.2.2.2 then bif s==n.2.2.2.2.2.2.1 then some (i::T)else none else none
 | _,_=>none
def jY(db:List Rel):List ak->Int->List Int->Bool
 | [],_,T=>(T.length:Int)==1
 | n::l,i,T=>bif dU db n then (match eE n i T with
  | some T'=>jY db l (i+1) T'
  | none=>false)else false
theorem VT(k:Int):ar k=0\/ar k=1\/ar k=2:=by
 unfold ar;cases (k==3||k==4)<;>cases decide (k>1)<;>simp
theorem alx(x:List α){i:Int}(h:i<0):ae x i=none:=by
 unfold ae;rw[if_neg (by omega)]
theorem nF(x:List α){i:Int}(j:Nat)(h:i=(j:Int))(hj:j<x.length):ae x i=some x[j]:=by
 subst h;exact aA hj
theorem Xj(T:List α)(r:α):ae (r::T).reverse (((r::T).reverse.length:Int) - 1)=some r:=by
 rw[nF _ T.length (by simp) (by simp)];simp
theorem alv(T:List α)(r s:α):ae (r::s::T).reverse (((r::s::T).reverse.length:Int) - 2)=some s:=by
 rw[nF _ T.length (by simp<;>omega) (by simp<;>omega)];simp[List.getElem_append]
theorem EH(db:List Rel)(f:List ak)(T U:List Int)(i:Nat)(m:Nat)(hi:i<=1000000)(hT:(U.reverse++T.reverse).length<=1000000)(hm:U.length=m):
  oC db f (T.reverse++U.reverse) (i:Int) (m:Int) ((T.reverse++U.reverse).length:Int)=rP db f ((i:Int)::T).reverse ((i+1:Nat):Int):=by
 have hl:(T.reverse++U.reverse).length=T.length+m:=by simp[hm]
 have hle:T.length+m<=1000000:=by simp at hT;omega
 rw[afe,hl,cj (by omega) (by omega)];have e1:((T.length+m:Nat):Int) - (m:Int)=(T.length:Int):=by omega
 rw[e1,aN (by omega)];have e2:(List.drop (Int.toNat 0) (List.take (Int.toNat (T.length:Int)) (T.reverse++U.reverse)))=T.reverse:=by
  rw[Int.toNat_natCast];simp
 rw[e2];have d1:decide ((0:Int)<=(T.length:Int))=true:=by simp
 have d2:decide ((T.length:Int)<=((T.length+m:Nat):Int))=true:=decide_eq_true (by omega);have d3:decide ((0+T.reverse.length)*8<=140737488355328)=true:=by simp;omega
 have d4:decide ((T.reverse.length+1)*8<=140737488355328)=true:=by simp;omega
 rw[d1,d2,d3,d4];simp
theorem afd(db:List Rel)(f:List ak)(T:List Int)(i:Nat)(h:i<f.length)(hl:f.length<=1000000)(hT:T.length<=i):
  kR db f T.reverse (i:Int) ((ar f[i].1:Nat):Int)=match eE f[i] i T with
   | some T'=>rP db f T'.reverse ((i+1:Nat):Int)
   | none=>some ((false,()),()):=by
 rw[afc];unfold eE;rcases VT f[i].1 with hm|hm|hm
 ·rw[hm];have d:decide ((T.reverse.length:Int)<((0:Nat):Int))=false:=by simp
  have:=EH db f T [] i 0 (by omega) (by simp;omega) rfl;simp only[List.reverse_nil,List.append_nil]at this;rw[d];exact this
 ·rw[hm];cases T with
  | nil=>rfl
  | cons r T =>
   have d:decide (((r::T).reverse.length:Int)<((1:Nat):Int))=false:=decide_eq_false (by simp only[List.length_reverse,List.length_cons];omega);have hw:IntKind.i64.wrap (((r::T).reverse.length:Int) - 1)=((r::T).reverse.length:Int) - 1:=cj (by simp only[List.length_reverse,List.length_cons];omega) (by simp only[List.length_reverse,List.length_cons]at hT ⊢;omega);have:=EH db f T [r] i 1 (by omega) (by simp only[List.length_append,List.length_reverse,List.length_cons,List.length_nil]at hT ⊢;omega) rfl;rw[show T.reverse++[r].reverse=(r::T).reverse by simp]at this;rw[d,hw,Xj,aA h];simp only[cond_false,Option.bind_some];change (bif r != f[i].2.2.2.2.2.2.1 then _ else oC db f (r::T).reverse (i:Int) ((1:Nat):Int) ((r::T).reverse.length:Int))=_;rw[this];simp only[bne];cases (r==f[i].2.2.2.2.2.2.1)<;>rfl
 ·rw[hm]
  match T,hT with
  | [],_=>rfl
  | [r],_=>rfl
  | r::s::T,hT =>
   have d:decide (((r::s::T).reverse.length:Int)<((2:Nat):Int))=false:=decide_eq_false (by simp only[List.length_reverse,List.length_cons];omega);have hw:IntKind.i64.wrap (((r::s::T).reverse.length:Int) - 1)=((r::s::T).reverse.length:Int) - 1:=cj (by simp only[List.length_reverse,List.length_cons];omega) (by simp only[List.length_reverse,List.length_cons]at hT ⊢;omega);have hw2:IntKind.i64.wrap (((r::s::T).reverse.length:Int) - 2)=((r::s::T).reverse.length:Int) - 2:=cj (by simp only[List.length_reverse,List.length_cons];omega) (by simp only[List.length_reverse,List.length_cons]at hT ⊢;omega);have:=EH db f T [r,s] i 2 (by omega) (by simp only[List.length_append,List.length_reverse,List.length_cons,List.length_nil]at hT ⊢;omega) rfl;rw[show T.reverse++[r,s].reverse=(r::s::T).reverse by simp]at this;rw[d,hw,hw2,Xj,alv,aA h];simp only[cond_false,Option.bind_some];change (bif r != f[i].2.2.2.2.2.2.2 then _ else bif s != f[i].2.2.2.2.2.2.1 then _ else oC db f (r::s::T).reverse (i:Int) ((2:Nat):Int) ((r::s::T).reverse.length:Int))=_;rw[this];simp only[bne];cases (r==f[i].2.2.2.2.2.2.2)<;>cases (s==f[i].2.2.2.2.2.2.1)<;>rfl
theorem arv{n:ak}{i:Int}{T T':List Int}(h:eE n i T=some T'):T'.length<=T.length+1:=by
 unfold eE at h;split at h
 ·injection h with h;subst h;simp
 ·rename_i r T0 _;cases hc:(r==n.2.2.2.2.2.2.1)with
  | true=>rw[hc]at h;injection h with h;subst h;simp
  | false=>rw[hc]at h;cases h
 ·rename_i r s T0 _;cases hc:(r==n.2.2.2.2.2.2.2)with
  | true =>
   rw[hc]at h;cases hs:(s==n.2.2.2.2.2.2.1)with
   | true=>rw[hs]at h;injection h with h;subst h;simp
   | false=>rw[hs]at h;cases h
  | false=>rw[hc]at h;cases h
 ·cases h
theorem Tz(db:List Rel)(f:List ak)(hd:db.length<=68719476736)(hf:∀n∈f,zN n<=68719476736)(hl:f.length<=1000000):
  ∀(n i:Nat) (T:List Int),n+i=f.length->T.length<=i->rP db f T.reverse (i:Int)=some ((jY db (f.drop i) i T,()),())
 | 0,i,T,hn,hT=>by
  obtain rfl:i=f.length:=by omega
  rw[Tx,aV,List.drop_eq_nil_of_le (by omega),List.length_reverse];rfl
 | n+1,i,T,hn,hT=>by
  have hi:i<f.length:=by omega
  rw[Tx,aQ hi,aA hi,List.drop_eq_getElem_cons hi];simp only[cond_true,Option.bind_some,ajf db _ hd (hf _ (List.getElem_mem hi))];unfold jY;cases dU db f[i]with
  | false=>rfl
  | true =>
   simp only[Bool.not_true,cond_false,cond_true];have e:(bif f[i].1==3 then kR db f T.reverse (i:Int) 2 else bif f[i].1==4 then kR db f T.reverse (i:Int) 2 else bif decide (f[i].1>1)then kR db f T.reverse (i:Int) 1 else kR db f T.reverse (i:Int) 0)=kR db f T.reverse (i:Int) ((ar f[i].1:Nat):Int):=by
    unfold ar;cases (f[i].1==3)<;>cases (f[i].1==4)<;>cases decide (f[i].1>1)<;>rfl
   rw[e,afd db f T i hi hl hT];cases hs:eE f[i] (i:Int) T with
   | none=>rfl
   | some T' =>
    have:=arv hs;simp only[];rw[Tz db f hd hf hl n (i+1) T' (by omega) (by omega)];simp
def fA(st:List Int):List Int->Int->Prop
 | [],nx=>nx = -1
 | r::T,nx=>r=nx/\∃(j:Nat) (v:Int),r=(j:Int)/\st[j]?=some v/\0<=v/\v<=r/\fA st T (v - 1)
theorem fA.set{st:List Int}{i:Nat}{v:Int}:∀{T:List Int} {nx:Int},fA st T nx->nx<i->fA (st.set i v) T nx
 | [],nx,h,_=>h
 | r::T,nx,h,hi=>by
  simp only[fA]at h ⊢;obtain⟨h1,j,w,h2,h3,h4,h5,h6⟩:=h;refine⟨h1,j,w,h2,?_,h4,h5,fA.set h6 (by omega)⟩;rw[List.getElem?_set_ne (by omega)];exact h3
theorem ah5(k:Int):G0 k=some ((bif k==0||k==1 then 0 else bif k==2||(k==5||k==6)then 1 else bif k==3||k==4 then 2 else -1,()),()):=by
 rw[ah4];cases (k==0)<;>cases (k==1)<;>cases (k==2)<;>cases (k==5)<;>cases (k==6)<;>cases (k==3)<;>cases (k==4)<;>rfl
theorem aqK(x:α)(k:α->Option β):(some x).bind k=k x:=rfl
theorem Sk(db:List Rel)(f:List ak)(hd:db.length<=68719476736)(hf:∀n∈f,zN n<=68719476736)(hl:f.length<=1000000)(h0:f.length≠0):
  ∀(n i:Nat) (st T:List Int),n+i=f.length->st.length=f.length->fA st T ((i:Int) - 1)->uC db f st f (f.length:Int) (i:Int)=some ((jY db (f.drop i) i T,()),())
 | 0,i,st,T,hn,ba,hT=>by
  obtain rfl:i=f.length:=by omega
  rw[Sj,aV,List.drop_eq_nil_of_le (by omega),cj (by omega) (by omega)];cases T with
  | nil=>simp only[fA]at hT;omega
  | cons r T =>
   simp only[fA]at hT;obtain⟨h1,j,v,h2,h3,h4,h5,h6⟩:=hT;obtain⟨hj,h3⟩:=List.getElem?_eq_some_iff.1 h3;rw[nF (i:=(f.length:Int) - 1) st j (by omega) hj,h3];simp only[cond_false,Option.bind_some,jY];congr 3;cases T with
   | nil =>
    simp only[fA]at h6;have:v=0:=by omega
    simp[this]
   | cons s T =>
    simp only[fA]at h6;have:v≠0:=by omega
    have e1:(v==0)=false:=by simpa using this
    have e2:(((r::s::T).length:Int)==1)=false:=by simp;omega
    rw[e1,e2]
 | n+1,i,st,T,hn,ba,hT=>by
  have hi:i<f.length:=by omega
  have o6:i<st.length:=by omega
  have hw:IntKind.i64.wrap ((i:Int) - 1)=(i:Int) - 1:=cj (by omega) (by omega);rw[Sj,aQ hi,aA hi,List.drop_eq_getElem_cons hi,aA o6,hw];simp only[cond_true,Option.bind_some,ahJ db _ hd (hf _ (List.getElem_mem hi)),ah5,ae6,aN (show i<=1000000000000 by omega),aqK,Int.toNat_natCast];unfold jY;rw[LD];generalize hN:f[i]=N;cases wa db N with
  | false=>rfl
  | true =>
   simp only[Bool.not_true,cond_false,Bool.true_and];have qh:∀(v:Int) (T':List Int),0<=v->v<=(i:Int)->fA st T' (v - 1)->v - 1<(i:Int)->uC db f (st.set i v) f (f.length:Int) ((i+1:Nat):Int)=some ((jY db (f.drop (i+1)) ((i+1:Nat):Int) ((i:Int)::T'),()),()):=by
    intro v T' KE hv hc ax;refine Sk db f hd hf hl h0 n (i+1) _ _ (by omega) (by simpa using ba) ?_;simp only[fA];refine⟨by omega,i,v,rfl,by simp[o6],KE,hv,hc.set ax⟩
   have alS:((i:Int)+1)=((i+1:Nat):Int):=by omega
   rw[alS];by_cases tA:N.1=0\/N.1=1
   ·have e1:(N.1==0||N.1==1)=true:=by simpa using tA
    have e2:ar N.1=0:=by rcases tA with h|h<;>rw[h]<;>rfl
    have e3:((N.1==3||N.1==4)||N.2.2.2.2.2.2.2==0)=(N.2.2.2.2.2.2.2==0):=by rcases tA with h|h<;>rw[h]<;>rfl
    have e4:decide (N.1<=1)=true:=by rcases tA with h|h<;>rw[h]<;>rfl
    have e5:(decide (0<=N.1)&&decide (N.1<=6))=true:=by rcases tA with h|h<;>rw[h]<;>rfl
    have e6:eE N (i:Int) T=some ((i:Int)::T):=by unfold eE;rw[e2];rfl
    unfold hM;rw[e1,e3,e4,e5,e6,qh (i:Int) T (by omega) (by omega) hT (by omega)];simp only[bne];cases (N.2.2.2.2.2.2.1==0)<;>cases (N.2.2.2.2.2.2.2==0)<;>rfl
   ·by_cases k1:N.1=2\/N.1=5\/N.1=6
    ·have e0:(N.1==0||N.1==1)=false:=by rcases k1 with h|h|h<;>rw[h]<;>rfl
     have e1:(N.1==2||(N.1==5||N.1==6))=true:=by rcases k1 with h|h|h<;>rw[h]<;>rfl
     have e2:ar N.1=1:=by rcases k1 with h|h|h<;>rw[h]<;>rfl
     have e3:((N.1==3||N.1==4)||N.2.2.2.2.2.2.2==0)=(N.2.2.2.2.2.2.2==0):=by rcases k1 with h|h|h<;>rw[h]<;>rfl
     have e4:decide (N.1<=1)=false:=by rcases k1 with h|h|h<;>rw[h]<;>rfl
     have e5:(decide (0<=N.1)&&decide (N.1<=6))=true:=by rcases k1 with h|h|h<;>rw[h]<;>rfl
     unfold hM;rw[e0,e1,e3,e4,e5];cases T with
     | nil =>
      simp only[fA]at hT;have ei:((i:Int)==0)=true:=by simp;omega
      have e6:eE N (i:Int) []=none:=by unfold eE;rw[e2];rfl
      rw[ei,e6];cases (N.2.2.2.2.2.2.2==0)<;>rfl
     | cons r T =>
      simp only[fA]at hT;obtain⟨h1,j,v,h2,h3,h4,h5,h6⟩:=hT;obtain⟨hj,h3⟩:=List.getElem?_eq_some_iff.1 h3;have ei:((i:Int)==0)=false:=by simp;omega
      have e6:eE N (i:Int) (r::T)=bif r==N.2.2.2.2.2.2.1 then some ((i:Int)::T)else none:=by unfold eE;rw[e2];rfl
      have e7:(N.2.2.2.2.2.2.1==(i:Int) - 1)=(r==N.2.2.2.2.2.2.1):=by rw[<-h1,Bool.eq_iff_iff];simp only[beq_iff_eq];exact eq_comm
      rw[ei,e6,nF (i:=(i:Int) - 1) st j (by omega) hj,h3];simp only[bne,e7,Option.bind_some];rw[qh v T h4 (by omega) h6 (by omega)];cases (N.2.2.2.2.2.2.2==0)<;>cases (r==N.2.2.2.2.2.2.1)<;>rfl
    ·by_cases k2:N.1=3\/N.1=4
     ·have e0:(N.1==0||N.1==1)=false:=by rcases k2 with h|h<;>rw[h]<;>rfl
      have e1:(N.1==2||(N.1==5||N.1==6))=false:=by rcases k2 with h|h<;>rw[h]<;>rfl
      have e2:ar N.1=2:=by rcases k2 with h|h<;>rw[h]<;>rfl
      have e3:(N.1==3||N.1==4)=true:=by rcases k2 with h|h<;>rw[h]<;>rfl
      have e4:decide (N.1<=1)=false:=by rcases k2 with h|h<;>rw[h]<;>rfl
      have e5:(decide (0<=N.1)&&decide (N.1<=6))=true:=by rcases k2 with h|h<;>rw[h]<;>rfl
      unfold hM;rw[e0,e1,e3,e4,e5];cases T with
      | nil =>
       simp only[fA]at hT;have ei:((i:Int)==0)=true:=by simp;omega
       have e6:eE N (i:Int) []=none:=by unfold eE;rw[e2];rfl
       rw[ei,e6];rfl
      | cons r T =>
       simp only[fA]at hT;obtain⟨h1,j,v,h2,h3,h4,h5,h6⟩:=hT;obtain⟨hj,h3⟩:=List.getElem?_eq_some_iff.1 h3;have ei:((i:Int)==0)=false:=by simp;omega
       have e7:(N.2.2.2.2.2.2.2==(i:Int) - 1)=(r==N.2.2.2.2.2.2.2):=by rw[<-h1,Bool.eq_iff_iff];simp only[beq_iff_eq];exact eq_comm
       rw[ei,nF (i:=(i:Int) - 1) st j (by omega) hj,h3];simp only[bne,e7,Option.bind_some];cases T with
       | nil =>
        simp only[fA]at h6;have ev:(v==0)=true:=by simp;omega
        have e6:eE N (i:Int) [r]=none:=by unfold eE;rw[e2];rfl
        rw[ev,e6];cases (r==N.2.2.2.2.2.2.2)<;>rfl
       | cons s T =>
        have CR:=h6;simp only[fA]at CR;obtain⟨g1,j2,v2,g2,g3,g4,g5,g6⟩:=CR;obtain⟨wM,g3⟩:=List.getElem?_eq_some_iff.1 g3;have ev:(v==0)=false:=by simp;omega
        have e6:eE N (i:Int) (r::s::T)=bif r==N.2.2.2.2.2.2.2 then bif s==N.2.2.2.2.2.2.1 then some ((i:Int)::T)else none else none:=by unfold eE;rw[e2];rfl
        rw[ev,e6,cj (x:=v - 1) (by omega) (by omega)];have e8:(N.2.2.2.2.2.2.1==v - 1)=(s==N.2.2.2.2.2.2.1):=by rw[<-g1,Bool.eq_iff_iff];simp only[beq_iff_eq];exact eq_comm
        simp only[e8];cases hs:(s==N.2.2.2.2.2.2.1)with
        | false=>cases (r==N.2.2.2.2.2.2.2)<;>rfl
        | true =>
         rw[beq_iff_eq]at hs;rw[<-hs,nF st j2 g2 wM,g3];simp only[Option.bind_some];rw[qh v2 T g4 (by omega) g6 (by omega)];cases (r==N.2.2.2.2.2.2.2)<;>rfl
     ·have e0:(N.1==0||N.1==1)=false:=by simpa using tA
      have e1:(N.1==2||(N.1==5||N.1==6))=false:=by simpa using k1
      have e2:(N.1==3||N.1==4)=false:=by simpa using k2
      have e5:(decide (0<=N.1)&&decide (N.1<=6))=false:=by
       rw[Bool.and_eq_false_iff];by_cases h:0<=N.1
       ·right;simp;omega
       ·left;simp;omega
      rw[e0,e1,e2,e5];simp
def ga(db:List Rel)(f:List ak):Bool:=gi db&&((decide (1<=(f.length:Int))&&decide ((f.length:Int)<=12))&&jY db f 0 [])
theorem akZ{db:List Rel}(h:gi db=true):db.length<=6:=by
 unfold gi at h;simp only[Bool.and_eq_true,decide_eq_true_eq]at h;omega
theorem Vo(db:List Rel)(f:List ak)(hd:db.length<=68719476736/\∀a∈db,gL a)(hf:∀n∈f,zN n<=68719476736):vp db f=some ((ga db f,()),()):=by
 rw[aiw,Vm db hd,iH];simp only[Option.bind_some];unfold ga;cases hb:gi db with
 | false=>rfl
 | true =>
  cases hc:(decide (1<=(f.length:Int))&&decide ((f.length:Int)<=12))with
  | false=>rfl
  | true =>
   simp only[Bool.and_eq_true,decide_eq_true_eq]at hc;have:=Tz db f hd.1 hf (by omega) f.length 0 [] (by omega) (by simp);simp only[List.drop_zero,Int.natCast_zero,List.reverse_nil]at this;simp only[Bool.not_true,cond_false,Bool.true_and];exact this
theorem UT(db:List Rel)(f:List ak)(hf:∀n∈f,zN n<=68719476736):u9 db f=some ((ga db f,()),()):=by
 rw[ag9,UR db];simp only[Option.bind_some];unfold ga;cases hb:gi db with
 | false=>rfl
 | true =>
  have C0:=akZ hb;by_cases h1:(f.length:Int)<1
  ·have:decide (1<=(f.length:Int))=false:=by simp;omega
   simp[h1,this]
  ·by_cases h2:(f.length:Int)>12
   ·have:decide ((f.length:Int)<=12)=false:=by simp;omega
    simp[h1,h2,this]
   ·have e1:decide (1<=(f.length:Int))=true:=by simp;omega
    have e2:decide ((f.length:Int)<=12)=true:=by simp;omega
    rw[kD f 8 (by omega) (by omega) (by omega)];have:=Sk db f (by omega) hf (by omega) (by omega) f.length 0 (List.replicate f.length 0) [] (by omega) (by simp) (by simp[fA]);simp only[List.drop_zero,Int.natCast_zero]at this;simp only[h1,h2,decide_false,e1,e2,Bool.not_true,cond_false,Bool.true_and];exact this
theorem alm(h:zA a<=68719476736):gA a:=h
theorem aln(h:zC c<=68719476736):gC c:=⟨Nat.le_trans (gG _ _) h,λa ha=>alm (Nat.le_trans (gh _ ha) h)⟩
theorem alp{r:Rw}(h:zR r<=68719476736):gR r:=by
 have hz:zR r=zB r.1+zC r.2:=rfl;exact⟨by unfold zB at hz;omega,aln (by omega)⟩
theorem alo{r:Rel}(h:zQ r<=68719476736):gL r:=by
 have hz:zQ r=zB r.1+zL zR r.2.2:=rfl;exact⟨by unfold zB at hz;omega,Nat.le_trans (gG _ _) (Nat.le_trans (Nat.le_add_left _ _) (hz▸h)),λa ha=>alp (Nat.le_trans (gh _ ha) (by omega))⟩
theorem oR{x:List Rel}(h:zL zQ x<=68719476736):x.length<=68719476736/\∀a∈x,gL a:=⟨Nat.le_trans (gG _ _) h,λa ha=>alo (Nat.le_trans (gh _ ha) h)⟩
theorem sI{f:List ak}(h:zL zN f<=68719476736):∀n∈f,zN n<=68719476736:=λn hn=>Nat.le_trans (gh _ hn) h
theorem VP{a:Int}(h:a.natAbs<=4000000000000000000):rY a=some (((a.natAbs:Int),()),()):=by
 rw[GP];by_cases h0:a<0
 ·simp only[h0,decide_true,cond_true];rw[cj (by omega) (by omega)];congr 3;omega
 ·simp only[h0,decide_false,cond_false];congr 3;omega
theorem VO{a:Int}(h:a.natAbs<=4000000000000000000):vt a=some (((a.natAbs:Int),()),()):=by
 rw[Vt];rw[cj (by omega) (by omega)];simp only[cond_true];congr 3;split<;>omega
theorem tdiv_le(a b:Int):(a.tdiv b).natAbs<=a.natAbs:=by
 rw[Int.natAbs_tdiv];exact Nat.div_le_self _ _
theorem U1{a b:Int}(ha:a.natAbs<=4000000000000000000)(hb:b.natAbs<=4000000000000000000):pK a b=some ((((Nat.gcd a.natAbs b.natAbs:Nat):Int),()),()):=by
 rw[U2,VP ha,VP hb];simp only[Option.bind_some];rw[EU _ _ _ (Nat.le_refl _) (by omega) (by omega)];simp
theorem LO{a b:Int}(ha:a.natAbs<=400000000)(hb:b.natAbs<=400000000):(a*b).natAbs<=160000000000000000:=by
 rw[Int.natAbs_mul];exact Nat.mul_le_mul ha hb
theorem MH{a b:Int}(ha:a.natAbs<=400000000)(hb:b.natAbs<=400000000):IntKind.i64.wrap (a*b)=a*b:=by
 have:=LO ha hb;exact cj (by omega) (by omega)
def dH:List Int->List Int->Int
 | x::xs,y::ys=>if x=y then dH xs ys else if x<y then -1 else 1
 | _,_=>0
theorem n3:∀x:List Int,dH x x=0
 | []=>rfl
 | x::xs=>by simp[dH,n3 xs]
theorem Z9:∀{x y:List Int},x.length=y.length->dH x y=0->x=y
 | [],[],_,_=>rfl
 | x::xs,y::ys,hl,h=>by
  simp only[dH]at h;split at h
  ·rename_i e;rw[e,Z9 (by simpa using hl) h]
  ·split at h<;>omega
theorem mF:∀x y:List Int,dH y x = -dH x y
 | [],[]=>rfl
 | [],_::_=>rfl
 | _::_,[]=>rfl
 | x::xs,y::ys=>by
  simp only[dH];by_cases h:x=y
  ·rw[if_pos h,if_pos h.symm,mF xs ys]
  ·rw[if_neg h,if_neg (Ne.symm h)];by_cases h2:x<y
   ·rw[if_pos h2,if_neg (by omega)];rfl
   ·rw[if_neg h2,if_pos (by omega)]
theorem aab(x y:List Int):dH x y = -1\/dH x y=0\/dH x y=1:=by
 induction x generalizing y with
 | nil=>cases y<;>simp[dH]
 | cons a x ih =>
  cases y with
  | nil=>simp[dH]
  | cons b y =>
   simp only[dH];split
   ·exact ih y
   ·split<;>simp
theorem xl:∀{x y z:List Int},dH x y<0->dH y z<0->dH x z<0
 | [],_,_,h,_=>by simp[dH]at h
 | _::_,[],_,h,_=>by simp[dH]at h
 | _::_,_::_,[],_,h=>by simp[dH]at h
 | x::xs,y::ys,z::zs,h1,h2=>by
  simp only[dH]at h1 h2 ⊢;by_cases e1:x=y
  ·subst e1;rw[if_pos rfl]at h1;by_cases e2:x=z
   ·rw[if_pos e2]at h2 ⊢;exact xl h1 h2
   ·rw[if_neg e2]at h2 ⊢;exact h2
  ·rw[if_neg e1]at h1;have h1:x<y:=by
    by_cases h:x<y
    ·exact h
    ·rw[if_neg h]at h1;omega
   by_cases e2:y=z
   ·subst e2;rw[if_neg e1,if_pos h1];omega
   ·rw[if_neg e2]at h2;have h2:y<z:=by
     by_cases h:y<z
     ·exact h
     ·rw[if_neg h]at h2;omega
    rw[if_neg (by omega),if_pos (by omega)];omega
def kL(a b:Int):Int:=if a<b then -1 else if b<a then 1 else 0
theorem aqn{a1 a2 b1 b2 c1 c2:Int}(h1:0<a2)(h2:0<b2)(h3:0<c2)(x:a1*b2<b1*a2)(y:b1*c2<c1*b2):a1*c2<c1*a2:=by
 have p:=Int.mul_lt_mul_of_pos_right x h3;have q:=Int.mul_lt_mul_of_pos_right y h1;have:a1*c2*b2<c1*a2*b2:=by
  have e1:a1*c2*b2=a1*b2*c2:=by rw[Int.mul_assoc,Int.mul_comm c2,<-Int.mul_assoc]
  have e2:c1*a2*b2=c1*b2*a2:=by rw[Int.mul_assoc,Int.mul_comm a2,<-Int.mul_assoc]
  have e3:b1*a2*c2=b1*c2*a2:=by rw[Int.mul_assoc,Int.mul_comm a2,<-Int.mul_assoc]
  omega
 exact Int.lt_of_mul_lt_mul_right this (Int.le_of_lt h2)
theorem qQ{a1 a2 b1 b2 c1 c2:Int}(h1:0<a2)(h2:0<b2)(h3:0<c2)(x:a1*b2<=b1*a2)(y:b1*c2<=c1*b2):a1*c2<=c1*a2:=by
 have p:=Int.mul_le_mul_of_nonneg_right x (Int.le_of_lt h3);have q:=Int.mul_le_mul_of_nonneg_right y (Int.le_of_lt h1);have:a1*c2*b2<=c1*a2*b2:=by
  have e1:a1*c2*b2=a1*b2*c2:=by rw[Int.mul_assoc,Int.mul_comm c2,<-Int.mul_assoc]
  have e2:c1*a2*b2=c1*b2*a2:=by rw[Int.mul_assoc,Int.mul_comm a2,<-Int.mul_assoc]
  have e3:b1*a2*c2=b1*c2*a2:=by rw[Int.mul_assoc,Int.mul_comm a2,<-Int.mul_assoc]
  omega
 exact Int.le_of_mul_le_mul_right this h2
def dD(a:aa):Int:=if gl a.1 0=0 then 1 else (gl a.1 0:Nat)
def dv(a:aa):List Int:=a.1.map (λx=>x.tdiv (dD a))
def bh(a b:aa):Int:=dH (dv a) (dv b)
def dx(a b:aa):Int:=if kL (a.2.1*dD b) (b.2.1*dD a)≠0 then kL (a.2.1*dD b) (b.2.1*dD a)else if a.2.2=b.2.2 then 0 else if a.2.2=true then 1 else -1
def eU(a b:aa):Int:=if bh a b≠0 then bh a b else dx a b
def da(n:Nat)(a:aa):Prop:=bK a=true/\a.1.length=n/\gl a.1 0≠0
theorem oK(a:aa):0<dD a:=by
 unfold dD;split
 ·omega
 ·have:0<gl a.1 0:=Nat.pos_of_ne_zero (by assumption);exact Int.natCast_pos.2 this
theorem jX(a:aa):(dv a).length=a.1.length:=by simp[dv]
theorem kP(ha:a.1.length=n)(hb:b.1.length=n):bh a b=0↔dv a=dv b:=by
 constructor
 ·intro h;exact Z9 (by rw[jX,jX,ha,hb]) h
 ·intro h;unfold bh;rw[h,n3]
theorem aqO{a b:Int}:kL a b<0↔a<b:=by
 unfold kL;split
 ·simp;assumption
 ·split<;>simp<;>omega
theorem L7{a b:Int}:kL a b=0↔a=b:=by
 unfold kL;split
 ·simp;omega
 ·split<;>simp<;>omega
theorem xS{a b:aa}:dx a b<0↔a.2.1*dD b<b.2.1*dD a\/(a.2.1*dD b=b.2.1*dD a/\a.2.2=false/\b.2.2=true):=by
 unfold dx;by_cases h:kL (a.2.1*dD b) (b.2.1*dD a)=0
 ·rw[if_neg (by simpa using h)];have e:=L7.1 h;rw[e];cases a.2.2<;>cases b.2.2<;>simp
 ·rw[if_pos h,aqO];have e:a.2.1*dD b≠b.2.1*dD a:=λe=>h (L7.2 e);constructor
  ·exact .inl
  ·rintro (h|h)
   ·exact h
   ·exact absurd h.1 e
theorem nv:eU a b<0↔bh a b<0\/(bh a b=0/\dx a b<0):=by
 unfold eU;split
 ·rename_i h;constructor
  ·exact .inl
  ·rintro (h2|h2)
   ·exact h2
   ·exact absurd h2.1 h
 ·rename_i h;have h:bh a b=0:=by simpa using h
  rw[h];simp
theorem JR:∀(x:List Int) (g:Nat),(gl x g) ∣ g/\∀y∈x,gl x g ∣ y.natAbs
 | [],g=>⟨Nat.dvd_refl _,by simp⟩
 | a::x,g=>by
  obtain⟨h1,h2⟩:=JR x (Nat.gcd g a.natAbs);have e:gl (a::x) g=gl x (Nat.gcd g a.natAbs):=rfl;rw[e];refine⟨Nat.dvd_trans h1 (Nat.gcd_dvd_left _ _),λy hy=>?_⟩;rcases List.mem_cons.1 hy with rfl|hy
  ·exact Nat.dvd_trans h1 (Nat.gcd_dvd_right _ _)
  ·exact h2 y hy
theorem Wn(a:aa):a.1=(dv a).map (· * dD a):=by
 unfold dv;rw[List.map_map];have:∀y∈a.1,((· * dD a) ∘ λx=>x.tdiv (dD a)) y=y:=by
  intro y hy;simp only[Function.comp];unfold dD;split
  ·simp
  ·exact Int.tdiv_mul_cancel (Int.natAbs_dvd_natAbs.1 (by simpa using (JR a.1 0).2 y hy))
 conv=>lhs;rw[<-List.map_id a.1]
 exact (List.map_congr_left λy hy=>(this y hy).symm)
theorem akM(ha:da n a)(hb:da n b)(h1:dv a=dv b)(h2:a.2.1*dD b=b.2.1*dD a)(h3:a.2.2=b.2.2):a=b:=by
 have Wt:∀{a:aa},da n a->∃g:Nat,dD a=(g:Int)/\Nat.Coprime g a.2.1.natAbs/\0<g:=by
  intro a h;refine⟨gl a.1 0,by unfold dD;rw[if_neg h.2.2],?_,Nat.pos_of_ne_zero h.2.2⟩;have:=h.1;unfold bK at this;simp only[Bool.and_eq_true,decide_eq_true_eq]at this;have h4:=this.2.2.2;rw[JS]at h4;have h5:Nat.gcd (gl a.1 0) a.2.1.natAbs<=1:=by omega
  have h6:0<Nat.gcd (gl a.1 0) a.2.1.natAbs:=Nat.gcd_pos_of_pos_left _ (Nat.pos_of_ne_zero h.2.2);unfold Nat.Coprime;omega
 obtain⟨g,e1,c1,p1⟩:=Wt ha;obtain⟨k,e2,c2,p2⟩:=Wt hb;rw[e1,e2]at h2;have h4:a.2.1.natAbs*k=b.2.1.natAbs*g:=by
  have:=congrArg Int.natAbs h2;simpa[Int.natAbs_mul]using this
 have d1:g ∣ k:=c1.dvd_of_dvd_mul_left (by rw[h4];exact Nat.dvd_mul_left _ _);have d2:k ∣ g:=c2.dvd_of_dvd_mul_left (by rw[<-h4];exact Nat.dvd_mul_left _ _);have e:g=k:=Nat.dvd_antisymm d1 d2;subst e;have h5:a.2.1=b.2.1:=Int.eq_of_mul_eq_mul_right (by omega) h2;have h6:a.1=b.1:=by rw[Wn a,Wn b,h1,e1,e2]
 obtain⟨a1,a2,a3⟩:=a;obtain⟨b1,b2,b3⟩:=b;simp only at h3 h5 h6;rw[h3,h5,h6]
theorem abP{c:aa}(h1:dx a b<0)(h2:dx b c<0):dx a c<0:=by
 rw[xS]at *
 have pa:=oK a;have pb:=oK b;have pc:=oK c;rcases h1 with h1|⟨h1,h3,h4⟩
 ·rcases h2 with h2|⟨h2,h5,h6⟩
  ·exact .inl (aqn pa pb pc h1 h2)
  ·left;have:=qQ pa pb pc (Int.le_of_lt h1) (Int.le_of_eq h2);rcases Int.lt_or_eq_of_le this with h|h
   ·exact h
   ·exfalso;have:=qQ (a1:=b.2.1) (a2:=dD b) (b1:=c.2.1) (b2:=dD c) (c1:=a.2.1) (c2:=dD a) pb pc pa (Int.le_of_eq h2) (Int.le_of_eq h.symm);omega
 ·rcases h2 with h2|⟨h2,h5,h6⟩
  ·left;have:=qQ pa pb pc (Int.le_of_eq h1) (Int.le_of_lt h2);rcases Int.lt_or_eq_of_le this with h|h
   ·exact h
   ·exfalso;have:=qQ (a1:=c.2.1) (a2:=dD c) (b1:=a.2.1) (b2:=dD a) (c1:=b.2.1) (c2:=dD b) pc pa pb (Int.le_of_eq h.symm) (Int.le_of_eq h1);omega
  ·rw[h4]at h5;cases h5
theorem Mq{c:aa}(h1:¬dx a b<0)(h2:¬dx b c<0):¬dx a c<0:=by
 rw[xS]at *
 have pa:=oK a;have pb:=oK b;have pc:=oK c;have Xt:b.2.1*dD a<=a.2.1*dD b:=by have:=not_or.1 h1;omega
 have Xu:c.2.1*dD b<=b.2.1*dD c:=by have:=not_or.1 h2;omega
 have h3:=qQ (a1:=c.2.1) (a2:=dD c) (b1:=b.2.1) (b2:=dD b) (c1:=a.2.1) (c2:=dD a) pc pb pa Xu Xt
 rintro (h|⟨h,h4,h5⟩)
 ·omega
 ·have e1:a.2.1*dD b=b.2.1*dD a:=by
   have:=qQ (a1:=a.2.1) (a2:=dD a) (b1:=c.2.1) (b2:=dD c) (c1:=b.2.1) (c2:=dD b) pa pc pb (Int.le_of_eq h) Xu;omega
  have e2:b.2.1*dD c=c.2.1*dD b:=by
   have:=qQ (a1:=b.2.1) (a2:=dD b) (b1:=a.2.1) (b2:=dD a) (c1:=c.2.1) (c2:=dD c) pb pa pc Xt (Int.le_of_eq h);omega
  cases hb:b.2.2
  ·exact h2 (.inr ⟨e2,hb,h5⟩)
  ·exact h1 (.inr ⟨e1,h4,hb⟩)
theorem ua(a:aa):¬dx a a<0:=by
 rw[xS]
 rintro (h|⟨_,h1,h2⟩)
 ·omega
 ·rw[h1]at h2;cases h2
theorem DQ{n:Nat}:pJ (da n) eU:=by
 have key:∀{x y:aa},da n x->da n y->bh x y=0->dv x=dv y:=λhx hy h=>(kP hx.2.1 hy.2.1).1 h;refine⟨λx hx h=>?_,λx y z hx hy hz h1 h2=>?_,λx y z hx hy hz h1 h2 h=>?_,λx y hx hy h1 h2=>?_⟩
 ·rw[nv]at h;have e:bh x x=0:=n3 _;rw[e]at h;rcases h with h|h
  ·omega
  ·exact ua x h.2
 ·rw[nv]at *
  rcases h1 with h1|⟨h1,h3⟩
  ·rcases h2 with h2|⟨h2,h4⟩
   ·exact .inl (xl h1 h2)
   ·left;have:=key hy hz h2;unfold bh at *
    rw[<-this];exact h1
  ·have e1:=key hx hy h1;rcases h2 with h2|⟨h2,h4⟩
   ·left;unfold bh at *
    rw[e1];exact h2
   ·right;refine⟨?_,abP h3 h4⟩;unfold bh at *
    rw[e1];exact h2
 ·rw[nv]at *
  have h1:=not_or.1 h1;have h2:=not_or.1 h2;have f1:=mF (dv x) (dv y);have f2:=mF (dv y) (dv z);have f3:=mF (dv x) (dv z);have v1:=aab (dv x) (dv y);have v2:=aab (dv y) (dv z);have u1:=h1.1;have u2:=h2.1;unfold bh at u1 u2;by_cases w1:bh x y=0
  ·have e1:=key hx hy w1;have s1:¬dx x y<0:=λh=>h1.2 ⟨w1,h⟩;by_cases w2:bh y z=0
   ·have e2:=key hy hz w2;have s2:¬dx y z<0:=λh=>h2.2 ⟨w2,h⟩;rcases h with h|h
    ·unfold bh at h;rw[e1,e2,n3]at h;omega
    ·exact Mq s1 s2 h.2
   ·have:bh x z=bh y z:=by unfold bh;rw[e1]
    rw[this]at h;rcases h with h|h
    ·exact h2.1 h
    ·exact w2 h.1
  ·have g1:dH (dv y) (dv x)<0:=by unfold bh at w1;omega
   by_cases w2:bh y z=0
   ·have e2:=key hy hz w2;have:bh x z=bh x y:=by unfold bh;rw[e2]
    rw[this]at h;rcases h with h|h
    ·exact h1.1 h
    ·exact w1 h.1
   ·have g2:dH (dv z) (dv y)<0:=by unfold bh at w2;omega
    have g3:=xl g2 g1;unfold bh at h;omega
 ·rw[nv]at *
  have h1:=not_or.1 h1;have h2:=not_or.1 h2;have f1:=mF (dv x) (dv y);have w:bh x y=0:=by
   have a1:=h1.1;have a2:=h2.1;unfold bh at *
   omega
  have w':bh y x=0:=by unfold bh at *;omega
  have s1:¬dx x y<0:=λh=>h1.2 ⟨w,h⟩;have s2:¬dx y x<0:=λh=>h2.2 ⟨w',h⟩;rw[xS]at s1 s2;have s1:=not_or.1 s1;have s2:=not_or.1 s2;have e:x.2.1*dD y=y.2.1*dD x:=by omega
  refine akM hx hy (key hx hy w) e ?_;have t1:¬(x.2.2=false/\y.2.2=true):=λh=>s1.2 ⟨e,h⟩;have t2:¬(y.2.2=false/\x.2.2=true):=λh=>s2.2 ⟨e.symm,h⟩;cases lq:x.2.2<;>cases tp:y.2.2<;>simp_all
structure jO (n:Nat) (S l:List aa):Prop where
 sorted:S.Pairwise λx y=>bh x y<0
 sub:∀s∈S,s∈l
 sD:∀a∈l,∃s∈S,bh s a=0/\¬dx s a<0
theorem ME(h:bh a b=0):bh b a=0:=by
 have:=mF (dv a) (dv b);unfold bh at *;omega
theorem V5{S':List aa}(hV:∀a∈l,da n a)(hm:∀a,a∈l↔a∈l')(h:jO n S l)(h':jO n S' l'):∀s∈S,s∈S':=by
 intro s hs;have bd:=h.sub s hs;obtain⟨t,ht,w1,s1⟩:=h'.sD s ((hm s).1 bd);have YB:=(hm t).2 (h'.sub t ht);obtain⟨u,hu,w2,s2⟩:=h.sD t YB;have ks:=hV s bd;have kt:=hV t YB;have ku:=hV u (h.sub u hu);have e1:dv t=dv s:=(kP kt.2.1 ks.2.1).1 w1;have e2:dv u=dv t:=(kP ku.2.1 kt.2.1).1 w2;have w3:bh u s=0:=(kP ku.2.1 ks.2.1).2 (e2.trans e1);have hus:u=s:=by
  apply Classical.byContradiction;intro bo;have key:∀{a b:aa},a∈S->b∈S->a≠b->bh a b<0\/bh b a<0:=by
   intro a b ha hb bo;obtain⟨i,hi,rfl⟩:=List.getElem_of_mem ha;obtain⟨j,hj,rfl⟩:=List.getElem_of_mem hb;rcases Nat.lt_trichotomy i j with nM|nM|nM
   ·exact .inl (List.pairwise_iff_getElem.1 h.sorted i j hi hj nM)
   ·subst nM;exact absurd rfl bo
   ·exact .inr (List.pairwise_iff_getElem.1 h.sorted j i hj hi nM)
  rcases key hu hs bo with h1|h1
  ·omega
  ·have:=ME w3;omega
 subst hus;have o:=@DQ n;have:t=u:=o.IQ t u kt ku (λhc=>by
  rw[nv]at hc;rcases hc with hc|hc
  ·omega
  ·exact s1 hc.2) (λhc=>by
  rw[nv]at hc;rcases hc with hc|hc
  ·omega
  ·exact s2 hc.2)
 rw[<-this];exact ht
theorem akQ{S':List aa}(hV:∀a∈l,da n a)(hm:∀a,a∈l↔a∈l')(h:jO n S l)(h':jO n S' l'):S=S':=by
 have nd:∀{S l:List aa},jO n S l->S.Nodup:=by
  intro S l h;refine h.sorted.imp λ{a b} gk he=>?_;subst he;have:bh a a=0:=n3 _;omega
 have hp:S.Perm S':=(List.perm_ext_iff_of_nodup (nd h) (nd h')).2 λa=>⟨V5 hV hm h h' a,V5 (λa ha=>hV a ((hm a).2 ha)) (λa=>(hm a).symm) h' h a⟩;refine List.Perm.eq_of_pairwise (le:=λx y=>bh x y<0) (λa b _ _ h1 h2=>?_) h.sorted h'.sorted hp;have:=mF (dv a) (dv b);unfold bh at *;omega
def fG:List aa->List aa
 | []=>[]
 | [a]=>[a]
 | a::b::l=>if bh a b=0 then fG (b::l)else a::fG (b::l)
theorem Z5:∀(l:List aa),(∀a∈l,da n a)->l.Pairwise (λx y=>¬eU y x<0)->jO n (fG l) l
 | [],_,_=>⟨List.Pairwise.nil,λs h=>h,by simp⟩
 | [a],_,_=>⟨by simp[fG],λs h=>h,λx hx=>⟨a,by simp[fG],by
   rw[List.mem_singleton.1 hx];exact⟨n3 _,ua a⟩⟩⟩
 | a::b::l,hV,hP=>by
  have mc:=List.pairwise_cons.1 hP;have ih:=Z5 (b::l) (λx hx=>hV x (List.mem_cons_of_mem _ hx)) mc.2;have ka:=hV a (by simp);have kb:=hV b (by simp);have up:∀x∈b::l,¬bh x a<0:=λx hx h=>mc.1 x hx (nv.2 (.inl h));by_cases hw:bh a b=0
  ·have e:fG (a::b::l)=fG (b::l):=by simp[fG,hw]
   rw[e];refine⟨ih.sorted,λs hs=>List.mem_cons_of_mem _ (ih.sub s hs),λx hx=>?_⟩;rcases List.mem_cons.1 hx with rfl|hx
   ·obtain⟨s,hs,w1,s1⟩:=ih.sD b (by simp);have ks:=hV s (List.mem_cons_of_mem _ (ih.sub s hs));have e1:dv s=dv b:=(kP ks.2.1 kb.2.1).1 w1;have e2:dv x=dv b:=(kP ka.2.1 kb.2.1).1 hw;refine⟨s,hs,(kP ks.2.1 ka.2.1).2 (e1.trans e2.symm),?_⟩;have s2:¬dx b x<0:=λh=>mc.1 b (by simp) (nv.2 (.inr ⟨ME hw,h⟩));exact Mq s1 s2
   ·exact ih.sD x hx
  ·have e:fG (a::b::l)=a::fG (b::l):=by simp[fG,hw]
   rw[e];have gk:bh a b<0:=by
    have h1:=up b (by simp);have:=mF (dv a) (dv b);unfold bh at *;omega
   refine⟨List.pairwise_cons.2 ⟨λx hx=>?_,ih.sorted⟩,λs hs=>?_,λx hx=>?_⟩
   ·have ky:=ih.sub x hx;rcases List.mem_cons.1 ky with rfl|ky
    ·exact gk
    ·have sW:¬bh x b<0:=λh=>(List.pairwise_cons.1 mc.2).1 x ky (nv.2 (.inl h));have kx:=hV x (by simp[ky]);have f:=mF (dv x) (dv b);by_cases h0:bh b x=0
     ·have e3:dv b=dv x:=(kP kb.2.1 kx.2.1).1 h0;unfold bh at gk ⊢;rw[<-e3];exact gk
     ·have h2:bh b x<0:=by unfold bh at *;omega
      exact xl gk h2
   ·rcases List.mem_cons.1 hs with rfl|hs
    ·simp
    ·exact List.mem_cons_of_mem _ (ih.sub s hs)
   ·rcases List.mem_cons.1 hx with rfl|hx
    ·exact⟨x,by simp,n3 _,ua x⟩
    ·obtain⟨s,hs,h⟩:=ih.sD x hx;exact⟨s,List.mem_cons_of_mem _ hs,h⟩
def dc:List aa->aa->List aa
 | [],a=>[a]
 | s::S,a=>if bh s a<0 then s::dc S a else if bh s a=0 then (if dx s a<0 then a::S else s::S)else a::s::S
theorem tP(a:aa):∀(S:List aa),∀s∈dc S a,s∈S\/s=a
 | [],s,h=>by simp[dc]at h;exact .inr h
 | t::S,s,h=>by
  simp only[dc]at h;split at h
  ·rcases List.mem_cons.1 h with rfl|h
   ·simp
   ·rcases tP a S s h with h|h
    ·exact .inl (List.mem_cons_of_mem _ h)
    ·exact .inr h
  ·split at h
   ·split at h
    ·rcases List.mem_cons.1 h with rfl|h
     ·exact .inr rfl
     ·exact .inl (List.mem_cons_of_mem _ h)
    ·exact .inl h
   ·rcases List.mem_cons.1 h with rfl|h
    ·exact .inr rfl
    ·exact .inl h
theorem abe(ka:da n a):∀(S:List aa),(∀s∈S,da n s)->(∃s∈dc S a,bh s a=0/\¬dx s a<0)/\∀t∈S,∃s∈dc S a,bh s t=0/\¬dx s t<0
 | [],_=>⟨⟨a,by simp[dc],n3 _,ua a⟩,by simp⟩
 | t::S,hV=>by
  obtain⟨h1,h2⟩:=abe ka S (λs hs=>hV s (List.mem_cons_of_mem _ hs));have kt:=hV t (by simp);have self:∀x:aa,bh x x=0/\¬dx x x<0:=λx=>⟨n3 _,ua x⟩;simp only[dc];split
  ·obtain⟨s,hs,hh⟩:=h1;refine⟨⟨s,List.mem_cons_of_mem _ hs,hh⟩,λu hu=>?_⟩;rcases List.mem_cons.1 hu with rfl|hu
   ·exact⟨u,by simp,self u⟩
   ·obtain⟨s,hs,hh⟩:=h2 u hu;exact⟨s,List.mem_cons_of_mem _ hs,hh⟩
  ·split
   ·rename_i hw;split
    ·rename_i ba;refine⟨⟨a,by simp,self a⟩,λu hu=>?_⟩;rcases List.mem_cons.1 hu with rfl|hu
     ·refine⟨a,by simp,ME hw,λh=>?_⟩;exact ua a (abP h ba)
     ·exact⟨u,List.mem_cons_of_mem _ hu,self u⟩
    ·rename_i ba;exact⟨⟨t,by simp,hw,ba⟩,λu hu=>⟨u,hu,self u⟩⟩
   ·exact⟨⟨a,by simp,self a⟩,λu hu=>⟨u,List.mem_cons_of_mem _ hu,self u⟩⟩
theorem abf(ka:da n a):∀(S:List aa),(∀s∈S,da n s)->S.Pairwise (λx y=>bh x y<0)->(dc S a).Pairwise λx y=>bh x y<0
 | [],_,_=>by simp[dc]
 | t::S,hV,hP=>by
  have mc:=List.pairwise_cons.1 hP;have kt:=hV t (by simp);simp only[dc];split
  ·rename_i hw;refine List.pairwise_cons.2 ⟨λx hx=>?_,abf ka S (λs hs=>hV s (List.mem_cons_of_mem _ hs)) mc.2⟩;rcases tP a S x hx with hx|rfl
   ·exact mc.1 x hx
   ·exact hw
  ·rename_i hw;split
   ·rename_i YD;have e:dv t=dv a:=(kP kt.2.1 ka.2.1).1 YD;split
    ·refine List.pairwise_cons.2 ⟨λx hx=>?_,mc.2⟩;have:=mc.1 x hx;unfold bh at this ⊢;rw[<-e];exact this
    ·exact hP
   ·rename_i YD;have h1:bh a t<0:=by
     have:=mF (dv t) (dv a);unfold bh at *;omega
    refine List.pairwise_cons.2 ⟨λx hx=>?_,hP⟩;rcases List.mem_cons.1 hx with rfl|hx
    ·exact h1
    ·exact xl h1 (mc.1 x hx)
theorem aql(ka:da n a)(hV:∀a∈l,da n a)(h:jO n S l):jO n (dc S a) (l++[a]):=by
 have hS:∀s∈S,da n s:=λs hs=>hV s (h.sub s hs);obtain⟨d1,d2⟩:=abe ka S hS;refine⟨abf ka S hS h.sorted,λs hs=>?_,λx hx=>?_⟩
 ·rcases tP a S s hs with hs|rfl
  ·exact List.mem_append_left _ (h.sub s hs)
  ·simp
 ·rcases List.mem_append.1 hx with hx|hx
  ·obtain⟨s,hs,w1,s1⟩:=h.sD x hx;obtain⟨t,ht,w2,s2⟩:=d2 s hs;have kx:=hV x hx;have ks:=hS s hs;have kt:da n t:=by
    rcases tP a S t ht with h|rfl
    ·exact hS t h
    ·exact ka
   have e1:=(kP ks.2.1 kx.2.1).1 w1;have e2:=(kP kt.2.1 ks.2.1).1 w2;exact⟨t,ht,(kP kt.2.1 kx.2.1).2 (e2.trans e1),Mq s2 s1⟩
  ·rw[List.mem_singleton.1 hx];exact d1
theorem WS:∀(l m S:List aa),(∀a∈l,da n a)->(∀a∈m,da n a)->jO n S m->jO n (l.foldl dc S) (m++l)
 | [],m,S,_,_,h=>by simpa using h
 | a::l,m,S,hl,hm,h=>by
  have ka:=hl a (by simp);have:=WS l (m++[a]) (dc S a) (λx hx=>hl x (List.mem_cons_of_mem _ hx)) (λx hx=>by
   rcases List.mem_append.1 hx with hx|hx
   ·exact hm x hx
   ·rw[List.mem_singleton.1 hx];exact ka) (aql ka hm h)
  simpa using this
theorem apI{n:Nat}(hV:∀a∈l,da n a)(hm:∀a,a∈l↔a∈l'):fG (ft eU l)=l'.foldl dc []:=by
 have hp:=qW eU l;have h1:jO n (fG (ft eU l)) (ft eU l):=Z5 _ (λa ha=>hV a (hp.mem_iff.1 ha)) (Mc DQ hV);have h2:jO n (l'.foldl dc []) ([]++l'):=WS l' [] [] (λa ha=>hV a ((hm a).2 ha)) (by simp) ⟨List.Pairwise.nil,by simp,by simp⟩;rw[List.nil_append]at h2;exact akQ (λa ha=>hV a (hp.mem_iff.1 ha)) (λa=>(hp.mem_iff).trans (hm a)) h1 h2
theorem hY(h:bK a=true):a.1.length<=4/\dt a.2.1=true/\∀y∈a.1,dt y=true:=by
 unfold bK at h;simp only[Bool.and_eq_true,Bool.not_eq_true',decide_eq_false_iff_not,List.all_eq_true]at h;exact⟨by omega,h.2.1,h.2.2.1⟩
theorem DN(h:dt y=true):-400000000<=y/\y<=400000000:=by
 unfold dt at h;simpa using h
theorem Xn:∀(x:List Int) (g:Nat),(∀y∈x,dt y=true)->g<=400000000->gl x g<=400000000
 | [],g,_,hg=>hg
 | a::x,g,h,hg=>by
  have e:gl (a::x) g=gl x (Nat.gcd g a.natAbs):=rfl;rw[e];refine Xn x _ (λy hy=>h y (List.mem_cons_of_mem _ hy)) ?_;have hb:=DN (h a (by simp));by_cases h0:g=0
  ·subst h0;rw[Nat.gcd_zero_left];omega
  ·exact Nat.le_trans (Nat.gcd_le_left _ (Nat.pos_of_ne_zero h0)) hg
theorem akY(h:bK a=true):dD a<=400000000:=by
 have:=Xn a.1 0 (hY h).2.2 (by omega);unfold dD;split<;>omega
theorem DD(a:aa):(bif true then if 1<((gl a.1 0:Nat):Int)then ((gl a.1 0:Nat):Int)else 1 else if ((gl a.1 0:Nat):Int)<1 then ((gl a.1 0:Nat):Int)else 1)=dD a:=by
 simp only[cond_true];unfold dD;by_cases h:gl a.1 0=0
 ·rw[if_pos h,h];rfl
 ·rw[if_neg h];by_cases h2:1<((gl a.1 0:Nat):Int)
  ·rw[if_pos h2]
  ·rw[if_neg h2];omega
theorem U8(h:bK a=true):ni a.1=some ((((gl a.1 0:Nat):Int),()),()):=U7 a.1 (by have:=(hY h).1;omega) (hY h).2.2
theorem Va(h:bK a=true):z7 a=some ((gl a.1 0 != 0,()),()):=by
 rw[ahL,U8 h];simp only[Option.bind_some];congr 3;cases hg:gl a.1 0 with
 | zero=>rfl
 | succ n=>simp;omega
theorem zZ(h:bK a=true):r3 a=some ((dD a,()),()):=by
 rw[ahF,U8 h];simp only[Option.bind_some];unfold dD;cases hg:gl a.1 0 with
 | zero=>rfl
 | succ n =>
  have:(((n+1:Nat):Int)==0)=false:=by simp;omega
  rw[this];rfl
theorem Ap(h:bK a=true):se a=some ((((gl a.1 0:Nat):Int),()),()):=by
 rw[aiU,Vy a.1 0 (by have:=(hY h).1;omega) (hY h).2.2 (by decide)];rfl
theorem aly:∀(x:List Int),gl x 0=0↔∀y∈x,y=0:=by
 intro x;constructor
 ·intro h y hy;have:=(JR x 0).2 y hy;rw[h]at this;have:=Nat.eq_zero_of_zero_dvd this;omega
 ·intro h;induction x with
  | nil=>rfl
  | cons a x ih =>
   have e:gl (a::x) 0=gl x (Nat.gcd 0 a.natAbs):=rfl;rw[e,h a (by simp)];exact ih λy hy=>h y (List.mem_cons_of_mem _ hy)
theorem Vw(a:aa)(hl:a.1.length<=68719476736):vu a=some ((gl a.1 0==0,()),()):=by
 rw[aiS];rw[Cr a.1 (λy=>y==0) (some ((false,()),())) (some ((true,()),())) (λi=>y4 a i) hl (λi hi=>by
  rw[TW,aQ hi,aA hi,aN (by omega)];simp only[cond_true,Option.bind_some,bne];cases a.1[i]==0<;>rfl) (by rw[TW,aV];rfl)]
 have e:a.1.all (λy=>y==0)=(gl a.1 0==0):=by
  rw[Bool.eq_iff_iff,List.all_eq_true,beq_iff_eq,aly];simp
 rw[e];cases gl a.1 0==0<;>rfl
theorem D8{D:Int}(h:dt y=true):IntKind.i64.wrap (y.tdiv D)=y.tdiv D:=by
 have:=DN h;have h2:(y.tdiv D).natAbs<=y.natAbs:=tdiv_le y D;exact cj (by omega) (by omega)
theorem Vi(a b:Int):Ae a b=some ((kL a b,()),()):=by
 rw[aic];unfold kL;by_cases h1:a<b
 ·rw[if_pos h1,decide_eq_true h1];rfl
 ·rw[if_neg h1,decide_eq_false h1];by_cases h2:b<a
  ·have:a>b:=h2;rw[if_pos h2,decide_eq_true this];rfl
  ·have:¬a>b:=h2;rw[if_neg h2,decide_eq_false this];rfl
theorem aaa{x y:List Int}{i:Nat}(hx:i<x.length)(hy:i<y.length):dH (x.drop i) (y.drop i)=if x[i]=y[i]then dH (x.drop (i+1)) (y.drop (i+1))else if x[i]<y[i]then -1 else 1:=by
 rw[List.drop_eq_getElem_cons hx,List.drop_eq_getElem_cons hy];rfl
theorem CA(a:aa):(dD a != 0)=true:=by
 have:=oK a;simp;omega
theorem SD(ha:bK a=true)(hb:bK b=true)(hl:a.1.length=b.1.length):∀(n i:Nat),n+i=a.1.length ->
  yJ a b (dD a) (dD b) (a.1.length:Int) (i:Int)=some ((dH ((dv a).drop i) ((dv b).drop i),()),())
 | 0,i,hn=>by
  obtain rfl:i=a.1.length:=by omega
  rw[SC,aV];have e1:(dv a).drop a.1.length=[]:=List.drop_eq_nil_of_le (by rw[jX];omega);rw[e1];rfl
 | n+1,i,hn=>by
  have hi:i<a.1.length:=by omega
  have dq:i<b.1.length:=by omega
  have na:=(hY ha).2.2 _ (List.getElem_mem hi);have nb:=(hY hb).2.2 _ (List.getElem_mem dq);rw[SC,aQ hi,aA hi,aA dq,CA,CA,aN (by have:=(hY ha).1;omega)];simp only[cond_true,Option.bind_some];rw[D8 na,D8 nb,Vi];simp only[Option.bind_some];rw[SD ha hb hl n (i+1) (by omega),aaa (i:=i) (by rw[jX];exact hi) (by rw[jX];exact dq)];have e1:(dv a)[i]'(by rw[jX];exact hi)=a.1[i].tdiv (dD a):=by simp[dv]
  have e2:(dv b)[i]'(by rw[jX];exact dq)=b.1[i].tdiv (dD b):=by simp[dv]
  rw[e1,e2];generalize a.1[i].tdiv (dD a)=x;generalize b.1[i].tdiv (dD b)=y;by_cases h:x=y
  ·rw[if_pos h,L7.2 h];rfl
  ·rw[if_neg h];unfold kL;by_cases h1:x<y
   ·rw[if_pos h1,if_pos h1];rfl
   ·rw[if_neg h1,if_neg h1,if_pos (by omega)];rfl
theorem U4(ha:bK a=true)(hb:bK b=true)(hl:a.1.length=b.1.length):vf a b=some ((bh a b,()),()):=by
 rw[ahB,zZ ha,zZ hb];simp only[Option.bind_some];have:=SD ha hb hl a.1.length 0 (by omega);rw[Int.natCast_zero]at this;rw[this];rfl
theorem T4(ha:bK a=true)(hb:bK b=true)(hl:a.1.length=b.1.length):∀(n i:Nat),n+i=a.1.length ->
  y7 a b (dD a) (dD b) (i:Int)=some ((dH ((dv a).drop i) ((dv b).drop i),()),())
 | 0,i,hn=>by
  obtain rfl:i=a.1.length:=by omega
  rw[TZ,aV];have e1:(dv a).drop a.1.length=[]:=List.drop_eq_nil_of_le (by rw[jX];omega);rw[e1];rfl
 | n+1,i,hn=>by
  have hi:i<a.1.length:=by omega
  have dq:i<b.1.length:=by omega
  have na:=(hY ha).2.2 _ (List.getElem_mem hi);have nb:=(hY hb).2.2 _ (List.getElem_mem dq);rw[TZ,aQ hi,aQ dq,aA hi,aA dq,CA,CA,aN (by have:=(hY ha).1;omega)];simp only[cond_true,Option.bind_some];rw[D8 na,D8 nb,T4 ha hb hl n (i+1) (by omega),aaa (i:=i) (by rw[jX];exact hi) (by rw[jX];exact dq)];have e1:(dv a)[i]'(by rw[jX];exact hi)=a.1[i].tdiv (dD a):=by simp[dv]
  have e2:(dv b)[i]'(by rw[jX];exact dq)=b.1[i].tdiv (dD b):=by simp[dv]
  rw[e1,e2];generalize a.1[i].tdiv (dD a)=x;generalize b.1[i].tdiv (dD b)=y;by_cases h:x=y
  ·rw[if_pos h,h];simp
  ·rw[if_neg h];have e:(x != y)=true:=by simpa using h
   rw[e,cond_true];by_cases h1:x<y
   ·rw[if_pos h1,decide_eq_true h1];rfl
   ·rw[if_neg h1,decide_eq_false h1];rfl
theorem aiZ(ha:bK a=true)(hb:bK b=true)(hl:a.1.length=b.1.length):sf a b=some ((bh a b,()),()):=by
 rw[aiY,Ap ha,Ap hb];simp only[Option.bind_some];rw[DD,DD];have:=T4 ha hb hl a.1.length 0 (by omega);rw[Int.natCast_zero]at this;rw[this];rfl
theorem DJ(ha:bK a=true)(hb:bK b=true):IntKind.i64.wrap (a.2.1*dD b)=a.2.1*dD b:=by
 have h1:=DN (hY ha).2.1;have h2:=oK b;have h3:=akY hb;exact MH (by omega) (by omega)
theorem aiW(ha:bK a=true)(hb:bK b=true):Aq a b=some ((!decide (dx a b<0),()),()):=by
 rw[aiV,Ap ha,Ap hb];simp only[Option.bind_some];rw[DD,DD,DJ ha hb,DJ hb ha];have hs:=@xS a b;generalize a.2.1*dD b=x at *
 generalize b.2.1*dD a=y at *
 by_cases h1:x>y
 ·have:¬dx a b<0:=λh=>by
   rcases hs.1 h with h|h<;>omega
  rw[decide_eq_true h1,decide_eq_false this];rfl
 ·rw[decide_eq_false h1];by_cases h2:x=y
  ·subst h2;simp only[cond_false,beq_self_eq_true,cond_true];cases h3:a.2.2
   ·cases h4:b.2.2
    ·have:¬dx a b<0:=λh=>by
      rcases hs.1 h with h|h
      ·omega
      ·rw[h4]at h;exact absurd h.2.2 (by simp)
     rw[decide_eq_false this];rfl
    ·have:dx a b<0:=hs.2 (.inr ⟨rfl,h3,h4⟩);rw[decide_eq_true this];rfl
   ·have:¬dx a b<0:=λh=>by
     rcases hs.1 h with h|h
     ·omega
     ·rw[h3]at h;exact absurd h.2.1 (by simp)
    rw[decide_eq_false this];rfl
  ·have e:(x==y)=false:=by simpa using h2
   have:dx a b<0:=hs.2 (.inl (by omega));rw[e,decide_eq_true this];rfl
theorem agQ(ha:bK a=true)(hb:bK b=true)(hl:a.1.length=b.1.length):UO a b=some ((eU a b,()),()):=by
 have e0:((a.1.length:Int) != (b.1.length:Int))=false:=by rw[hl];simp
 rw[agP,oE,oE,ha,hb,e0,U4 ha hb hl,zZ ha,zZ hb];simp only[Option.bind_some,Bool.not_true,cond_false];rw[DJ ha hb,DJ hb ha,Vi];simp only[Option.bind_some];unfold eU dx;by_cases h:bh a b=0
 ·rw[h];simp only[bne_self_eq_false,cond_false,ne_eq,not_true_eq_false,if_false];by_cases h2:kL (a.2.1*dD b) (b.2.1*dD a)=0
  ·rw[h2];simp only[bne_self_eq_false,cond_false,not_true_eq_false,if_false];cases a.2.2<;>cases b.2.2<;>rfl
  ·have e:(kL (a.2.1*dD b) (b.2.1*dD a) != 0)=true:=by simpa using h2
   rw[e,if_pos h2];rfl
 ·have e:(bh a b != 0)=true:=by simpa using h
  rw[e,if_pos h];rfl
theorem sz8(h:n<=68719476736):decide ((0+n)*8<=140737488355328)=true:=by simp;omega
theorem lH{c:Nat}(h:n<=68719476736)(hc:c<=1000):decide ((n+1)*c<=140737488355328)=true:=by
 have:=Nat.mul_le_mul (show n+1<=68719476737 by omega) hc;simp;omega
theorem VA(a:aa)(h:a.1.length<=68719476736):Ar a=some ((a,()),()):=by
 rw[ai0,sz8 h];rfl
theorem GQ(a:aa)(h:a.1.length<=68719476736):vg a=some ((a,()),()):=by
 rw[ahC,ahE,sz8 h];rfl
theorem Jy(l:List α):l.drop (Int.toNat 0)=l:=rfl
theorem ok1{m:Nat}(h1:n<=m)(h2:m<=1000000):(decide ((0:Nat)<=0)&&decide (0<=(n:Int))&&decide ((n:Int)<=(m:Int)))=true:=by simp;omega
theorem ok2{m:Nat}(h1:n<=m):(decide (0<=(n:Int))&&decide ((n:Int)<=(m:Int))&&decide ((m:Int)<=(m:Int)))=true:=by simp;omega
theorem aqM{S:List α}{i:Nat}(hi:i<S.length)(a:α):S.set i a=S.take i++a::S.drop (i+1):=by
 rw[List.set_eq_take_append_cons_drop,if_pos hi]
theorem Z7(hS:S.length<=1000000)(i:Nat):decide ((0+(List.drop (Int.toNat 0) (S.take i)).length)*40<=140737488355328)=true/\decide (((List.drop (Int.toNat 0) (S.take i)).length+1)*40<=140737488355328)=true /\
  ∀a:aa,decide (((List.drop (Int.toNat 0) (S.take i)++[a]).length+(S.drop i).length)*40<=140737488355328)=true:=by
 rw[Jy];refine⟨?_,?_,λa=>?_⟩<;>simp only[List.length_append,List.length_take,List.length_drop,List.length_singleton,decide_eq_true_eq]<;>omega
theorem Uf(ka:da n a)(hV:∀s∈S,da n s)(hS:S.length<=1000000):∀(m i:Nat),m+i=S.length ->
  zb S a (i:Int)=some ((S.take i++dc (S.drop i) a,()),())
 | 0,i,hm=>by
  obtain rfl:i=S.length:=by omega
  obtain⟨l1,l2,l3⟩:=Z7 hS S.length;have l3:=l3 a;rw[Ue,aV,Int.toNat_natCast];have et:S.take S.length=S:=List.take_of_length_le (Nat.le_refl _);simp only[cond_false,ok1 (Nat.le_refl _) hS,ok2 (Nat.le_refl S.length),et,cond_true]at l1 l2 l3 ⊢;rw[l1,l2,l3,Jy];simp[dc]
 | m+1,i,hm=>by
  have hi:i<S.length:=by omega
  have ks:=hV _ (List.getElem_mem hi);have hl:S[i].1.length=a.1.length:=ks.2.1.trans ka.2.1.symm;have am9:=aiZ ks.1 ka.1 hl;have am2:=aiW ks.1 ka.1;obtain⟨l1,l2,l3⟩:=Z7 hS i;have l3:=l3 a;have et:S.take S.length=S:=List.take_of_length_le (Nat.le_refl _);have l4:decide ((0+S.length)*40<=140737488355328)=true:=by simp;omega
  rw[Ue,aQ hi,aA hi,aN (by omega),Int.toNat_natCast];simp only[cond_true,Option.bind_some,am9,am2,ok1 (Nat.le_of_lt hi) hS,ok2 (Nat.le_of_lt hi),et,l1,l2,l3,l4];rw[List.drop_eq_getElem_cons hi];simp only[dc];by_cases w:bh S[i] a<0
  ·rw[decide_eq_true w,if_pos w,cond_true,Uf ka hV hS m (i+1) (by omega)];have e:S.take (i+1)=S.take i++[S[i]]:=by rw[List.take_add_one,List.getElem?_eq_getElem hi];rfl
   rw[e,List.append_assoc];rfl
  ·rw[decide_eq_false w,if_neg w,cond_false];by_cases w0:bh S[i] a=0
   ·have e:(bh S[i] a==0)=true:=by simpa using w0
    rw[e,if_pos w0,cond_true];by_cases st:dx S[i] a<0
    ·rw[decide_eq_true st,if_pos st];simp only[Bool.not_true,cond_false];rw[aqM hi]
    ·rw[decide_eq_false st,if_neg st];simp only[Bool.not_false,cond_true];rw[<-List.drop_eq_getElem_cons hi,List.take_append_drop]
   ·have e:(bh S[i] a==0)=false:=by simpa using w0
    rw[e,if_neg w0,cond_false,Jy];simp
theorem ai7(ka:da n a)(hV:∀s∈S,da n s)(hS:S.length<=1000000):Au S a=some ((dc S a,()),()):=by
 rw[ai6];have:=Uf ka hV hS S.length 0 (by omega);rw[Int.natCast_zero]at this;rw[this];simp
theorem LR(a:aa):∀S:List aa,(dc S a).length<=S.length+1
 | []=>by simp[dc]
 | s::S=>by
  have:=LR a S;simp only[dc];split
  ·simp;omega
  ·split
   ·split<;>simp
   ·simp
theorem aqm(ka:da n a)(hV:∀s∈S,da n s):∀s∈dc S a,da n s:=λs hs=>by
 rcases tP a S s hs with h|rfl
 ·exact hV s h
 ·exact ka
def fW(a:aa):Bool:=gl a.1 0==0&&(decide (a.2.1>0)||(a.2.1==0&&a.2.2))
def eS(a:aa):Bool:=gl a.1 0 != 0
def kF(d:Int):ab:=(d,[(List.replicate d.toNat (0:Int),1,false)])
def bR(d:Int)(l:List aa):ab:=bif l.any fW then kF d else (d,(l.filter eS).foldl dc [])
def bg(n:Nat)(a:aa):Prop:=bK a=true/\a.1.length=n
theorem LA{n:Nat}(h:bg n a)(hv:eS a=true):da n a:=⟨h.1,h.2,by unfold eS at hv;simpa using hv⟩
theorem mk8(h0:0<=d)(h1:d<=1000):(decide (0<=d)&&decide (d<=d)&&decide (d*8<=140737488355328)&&decide (d<=9223372036854775807))=true:=by simp;omega
theorem Hd(h0:0<=d)(h1:d<=1000):As d=some ((kF d,()),()):=by
 rw[ai4,mk8 h0 h1];rfl
theorem GR(h0:0<=d)(h1:d<=1000):vj d=some ((kF d,()),()):=by
 rw[ahH,mk8 h0 h1];rfl
theorem za(h0:0<=d)(h1:d<=1000){l:List aa}(hV:∀a∈l,bg n a)(hl:l.length<=1000)(z:ab):∀(m i:Nat) (S:List aa),m+i=l.length->(∀s∈S,da n s)->S.length<=i ->
  uX d l z (d,S) (i:Int)=some ((bif (l.drop i).any fW then kF d else (d,((l.drop i).filter eS).foldl dc S),()),())
 | 0,i,S,hm,_,_=>by
  obtain rfl:i=l.length:=by omega
  rw[Ud,aV,List.drop_eq_nil_of_le (Nat.le_refl _)];rfl
 | m+1,i,S,hm,hS,hSl=>by
  have hi:i<l.length:=by omega
  have kv:=hV _ (List.getElem_mem hi);have h4:=(hY kv.1).1;rw[Ud,aQ hi,aA hi,aN (by omega)];simp only[cond_true,Option.bind_some];rw[Vw _ (by omega),List.drop_eq_getElem_cons hi,List.any_cons,List.filter_cons];simp only[Option.bind_some];have ih:=λS h1 h2=>za h0 h1 hV hl z m (i+1) S (by omega);cases hg:gl l[i].1 0==0
  ·have hv:eS l[i]=true:=by unfold eS bne;rw[hg];rfl
   have hb:fW l[i]=false:=by unfold fW;rw[hg];rfl
   have ka:=LA kv hv;rw[hv,hb,cond_false,VA _ (by omega)];simp only[Option.bind_some];rw[ai7 ka hS (by omega)];simp only[Option.bind_some];have:=za h0 h1 hV hl z m (i+1) (dc S l[i]) (by omega) (aqm ka hS) (by have:=LR l[i] S;omega);rw[this];rfl
  ·have hv:eS l[i]=false:=by unfold eS bne;rw[hg];rfl
   rw[hv,cond_true,aiX];have e1:fW l[i]=(decide (l[i].2.1>0)||(l[i].2.1==0&&l[i].2.2)):=by unfold fW;rw[hg];rfl
   rw[e1];have:=za h0 h1 hV hl z m (i+1) S (by omega) hS (by omega);by_cases c1:l[i].2.1<0
   ·have c2:¬l[i].2.1>0:=by omega
    have c3:(l[i].2.1==0)=false:=by simp;omega
    rw[decide_eq_true c1,decide_eq_false c2,c3];simp only[cond_true,Option.bind_some,Bool.not_true,cond_false,Bool.false_and,Bool.or_self,Bool.false_or];rw[this];rfl
   ·rw[decide_eq_false c1];by_cases c3:l[i].2.1=0
    ·have c4:(l[i].2.1==0)=true:=by simpa using c3
     have c2:¬l[i].2.1>0:=by omega
     rw[decide_eq_false c2,c4];cases l[i].2.2
     ·simp only[cond_false,cond_true,Option.bind_some,Bool.not_true,Bool.not_false,Bool.and_false,Bool.or_self,Bool.false_or];rw[this];rfl
     ·simp only[cond_false,cond_true,Option.bind_some,Bool.not_true,Bool.not_false,Bool.and_true,Bool.or_true,Bool.true_or];rw[Hd h0 h1];rfl
    ·have c4:(l[i].2.1==0)=false:=by simpa using c3
     have c2:l[i].2.1>0:=by omega
     rw[decide_eq_true c2,c4];simp only[cond_false,cond_true,Option.bind_some,Bool.not_false,Bool.true_or];rw[Hd h0 h1];rfl
theorem sg{n:Nat}{d:Int}(h0:0<=d)(h1:d<=1000){l:List aa}(hV:∀a∈l,bg n a)(hl:l.length<=1000):ns d l=some ((bR d l,()),()):=by
 rw[ai5];have:=za h0 h1 hV hl (0,[]) l.length 0 [] (by omega) (by simp) (by simp);rw[Int.natCast_zero]at this;rw[this];rfl
abbrev ui:Ty:=.pair (.slice 3 al) (.pair al av)
theorem Jm(ha:bg n a)(hb:bg n b):oi (a,(b,()))=some ((fY ui oi a b,()),()) /\
  fY ui oi a b=eU a b:=by
 have h:oi (a,(b,()))=some ((eU a b,()),()):=agQ ha.1 hb.1 (ha.2.trans hb.2.symm);have e:fY ui oi a b=eU a b:=by
  unfold fY;rw[h]
 exact⟨by rw[e];exact h,e⟩
theorem apR{V:α->Prop}{cf cg:α->α->Int}(h:pJ V cf){W:α->Prop}(hW:∀x,W x->V x)(he:∀x y,W x->W y->cg x y=cf x y):pJ W cg:=by
 refine⟨λx hx=>?_,λx y z hx hy hz h1 h2=>?_,λx y z hx hy hz h1 h2=>?_,λx y hx hy h1 h2=>?_⟩
 ·rw[he x x hx hx];exact h.irrefl x (hW x hx)
 ·rw[he _ _ hx hy]at h1;rw[he _ _ hy hz]at h2;rw[he _ _ hx hz];exact h.trans x y z (hW _ hx) (hW _ hy) (hW _ hz) h1 h2
 ·rw[he _ _ hx hy]at h1;rw[he _ _ hy hz]at h2;rw[he _ _ hx hz];exact h.ntrans x y z (hW _ hx) (hW _ hy) (hW _ hz) h1 h2
 ·rw[he _ _ hx hy]at h1;rw[he _ _ hy hx]at h2;exact h.IQ x y (hW _ hx) (hW _ hy) h1 h2
theorem aqT{K:List aa}(hV:∀a∈K,da n a)(hl:K.length<=1000000):
  VE K (Value.func (Fn.func 356) #[] #[])=some ((),ft eU K,()):=by
 have hv:∀a∈K,bg n a:=λa ha=>⟨(hV a ha).1,(hV a ha).2.1⟩;have hO:pJ (λa=>a∈K) (fY ui oi):=
  apR (@DQ n) (λa ha=>hV a ha) (λx y hx hy=>(Jm (hv x hx) (hv y hy)).2)
 have hs:ft eU K=ft (fY ui oi) K:=by
  have hp:=qW eU K;refine abE hO (λa ha=>ha) hp ?_;have:=Mc (@DQ n) hV;refine List.Pairwise.imp_of_mem (λ{a b} ha hb h=>?_) this;rw[(Jm (hv b (hp.mem_iff.1 hb)) (hv a (hp.mem_iff.1 ha))).2];exact h
 show tZ 153 ui 2 356 _ (K,(Value.func (Fn.func 356) #[] #[],()))=_;unfold tZ;rw[if_pos ⟨rfl,⟨λa ha b hb=>(Jm (hv a ha) (hv b hb)).1,hO⟩,Nat.lt_of_le_of_lt hl (by decide)⟩];rw[hs];rfl
theorem SY{d:Int}{K:List aa}(hV:∀a∈K,da n a)(hl:K.length<=1000)(z:ab):∀(m i:Nat) (out:List aa),m+i=K.length->out.length<=i ->
  rH z ((i:Int),K) (d,out) (K.length:Int) (i:Int)=some (((d,out++fG (K.drop i)),()),())
 | 0,i,out,hm,_=>by
  obtain rfl:i=K.length:=by omega
  rw[SX];dsimp only;rw[aV,List.drop_eq_nil_of_le (Nat.le_refl _),cond_false];simp[fG]
 | m+1,i,out,hm,ho=>by
  have hi:i<K.length:=by omega
  have k1:=hV _ (List.getElem_mem hi);have ei:((i:Int)+1)=((i+1:Nat):Int):=by omega
  have dd:(V.dead.idle&&decide ((i:Int)<=(i:Int)))=true:=by simp[V.idle,V.aM]
  have sz:decide ((out.length+1)*40<=140737488355328)=true:=lH (by omega) (by omega);rw[SX];dsimp only;rw[aQ hi,aA hi,dd,aN (by omega),sz,ei];simp only[cond_true,Option.bind_some];have ih:=λout h=>SY (d:=d) hV hl z m (i+1) out (by omega) h;by_cases h2:i+1<K.length
  ·have k2:=hV _ (List.getElem_mem h2);have e2:decide (((i+1:Nat):Int)<=((i+1:Nat):Int))=true:=by simp
   rw[aQ h2,aA h2,e2];simp only[cond_true,Option.bind_some];rw[U4 k1.1 k2.1 (k1.2.1.trans k2.2.1.symm)];simp only[Option.bind_some];rw[List.drop_eq_getElem_cons hi,List.drop_eq_getElem_cons h2];simp only[fG];rw[<-List.drop_eq_getElem_cons h2];by_cases w:bh K[i] K[i+1]=0
   ·have e:(bh K[i] K[i+1]==0)=true:=by simpa using w
    rw[e,if_pos w,cond_true,ih out (by omega)]
   ·have e:(bh K[i] K[i+1]==0)=false:=by simpa using w
    rw[e,if_neg w,cond_false,ih (out++[K[i]]) (by simp;omega),List.append_assoc];rfl
  ·have hz:i+1=K.length:=by omega
   have e2:decide (((i+1:Nat):Int)<(K.length:Int))=false:=by simp;omega
   rw[e2,cond_false,ih (out++[K[i]]) (by simp;omega),List.drop_eq_getElem_cons hi,List.drop_eq_nil_of_le (by omega)];simp[fG]
def Ly(d:Int)(l:List aa):ab:=bif l.any fW then kF d else (d,fG (ft eU (l.filter eS)))
theorem EY{d:Int}(h0:0<=d)(h1:d<=1000)(hV:∀a∈l,bg n a)(hl:l.length<=1000)(z:ab):∀(m i:Nat) (K:List aa),m+i=l.length->(∀s∈K,da n s)->K.length<=i ->
  rI d l z K l (l.length:Int) (i:Int)=some ((bif (l.drop i).any fW then kF d else (d,fG (ft eU (K++(l.drop i).filter eS))),()),())
 | 0,i,K,hm,hK,hKl=>by
  obtain rfl:i=l.length:=by omega
  rw[SZ,aV,List.drop_eq_nil_of_le (Nat.le_refl _),cond_false,aqT hK (by omega)];simp only[Option.bind_some,List.any_nil,cond_false,List.filter_nil,List.append_nil];have hp:=qW eU K;have:=SY (d:=d) (K:=ft eU K) (λa ha=>hK a (hp.mem_iff.1 ha)) (by rw[hp.length_eq];omega) z (ft eU K).length 0 [] (by omega) (by simp);rw[Int.natCast_zero]at this;rw[this];simp
 | m+1,i,K,hm,hK,hKl=>by
  have hi:i<l.length:=by omega
  have kv:=hV _ (List.getElem_mem hi);have h4:=(hY kv.1).1;rw[SZ,aQ hi,aA hi,aN (by omega)];simp only[cond_true,Option.bind_some];rw[Va kv.1,List.drop_eq_getElem_cons hi,List.any_cons,List.filter_cons];simp only[Option.bind_some];cases hg:gl l[i].1 0==0
  ·have hv:eS l[i]=true:=by unfold eS bne;rw[hg];rfl
   have cS:(gl l[i].1 0 != 0)=true:=hv;have hb:fW l[i]=false:=by unfold fW;rw[hg];rfl
   have ka:=LA kv hv;rw[hv,cS,hb,Bool.not_true,cond_false,GQ _ (by omega)];simp only[Option.bind_some];rw[lH (by omega) (by omega),cond_true];have:=EY h0 h1 hV hl z m (i+1) (K++[l[i]]) (by omega) (λs hs=>by
    rcases List.mem_append.1 hs with h|h
    ·exact hK s h
    ·rw[List.mem_singleton.1 h];exact ka) (by simp;omega)
   rw[this];simp
  ·have hv:eS l[i]=false:=by unfold eS bne;rw[hg];rfl
   have cS:(gl l[i].1 0 != 0)=false:=hv;rw[hv,cS,Bool.not_false,cond_true];have e1:fW l[i]=(decide (l[i].2.1>0)||(l[i].2.1==0&&l[i].2.2)):=by unfold fW;rw[hg];rfl
   rw[e1];have:=EY h0 h1 hV hl z m (i+1) K (by omega) hK (by omega);cases c1:decide (l[i].2.1>0)
   ·cases c2:l[i].2.1==0
    ·simp only[cond_false,Bool.false_and,Bool.or_self,Bool.false_or];rw[this];rfl
    ·cases c3:l[i].2.2
     ·simp only[cond_false,cond_true,Bool.and_false,Bool.or_self,Bool.false_or];rw[this];rfl
     ·simp only[cond_false,cond_true,Bool.and_true,Bool.or_true,Bool.true_or];rw[GR h0 h1];rfl
   ·simp only[cond_true,Bool.true_or];rw[GR h0 h1];rfl
theorem ah2(h0:0<=d)(h1:d<=1000)(hV:∀a∈l,bg n a)(hl:l.length<=1000):pL d l=some ((Ly d l,()),()):=by
 rw[ah1];have:=EY h0 h1 hV hl (0,[]) l.length 0 [] (by omega) (by simp) (by simp);rw[Int.natCast_zero]at this;rw[this];rfl
theorem norm_eq{n:Nat}(hV:∀a∈l,bg n a)(hm:∀a,a∈l↔a∈l'):Ly d l=bR d l':=by
 have e1:l.any fW=l'.any fW:=by
  rw[Bool.eq_iff_iff,List.any_eq_true,List.any_eq_true];exact⟨λ⟨x,hx,h⟩=>⟨x,(hm x).1 hx,h⟩,λ⟨x,hx,h⟩=>⟨x,(hm x).2 hx,h⟩⟩
 have e2:fG (ft eU (l.filter eS))=(l'.filter eS).foldl dc []:=apI (n:=n) (λa ha=>LA (hV a (List.mem_filter.1 ha).1) (List.mem_filter.1 ha).2) (λa=>by
  rw[List.mem_filter,List.mem_filter,hm a])
 unfold Ly bR;rw[e1,e2]
theorem Xc{g:Nat}(hg:g<=4000000000000000000)(hy:y.natAbs<=4000000000000000000):Nat.gcd g y.natAbs<=4000000000000000000:=by
 by_cases h0:g=0
 ·subst h0;rw[Nat.gcd_zero_left];exact hy
 ·exact Nat.le_trans (Nat.gcd_le_left _ (Nat.pos_of_ne_zero h0)) hg
theorem Xl:∀(x:List Int) (g:Nat),(∀y∈x,y.natAbs<=4000000000000000000)->g<=4000000000000000000->gl x g<=4000000000000000000
 | [],g,_,hg=>hg
 | a::x,g,h,hg=>Xl x (Nat.gcd g a.natAbs) (λy hy=>h y (List.mem_cons_of_mem _ hy)) (Xc hg (h a (by simp)))
theorem TX(x:List Int)(hl:x.length<=68719476736)(hx:∀y∈x,y.natAbs<=4000000000000000000):∀(n i g:Nat),n+i=x.length->rR x (g:Int) (i:Int)=some ((((gl (x.drop i) g:Nat):Int),()),())
 | 0,i,g,hn=>by
  obtain rfl:i=x.length:=by omega
  rw[y5,aV,List.drop_eq_nil_of_le (by omega)];rfl
 | n+1,i,g,hn=>by
  have hi:i<x.length:=by omega
  rw[y5,aQ hi,aA hi,cond_true,Option.bind_some,VO (hx _ (List.getElem_mem hi)),Option.bind_some,E1 x i _ _ _ (Nat.le_refl _) (Int.natCast_nonneg _) (Int.natCast_nonneg _),aN (by omega),TX x hl hx n (i+1) _ (by omega),List.drop_eq_getElem_cons hi];simp only[Int.natAbs_natCast];rfl
theorem aiT(x:List Int)(k:Int)(hl:x.length<=68719476736)(hx:∀y∈x,y.natAbs<=4000000000000000000)(hk:k.natAbs<=4000000000000000000):pN x k=some ((((gl x k.natAbs:Nat):Int),()),()):=by
 rw[Vx,VO hk,Option.bind_some];have:=TX x hl hx x.length 0 k.natAbs (by omega);simpa using this
theorem SF(x:List Int)(hl:x.length<=68719476736)(hx:∀y∈x,y.natAbs<=4000000000000000000):∀(n i g:Nat),n+i=x.length->g<=4000000000000000000->uK x (g:Int) x (x.length:Int) (i:Int)=some ((((gl (x.drop i) g:Nat):Int),()),())
 | 0,i,g,hn,_=>by
  obtain rfl:i=x.length:=by omega
  rw[yK,aV,List.drop_eq_nil_of_le (by omega)];rfl
 | n+1,i,g,hn,hg=>by
  have hi:i<x.length:=by omega
  have hy:=hx _ (List.getElem_mem hi);rw[yK,aQ hi,aA hi,cond_true,Option.bind_some,U1 (by simpa using hg) hy,Option.bind_some,aN (by omega)];simp only[Int.natAbs_natCast];rw[SF x hl hx n (i+1) _ (by omega) (Xc hg hy),List.drop_eq_getElem_cons hi];rfl
theorem ahG(x:List Int)(hl:x.length<=68719476736)(hx:∀y∈x,y.natAbs<=4000000000000000000):ni x=some ((((gl x 0:Nat):Int),()),()):=by
 rw[U6];have:=SF x hl hx x.length 0 0 (by omega) (by omega);simpa using this
def jb(g:Nat):Int:=if g=0 then 1 else (g:Int)
def fR(x:List Int)(k:Int)(st:Bool):aa×Bool :=
 bif bK (x.map (λy=>y.tdiv (jb (gl x k.natAbs))),k.tdiv (jb (gl x k.natAbs)),st)then ((x.map (λy=>y.tdiv (jb (gl x k.natAbs))),k.tdiv (jb (gl x k.natAbs)),st),true)else (([],0,false),false)
theorem aaV(g:Nat):(jb g != 0)=true:=by
 unfold jb;split
 ·rfl
 ·simp;omega
theorem aps(g:Nat):(bif true then if 1<(g:Int)then (g:Int)else 1 else if (g:Int)<1 then (g:Int)else 1)=jb g:=by
 simp only[cond_true];unfold jb;by_cases h:g=0
 ·rw[if_pos h,h];rfl
 ·rw[if_neg h];by_cases h2:1<(g:Int)
  ·rw[if_pos h2]
  ·rw[if_neg h2];omega
theorem xU{D:Int}(h:y.natAbs<=4000000000000000000):IntKind.i64.wrap (y.tdiv D)=y.tdiv D:=by
 have h2:(y.tdiv D).natAbs<=y.natAbs:=tdiv_le y D;exact cj (by omega) (by omega)
theorem WM(x:List α)(g:α->β)(E:List β->Option R)(f:List β->Int->Option R)
  (h1:∀(i:Nat) (hi:i<x.length) (v:List β),v.length=x.length->f v (i:Int)=f (v.set i (g x[i])) ((i+1:Nat):Int)) (h2:∀v,v.length=x.length->f v (x.length:Int)=E v) :
  ∀(n i:Nat) (v:List β),n+i=x.length->v.length=x.length->f v (i:Int)=E (v.take i++(x.drop i).map g)
 | 0,i,v,hn,hv=>by
  obtain rfl:i=x.length:=by omega
  rw[h2 v hv,List.take_of_length_le (by omega),List.drop_eq_nil_of_le (by omega)];simp
 | n+1,i,v,hn,hv=>by
  have hi:i<x.length:=by omega
  rw[h1 i hi v hv,WM x g E f h1 h2 n (i+1) _ (by omega) (by simpa using hv)];congr 1;have e1:(v.set i (g x[i])).take (i+1)=v.take i++[g x[i]]:=by
   rw[List.take_add_one,List.take_set_of_le (by omega)];simp[hv,hi]
  rw[e1,List.append_assoc,List.drop_eq_getElem_cons hi,List.map_cons];rfl
theorem JH(x:List α)(g:α->β)(E:List β->Option R)(f:List β->Int->Option R)
  (h1:∀(i:Nat) (hi:i<x.length) (v:List β),v.length=x.length->f v (i:Int)=f (v.set i (g x[i])) ((i+1:Nat):Int)) (h2:∀v,v.length=x.length->f v (x.length:Int)=E v) (v:List β) (hv:v.length=x.length):f v 0=E (x.map g):=by
 have:=WM x g E f h1 h2 x.length 0 v (by omega) hv;rw[Int.natCast_zero]at this;rw[this];simp
theorem vM(x:List α)(g:α->β)(E:List β->Option R)(f:List β->Int->Option R)
  (h1:∀(i:Nat) (hi:i<x.length) (o:List β),o.length=i->f o (i:Int)=f (o++[g x[i]]) ((i+1:Nat):Int)) (h2:∀o,f o (x.length:Int)=E o):f [] 0=E (x.map g):=by
 have key:∀(n i:Nat) (o:List β),n+i=x.length->o.length=i->f o (i:Int)=E (o++(x.drop i).map g):=by
  intro n;induction n with
  | zero =>
   intro i o hn ho;obtain rfl:i=x.length:=by omega
   rw[h2,List.drop_eq_nil_of_le (by omega)];simp
  | succ n ih =>
   intro i o hn ho;have hi:i<x.length:=by omega
   rw[h1 i hi o ho,ih (i+1) _ (by omega) (by simp;omega),List.drop_eq_getElem_cons hi,List.map_cons,List.append_assoc];rfl
 have:=key x.length 0 [] (by omega) rfl;rw[Int.natCast_zero]at this;rw[this];simp
theorem Ve{x:List Int}{st:Bool}(hl:x.length<=1000)(hx:∀y∈x,y.natAbs<=4000000000000000000)(hk:k.natAbs<=4000000000000000000):nk x k st=some (((fR x k st).1,(fR x k st).2,()),()):=by
 have hg:=Xl x 0 hx (by omega);have jv:=kD (R:=Option ((aa×Bool×PUnit)×PUnit)) x 8 (by omega) (by omega) (by omega);have loop:∀D:Int,(D != 0)=true->rG x ([],0,false) D (List.replicate x.length (0:Int),k.tdiv D,st) x (x.length:Int) 0=(bif bK (x.map (λy=>y.tdiv D),k.tdiv D,st)then some (((x.map (λy=>y.tdiv D),k.tdiv D,st),true,()),())else some ((([],0,false),false,()),())):=by
  intro D hD;refine JH x (λy=>y.tdiv D) (λv=>(bif bK (v,k.tdiv D,st)then some (((v,k.tdiv D,st),true,()),())else some ((([],0,false),false,()),()))) (λv i=>rG x ([],0,false) D (v,k.tdiv D,st) x (x.length:Int) i) (λi hi v hv=>?_) (λv hv=>?_) _ (by simp)
  ·rw[SO,aQ hi,aA hi,aN (by omega),hD];simp only[cond_true,Option.bind_some];rw[aA (by omega),xU (hx _ (List.getElem_mem hi)),Int.toNat_natCast];simp only[Option.bind_some]
  ·rw[SO,aV,cond_false,oE];simp only[Option.bind_some];cases bK (v,k.tdiv D,st)<;>rfl
 rw[ahW,ahG x (by omega) hx];simp only[Option.bind_some];rw[U1 (by simpa using hg) hk];simp only[Option.bind_some,Int.natAbs_natCast];rw[<-JS];unfold fR;by_cases h0:gl x k.natAbs=0
 ·have e:jb (gl x k.natAbs)=1:=by unfold jb;rw[if_pos h0]
  rw[e,h0];have e2:(((0:Nat):Int)==0)=true:=rfl;rw[e2,cond_true,jv,xU hk,loop 1 rfl];cases bK (x.map (λy=>y.tdiv 1),k.tdiv 1,st)<;>rfl
 ·have e:jb (gl x k.natAbs)=((gl x k.natAbs:Nat):Int):=by unfold jb;rw[if_neg h0]
  have e2:(((gl x k.natAbs:Nat):Int)==0)=false:=by simpa using h0
  have e3:(((gl x k.natAbs:Nat):Int) != 0)=true:=by simpa using h0
  rw[e,e2,cond_false,jv,e3,cond_true,xU hk,loop _ e3];cases bK (x.map (λy=>y.tdiv ((gl x k.natAbs:Nat):Int)),k.tdiv ((gl x k.natAbs:Nat):Int),st)<;>rfl
theorem Vv{x:List Int}{st:Bool}(hl:x.length<=1000)(hx:∀y∈x,y.natAbs<=4000000000000000000)(hk:k.natAbs<=4000000000000000000):nr x k st=some (((fR x k st).1,(fR x k st).2,()),()):=by
 have loop:∀D:Int,(D != 0)=true->uU x ([],0,false) D ([],k.tdiv D,st) 0=(bif bK (x.map (λy=>y.tdiv D),k.tdiv D,st)then some (((x.map (λy=>y.tdiv D),k.tdiv D,st),true,()),())else some ((([],0,false),false,()),())):=by
  intro D hD;refine vM x (λy=>y.tdiv D) (λv=>(bif bK (v,k.tdiv D,st)then some (((v,k.tdiv D,st),true,()),())else some ((([],0,false),false,()),()))) (λv i=>uU x ([],0,false) D (v,k.tdiv D,st) i) (λi hi v hv=>?_) (λv=>?_)
  ·have hs:decide ((v.length+1)*8<=140737488355328)=true:=lH (by omega) (by omega);rw[TV,aQ hi,aA hi,aN (by omega),hD];simp only[cond_true,Option.bind_some];rw[hs,cond_true,xU (hx _ (List.getElem_mem hi))]
  ·rw[TV,aV,cond_false,r7];simp only[Option.bind_some];cases bK (v,k.tdiv D,st)<;>rfl
 rw[aiR,aiT x k (by omega) hx hk];simp only[Option.bind_some];rw[aps,aaV,cond_true,xU hk,loop _ (aaV _)];unfold fR;cases bK _<;>rfl
theorem aav{x:List Int}{st:Bool}(h:(fR x k st).2=true):bg x.length (fR x k st).1:=by
 unfold fR at *
 cases ha:bK (x.map (λy=>y.tdiv (jb (gl x k.natAbs))),k.tdiv (jb (gl x k.natAbs)),st)
 ·rw[ha]at h;cases h
 ·exact⟨ha,by simp⟩
theorem WU:∀(l S:List aa),(l.foldl dc S).length<=S.length+l.length
 | [],S=>by simp
 | a::l,S=>by
  have:=WU l (dc S a);have h2:=LR a S;simp only[List.foldl_cons,List.length_cons];omega
theorem JN:∀(l S:List aa),∀s∈l.foldl dc S,s∈S\/s∈l
 | [],S,s,h=>.inl h
 | a::l,S,s,h=>by
  rcases JN l (dc S a) s h with h|h
  ·rcases tP a S s h with h|rfl
   ·exact .inl h
   ·exact .inr (by simp)
  ·exact .inr (by simp[h])
def yh:ab:=(0,[])
def bA(a:aa)(v:Nat):Int:=a.1.getD v 0
def iY(a:aa)(p:Int)(b:aa)(q:Int):aa×Bool:=fR (List.zipWith (λx y=>p*x+q*y) a.1 b.1) (p*a.2.1+q*b.2.1) (a.2.2&&p != 0||b.2.2&&q != 0)
def kC(d:Int)(l:List aa):ab×Bool:=bif decide ((bR d l).2.length>16)then (yh,false)else (bR d l,true)
def gD(v:Nat)(a:aa):List aa->List aa->Option (List aa)
 | [],o=>some o
 | b::l,o=>bif decide (bA b v>=0)then gD v a l o else bif (iY a (0 - bA b v) b (bA a v)).2 then gD v a l (o++[(iY a (0 - bA b v) b (bA a v)).1])else none
def jE(v:Nat)(L:List aa):List aa->List aa->Option (List aa)
 | [],o=>some o
 | a::l,o=>bif decide (bA a v<=0)then jE v L l o else match gD v a L o with
  | some o=>jE v L l o
  | none=>none
def vY(v:Nat)(L:List aa):Option (List aa):=jE v L L (L.filter λa=>bA a v==0)
def dK(c:ab)(v:Nat):ab×Bool:=match vY v c.2 with
 | some l=>kC c.1 l
 | none=>(yh,false)
def oO:Nat->ab->Option ab
 | 0,c=>some c
 | n+1,c=>bif (dK c n).2 then oO n (dK c n).1 else none
def JD(c:ab):Bool×Bool:=match oO c.1.toNat c with
 | some r=>(decide (r.2.length>0),true)
 | none=>(false,false)
def jq(c:ab):Bool×Bool:=bif bt c then JD (bR c.1 c.2)else (false,false)
def dO(a:aa):aa×Bool:=bif bK a then ((a.1.map (λx=>0 - x),0 - a.2.1,!a.2.2),true)else (([],0,false),false)
def cU(a b:ab):ab×Bool:=bif bt a&&(bt b&&a.1==b.1)then kC a.1 (a.2++b.2)else (yh,false)
def kz(c:ab)(a:aa):Bool×Bool:=bif (dO a).2&&(cU c ((a.1.length:Int),[(dO a).1])).2 then jq (cU c ((a.1.length:Int),[(dO a).1])).1 else (false,false)
def ly(d:Int):List aa->List aa->Option (List aa)
 | pre,[]=>some pre
 | pre,a::post=>bif (kz (d,pre++post) a).2 then (bif (kz (d,pre++post) a).1 then ly d pre post else ly d (pre++[a]) post)else none
def mH(c:ab):Option ab:=bif (jq c).2 then (bif (jq c).1 then some (kF c.1)else (ly c.1 [] c.2).map λl=>(c.1,l))else none
def gz(c:ab):Option ab:=bif bt c then mH (bR c.1 c.2)else none
theorem cc:bt c=true↔(∀a∈c.2,bg c.1.toNat a)/\0<=c.1/\c.1<=4/\c.2.length<=16:=by
 unfold bt bg;simp only[Bool.and_eq_true,List.all_eq_true,decide_eq_true_eq,Bool.not_eq_true',bne_eq_false_iff_eq];constructor
 ·rintro⟨h1,⟨h2,h3⟩,h4⟩
  exact⟨λa ha=>⟨(h1 a ha).1,by have:=(h1 a ha).2;omega⟩,h2,h3,by omega⟩
 ·rintro⟨h1,h2,h3,h4⟩
  exact⟨λa ha=>⟨(h1 a ha).1,by have:=(h1 a ha).2;omega⟩,⟨h2,h3⟩,by omega⟩
theorem apH(d:Int)(l:List aa):(bR d l).2.length<=max 1 l.length:=by
 unfold bR;cases l.any fW with
 | true=>simp[kF];omega
 | false =>
  have h1:=WU (l.filter eS) [];have h2:=List.length_filter_le eS l;simp only[cond_false,List.length_nil]at h1 ⊢;omega
theorem aaN{d:Int}(h0:0<=d)(h1:d<=4):bg d.toNat ((List.replicate d.toNat (0:Int),1,false):aa):=by
 obtain⟨n,rfl⟩:∃n:Nat,d=n:=⟨d.toNat,by omega⟩;have:n=0\/n=1\/n=2\/n=3\/n=4:=by omega
 refine⟨?_,by simp⟩;rcases this with rfl|rfl|rfl|rfl|rfl<;>decide
theorem aaO{d:Int}(hd:d=n)(h1:d<=4)(h:∀a∈l,bg n a):∀a∈(bR d l).2,bg n a:=by
 intro a ha;unfold bR at ha;cases hb:l.any fW with
 | true =>
  rw[hb]at ha;simp only[cond_true,kF,List.mem_singleton]at ha;subst ha;have:=aaN (d:=d) (by omega) h1
  rwa [show d.toNat=n by omega]at this ⊢
 | false =>
  rw[hb]at ha;rcases JN _ _ a ha with h2|h2
  ·cases h2
  ·exact h a (List.mem_filter.1 h2).1
theorem gE(d:Int)(l:List aa):(bR d l).1=d:=by
 unfold bR;cases l.any fW<;>rfl
theorem mI(h:bt c=true):bt (bR c.1 c.2)=true:=by
 obtain⟨h1,h2,h3,h4⟩:=cc.1 h;rw[cc,gE];exact⟨aaO (by omega) h3 h1,h2,h3,by have:=apH c.1 c.2;omega⟩
theorem aac{l:List aa}(h0:0<=d)(h1:d<=4)(h:∀a∈l,bg d.toNat a)(hk:(kC d l).2=true):bt (kC d l).1=true/\(kC d l).1=bR d l:=by
 unfold kC at *
 cases hc:decide ((bR d l).2.length>16)with
 | true=>rw[hc]at hk;cases hk
 | false =>
  refine⟨?_,rfl⟩;rw[cond_false,cc,gE];exact⟨aaO (by omega) h1 h,h0,h1,Nat.le_of_not_lt (of_decide_eq_false hc)⟩
theorem aaj{a b:ab}(h:(cU a b).2=true):bt (cU a b).1=true/\(cU a b).1=bR a.1 (a.2++b.2)/\bt a=true/\bt b=true/\a.1=b.1:=by
 unfold cU at *
 cases hc:bt a&&(bt b&&a.1==b.1)with
 | false=>rw[hc]at h;cases h
 | true =>
  rw[hc]at h;simp only[Bool.and_eq_true,beq_iff_eq]at hc;obtain⟨ha,hb,hd⟩:=hc;have a1:=cc.1 ha;have b1:=cc.1 hb;have:=aac (l:=a.2++b.2) a1.2.1 a1.2.2.1 (λx hx=>by
   rcases List.mem_append.1 hx with hx|hx
   ·exact a1.1 x hx
   ·rw[hd];exact b1.1 x hx) h
  exact⟨this.1,this.2,ha,hb,hd⟩
theorem apu(ha:bg n a)(hb:bg n b)(h:(iY a p b q).2=true):bg n (iY a p b q).1:=by
 have:=aav h
 rwa [List.length_zipWith,ha.2,hb.2,Nat.min_self]at this
theorem xu(ha:bg n a):∀(l o r:List aa),(∀x∈l,bg n x)->(∀x∈o,bg n x)->gD v a l o=some r->∀x∈r,bg n x
 | [],o,r,_,ho,h=>by simp only[gD,Option.some.injEq]at h;subst h;exact ho
 | b::l,o,r,hl,ho,h=>by
  simp only[gD]at h;have dT:∀x∈l,bg n x:=λx hx=>hl x (by simp[hx]);cases hc:decide (bA b v>=0)with
  | true=>rw[hc]at h;exact xu ha l o r dT ho h
  | false =>
   rw[hc]at h;cases hm:(iY a (0 - bA b v) b (bA a v)).2 with
   | false=>rw[hm]at h;cases h
   | true =>
    rw[hm]at h;refine xu ha l _ r dT (λx hx=>?_) h;rcases List.mem_append.1 hx with hx|hx
    ·exact ho x hx
    ·rw[List.mem_singleton.1 hx];exact apu ha (hl b (by simp)) hm
theorem Ll{L:List aa}(hL:∀x∈L,bg n x):∀(l o r:List aa),(∀x∈l,bg n x)->(∀x∈o,bg n x)->jE v L l o=some r->∀x∈r,bg n x
 | [],o,r,_,ho,h=>by simp only[jE,Option.some.injEq]at h;subst h;exact ho
 | a::l,o,r,hl,ho,h=>by
  simp only[jE]at h;have dT:∀x∈l,bg n x:=λx hx=>hl x (by simp[hx]);cases hc:decide (bA a v<=0)with
  | true=>rw[hc]at h;exact Ll hL l o r dT ho h
  | false =>
   rw[hc,cond_false]at h;cases hm:gD v a L o with
   | none=>rw[hm]at h;cases h
   | some o2 =>
    rw[hm]at h;exact Ll hL l o2 r dT (xu (hl a (by simp)) L o o2 hL ho hm) h
theorem ak2{L r:List aa}(hL:∀x∈L,bg n x)(h:vY v L=some r):∀x∈r,bg n x :=
 Ll hL L _ r hL (λx hx=>hL x (List.mem_filter.1 hx).1) h
theorem Jz(hc:bt c=true)(h:(dK c v).2=true):bt (dK c v).1=true/\(dK c v).1.1=c.1:=by
 obtain⟨h1,h2,h3,h4⟩:=cc.1 hc;unfold dK at *
 cases hd:vY v c.2 with
 | none=>rw[hd]at h;cases h
 | some l =>
  rw[hd]at h;have:=aac h2 h3 (ak2 h1 hd) h;exact⟨this.1,by rw[this.2,gE]⟩
abbrev Qt:=_root_.Rat
def dot:List Int->List Qt->Qt
 | c::cs,x::xs=>(c:Qt)*x+dot cs xs
 | _,_=>0
def lhs(a:aa)(x:List Qt):Qt:=dot a.1 x+(a.2.1:Qt)
theorem aaP(h:dt y=true):y.natAbs<=400000000:=by
 have:=DN h;omega
theorem eX(h:bg n a):(∀y∈a.1,y.natAbs<=400000000)/\a.2.1.natAbs<=400000000/\a.1.length<=4:=by
 obtain⟨h1,h2,h3⟩:=hY h.1;exact⟨λy hy=>aaP (h3 y hy),aaP h2,h1⟩
def n4(a:aa)(p:Int)(b:aa)(q:Int):List Int:=List.zipWith (λx y=>p*x+q*y) a.1 b.1
theorem Lk(a:aa)(p:Int)(b:aa)(q:Int):(List.zip a.1 b.1).map (λz=>p*z.1+q*z.2)=n4 a p b q:=by
 unfold n4 List.zip;rw[List.map_zipWith]
theorem tD{x:Int}(hp:p.natAbs<=400000000)(hq:q.natAbs<=400000000)(hx:x.natAbs<=400000000)(hy:y.natAbs<=400000000):
  (p*x+q*y).natAbs<=400000000000000000/\IntKind.i64.wrap (IntKind.i64.wrap (p*x)+IntKind.i64.wrap (q*y))=p*x+q*y:=by
 have h1:=LO hp hx;have h2:=LO hq hy;rw[MH hp hx,MH hq hy];exact⟨by omega,cj (by omega) (by omega)⟩
theorem aar(ha:bg n a)(hb:bg n b)(hp:p.natAbs<=400000000)(hq:q.natAbs<=400000000):
  (n4 a p b q).length<=1000/\(∀y∈n4 a p b q,y.natAbs<=4000000000000000000)/\(p*a.2.1+q*b.2.1).natAbs<=4000000000000000000:=by
 obtain⟨a1,a2,a3⟩:=eX ha;obtain⟨b1,b2,b3⟩:=eX hb;refine⟨by unfold n4;rw[List.length_zipWith];omega,λy hy=>?_,?_⟩
 ·rw[<-Lk]at hy;obtain⟨⟨u,v⟩,hz,rfl⟩:=List.mem_map.1 hy;have hm:=List.of_mem_zip hz;have:=(tD hp hq (a1 u hm.1) (b1 v hm.2)).1;dsimp only;omega
 ·have:=(tD hp hq a2 b2).1;omega
theorem acn(ha:bg n a)(hb:bg n b){i:Nat}(hi:i<(List.zip a.1 b.1).length):∃(h1:i<a.1.length) (h2:i<b.1.length),(List.zip a.1 b.1)[i]=(a.1[i],b.1[i]):=by
 rw[List.length_zip]at hi;exact⟨by omega,by omega,by simp⟩
theorem Em(ha:bg n a)(hb:bg n b):(List.zip a.1 b.1).length=a.1.length:=by
 rw[List.length_zip,ha.2,hb.2,Nat.min_self]
theorem aiH(ha:bg n a)(hb:bg n b)(hp:0<=p)(Dc:p<=400000000)(hq:0<=q)(hq2:q<=400000000):An a p b q=some (((iY a p b q).1,(iY a p b q).2,()),()):=by
 obtain⟨a1,a2,a3⟩:=eX ha;obtain⟨b1,b2,b3⟩:=eX hb;have qm:p.natAbs<=400000000:=by omega
 have qo:q.natAbs<=400000000:=by omega
 obtain⟨m1,m2,m3⟩:=aar ha hb qm qo;have hlen:(((a.1.length:Nat):Int) != ((b.1.length:Nat):Int))=false:=by rw[ha.2,hb.2];simp
 have tk:(decide (0<=p)&&decide (p<=400000000))=true:=by simp;omega
 have amW:(decide (0<=q)&&decide (q<=400000000))=true:=by simp;omega
 rw[aiG,r7,r7,iH,iH,ha.1,hb.1,hlen,tk,amW];simp only[Option.bind_some,Bool.not_true,cond_false];have loop:=vM (List.zip a.1 b.1) (λz=>p*z.1+q*z.2) (λo=>uS p q a b ([],0,false) o (((List.zip a.1 b.1).length:Nat):Int)) (λo i=>uS p q a b ([],0,false) o i) (λi hi o ho=>by
  obtain⟨h1,h2,hz⟩:=acn ha hb hi;have hd:decide ((o.length+1)*8<=140737488355328)=true:=lH (by omega) (by omega);rw[TK,aQ h1,cond_true,aA h1,aA h2];simp only[Option.bind_some];rw[hd,cond_true,(tD qm qo (a1 _ (List.getElem_mem h1)) (b1 _ (List.getElem_mem h2))).2,aN (by omega),hz]) (λo=>rfl)
 rw[loop,Lk,Em ha hb,TK,aV,cond_false,(tD qm qo a2 b2).2];have hm:=λst=>Vv (st:=st) m1 m2 m3;have e1:decide (p>0)=(p != 0):=by rw[Bool.eq_iff_iff];simp;omega
 have e2:decide (q>0)=(q != 0):=by rw[Bool.eq_iff_iff];simp;omega
 rw[hm,hm,hm,e1,e2];unfold iY;show _=some (((fR (n4 a p b q) (p*a.2.1+q*b.2.1) (a.2.2&&p != 0||b.2.2&&q != 0)).1,(fR (n4 a p b q) (p*a.2.1+q*b.2.1) (a.2.2&&p != 0||b.2.2&&q != 0)).2,()),());cases a.2.2<;>cases b.2.2<;>cases hp0:(p != 0)<;>cases hq0:(q != 0)<;>rfl
theorem ahm(ha:bg n a)(hb:bg n b)(hp:0<=p)(Dc:p<=400000000)(hq:0<=q)(hq2:q<=400000000):zW a p b q=some (((iY a p b q).1,(iY a p b q).2,()),()):=by
 obtain⟨a1,a2,a3⟩:=eX ha;obtain⟨b1,b2,b3⟩:=eX hb;have qm:p.natAbs<=400000000:=by omega
 have qo:q.natAbs<=400000000:=by omega
 obtain⟨m1,m2,m3⟩:=aar ha hb qm qo;have hlen:(((a.1.length:Nat):Int) != ((b.1.length:Nat):Int))=false:=by rw[ha.2,hb.2];simp
 have c1:decide (p<0)=false:=by simp;omega
 have c2:decide (p>400000000)=false:=by simp;omega
 have c3:decide (q<0)=false:=by simp;omega
 have c4:decide (q>400000000)=false:=by simp;omega
 rw[ahl,oE,oE,ha.1,hb.1,hlen,c1,c2,c3,c4];simp only[Option.bind_some,Bool.not_true,cond_false];have jv:=kD (R:=Option ((aa×Bool×PUnit)×PUnit)) a.1 8 (by omega) (by omega) (by omega);rw[jv,List.length_replicate];have loop:=JH (List.zip a.1 b.1) (λz=>p*z.1+q*z.2) (λo=>uH p q a b ([],0,false) o (a.1.length:Int) (((List.zip a.1 b.1).length:Nat):Int)) (λo i=>uH p q a b ([],0,false) o (a.1.length:Int) i) (λi hi o ho=>by
  obtain⟨h1,h2,hz⟩:=acn ha hb hi;rw[Em ha hb]at ho;rw[Sw,aQ h1,cond_true,aA h1,aA h2,aA (show i<o.length by omega)];simp only[Option.bind_some];rw[(tD qm qo (a1 _ (List.getElem_mem h1)) (b1 _ (List.getElem_mem h2))).2,aN (by omega),hz,Int.toNat_natCast]) (λo _=>rfl) (List.replicate a.1.length (0:Int)) (by rw[List.length_replicate,Em ha hb])
 rw[loop,Lk,Em ha hb,Sw,aV,cond_false,(tD qm qo a2 b2).2];have hm:=λst=>Ve (st:=st) m1 m2 m3;rw[hm,hm,hm];unfold iY;show _=some (((fR (n4 a p b q) (p*a.2.1+q*b.2.1) (a.2.2&&p != 0||b.2.2&&q != 0)).1,(fR (n4 a p b q) (p*a.2.1+q*b.2.1) (a.2.2&&p != 0||b.2.2&&q != 0)).2,()),());cases a.2.2<;>cases b.2.2<;>cases hp0:(p != 0)<;>cases hq0:(q != 0)<;>rfl
def fX(r:ab×Bool):Option ((ab×Bool×PUnit)×PUnit):=some ((r.1,r.2,()),())
theorem Ac(h0:0<=d)(h1:d<=1000)(hV:∀a∈l,bg n a)(hl:l.length<=1000):pL d l=some ((bR d l,()),()):=by
 rw[ah2 h0 h1 hV hl,norm_eq hV (λa=>Iff.rfl)]
theorem Vd{n:Nat}(h0:0<=d)(h1:d<=1000)(hV:∀a∈l,bg n a)(hl:l.length<=1000):Aa d l=fX (kC d l):=by
 rw[ahV,Ac h0 h1 hV hl];simp only[Option.bind_some];unfold kC;have e:decide ((((bR d l).2.length:Nat):Int)>16)=decide ((bR d l).2.length>16):=by rw[Bool.eq_iff_iff];simp;omega
 rw[e];cases decide ((bR d l).2.length>16)<;>rfl
theorem ae5(h0:0<=k)(h1:k<=1000000):Hi none k=some (([],()),()):=by
 have w0:IntKind.i64.wrap (k - IntKind.i64.wrap (0 - 0))=k:=by
  have:IntKind.i64.wrap (0 - 0)=0:=by decide
  rw[this,Int.sub_zero,cj (by omega) (by omega)]
 rw[ajp,w0];have c1:decide (k<0)=false:=by simp;omega
 rw[c1,cond_false];by_cases hk:k>0
 ·have c2:decide (k>0)=true:=by simpa using hk
  have c3:decide (0<k)=true:=by simpa using hk
  have c4:decide (aK.sz≠0)=true:=by decide
  have c5:decide (k*((40:Nat):Int)<=140737488355328)=true:=by simp;omega
  have c6:decide (k<=140737488355328)=true:=by simp;omega
  rw[c2,c4,c6,cond_true];show (bif (true&&true&&decide (k*((40:Nat):Int)<=140737488355328)&&true)then some (([],()),())else none)=some (([],()),());rw[c5];rfl
 ·have c2:decide (k>0)=false:=by simpa using hk
  rw[c2,cond_false]
theorem MR{x y:List aa}(hx:x.length<=1000)(hy:y.length<=1000):vy [x,y]=some ((x++y,()),()):=by
 have g0:ae [x,y] 0=some x:=rfl;have g1:ae [x,y] 1=some y:=rfl;have w1:IntKind.i64.wrap (0+1)=1:=by decide
 have w2:IntKind.i64.wrap (1+1)=2:=by decide
 have s1:IntKind.i64.wrap (0+(x.length:Int))=x.length:=by rw[Int.zero_add];exact cj (by omega) (by omega)
 have s2:IntKind.i64.wrap ((x.length:Int)+(y.length:Int))=((x.length+y.length:Nat):Int):=cj (by omega) (by omega);have n1:decide ((x.length:Int)<0)=false:=decide_eq_false (by omega);have n2:decide (((x.length+y.length:Nat):Int)<0)=false:=decide_eq_false (by omega);rw[ajo];show zg [x,y] 0 [x,y] 2 0=_;rw[E5,show decide ((0:Int)<2)=true from rfl,cond_true,g0];simp only[Option.bind_some];rw[s1,n1,cond_false,w1,E5,show decide ((1:Int)<2)=true from rfl,cond_true,g1];simp only[Option.bind_some];rw[s2,n2,cond_false,w2,E5,show decide ((2:Int)<2)=false from rfl,cond_false,ae5 (by omega) (by omega)];simp only[Option.bind_some];show zf [x,y] [] [x,y] 2 0=_;have d1:decide ((([]:List aa).length+x.length)*40<=140737488355328)=true:=by simp;omega
 have d2:decide ((x.length+y.length)*40<=140737488355328)=true:=by simp;omega
 rw[E4,show decide ((0:Int)<2)=true from rfl,cond_true,g0];simp only[Option.bind_some];rw[d1,cond_true,w1,List.nil_append,E4,show decide ((1:Int)<2)=true from rfl,cond_true,g1];simp only[Option.bind_some];rw[d2,cond_true,w2,E4,show decide ((2:Int)<2)=false from rfl,cond_false]
theorem W7(a b:ab):(a.1 != b.1) = !(a.1==b.1):=rfl
theorem G9(a b:ab)(ha:a.2.length<=68719476736)(hb:b.2.length<=68719476736):sa a b=fX (cU a b):=by
 rw[aiD,r8 a ha,r8 b hb];simp only[Option.bind_some];unfold cU;cases h1:bt a with
 | false=>rfl
 | true =>
  cases h2:bt b with
  | false=>rfl
  | true =>
   rw[W7];cases h3:a.1==b.1 with
   | false=>rfl
   | true =>
    obtain⟨a1,a2,a3,a4⟩:=cc.1 h1;obtain⟨b1,b2,b3,b4⟩:=cc.1 h2;have hd:a.1=b.1:=by simpa using h3
    have c1:decide ((0+a.2.length)*40<=140737488355328)=true:=by simp;omega
    have c2:decide ((a.2.length+b.2.length)*40<=140737488355328)=true:=by simp;omega
    have hn:=sg (n:=a.1.toNat) (d:=a.1) a2 (by omega) (l:=a.2++b.2) (λx hx=>by
     rcases List.mem_append.1 hx with hx|hx
     ·exact a1 x hx
     ·rw[hd];exact b1 x hx) (by rw[List.length_append];omega)
    simp only[Bool.not_true,cond_false,Bool.and_self,cond_true];rw[c1,cond_true,c2,cond_true,hn];simp only[Option.bind_some];unfold kC;have e:decide ((((bR a.1 (a.2++b.2)).2.length:Nat):Int)>16)=decide ((bR a.1 (a.2++b.2)).2.length>16):=by rw[Bool.eq_iff_iff];simp;omega
    rw[e];cases decide ((bR a.1 (a.2++b.2)).2.length>16)<;>rfl
theorem GK(a b:ab):rX a b=fX (cU a b):=by
 rw[ahh,nc a,nc b];simp only[Option.bind_some];unfold cU;cases h1:bt a with
 | false=>rfl
 | true =>
  cases h2:bt b with
  | false=>rfl
  | true =>
   rw[W7];cases h3:a.1==b.1 with
   | false=>rfl
   | true =>
    obtain⟨a1,a2,a3,a4⟩:=cc.1 h1;obtain⟨b1,b2,b3,b4⟩:=cc.1 h2;have hd:a.1=b.1:=by simpa using h3
    simp only[Bool.not_true,cond_false,Bool.and_self,cond_true];rw[MR (by omega) (by omega)];simp only[Option.bind_some];rw[Vd (n:=a.1.toNat) a2 (by omega) (λx hx=>by
     rcases List.mem_append.1 hx with hx|hx
     ·exact a1 x hx
     ·rw[hd];exact b1 x hx) (by rw[List.length_append];omega)]
    rfl
theorem xx(h:y.natAbs<=400000000):IntKind.i64.wrap (0 - y)=0 - y:=cj (by omega) (by omega)
def sw(r:aa×Bool):Option ((aa×Bool×PUnit)×PUnit):=some ((r.1,r.2,()),())
theorem Vs(a:aa):vr a=sw (dO a):=by
 rw[aiJ,r7];simp only[Option.bind_some];unfold dO;cases h:bK a with
 | false=>rfl
 | true =>
  obtain⟨a1,a2,a3⟩:=eX ⟨h,rfl⟩;simp only[Bool.not_true,cond_false,cond_true];rw[xx a2];refine (vM a.1 (λy=>0 - y) (λo=>some (((o,0 - a.2.1,!a.2.2),true,()),())) (λo i=>yY a ([],0,false) (o,0 - a.2.1,!a.2.2) i) (λi hi o ho=>?_) (λo=>?_))
  ·have hd:decide ((o.length+1)*8<=140737488355328)=true:=lH (by omega) (by omega);rw[TN,aQ hi,cond_true,aA hi];simp only[Option.bind_some];rw[hd,cond_true,xx (a1 _ (List.getElem_mem hi)),aN (by omega)]
  ·rw[TN,aV];rfl
theorem UZ(a:aa):ve a=sw (dO a):=by
 rw[ahp,oE];simp only[Option.bind_some];unfold dO;cases h:bK a with
 | false=>rfl
 | true =>
  obtain⟨a1,a2,a3⟩:=eX ⟨h,rfl⟩;have jv:=kD (R:=Option ((aa×Bool×PUnit)×PUnit)) a.1 8 (by omega) (by omega) (by omega);simp only[Bool.not_true,cond_false,cond_true];rw[jv,xx a2];refine JH a.1 (λy=>0 - y) (λo=>some (((o,0 - a.2.1,!a.2.2),true,()),())) (λo i=>yF a ([],0,false) (o,0 - a.2.1,!a.2.2) a.1 (a.1.length:Int) i) (λi hi o ho=>?_) (λo _=>?_) _ (by simp)
  ·rw[Sx,aQ hi,cond_true,aA hi];simp only[Option.bind_some];rw[aA (show i<o.length by omega)];simp only[Option.bind_some];rw[xx (a1 _ (List.getElem_mem hi)),aN (by omega),Int.toNat_natCast]
  ·rw[Sx,aV];rfl
theorem drop_cons{x:List α}{i:Nat}(h:i<x.length):x.drop i=x[i]::x.drop (i+1):=List.drop_eq_getElem_cons h
theorem pS(h:bg n a)(hv:v<n):ae a.1 (v:Int)=some (bA a v):=by
 have hl:v<a.1.length:=by rw[h.2];exact hv
 rw[aA hl];unfold bA;rw[List.getD_eq_getElem?_getD,List.getElem?_eq_getElem hl];rfl
theorem V3{v:Nat}(h:bg n a):(bA a v).natAbs<=400000000:=by
 unfold bA;rw[List.getD_eq_getElem?_getD];cases hg:a.1[v]? with
 | none=>simp
 | some y=>exact (eX h).1 y (List.mem_of_getElem? hg)
theorem DF:∀(l o r:List aa),gD v a l o=some r->r.length<=o.length+l.length
 | [],o,r,h=>by simp only[gD,Option.some.injEq]at h;subst h;simp
 | b::l,o,r,h=>by
  simp only[gD]at h;cases hc:decide (bA b v>=0)with
  | true =>
   rw[hc]at h;have:=DF l o r h;simp only[List.length_cons];omega
  | false =>
   rw[hc]at h;cases hm:(iY a (0 - bA b v) b (bA a v)).2 with
   | false=>rw[hm]at h;cases h
   | true =>
    rw[hm]at h;have:=DF l _ r h;simp only[List.length_append,List.length_cons,List.length_nil]at this ⊢;omega
def CD:Option ((ab×Bool×PUnit)×PUnit):=some ((yh,false,()),())
theorem aat{v:Nat}(ha:bg n a)(hb:bg n b)(h1:0<bA a v)(h2:bA b v<0):
  IntKind.i64.wrap (0 - bA b v)=0 - bA b v/\0<=0 - bA b v/\0 - bA b v<=400000000/\0<=bA a v/\bA a v<=400000000:=by
 have n1:=V3 (v:=v) ha;have n2:=V3 (v:=v) hb;exact⟨xx n2,by omega,by omega,by omega,by omega⟩
theorem T7{v:Nat}(hv:v<n)(c z:ab)(hL:∀a∈c.2,bg n a)(hl:c.2.length<=16){i:Nat}(hi:i<c.2.length):∀(m k:Nat) (o:List aa),m+k=c.2.length->o.length+m<=10000 ->
  rS (v:Int) c z o (i:Int) (k:Int)=match (bif decide (bA (c.2[i]) v<=0)then some o else gD v (c.2[i]) (c.2.drop k) o)with
   | some r=>rT (v:Int) c z r ((i+1:Nat):Int)
   | none=>CD
 | 0,k,o,hm,ho=>by
  have e:(bif decide (bA (c.2[i]) v<=0)then some o else gD v (c.2[i]) (c.2.drop k) o)=some o:=by
   rw[List.drop_eq_nil_of_le (by omega)];cases decide (bA (c.2[i]) v<=0)<;>rfl
  have ax:decide ((k:Int)<(c.2.length:Int))=false:=decide_eq_false (by omega);rw[e,T6,ax,cond_false,aN (by omega)]
 | m+1,k,o,hm,ho=>by
  have hk:k<c.2.length:=by omega
  have ki:=hL _ (List.getElem_mem hi);have kk:=hL _ (List.getElem_mem hk);have ih:=λo ho=>T7 hv c z hL hl hi m (k+1) o (by omega) ho;rw[T6,aQ hk,cond_true,aA hi,aA hk];simp only[Option.bind_some];rw[pS ki hv,pS kk hv];simp only[Option.bind_some];rw[aN (by omega)];cases h1:decide (bA (c.2[i]) v<=0)with
  | true =>
   rw[cond_true,ih o (by omega),h1];rfl
  | false =>
   have p1:=of_decide_eq_false h1;rw[cond_false,drop_cons hk];simp only[gD];cases h2:decide (bA (c.2[k]) v>=0)with
   | true =>
    rw[cond_true,ih o (by omega),h1];rfl
   | false =>
    have p2:=of_decide_eq_false h2;obtain⟨e1,e2,e3,e4,e5⟩:=aat (v:=v) ki kk (by omega) (by omega);rw[cond_false,e1,aiH ki kk e2 e3 e4 e5];simp only[Option.bind_some];cases hmx:(iY (c.2[i]) (0 - bA (c.2[k]) v) (c.2[k]) (bA (c.2[i]) v)).2 with
    | false=>rfl
    | true =>
     have hd:decide ((o.length+1)*40<=140737488355328)=true:=lH (by omega) (by omega);simp only[Bool.not_true,cond_false,cond_true];rw[hd,cond_true,ih _ (by simp;omega),h1];rfl
theorem E2(hv:v<n)(c z:ab)(h0:0<=c.1)(h4:c.1<=4)(hL:∀a∈c.2,bg n a)(hl:c.2.length<=16):∀(m i:Nat) (o:List aa),m+i=c.2.length->o.length<=16+i*16->(∀a∈o,bg n a) ->
  rT (v:Int) c z o (i:Int)=match jE v c.2 (c.2.drop i) o with
   | some r=>fX (kC c.1 r)
   | none=>CD
 | 0,i,o,hm,ho,hV=>by
  have ax:decide ((i:Int)<(c.2.length:Int))=false:=decide_eq_false (by omega);rw[Ub,ax,cond_false,List.drop_eq_nil_of_le (by omega),sg h0 (by omega) hV (by omega)];simp only[Option.bind_some,jE];unfold kC;have e:decide ((((bR c.1 o).2.length:Nat):Int)>16)=decide ((bR c.1 o).2.length>16):=by rw[Bool.eq_iff_iff];simp;omega
  rw[e];cases decide ((bR c.1 o).2.length>16)<;>rfl
 | m+1,i,o,hm,ho,hV=>by
  have hi:i<c.2.length:=by omega
  have:=T7 hv c z hL hl hi c.2.length 0 o (by omega) (by omega);rw[Int.natCast_zero]at this;rw[Ub,aQ hi,cond_true,this,List.drop_zero,drop_cons hi];simp only[jE];cases h1:decide (bA (c.2[i]) v<=0)with
  | true =>
   simp only[cond_true];exact E2 hv c z h0 h4 hL hl m (i+1) o (by omega) (by omega) hV
  | false =>
   simp only[cond_false];cases hx:gD v (c.2[i]) c.2 o with
   | none=>rfl
   | some r =>
    have hr:=DF _ _ _ hx;exact E2 hv c z h0 h4 hL hl m (i+1) r (by omega) (by omega) (xu (hL _ (List.getElem_mem hi)) _ _ _ hL hV hx)
theorem VB(hc:bt c=true)(hv:v<c.1.toNat):vw c (v:Int)=fX (dK c v):=by
 obtain⟨hL,h0,h4,hl⟩:=cc.1 hc;have key:∀(m i:Nat) (o:List aa),m+i=c.2.length->o.length<=i->uV (v:Int) c (0,[]) o (i:Int)=rT (v:Int) c (0,[]) (o++(c.2.drop i).filter λa=>bA a v==0) 0:=by
  intro m;induction m with
  | zero =>
   intro i o hm ho;have ax:decide ((i:Int)<(c.2.length:Int))=false:=decide_eq_false (by omega);rw[Ua,ax,cond_false,List.drop_eq_nil_of_le (by omega)];simp
  | succ m ih =>
   intro i o hm ho;have hi:i<c.2.length:=by omega
   have ki:=hL _ (List.getElem_mem hi);have hd:decide ((o.length+1)*40<=140737488355328)=true:=lH (by omega) (by omega);rw[Ua,aQ hi,cond_true,aA hi];simp only[Option.bind_some];rw[pS ki hv];simp only[Option.bind_some];rw[hd,aN (by omega),drop_cons hi];cases hz:bA (c.2[i]) v==0 with
   | true =>
    rw[cond_true,cond_true,ih (i+1) _ (by omega) (by simp;omega),List.filter_cons_of_pos (p:=λa=>bA a v==0) hz,List.append_assoc];rfl
   | false =>
    rw[cond_false,ih (i+1) _ (by omega) (by omega),List.filter_cons_of_neg (p:=λa=>bA a v==0) (by rw[hz];simp)]
 have k0:=key c.2.length 0 [] (by omega) (by simp);rw[Int.natCast_zero,List.nil_append,List.drop_zero]at k0;have hf:=List.length_filter_le (λa=>bA a v==0) c.2;have k1:=E2 hv c (0,[]) h0 h4 hL hl c.2.length 0 (c.2.filter λa=>bA a v==0) (by omega) (by omega) (λa ha=>hL a (List.mem_filter.1 ha).1);rw[Int.natCast_zero,List.drop_zero]at k1;rw[ai2,k0,k1];unfold dK vY;cases jE v c.2 c.2 (c.2.filter λa=>bA a v==0)<;>rfl
theorem Sd{v:Nat}(hv:v<n)(c z:ab){L:List aa}(hL:∀a∈L,bg n a)(hl:L.length<=16)(ha:bg n a)(hp:0<bA a v){i:Nat}(hi:i<=1000):∀(m k:Nat) (o:List aa),m+k=L.length->o.length+m<=10000 ->
  uy (v:Int) c z o a L (L.length:Int) (i:Int) L (L.length:Int) (k:Int)=match gD v a (L.drop k) o with
   | some r=>pE (v:Int) c z r L (L.length:Int) ((i+1:Nat):Int)
   | none=>CD
 | 0,k,o,hm,ho=>by
  have ax:decide ((k:Int)<(L.length:Int))=false:=decide_eq_false (by omega);rw[Sb,ax,cond_false,List.drop_eq_nil_of_le (by omega),aN (by omega)];rfl
 | m+1,k,o,hm,ho=>by
  have hk:k<L.length:=by omega
  have kk:=hL _ (List.getElem_mem hk);have ih:=λo ho=>Sd hv c z hL hl ha hp hi m (k+1) o (by omega) ho;rw[Sb,aQ hk,cond_true,aA hk];simp only[Option.bind_some];rw[pS kk hv,pS ha hv];simp only[Option.bind_some];rw[aN (by omega),drop_cons hk];simp only[gD];cases h2:decide (bA (L[k]) v>=0)with
  | true =>
   rw[cond_true,ih o (by omega)];rfl
  | false =>
   have p2:=of_decide_eq_false h2;obtain⟨e1,e2,e3,e4,e5⟩:=aat (v:=v) ha kk hp (by omega);rw[cond_false,e1,ahm ha kk e2 e3 e4 e5];simp only[Option.bind_some];cases hmx:(iY a (0 - bA (L[k]) v) (L[k]) (bA a v)).2 with
   | false=>rfl
   | true =>
    have hd:decide ((o.length+1)*40<=140737488355328)=true:=lH (by omega) (by omega);simp only[Bool.not_true,cond_false,cond_true];rw[hd,cond_true,ih _ (by simp;omega)]
theorem EW(hv:v<n)(c z:ab)(h0:0<=c.1)(h4:c.1<=4)(hL:∀a∈c.2,bg n a)(hl:c.2.length<=16):∀(m i:Nat) (o:List aa),m+i=c.2.length->o.length<=16+i*16->(∀a∈o,bg n a) ->
  pE (v:Int) c z o c.2 (c.2.length:Int) (i:Int)=match jE v c.2 (c.2.drop i) o with
   | some r=>fX (kC c.1 r)
   | none=>CD
 | 0,i,o,hm,ho,hV=>by
  have ax:decide ((i:Int)<(c.2.length:Int))=false:=decide_eq_false (by omega);rw[Sa,ax,cond_false,List.drop_eq_nil_of_le (by omega),Vd h0 (by omega) hV (by omega)];rfl
 | m+1,i,o,hm,ho,hV=>by
  have hi:i<c.2.length:=by omega
  have ki:=hL _ (List.getElem_mem hi);rw[Sa,aQ hi,cond_true,aA hi];simp only[Option.bind_some];rw[pS ki hv];simp only[Option.bind_some];rw[aN (by omega),drop_cons hi];simp only[jE];cases h1:decide (bA (c.2[i]) v<=0)with
  | true =>
   simp only[cond_true];exact EW hv c z h0 h4 hL hl m (i+1) o (by omega) (by omega) hV
  | false =>
   have p1:=of_decide_eq_false h1;have:=Sd hv c z hL hl ki (by omega) (i:=i) (by omega) c.2.length 0 o (by omega) (by omega);rw[Int.natCast_zero,List.drop_zero]at this;simp only[cond_false];rw[this];cases hx:gD v (c.2[i]) c.2 o with
   | none=>rfl
   | some r =>
    have hr:=DF _ _ _ hx;exact EW hv c z h0 h4 hL hl m (i+1) r (by omega) (by omega) (xu ki _ _ _ hL hV hx)
theorem UQ(hc:bt c=true){v:Nat}(hv:v<c.1.toNat):u6 c (v:Int)=fX (dK c v):=by
 obtain⟨hL,h0,h4,hl⟩:=cc.1 hc;have key:∀(m i:Nat) (o:List aa),m+i=c.2.length->o.length<=i->uz (v:Int) c (0,[]) o c.2 (c.2.length:Int) (i:Int)=pE (v:Int) c (0,[]) (o++(c.2.drop i).filter λa=>bA a v==0) c.2 (c.2.length:Int) 0:=by
  intro m;induction m with
  | zero =>
   intro i o hm ho;have ax:decide ((i:Int)<(c.2.length:Int))=false:=decide_eq_false (by omega);rw[Sc,ax,cond_false,List.drop_eq_nil_of_le (by omega)];simp
  | succ m ih =>
   intro i o hm ho;have hi:i<c.2.length:=by omega
   have ki:=hL _ (List.getElem_mem hi);have hd:decide ((o.length+1)*40<=140737488355328)=true:=lH (by omega) (by omega);rw[Sc,aQ hi,cond_true,aA hi];simp only[Option.bind_some];rw[pS ki hv];simp only[Option.bind_some];rw[hd,aN (by omega),drop_cons hi];cases hz:bA (c.2[i]) v==0 with
   | true =>
    rw[cond_true,cond_true,ih (i+1) _ (by omega) (by simp;omega),List.filter_cons_of_pos (p:=λa=>bA a v==0) hz,List.append_assoc];rfl
   | false =>
    rw[cond_false,ih (i+1) _ (by omega) (by omega),List.filter_cons_of_neg (p:=λa=>bA a v==0) (by rw[hz];simp)]
 have k0:=key c.2.length 0 [] (by omega) (by simp);rw[Int.natCast_zero,List.nil_append,List.drop_zero]at k0;have hf:=List.length_filter_le (λa=>bA a v==0) c.2;have k1:=EW hv c (0,[]) h0 h4 hL hl c.2.length 0 (c.2.filter λa=>bA a v==0) (by omega) (by omega) (λa ha=>hL a (List.mem_filter.1 ha).1);rw[Int.natCast_zero,List.drop_zero]at k1;have c1:decide ((v:Int)<0)=false:=decide_eq_false (by omega);have c2:decide ((v:Int)>=c.1)=false:=decide_eq_false (by omega);rw[agX,nc,hc];simp only[Option.bind_some,Bool.not_true,cond_false];rw[c1,c2,cond_false,cond_false,k0,k1];unfold dK vY;cases jE v c.2 c.2 (c.2.filter λa=>bA a v==0)<;>rfl
def iD(r:Bool×Bool):Option ((Bool×Bool×PUnit)×PUnit):=some ((r.1,r.2,()),())
theorem Z8(l:List aa):decide (((l.length:Nat):Int)>0)=decide (l.length>0):=by rw[Bool.eq_iff_iff];simp
theorem Tw:∀(n:Nat) (c:ab),bt c=true->n<=c.1.toNat->yT c ((n:Int) - 1)=iD (match oO n c with
   | some r=>(decide (r.2.length>0),true)
   | none=>(false,false))
 | 0,c,hc,hn=>by
  rw[Tv,show decide ((((0:Nat):Int) - 1)>=0)=false from rfl,cond_false,Z8];rfl
 | n+1,c,hc,hn=>by
  have h4:=(cc.1 hc).2.2.1;have e:(((n+1:Nat):Int) - 1)=(n:Int):=by omega
  have mg:decide ((n:Int)>=0)=true:=decide_eq_true (by omega);rw[e,Tv,mg,cond_true,VB hc (by omega)];unfold fX;simp only[Option.bind_some,oO];cases hd:(dK c n).2 with
  | false=>rfl
  | true =>
   have k:=Jz hc hd;simp only[Bool.not_true,cond_false,cond_true];rw[show IntKind.i64.wrap ((n:Int) - 1)=(n:Int) - 1 from cj (by omega) (by omega)];exact Tw n _ k.1 (by rw[k.2];omega)
theorem Vn(c:ab)(hl:c.2.length<=68719476736):vo c=iD (jq c):=by
 rw[aiv,r8 c hl];simp only[Option.bind_some];unfold jq;cases hc:bt c with
 | false=>rfl
 | true =>
  obtain⟨h1,h2,h3,h4⟩:=cc.1 hc;simp only[Bool.not_true,cond_false,cond_true];rw[sg h2 (by omega) h1 (by omega)];simp only[Option.bind_some];have:=Tw c.1.toNat (bR c.1 c.2) (mI hc) (by rw[gE];omega);rw[show IntKind.i64.wrap (c.1 - 1)=((c.1.toNat:Nat):Int) - 1 by rw[cj (by omega) (by omega)];omega,this];unfold JD;rw[gE]
  all_goals (cases oO c.1.toNat (bR c.1 c.2)<;>rfl)
theorem S3:∀(n:Nat) (c:ab) (l:List ab),bt c=true->n<=c.1.toNat->n<l.length->l.length<=100->l[n]?=some c ->
  (oO n c=none/\pH l ((n:Int) - 1)=some (([],false,()),()))\/∃r l',oO n c=some r/\pH l ((n:Int) - 1)=some ((l',true,()),())/\l'[0]?=some r
 | 0,c,l,hc,hn,hl,mi,hg=>by
  refine .inr ⟨c,l,rfl,?_,hg⟩;rw[S4];rfl
 | n+1,c,l,hc,hn,hl,mi,hg=>by
  have h4:=(cc.1 hc).2.2.1;have e:(((n+1:Nat):Int) - 1)=(n:Int):=by omega
  have mg:decide ((n:Int)>=0)=true:=decide_eq_true (by omega);have C6:ae l ((n+1:Nat):Int)=some c:=by
   rw[aA hl];rw[List.getElem?_eq_getElem hl]at hg;exact hg
  have al0:=UQ hc (v:=n) (by omega);rw[e];have heq:pH l (n:Int)=bif !(dK c n).2 then some (([],false,()),())else pH (l.set n (dK c n).1) ((n:Int) - 1):=by
   rw[S4,mg,cond_true,aN (by omega),C6];simp only[Option.bind_some];rw[al0];unfold fX;simp only[Option.bind_some];rw[aA (show n<l.length by omega)];simp only[Option.bind_some];rw[show IntKind.i64.wrap ((n:Int) - 1)=(n:Int) - 1 from cj (by omega) (by omega),Int.toNat_natCast]
  rw[heq];simp only[oO];cases hd:(dK c n).2 with
  | false=>exact .inl ⟨rfl,rfl⟩
  | true =>
   have k:=Jz hc hd;simp only[Bool.not_true,cond_false,cond_true];exact S3 n _ _ k.1 (by rw[k.2];omega) (by rw[List.length_set];omega) (by rw[List.length_set];exact mi) (by rw[List.getElem?_set_self (by omega)])
theorem US(c:ab):zP c=iD (jq c):=by
 rw[ag8,ah6,nc c];simp only[Option.bind_some];unfold jq;cases hc:bt c with
 | false=>rfl
 | true =>
  obtain⟨h1,h2,h3,h4⟩:=cc.1 hc;obtain⟨n,hn⟩:∃n:Nat,c.1=n:=⟨c.1.toNat,by omega⟩;have w1:IntKind.i64.wrap (c.1+1)=c.1+1:=cj (by omega) (by omega);have w2:IntKind.i64.wrap (c.1 - 1)=((n:Nat):Int) - 1:=by rw[cj (by omega) (by omega)];omega
  have jv:(decide (0<=c.1+1)&&decide (c.1+1<=c.1+1)&&decide ((c.1+1)*((32:Nat):Int)<=140737488355328)&&decide (c.1+1<=9223372036854775807))=true:=by simp;omega
  have Yb:(decide (0<=c.1+1)&&decide (c.1+1<=c.1+1)&&decide ((c.1+1)*32<=140737488355328)&&decide (c.1+1<=9223372036854775807))=true:=jv;have Ya:(decide (0<=c.1+1)&&decide (c.1+1<=c.1+1)&&decide ((c.1+1)*((32:Nat):(Ty.int IntKind.i64).den)<=140737488355328)&&decide (c.1+1<=9223372036854775807))=true:=jv;simp only[Bool.not_true,cond_false,cond_true];rw[w1,w2,Ac h2 (by omega) h1 (by omega)];simp only[Option.bind_some];have qp:(List.replicate (c.1+1).toNat ((0,[]):ab)).length=n+1:=by rw[List.length_replicate];omega
  have wG:ae (List.replicate (c.1+1).toNat ((0,[]):ab)) c.1=some (0,[]):=by
   rw[hn,aA (by rw[<-hn,qp];omega)];simp
  have key:=S3 n (bR c.1 c.2) ((List.replicate (c.1+1).toNat ((0,[]):ab)).set n (bR c.1 c.2)) (mI hc) (by rw[gE];omega) (by rw[List.length_set,qp];omega) (by rw[List.length_set,qp];omega) (by rw[List.getElem?_set_self (by rw[qp];omega)]);have YC:Int.toNat c.1=n:=by omega
  rw[wG];simp only[Option.bind_some];rw[YC];unfold JD;rw[gE,show c.1.toNat=n from YC];rcases key with⟨k1,k2⟩|⟨r,l',k1,k2,k3⟩
  ·rw[k1,k2]
   first|(rw[Yb];rfl)|(rw[Ya];rfl)|(rw[jv];rfl)
  ·rw[k1,k2];have kl:0<l'.length:=by
    rw[List.getElem?_eq_some_iff]at k3;exact k3.1
   have hgr:ae l' 0=some r:=by
    have:=aA (xs:=l') kl;rw[Int.natCast_zero]at this;rw[this];rw[List.getElem?_eq_getElem kl]at k3;exact k3
   first|rw[Yb]|rw[Ya]|rw[jv]
   simp only[cond_true,Option.bind_some,Bool.not_true,cond_false];rw[hgr];simp only[Option.bind_some];rw[Z8];rfl
theorem apA(a:aa)(h:(dO a).2=true):(dO a).1.1.length=a.1.length:=by
 unfold dO at *
 cases ha:bK a with
 | false=>rw[ha]at h;cases h
 | true=>simp
theorem air(c:ab)(a:aa)(hl:c.2.length<=68719476736):G7 c a=iD (kz c a):=by
 rw[aiq,Vs];unfold sw;simp only[Option.bind_some];rw[G9 c _ hl (by simp)];unfold fX;simp only[Option.bind_some];unfold kz;cases h1:(dO a).2 with
 | false=>rfl
 | true =>
  simp only[Bool.not_true,cond_false,Bool.true_and];cases h2:(cU c ((a.1.length:Int),[(dO a).1])).2 with
  | false=>rfl
  | true =>
   have m:=aaj h2;have ml:=(cc.1 m.1).2.2.2;simp only[Bool.not_true,cond_false,cond_true];rw[Vn _ (by omega)];rfl
theorem ag4(c:ab)(a:aa):GI c a=iD (kz c a):=by
 rw[ag3,UZ];unfold sw;simp only[Option.bind_some];unfold kz;cases h1:(dO a).2 with
 | false=>rfl
 | true =>
  simp only[Bool.not_true,cond_false,Bool.true_and];rw[apA a h1,GK];unfold fX;simp only[Option.bind_some];cases h2:(cU c ((a.1.length:Int),[(dO a).1])).2 with
  | false=>rfl
  | true =>
   simp only[Bool.not_true,cond_false,cond_true];rw[US];rfl
theorem Cx(h:bt c=true):pO c=some ((c,()),())/\vh c=some ((c,()),()):=by
 obtain⟨h1,h2,h3,h4⟩:=cc.1 h;have qc:∀a∈c.2,a.1.length<=68719476736:=λa ha=>by have:=(eX (h1 a ha)).2.2;omega
 constructor
 ·rw[ai1];have:=vM c.2 id (λo=>some (((c.1,o),()),())) (λo i=>y8 c (0,[]) (c.1,o) i) (λi hi o ho=>by
   have hd:decide ((o.length+1)*40<=140737488355328)=true:=lH (by omega) (by omega);rw[T5,aQ hi,cond_true,aA hi];simp only[Option.bind_some];rw[VA _ (qc _ (List.getElem_mem hi))];simp only[Option.bind_some];rw[hd,cond_true,aN (by omega)];rfl) (λo=>by rw[T5,aV];rfl)
  rw[this,List.map_id]
 ·rw[ahD];have jv:(decide ((0:Int)<=0)&&decide (0<=(c.2.length:Int))&&decide ((c.2.length:Int)*((40:Nat):Int)<=140737488355328)&&decide ((c.2.length:Int)<=9223372036854775807))=true:=by simp;omega
  have this:=vM c.2 id (λo=>some (((c.1,o),()),())) (λo i=>uJ c (0,[]) (c.1,o) c.2 (c.2.length:Int) i) (λi hi o ho=>by
   have hd:decide ((o.length+1)*40<=140737488355328)=true:=lH (by omega) (by omega);rw[SE,aQ hi,cond_true,aA hi];simp only[Option.bind_some];rw[GQ _ (qc _ (List.getElem_mem hi))];simp only[Option.bind_some];rw[hd,cond_true,aN (by omega)];rfl) (λo=>by rw[SE,aV];rfl)
  refine Eq.trans (b:=(bif (decide ((0:Int)<=0)&&decide (0<=(c.2.length:Int))&&decide ((c.2.length:Int)*((40:Nat):Int)<=140737488355328)&&decide ((c.2.length:Int)<=9223372036854775807))then uJ c (0,[]) (c.1,[]) c.2 (c.2.length:Int) 0 else none)) rfl ?_;rw[jv,cond_true,this,List.map_id]
def bZ(d:Int):Option (List ab)->Option ((aX×Bool×PUnit)×PUnit)
 | some l=>some (((d,l),true,()),())
 | none=>some (((0,[]),false,()),())
theorem CE(g:List Bool->Int->R)(p:Nat->Bool)(h:∀(k:Nat),k<4->∀a b c d:Bool,(∀j,j<k->([a,b,c,d]:List Bool)[j]?=some (p j))->g [a,b,c,d] (k:Int)=g ([a,b,c,d].set k (p k)) ((k+1:Nat):Int))(a b c d:Bool):
  g [a,b,c,d] 0=g [p 0,p 1,p 2,p 3] 4:=by
 have h0:=h 0 (by omega) a b c d (λj hj=>absurd hj (by omega));have h1:=h 1 (by omega) (p 0) b c d (λj hj=>by { obtain rfl:j=0:=(by omega);rfl });have h2:=h 2 (by omega) (p 0) (p 1) c d (λj hj=>by
  rcases (show j=0\/j=1 by omega)with rfl|rfl<;>rfl)
 have h3:=h 3 (by omega) (p 0) (p 1) (p 2) d (λj hj=>by
  rcases (show j=0\/j=1\/j=2 by omega)with rfl|rfl|rfl<;>rfl)
 exact h0.trans (h1.trans (h2.trans h3))
def gB(v:List Bool)(k:Nat):Bool:=v.getD k false
def fN(n:ak)(fr:List (List Bool)):List Bool :=
 bif n.1==0 then [n.2.1.1.getD 0 0 != 0,n.2.1.1.getD 1 0 != 0,n.2.1.1.getD 2 0 != 0,n.2.1.1.getD 3 0 != 0]
 else bif n.1==1 then n.2.2.2.2.1.foldl (λv y=>v.set y.toNat true) [false,false,false,false]
 else bif n.1==3||n.1==4 then
  (let a:=fr.getD n.2.2.2.2.2.2.1.toNat [];let b:=fr.getD n.2.2.2.2.2.2.2.toNat [];[gB a 0||gB b 0,gB a 1||gB b 1,gB a 2||gB b 2,gB a 3||gB b 3])
 else
  (let a:=fr.getD n.2.2.2.2.2.2.1.toNat [];let p:=λ(k:Int)=>(n.1==2)||(k != n.2.2.2.2.2.1);[gB a 0&&p 0,gB a 1&&p 1,gB a 2&&p 2,gB a 3&&p 3])
def iJ:List ak->List (List Bool)->List (List Bool)
 | [],fr=>fr
 | n::l,fr=>iJ l (fr++[fN n fr])
def tJ(db:List Rel)(n:ak)(i:Int):Prop:=dU db n=true/\(ar n.1≠0->0<=n.2.2.2.2.2.2.1/\n.2.2.2.2.2.2.1<i)/\(ar n.1=2->0<=n.2.2.2.2.2.2.2/\n.2.2.2.2.2.2.2<i)
theorem W3(db:List Rel):∀(l:List ak) (i:Int) (T:List Int),jY db l i T=true->0<=i->(∀r∈T,0<=r/\r<i)->∀(k:Nat) (hk:k<l.length),tJ db l[k] (i+k)
 | [],_,_,_,_,_,k,hk=>absurd hk (by simp)
 | n::l,i,T,h,hi,hT,k,hk=>by
  unfold jY at h;cases aC:dU db n with
  | false=>rw[aC]at h;cases h
  | true =>
   rw[aC,cond_true]at h;split at h
   ·rename_i T' hs;have ik:∀r∈T',0<=r/\r<i+1:=by
     intro r hr;unfold eE at hs;split at hs
     ·injection hs with hs;subst hs;rcases List.mem_cons.1 hr with rfl|hr
      ·omega
      ·have:=hT r hr;omega
     ·rename_i a T0 _;cases hc:(a==n.2.2.2.2.2.2.1)with
      | false=>rw[hc]at hs;cases hs
      | true =>
       rw[hc]at hs;injection hs with hs;subst hs;rcases List.mem_cons.1 hr with rfl|hr
       ·omega
       ·have:=hT r (List.mem_cons_of_mem _ hr);omega
     ·rename_i a b T0 _;cases hc:(a==n.2.2.2.2.2.2.2)with
      | false=>rw[hc]at hs;cases hs
      | true =>
       rw[hc]at hs;cases dL:(b==n.2.2.2.2.2.2.1)with
       | false=>rw[dL]at hs;cases hs
       | true =>
        rw[dL]at hs;injection hs with hs;subst hs;rcases List.mem_cons.1 hr with rfl|hr
        ·omega
        ·have:=hT r (List.mem_cons_of_mem _ (List.mem_cons_of_mem _ hr));omega
     ·cases hs
    cases k with
    | zero =>
     rw[Int.natCast_zero,Int.add_zero];refine⟨aC,λha=>?_,λha=>?_⟩
     ·unfold eE at hs;split at hs
      ·rename_i h0;exact absurd h0 ha
      ·rename_i a T0 _;cases hc:(a==n.2.2.2.2.2.2.1)with
       | false=>rw[hc]at hs;cases hs
       | true =>
        rw[beq_iff_eq]at hc;rw[List.getElem_cons_zero,<-hc];exact hT a (by simp)
      ·rename_i a b T0 _;cases hc:(a==n.2.2.2.2.2.2.2)with
       | false=>rw[hc]at hs;cases hs
       | true =>
        rw[hc]at hs;cases dL:(b==n.2.2.2.2.2.2.1)with
        | false=>rw[dL]at hs;cases hs
        | true =>
         rw[beq_iff_eq]at dL;rw[List.getElem_cons_zero,<-dL];exact hT b (by simp)
      ·cases hs
     ·unfold eE at hs;rw[List.getElem_cons_zero]at ha;rw[ha]at hs;split at hs
      ·rename_i h0;cases h0
      ·rename_i h0;cases h0
      ·rename_i a b T0 _;cases hc:(a==n.2.2.2.2.2.2.2)with
       | false=>rw[hc]at hs;cases hs
       | true =>
        rw[beq_iff_eq]at hc;rw[List.getElem_cons_zero,<-hc];exact hT a (by simp)
      ·cases hs
    | succ k =>
     have:=W3 db l (i+1) T' h (by omega) ik k (by simpa using hk);rw[List.getElem_cons_succ];rw[show i+((k+1:Nat):Int)=i+1+(k:Int)by omega];exact this
   ·cases h
theorem gK{a b:Bool}(h:(a&&b)=true):a=true/\b=true:=by simpa using h
theorem LF{db:List Rel}{n:ak}(h:dU db n=true):re n=true/\hM n=true/\iX db n=true:=by
 unfold dU at h;obtain⟨_,h⟩:=gK h;obtain⟨_,h⟩:=gK h;obtain⟨h1,h⟩:=gK h;obtain⟨h2,h3⟩:=gK h;exact⟨h1,h2,h3⟩
theorem aaT{db:List Rel}{n:ak}(h:dU db n=true)(hk:n.1=0):∃a b c d,n.2.1.1=[a,b,c,d]:=by
 obtain⟨_,_,h⟩:=LF h;unfold iX at h;have e:(n.1==0)=true:=by simp[hk]
 rw[e,cond_true]at h;obtain⟨_,h⟩:=gK h;rw[beq_iff_eq]at h
 match hc:n.2.1.1,h with
 | [a,b,c,d],_=>exact⟨a,b,c,d,rfl⟩
 | [],h=>simp at h
 | [_],h=>simp at h
 | [_,_],h=>simp at h
 | [_,_,_],h=>simp at h
 | _::_::_::_::_::l,h=>simp at h;omega
theorem aaU{db:List Rel}{n:ak}(h:dU db n=true)(hk:n.1=1):n.2.2.2.2.1.all df=true:=by
 obtain⟨_,_,h⟩:=LF h;unfold iX at h;have e:(n.1==0)=false:=by simp[hk]
 have e1:(n.1==1)=true:=by simp[hk]
 rw[e,e1,cond_false,cond_true]at h;unfold po at h;exact (gK h).1
theorem LG{db:List Rel}{n:ak}(h:dU db n=true):0<=n.1/\n.1<=6:=by
 rw[LD]at h;obtain⟨_,h⟩:=gK h;obtain⟨_,h⟩:=gK h;obtain⟨h1,h2⟩:=gK h;exact⟨of_decide_eq_true h1,of_decide_eq_true h2⟩
theorem apP{db:List Rel}{n:ak}(h:dU db n=true)(hk:2<=n.1):0<=n.2.2.2.2.2.1/\n.2.2.2.2.2.1<=3:=by
 obtain⟨_,_,h⟩:=LF h;unfold iX at h;have e:(n.1==0)=false:=by simp;omega
 have e1:(n.1==1)=false:=by simp;omega
 rw[e,e1,cond_false,cond_false]at h;obtain⟨_,h⟩:=gK h;unfold df at h;obtain⟨h1,h2⟩:=gK h;exact⟨of_decide_eq_true h1,of_decide_eq_true h2⟩
theorem ale(l:List Int):∀(v:List Bool),v.length=4->(l.foldl (λv y=>v.set y.toNat true) v).length=4:=by
 induction l with
 | nil=>intro v h;exact h
 | cons y l ih=>intro v h;exact ih _ (by simpa using h)
theorem alh(n:ak)(fr:List (List Bool)):(fN n fr).length=4:=by
 unfold fN;cases (n.1==0)with
 | true=>rfl
 | false =>
  cases (n.1==1)with
  | true=>exact ale _ _ rfl
  | false=>cases (n.1==3||n.1==4)<;>rfl
theorem W2:∀(l:List ak) (fr:List (List Bool)),(iJ l fr).length=fr.length+l.length
 | [],fr=>by simp[iJ]
 | n::l,fr=>by rw[iJ,W2 l];simp;omega
theorem JO:∀(l:List ak) (fr:List (List Bool)),(iJ l fr).take fr.length=fr
 | [],fr=>by simp[iJ]
 | n::l,fr=>by
  rw[iJ];have:=congrArg (List.take fr.length) (JO l (fr++[fN n fr]));rw[List.take_take]at this;simpa using this
theorem W1:∀(l:List ak) (fr:List (List Bool)) (k:Nat) (hk:k<l.length),(iJ l fr)[fr.length+k]?=some (fN l[k] ((iJ l fr).take (fr.length+k)))
 | n::l,fr,0,_=>by
  have h:=JO l (fr++[fN n fr]);have h2:(iJ (n::l) fr).take fr.length=fr:=JO (n::l) fr;rw[Nat.add_zero,h2,List.getElem_cons_zero];rw[iJ];have:((iJ l (fr++[fN n fr])).take (fr++[fN n fr]).length)[fr.length]?=some (fN n fr):=by rw[h];simp
  rw[List.getElem?_take,if_pos (by simp)]at this;exact this
 | n::l,fr,k+1,hk=>by
  have:=W1 l (fr++[fN n fr]) k (by simpa using hk);rw[List.length_append,List.length_singleton,show fr.length+1+k=fr.length+(k+1)by omega]at this;rw[iJ,List.getElem_cons_succ];exact this
def dE(f:List ak):List (List Bool):=iJ f []
theorem sG(f:List ak):(dE f).length=f.length:=by unfold dE;rw[W2];simp
theorem W0(f:List ak)(k:Nat)(hk:k<f.length):(dE f)[k]'(by rw[sG];exact hk)=fN f[k] ((dE f).take k):=by
 have:=W1 f [] k hk;simp only[List.length_nil,Nat.zero_add]at this;exact (List.getElem?_eq_some_iff.1 this).2
theorem WZ(f:List ak)(k:Nat)(hk:k<f.length):((dE f)[k]'(by rw[sG];exact hk)).length=4:=by rw[W0 f k hk];exact alh _ _
theorem four{v:List Bool}(h:v.length=4):∃a b c d,v=[a,b,c,d]:=by
 match v,h with
 | [a,b,c,d],_=>exact⟨a,b,c,d,rfl⟩
theorem oT{v:List Bool}(h:v.length=4){k:Nat}(hk:k<4):ae v (k:Int)=some (gB v k):=by
 obtain⟨a,b,c,d,rfl⟩:=four h;rcases (show k=0\/k=1\/k=2\/k=3 by omega)with rfl|rfl|rfl|rfl<;>rfl
theorem xp{k:Nat}(h:k<4):decide ((k:Int)<4)=true:=by simp;omega
section
variable{f:List ak}{fr:List (List Bool)}{i:Nat}(hi:i<f.length)(hl:f.length<=1000000)(gd:fr.length=f.length)
include hi hl gd
theorem afm(v:List Bool):pI f fr i v 4=gI f (fr.set i v) ((i+1:Nat):Int):=by
 rw[Tl,aA (show i<fr.length by omega),aN (by omega)];rfl
theorem afo(v:List Bool):rL f fr i v (f[i].2.2.2.2.1.length:Int)=gI f (fr.set i v) ((i+1:Nat):Int):=by
 rw[Tm,aA hi,aA (show i<fr.length by omega),aN (i:=i) (by omega)];simp only[Option.bind_some,aV];rfl
theorem afp(v:List Bool):ji f fr i v 4=gI f (fr.set i v) ((i+1:Nat):Int):=by
 rw[Tn,aA (show i<fr.length by omega),aN (by omega)];rfl
theorem afk(v:List Bool):lR f fr i v 4=gI f (fr.set i v) ((i+1:Nat):Int):=by
 rw[Tk,aA (show i<fr.length by omega),aN (by omega)];rfl
theorem afn{a b c:Int}(hc:f[i].2.1.1=[a,b,c,d]):pI f fr i [false,false,false,false] 0=gI f (fr.set i [a != 0,b != 0,c != 0,d != 0]) ((i+1:Nat):Int):=by
 rw[CE (λv k=>pI f fr i v k) (λk=>([a,b,c,d]:List Int).getD k 0 != 0) (λk hk x y z u _=>by
  rw[Tl,xp hk,aA hi,oT rfl hk,aN (by omega)];simp only[cond_true,Option.bind_some,hc,Int.toNat_natCast];rw[aA (show k<([a,b,c,d]:List Int).length from hk)];simp[List.getD,List.getElem?_eq_getElem,hk]),afm hi hl gd]
 rfl
theorem R6(hv:f[i].2.2.2.2.1.all df=true)(hlv:f[i].2.2.2.2.1.length<=68719476736):∀(n j:Nat) (v:List Bool),n+j=f[i].2.2.2.2.1.length->v.length=4->rL f fr i v (j:Int)=gI f (fr.set i ((f[i].2.2.2.2.1.drop j).foldl (λv y=>v.set y.toNat true) v)) ((i+1:Nat):Int)
 | 0,j,v,hn,h4=>by
  obtain rfl:j=f[i].2.2.2.2.1.length:=by omega
  rw[afo hi hl gd,List.drop_eq_nil_of_le (by omega)];rfl
 | n+1,j,v,hn,h4=>by
  have hj:j<f[i].2.2.2.2.1.length:=by omega
  have hy:=List.all_eq_true.1 hv _ (List.getElem_mem hj);unfold df at hy;obtain⟨y0,y3⟩:=gK hy;have y0:=of_decide_eq_true y0;have y3:=of_decide_eq_true y3;rw[Tm,aA hi];simp only[Option.bind_some,aQ hj,cond_true,aA hj];rw[nF v f[i].2.2.2.2.1[j].toNat (by omega) (by omega),aN (by omega)];simp only[Option.bind_some];rw[R6 hv hlv n (j+1) _ (by omega) (by simpa using h4),List.drop_eq_getElem_cons hj];rfl
theorem afq{a b:List Bool}(ha:ae fr f[i].2.2.2.2.2.2.1=some a)(hb:ae fr f[i].2.2.2.2.2.2.2=some b)(a4:a.length=4)(b4:b.length=4):
  ji f fr i [false,false,false,false] 0=gI f (fr.set i [gB a 0||gB b 0,gB a 1||gB b 1,gB a 2||gB b 2,gB a 3||gB b 3]) ((i+1:Nat):Int):=by
 rw[CE (λv k=>ji f fr i v k) (λk=>gB a k||gB b k) (λk hk x y z u _=>by
  rw[Tn,xp hk,aA hi,oT rfl hk,aN (by omega)];simp only[cond_true,Option.bind_some,ha,hb,oT a4 hk,oT b4 hk,Int.toNat_natCast];cases gB a k<;>rfl),afp hi hl gd]
theorem afl{a:List Bool}(ha:ae fr f[i].2.2.2.2.2.2.1=some a)(a4:a.length=4):
  lR f fr i [false,false,false,false] 0=gI f (fr.set i (let p:=λ(k:Int)=>(f[i].1==2)||(k != f[i].2.2.2.2.2.1);[gB a 0&&p 0,gB a 1&&p 1,gB a 2&&p 2,gB a 3&&p 3])) ((i+1:Nat):Int):=by
 rw[CE (λv k=>lR f fr i v k) (λk=>gB a k&&((f[i].1==2)||((k:Int) != f[i].2.2.2.2.2.1))) (λk hk x y z u _=>by
  rw[Tk,xp hk,aA hi,oT rfl hk,aN (by omega)];simp only[cond_true,Option.bind_some,ha,oT a4 hk,Int.toNat_natCast];cases gB a k<;>cases (f[i].1==2)<;>rfl),afk hi hl gd]
 rfl
end
theorem D7{F G:List α}{i:Nat}(h:F.take i=G.take i){a:Int}(h0:0<=a)(h1:a<i)(d:α):F.getD a.toNat d=G.getD a.toNat d:=by
 have:(F.take i)[a.toNat]?=(G.take i)[a.toNat]?:=by rw[h]
 rw[List.getElem?_take,List.getElem?_take,if_pos (by omega),if_pos (by omega)]at this;simp only[List.getD,this]
theorem alg{db:List Rel}{n:ak}{F G:List (List Bool)}{i:Nat}(hn:tJ db n (i:Int))(h:F.take i=G.take i):fN n F=fN n G:=by
 obtain⟨aC,h1,h2⟩:=hn;have hk:=LG aC;unfold fN;by_cases k0:n.1=0
 ·have e:(n.1==0)=true:=by simp[k0]
  rw[e];rfl
 have e0:(n.1==0)=false:=by simpa using k0
 by_cases k1:n.1=1
 ·have e:(n.1==1)=true:=by simp[k1]
  rw[e0,e];rfl
 have e1:(n.1==1)=false:=by simpa using k1
 rw[e0,e1];have ha:ar n.1≠0:=by
  unfold ar;have:decide (n.1>1)=true:=by simp;omega
  rw[this];cases (n.1==3||n.1==4)<;>simp
 obtain⟨a0,a1⟩:=h1 ha;cases gb:(n.1==3||n.1==4)with
 | false =>
  simp only[cond_false];rw[D7 h a0 a1]
 | true =>
  have wm:ar n.1=2:=by unfold ar;rw[gb];rfl
  obtain⟨b0,b1⟩:=h2 wm;simp only[cond_false,cond_true];rw[D7 h a0 a1,D7 h b0 b1]
theorem WY{db:List Rel}{f:List ak}{i:Nat}(hi:i<f.length)(hn:tJ db f[i] (i:Int)):(dE f)[i]?=some (fN f[i] (dE f)):=by
 rw[List.getElem?_eq_getElem (by rw[sG];exact hi),W0 f i hi];congr 1;exact alg hn (by rw[List.take_take,Nat.min_self])
theorem Xi{f:List ak}{fr:List (List Bool)}{i:Nat}(gd:fr.length=f.length)(YA:fr.take i=(dE f).take i){a:Int}(h0:0<=a)(h1:a<i)(hi:i<=f.length):
  ∃v,ae fr a=some v/\(dE f).getD a.toNat []=v/\v.length=4:=by
 have ax:a.toNat<f.length:=by omega
 refine⟨fr[a.toNat]'(by omega),nF fr a.toNat (by omega) (by omega),?_,?_⟩
 ·rw[<-D7 YA h0 h1];simp[List.getD,List.getElem?_eq_getElem,show a.toNat<fr.length by omega]
 ·have e:(fr.take i)[a.toNat]?=((dE f).take i)[a.toNat]?:=by rw[YA]
  rw[List.getElem?_take,List.getElem?_take,if_pos (by omega),if_pos (by omega),List.getElem?_eq_getElem (show a.toNat<fr.length by omega),List.getElem?_eq_getElem (show a.toNat<(dE f).length by rw[sG];omega)]at e;injection e with e;rw[e];exact WZ f a.toNat ax
theorem Tq(db:List Rel)(f:List ak)(hl:f.length<=1000000)(hf:∀n∈f,zN n<=68719476736)(aC:∀(k:Nat) (hk:k<f.length),tJ db f[k] (k:Int)):
  ∀(n i:Nat) (fr:List (List Bool)),n+i=f.length->fr.length=f.length->fr.take i=(dE f).take i->gI f fr (i:Int)=mZ f (dE f) [] 0
 | 0,i,fr,hn,gd,ht=>by
  obtain rfl:i=f.length:=by omega
  rw[Tp,aV,cond_false];rw[List.take_of_length_le (by omega),List.take_of_length_le (by rw[sG];omega)]at ht;rw[ht]
 | n+1,i,fr,hn,gd,ht=>by
  have hi:i<f.length:=by omega
  have cG:=aC i hi;obtain⟨hN,h1,h2⟩:=cG;have hk:=LG hN;have next:∀v,v=fN f[i] (dE f)->gI f (fr.set i v) ((i+1:Nat):Int)=mZ f (dE f) [] 0:=by
   intro v hv;refine Tq db f hl hf aC n (i+1) _ (by omega) (by simpa using gd) ?_;have e1:(fr.set i v).take (i+1)=fr.take i++[v]:=by
    rw[List.take_add_one,List.take_set_of_le (by omega)];simp[gd,hi]
   rw[e1,ht,List.take_add_one,WY hi (aC i hi),hv];rfl
  rw[Tp,aQ hi,aA hi];simp only[cond_true,Option.bind_some];change (bif f[i].1==0 then pI f fr i [false,false,false,false] 0 else bif f[i].1==1 then rL f fr i [false,false,false,false] 0 else bif f[i].1==3 then ji f fr i [false,false,false,false] 0 else bif f[i].1==4 then ji f fr i [false,false,false,false] 0 else lR f fr i [false,false,false,false] 0)=_;unfold fN at next
  by_cases k0:f[i].1=0
  ·have e:(f[i].1==0)=true:=by simp[k0]
   obtain⟨a,b,c,d,hc⟩:=aaT hN k0;rw[e,cond_true,afn hi hl gd hc];refine next _ ?_
   rw[e,hc];rfl
  have e0:(f[i].1==0)=false:=by simpa using k0
  rw[e0]at next ⊢
  by_cases k1:f[i].1=1
  ·have e:(f[i].1==1)=true:=by simp[k1]
   have hz:=hf _ (List.getElem_mem hi);have fk:zN f[i]=zA f[i].2.1+zB f[i].2.2.1+zB f[i].2.2.2.1+zI f[i].2.2.2.2.1:=rfl;have:=R6 hi hl gd (aaU hN k1) (by unfold zI at fk;omega) f[i].2.2.2.2.1.length 0 [false,false,false,false] (by omega) rfl;rw[Int.natCast_zero,List.drop_zero]at this;rw[e,cond_false,cond_true,this];refine next _ ?_
   rw[e];rfl
  have e1:(f[i].1==1)=false:=by simpa using k1
  rw[e1]at next ⊢
  have ha:ar f[i].1≠0:=by
   unfold ar;have:decide (f[i].1>1)=true:=by simp;omega
   rw[this];cases (f[i].1==3||f[i].1==4)<;>simp
  obtain⟨a0,a1⟩:=h1 ha;obtain⟨v,g1,g2,g3⟩:=Xi gd ht a0 a1 (by omega);cases gb:(f[i].1==3||f[i].1==4)with
  | false =>
   rw[Bool.or_eq_false_iff]at gb;rw[gb.1,gb.2];simp only[cond_false];rw[afl hi hl gd g1 g3];refine next _ ?_
   rw[gb.1,gb.2];simp only[Bool.or_self,cond_false,g2]
  | true =>
   have wm:ar f[i].1=2:=by unfold ar;rw[gb];rfl
   obtain⟨b0,b1⟩:=h2 wm;obtain⟨u,u1,u2,u3⟩:=Xi gd ht b0 b1 (by omega);have e:(bif f[i].1==3 then ji f fr i [false,false,false,false] 0 else bif f[i].1==4 then ji f fr i [false,false,false,false] 0 else lR f fr i [false,false,false,false] 0)=ji f fr i [false,false,false,false] 0:=by
    cases h3:(f[i].1==3)with
    | true=>rfl
    | false =>
     rw[h3,Bool.false_or]at gb;rw[gb];rfl
   simp only[cond_false];rw[e,afq hi hl gd g1 u1 g3 u3];refine next _ ?_
   rw[gb];simp only[cond_true,cond_false,g2,u2]
def xo(v:List Bool):List Int:=(bif gB v 0 then [0]else [])++((bif gB v 1 then [1]else [])++((bif gB v 2 then [2]else [])++(bif gB v 3 then [3]else [])))
theorem yS(f:List ak)(F:List (List Bool))(v:List Bool)(acc:List Int)(k:Nat)(hk:k<4)(hv:ae F (IntKind.i64.wrap ((f.length:Int) - 1))=some v)(v4:v.length=4)(ha:acc.length<=4):
  mZ f F acc (k:Int)=mZ f F (acc++(bif gB v k then [(k:Int)]else [])) ((k+1:Nat):Int):=by
 rw[To,xp hk,hv];simp only[cond_true,Option.bind_some,oT v4 hk];rw[aN (by omega)];have:decide ((acc.length+1)*8<=140737488355328)=true:=by simp;omega
 rw[this];cases gB v k with
 | true=>rfl
 | false=>simp
theorem afv(f:List ak)(F:List (List Bool))(v:List Bool)(hv:ae F (IntKind.i64.wrap ((f.length:Int) - 1))=some v)(v4:v.length=4):
  mZ f F [] 0=some ((xo v,true,()),()):=by
 have s0:=yS f F v [] 0 (by omega) hv v4 (by simp);have s1:=yS f F v (bif gB v 0 then [0]else []) 1 (by omega) hv v4 (by cases gB v 0<;>simp);have s2:=yS f F v ((bif gB v 0 then [0]else [])++(bif gB v 1 then [1]else [])) 2 (by omega) hv v4 (by cases gB v 0<;>cases gB v 1<;>simp);have s3:=yS f F v ((bif gB v 0 then [0]else [])++(bif gB v 1 then [1]else [])++(bif gB v 2 then [2]else [])) 3 (by omega) hv v4 (by cases gB v 0<;>cases gB v 1<;>cases gB v 2<;>simp);refine s0.trans (s1.trans (s2.trans (s3.trans ?_)));rw[To];unfold xo;simp only[List.append_assoc];rfl
theorem yC(w:PUnit×Bool×Bool×Bool×Bool)(acc:List Int)(k:Nat)(hk:k<4)(ha:acc.length<=4):
  pF acc w (k:Int)=pF (acc++(bif gB [w.2.1,w.2.2.1,w.2.2.2.1,w.2.2.2.2] k then [(k:Int)]else [])) w ((k+1:Nat):Int):=by
 rw[Sf,xp hk];simp only[cond_true,Option.bind_some,oT (v:=[w.2.1,w.2.2.1,w.2.2.2.1,w.2.2.2.2]) rfl hk];rw[aN (by omega)];have:decide ((acc.length+1)*8<=140737488355328)=true:=by simp;omega
 rw[this];cases gB [w.2.1,w.2.2.1,w.2.2.2.1,w.2.2.2.2] k with
 | true=>rfl
 | false=>simp
def dY(v:List Bool):PUnit×Bool×Bool×Bool×Bool:=((),gB v 0,gB v 1,gB v 2,gB v 3)
theorem afr(v:List Bool):pF [] (dY v) 0=some ((xo v,true,()),()):=by
 have s0:=yC (dY v) [] 0 (by omega) (by simp);have s1:=yC (dY v) (bif gB v 0 then [0]else []) 1 (by omega) (by cases gB v 0<;>simp);have s2:=yC (dY v) ((bif gB v 0 then [0]else [])++(bif gB v 1 then [1]else [])) 2 (by omega) (by cases gB v 0<;>cases gB v 1<;>simp);have s3:=yC (dY v) ((bif gB v 0 then [0]else [])++(bif gB v 1 then [1]else [])++(bif gB v 2 then [2]else [])) 3 (by omega) (by cases gB v 0<;>cases gB v 1<;>cases gB v 2<;>simp);refine s0.trans (s1.trans (s2.trans (s3.trans ?_)));rw[Sf];unfold xo;simp only[List.append_assoc];rfl
theorem afu(d:Nat)(x4:PUnit×Bool×Bool×Bool×Bool)(x5:ak)(a b c e:Int):oD (d+1) x4 x5 (dY [false,false,false,false]) [a,b,c,e] 4 0=some ((dY [a != 0,b != 0,c != 0,e != 0],()),()):=by
 rw[CE (λv k=>oD (d+1) x4 x5 (dY v) [a,b,c,e] 4 k) (λk=>([a,b,c,e]:List Int).getD k 0 != 0) (λk hk x y z u _=>by
  rcases (show k=0\/k=1\/k=2\/k=3 by omega)with rfl|rfl|rfl|rfl<;>(rw[SK];rfl))]
 rw[SK,yu];rfl
theorem SJ(d:Nat)(x4:PUnit×Bool×Bool×Bool×Bool)(x5:ak)(l:List Int)(hv:l.all df=true)(hl:l.length<=68719476736):∀(n j:Nat) (v:List Bool),n+j=l.length->v.length=4->pG (d+1) x4 x5 (dY v) l (l.length:Int) (j:Int)=some ((dY ((l.drop j).foldl (λv y=>v.set y.toNat true) v),()),())
 | 0,j,v,hn,h4=>by
  obtain rfl:j=l.length:=by omega
  rw[SI,aV,List.drop_eq_nil_of_le (by omega),yu];rfl
 | n+1,j,v,hn,h4=>by
  have hj:j<l.length:=by omega
  have hy:=List.all_eq_true.1 hv _ (List.getElem_mem hj);unfold df at hy;obtain⟨y0,y3⟩:=gK hy;have y0:=of_decide_eq_true y0;have y3:=of_decide_eq_true y3;obtain⟨a,b,c,e,rfl⟩:=four h4;rw[SI,aQ hj,aA hj,aN (by omega),List.drop_eq_getElem_cons hj];simp only[cond_true,Option.bind_some,List.foldl_cons];rw[<-SJ d x4 x5 l hv hl n (j+1) ([a,b,c,e].set l[j].toNat true) (by omega) (by simp)];rcases (show l[j]=0\/l[j]=1\/l[j]=2\/l[j]=3 by omega)with h|h|h|h<;>(rw[h];rfl)
theorem aft(d:Nat)(x4:PUnit×Bool×Bool×Bool×Bool)(a b:List Bool):b8 (d+1) x4 (dY a) (dY b) 0=some ((dY [gB a 0||gB b 0,gB a 1||gB b 1,gB a 2||gB b 2,gB a 3||gB b 3],()),()):=by
 have s0:∀(p q r s:Bool),b8 (d+1) x4 ((),p,q,r,s) (dY b) 0=b8 (d+1) x4 ((),p||gB b 0,q,r,s) (dY b) 1:=by
  intro p q r s;rw[uL];cases p<;>rfl
 have s1:∀(p q r s:Bool),b8 (d+1) x4 ((),p,q,r,s) (dY b) 1=b8 (d+1) x4 ((),p,q||gB b 1,r,s) (dY b) 2:=by
  intro p q r s;rw[uL];cases q<;>rfl
 have s2:∀(p q r s:Bool),b8 (d+1) x4 ((),p,q,r,s) (dY b) 2=b8 (d+1) x4 ((),p,q,r||gB b 2,s) (dY b) 3:=by
  intro p q r s;rw[uL];cases r<;>rfl
 have s3:∀(p q r s:Bool),b8 (d+1) x4 ((),p,q,r,s) (dY b) 3=b8 (d+1) x4 ((),p,q,r,s||gB b 3) (dY b) 4:=by
  intro p q r s;rw[uL];cases s<;>rfl
 have e:∀(p q r s:Bool),b8 (d+1) x4 ((),p,q,r,s) (dY b) 4=some ((((),p,q,r,s),()),()):=by
  intro p q r s;rw[uL,yu];rfl
 exact (s0 _ _ _ _).trans ((s1 _ _ _ _).trans ((s2 _ _ _ _).trans ((s3 _ _ _ _).trans (e _ _ _ _))))
theorem U9(db:List Rel)(f:List ak)(hf:∀n∈f,zN n<=68719476736)(aC:∀(k:Nat) (hk:k<f.length),tJ db f[k] (k:Int)):
  ∀(d i:Nat),i<d->i<f.length->nj d f (i:Int)=some ((dY ((dE f).getD i []),()),())
 | 0,i,h,_=>absurd h (by omega)
 | d+1,i,h,hi=>by
  have cG:=aC i hi;obtain⟨hN,h1,h2⟩:=cG;have hk:=LG hN;have hF:(dE f).getD i []=fN f[i] (dE f):=by simp only[List.getD,WY hi (aC i hi),Option.getD_some]
  have hA:∀a:Int,0<=a->a<i->nj d f a=some ((dY ((dE f).getD a.toNat []),()),()):=by
   intro a a0 a1;have:=U9 db f hf aC d a.toNat (by omega) (by omega);rw[Int.toNat_of_nonneg a0]at this;exact this
  rw[hF,ahK,aA hi];simp only[Option.bind_some];unfold fN;by_cases k0:f[i].1=0
  ·have e:(f[i].1==0)=true:=by simp[k0]
   obtain⟨a,b,c,d',hc⟩:=aaT hN k0;rw[e,hc];exact afu d _ _ a b c d'
  have e0:(f[i].1==0)=false:=by simpa using k0
  rw[e0];by_cases k1:f[i].1=1
  ·have e:(f[i].1==1)=true:=by simp[k1]
   have hz:=hf _ (List.getElem_mem hi);have fk:zN f[i]=zA f[i].2.1+zB f[i].2.2.1+zB f[i].2.2.2.1+zI f[i].2.2.2.2.1:=rfl;rw[e];have:=SJ d ((),false,false,false,false) f[i] f[i].2.2.2.2.1 (aaU hN k1) (by unfold zI at fk;omega) f[i].2.2.2.2.1.length 0 [false,false,false,false] (by omega) rfl;rw[List.drop_zero]at this;exact this
  have e1:(f[i].1==1)=false:=by simpa using k1
  rw[e1];have ha:ar f[i].1≠0:=by
   unfold ar;have:decide (f[i].1>1)=true:=by simp;omega
   rw[this];cases (f[i].1==3||f[i].1==4)<;>simp
  obtain⟨a0,a1⟩:=h1 ha;simp only[cond_false];cases gb:(f[i].1==3||f[i].1==4)with
  | true =>
   have wm:ar f[i].1=2:=by unfold ar;rw[gb];rfl
   obtain⟨b0,b1⟩:=h2 wm;have e:∀(p q:PUnit×Bool×Bool×Bool×Bool) (m:Int),(bif f[i].1==3 then rA (d+1) f p f[i] q m true else rA (d+1) f p f[i] q m (f[i].1==4))=rA (d+1) f p f[i] q m true:=by
    intro p q m;cases h3:(f[i].1==3)with
    | true=>rfl
    | false=>rw[h3,Bool.false_or]at gb;rw[gb];rfl
   rw[e,QQ,hA _ a0 a1,hA _ b0 b1];simp only[cond_true,Option.bind_some];exact aft d _ _ _
  | false =>
   rw[Bool.or_eq_false_iff]at gb;rw[gb.1,gb.2];simp only[cond_false];rw[QQ,hA _ a0 a1];simp only[cond_false,Option.bind_some,yu];cases CP:(f[i].1==2)with
   | true=>simp only[cond_true,Bool.true_or,Bool.and_true];rfl
   | false =>
    have hv:=apP hN (by have:=k0;have:=k1;omega);rcases (show f[i].2.2.2.2.2.1=0\/f[i].2.2.2.2.2.1=1\/f[i].2.2.2.2.2.1=2\/f[i].2.2.2.2.2.1=3 by omega)with h|h|h|h<;>
     (rw[h];generalize (dE f).getD f[i].2.2.2.2.2.2.1.toNat []=v;unfold dY;generalize gB v 0=v0;generalize gB v 1=v1;generalize gB v 2=v2;generalize gB v 3=v3;cases v0<;>cases v1<;>cases v2<;>cases v3<;>rfl)
def lY(db:List Rel)(f:List ak):List Int×Bool:=bif ga db f then (xo ((dE f).getD (f.length - 1) []),true)else ([],false)
theorem WX{db:List Rel}{f:List ak}(h:ga db f=true):(1<=f.length/\f.length<=12)/\∀(k:Nat) (hk:k<f.length),tJ db f[k] (k:Int):=by
 unfold ga at h;obtain⟨_,h⟩:=gK h;obtain⟨h1,h⟩:=gK h;obtain⟨h1,h2⟩:=gK h1;have h1:=of_decide_eq_true h1;have h2:=of_decide_eq_true h2;refine⟨by omega,λk hk=>?_⟩;have:=W3 db f 0 [] h (by omega) (by simp) k hk
 rwa [Int.zero_add]at this
theorem apf{f:List ak}(h:1<=f.length):((dE f).getD (f.length - 1) []).length=4/\ae (dE f) (IntKind.i64.wrap ((f.length:Int) - 1))=some ((dE f).getD (f.length - 1) [])\/f.length>1000000:=by
 by_cases hb:f.length>1000000
 ·exact .inr hb
 left;have ax:f.length - 1<(dE f).length:=by rw[sG];omega
 have e:(dE f).getD (f.length - 1) []=(dE f)[f.length - 1]:=by simp[List.getD,List.getElem?_eq_getElem,ax]
 rw[e];refine⟨WZ f _ (by omega),?_⟩;rw[cj (by omega) (by omega)];exact nF _ (f.length - 1) (by omega) ax
theorem aip(db:List Rel)(f:List ak)(hd:zL zQ db<=68719476736)(hf:zL zN f<=68719476736):Ai db f=some (((lY db f).1,(lY db f).2,()),()):=by
 rw[aio,Vo db f (oR hd) (sI hf)];simp only[Option.bind_some];unfold lY;cases hb:ga db f with
 | false=>rfl
 | true =>
  obtain⟨⟨n1,n2⟩,aC⟩:=WX hb;rw[kD f 24 (by omega) (by omega) (by omega)];have:=Tq db f (by omega) (sI hf) aC f.length 0 (List.replicate f.length []) (by omega) (by simp) (by simp);rw[Int.natCast_zero]at this;obtain⟨l4,hg⟩:=(apf n1).resolve_right (by omega);simp only[Bool.not_true,cond_false,cond_true];rw[this,afv f (dE f) _ hg l4]
theorem ag2(db:List Rel)(f:List ak)(hf:zL zN f<=68719476736):zO db f=some (((lY db f).1,(lY db f).2,()),()):=by
 rw[ag1,UT db f (sI hf)];simp only[Option.bind_some];unfold lY;cases hb:ga db f with
 | false=>rfl
 | true =>
  obtain⟨⟨n1,n2⟩,aC⟩:=WX hb;simp only[Bool.not_true,cond_false,cond_true];rw[cj (by omega) (by omega),show (f.length:Int) - 1=((f.length - 1:Nat):Int)by omega,U9 db f (sI hf) aC fuel (f.length - 1) (by rw[alk];omega) (by omega)];simp only[Option.bind_some];exact afr _
def qS(db:List Rel)(f:List ak):Bool:=(lY db f).2&&(((lY db f).1.length:Int)==0)
theorem aiA(db:List Rel)(f:List ak)(hd:zL zQ db<=68719476736)(hf:zL zN f<=68719476736):G8 db f=some ((qS db f,()),()):=by
 rw[aiz,aip db f hd hf];unfold qS;simp only[Option.bind_some];cases (lY db f).2<;>rfl
theorem ahe(db:List Rel)(f:List ak)(hf:zL zN f<=68719476736):GJ db f=some ((qS db f,()),()):=by
 rw[ahd,ag2 db f hf];unfold qS;simp only[Option.bind_some];cases (lY db f).2<;>rfl
theorem Li(d:Int):∀(post pre r:List aa),ly d pre post=some r->(∀a∈r,a∈pre\/a∈post)/\r.length<=pre.length+post.length
 | [],pre,r,h=>by
  unfold ly at h;cases h;exact⟨λa ha=>.inl ha,by simp⟩
 | a::post,pre,r,h=>by
  unfold ly at h;cases h1:(kz (d,pre++post) a).2 with
  | false=>rw[h1]at h;cases h
  | true =>
   rw[h1,cond_true]at h;cases h2:(kz (d,pre++post) a).1 with
   | true =>
    rw[h2,cond_true]at h;obtain⟨k1,k2⟩:=Li d post pre r h;exact⟨λb hb=>(k1 b hb).imp id (List.mem_cons_of_mem _),by rw[List.length_cons];omega⟩
   | false =>
    rw[h2,cond_false]at h;obtain⟨k1,k2⟩:=Li d post (pre++[a]) r h;refine⟨λb hb=>?_,by rw[List.length_append,List.length_singleton]at k2;rw[List.length_cons];omega⟩;rcases k1 b hb with k|k
    ·rcases List.mem_append.1 k with k|k
     ·exact .inl k
     ·exact .inr (List.mem_cons.2 (.inl (List.mem_singleton.1 k)))
    ·exact .inr (List.mem_cons_of_mem _ k)
theorem apG(h0:0<=d)(h1:d<=4):bt (kF d)=true :=
 cc.2 ⟨λa ha=>by rw[List.mem_singleton.1 ha];exact aaN h0 h1,h0,h1,by simp[kF]⟩
theorem aal(hc:bt c=true)(h:mH c=some m):bt m=true/\m.1=c.1/\∀a∈m.2,a∈(kF c.1).2\/a∈c.2:=by
 obtain⟨k1,k2,k3,k4⟩:=cc.1 hc;unfold mH at h;cases h1:(jq c).2 with
 | false=>rw[h1]at h;cases h
 | true =>
  rw[h1,cond_true]at h;cases h2:(jq c).1 with
  | true=>rw[h2,cond_true]at h;cases h;exact⟨apG k2 k3,rfl,λa ha=>.inl ha⟩
  | false =>
   rw[h2,cond_false]at h;cases h3:ly c.1 [] c.2 with
   | none=>rw[h3]at h;cases h
   | some l =>
    rw[h3]at h;cases h;obtain⟨j1,j2⟩:=Li _ _ _ _ h3;have j3:∀a∈l,a∈c.2:=λa ha=>(j1 a ha).resolve_left (by simp);exact⟨cc.2 ⟨λa ha=>k1 a (j3 a ha),k2,k3,by simpa using Nat.le_trans j2 (by simpa using k4)⟩,rfl,λa ha=>.inr (j3 a ha)⟩
theorem xt(h:gz c=some m):bt c=true/\bt m=true/\m.1=c.1:=by
 unfold gz at h;cases hc:bt c with
 | false=>rw[hc]at h;cases h
 | true =>
  rw[hc,cond_true]at h;have:=aal (mI hc) h;exact⟨rfl,this.1,by rw[this.2.1,gE]⟩
def sF(c:ab):Bool:=match c.2 with
 | [a] => !eS a
 | _=>false
def CC(c:ab):Bool:=match c.2 with
 | [a] => !eS a&&(a.2.1==1 && !a.2.2)
 | _=>false
theorem apt(h:gz c=some m):CC m=sF m:=by
 obtain⟨hc,hm,_⟩:=xt h;unfold gz at h;rw[hc,cond_true]at h;have hs:=(aal (mI hc) h).2.2;have hn:∀a∈m.2,eS a=true\/a=(List.replicate c.1.toNat (0:Int),1,false):=by
  intro a ha;rcases hs a ha with k|k
  ·rw[gE]at k;exact .inr (List.mem_singleton.1 k)
  ·unfold bR at k;cases hb:c.2.any fW with
   | true=>rw[hb,cond_true]at k;exact .inr (List.mem_singleton.1 k)
   | false =>
    rw[hb,cond_false]at k;rcases JN _ _ _ k with k|k
    ·simp at k
    ·exact .inl (List.mem_filter.1 k).2
 unfold CC sF
 match iu:m.2 with
 | []=>rfl
 | [a] =>
  dsimp only;rcases hn a (by rw[iu];exact List.mem_singleton.2 rfl)with k|k
  ·rw[k];rfl
  ·rw[k];simp
 | a::b::l=>rfl
def gV:Option ab->Option ((ab×Bool×PUnit)×PUnit)
 | some m=>some ((m,true,()),())
 | none=>some ((yh,false,()),())
theorem Cz(pre:List α)(a:α)(post:List α):List.drop (Int.toNat 0) (List.take ((pre.length:Int)).toNat (pre++a::post))=pre:=by
 rw[Int.toNat_natCast,List.take_left];rfl
theorem Wv(pre:List α)(a:α)(post:List α)(h:pre.length<=1000):List.drop (IntKind.i64.wrap ((pre.length:Int)+1)).toNat (List.take (pre++a::post).length (pre++a::post))=post:=by
 rw[aN (by omega),Int.toNat_natCast,List.take_length,show pre++a::post=(pre++[a])++post by simp];exact List.drop_left' (by simp)
theorem VY(pre:List α)(a:α)(post:List α)(h:pre.length<=1000):
  (decide ((0:Nat)<=0)&&decide (0<=(pre.length:Int))&&decide ((pre.length:Int)<=((pre++a::post).length:Int)))=true /\
  (decide (0<=IntKind.i64.wrap ((pre.length:Int)+1))&&decide (IntKind.i64.wrap ((pre.length:Int)+1)<=((pre++a::post).length:Int))&&decide (((pre++a::post).length:Int)<=((pre++a::post).length:Int)))=true /\
  decide ((pre.length:Int)<((pre++a::post).length:Int))=true/\ae (pre++a::post) (pre.length:Int)=some a:=by
 rw[aN (by omega)];refine⟨by simp;omega,by simp;omega,by simp;omega,?_⟩;rw[aA (by simp)];simp
theorem E3(h0:0<=d)(h4:d<=4)(x z:ab)(hx:x.1=d):∀(post pre:List aa),(∀a∈pre++post,bg d.toNat a)->(pre++post).length<=16 ->
  uW x z (d,pre++post) (pre.length:Int)=gV ((ly d pre post).map λl=>(d,l))
 | [],pre,_,_=>by
  rw[Uc,List.append_nil,aV,cond_false];rfl
 | a::post,pre,hk,hl=>by
  have hp:pre.length<=16:=by rw[List.length_append]at hl;omega
  have hq:(pre++post).length<=16:=by rw[List.length_append,List.length_cons]at hl;rw[List.length_append];omega
  have aC:∀b∈pre++post,bg d.toNat b:=λb hb=>hk b (by
   rcases List.mem_append.1 hb with h|h
   ·exact List.mem_append_left _ h
   ·exact List.mem_append_right _ (List.mem_cons_of_mem _ h))
  have qe:bt (d,pre++post)=true:=cc.2 ⟨aC,h0,h4,hq⟩;obtain⟨e1,e2,e3,e4⟩:=VY pre a post (by omega);rw[Uc];dsimp only;rw[e3,cond_true,e1,cond_true,Cz,Wv pre a post (by omega),e2,cond_true,e4,hx];have d1:decide ((0+pre.length)*40<=140737488355328)=true:=decide_eq_true (by omega);have d2:decide ((pre.length+post.length)*40<=140737488355328)=true:=decide_eq_true (by rw[List.length_append]at hq;omega);rw[d1,cond_true,d2,cond_true];simp only[Option.bind_some];rw[air _ _ (by show (pre++post).length<=_;omega)];unfold ly iD;simp only[Option.bind_some];cases h1:(kz (d,pre++post) a).2 with
  | false=>rfl
  | true =>
   simp only[Bool.not_true,cond_false,cond_true];cases h2:(kz (d,pre++post) a).1 with
   | true =>
    simp only[cond_true];rw[(Cx qe).1];simp only[Option.bind_some];exact E3 h0 h4 x z hx post pre aC hq
   | false =>
    simp only[cond_false];rw[aN (by omega)];have:=E3 h0 h4 x z hx post (pre++[a]) (by simpa using hk) (by simpa using hl);rw[show (pre++[a])++post=pre++a::post by simp,show (pre++[a]).length=pre.length+1 by simp]at this;exact this
theorem VC{x:ab}(h:bt x=true):vx x=gV (mH x):=by
 obtain⟨k1,k2,k3,k4⟩:=cc.1 h;rw[ai3,Vn _ (by omega)];unfold mH iD;simp only[Option.bind_some];cases h1:(jq x).2 with
 | false=>rfl
 | true =>
  simp only[Bool.not_true,cond_false,cond_true];cases h2:(jq x).1 with
  | true =>
   simp only[cond_true];rw[Hd k2 (by omega)];rfl
  | false =>
   simp only[cond_false];rw[(Cx h).1];simp only[Option.bind_some];exact E3 k2 k3 x (0,[]) rfl x.2 [] (by simpa using k1) (by simpa using k4)
theorem EX(h0:0<=d)(h4:d<=4)(x z:ab)(hx:x.1=d):∀(post pre:List aa),(∀a∈pre++post,bg d.toNat a)->(pre++post).length<=16 ->
  uG x z (d,pre++post) (pre.length:Int)=gV ((ly d pre post).map λl=>(d,l))
 | [],pre,_,_=>by
  rw[Sv,List.append_nil,aV,cond_false];rfl
 | a::post,pre,hk,hl=>by
  have hp:pre.length<=16:=by rw[List.length_append]at hl;omega
  have hq:(pre++post).length<=16:=by rw[List.length_append,List.length_cons]at hl;rw[List.length_append];omega
  have hpo:post.length<=16:=by rw[List.length_append]at hq;omega
  have aC:∀b∈pre++post,bg d.toNat b:=λb hb=>hk b (by
   rcases List.mem_append.1 hb with h|h
   ·exact List.mem_append_left _ h
   ·exact List.mem_append_right _ (List.mem_cons_of_mem _ h))
  obtain⟨e1,e2,e3,e4⟩:=VY pre a post (by omega);rw[Sv];dsimp only;rw[e3,cond_true,e1,cond_true,Cz,Wv pre a post (by omega),e2,cond_true,e4,hx,MR (by omega) (by omega)];simp only[Option.bind_some];rw[ag4]
  conv=>rhs;unfold ly
  unfold iD;simp only[Option.bind_some];cases h1:(kz (d,pre++post) a).2 with
  | false=>rfl
  | true =>
   simp only[Bool.not_true,cond_false,cond_true];cases h2:(kz (d,pre++post) a).1 with
   | true =>
    simp only[cond_true];exact EX h0 h4 x z hx post pre aC hq
   | false =>
    simp only[cond_false];rw[aN (by omega)];have:=EX h0 h4 x z hx post (pre++[a]) (by simpa using hk) (by simpa using hl);rw[show (pre++[a])++post=pre++a::post by simp,show (pre++[a]).length=pre.length+1 by simp]at this;exact this
theorem UX(c:ab):vb c=gV (gz c):=by
 rw[ahk,U0,nc];unfold gz;simp only[Option.bind_some];cases hc:bt c with
 | false=>rfl
 | true =>
  obtain⟨k1,k2,k3,k4⟩:=cc.1 hc;have hn:=mI hc;obtain⟨j1,j2,j3,j4⟩:=cc.1 hn;rw[gE]at j1;simp only[Bool.not_true,cond_false,cond_true];rw[Ac k2 (by omega) k1 (by omega)];simp only[Option.bind_some,Bool.not_true,cond_false];rw[US];unfold mH iD;simp only[Option.bind_some];cases h1:(jq (bR c.1 c.2)).2 with
  | false=>rfl
  | true =>
   simp only[Bool.not_true,cond_false,cond_true];cases h2:(jq (bR c.1 c.2)).1 with
   | true =>
    simp only[cond_true];rw[GR k2 (by omega),gE];rfl
   | false =>
    simp only[cond_false];have:=EX k2 k3 c (0,[]) rfl (bR c.1 c.2).2 [] (by simpa using j1) (by simpa using j4);rw[gE];refine Eq.trans ?_ this;rw[List.nil_append];congr 1;exact Prod.ext (gE _ _) rfl
theorem ahN(h:bt c=true):GS c=some ((CC c,()),()):=by
 obtain⟨k1,k2,k3,k4⟩:=cc.1 h;rw[ahM];unfold CC
 match hc:c.2 with
 | []=>rfl
 | [a] =>
  have ha:bK a=true:=(k1 a (by rw[hc];exact List.mem_singleton.2 rfl)).1;have g0:ae [a] 0=some a:=rfl;rw[show (((([a]:List aa).length:Nat):Int)==1)=true from rfl,cond_true,g0];simp only[Option.bind_some];rw[Va ha];simp only[Option.bind_some];unfold eS;cases (gl a.1 0 != 0)<;>simp only[Bool.not_true,Bool.not_false,cond_true,cond_false,Bool.false_and,Bool.true_and];cases a.2.1==1<;>rfl
 | a::b::l =>
  have:((((a::b::l:List aa).length:Nat):Int)==1)=false:=by
   rw[beq_eq_false_iff_ne];simp only[List.length_cons];omega
  rw[this];rfl
def kI(a:List Int):List Int->Nat->List Int->Option (List Int)
 | [],_,o=>some o
 | v::vs,i,o=>bif df v then kI a vs (i+1) (o.set v.toNat (o.getD v.toNat 0+a.getD i 0))else none
def mL(vars:List Int):List aa->List aa->Option (List aa)
 | [],o=>some o
 | a::l,o=>match kI a.1 vars 0 (List.replicate (Int.toNat 4) (0:Int))with
  | none=>none
  | some x=>bif (fR x a.2.1 a.2.2).2 then mL vars l (o++[(fR x a.2.1 a.2.2).1])else none
def mK(c:ab)(vars:List Int):Option ab:=bif bt c&&((vars.length:Int)==c.1)then (mL vars c.2 []).map λl=>((4:Int),l)else none
theorem DT(a:List Int)(ha:∀y∈a,y.natAbs<=400000000):∀(vs:List Int) (i:Nat) (o r:List Int) (n:Nat),o.length=4->(∀y∈o,y.natAbs<=400000000*n)->kI a vs i o=some r->r.length=4/\∀y∈r,y.natAbs<=400000000*(n+vs.length)
 | [],i,o,r,n,h1,h2,h=>by
  unfold kI at h;cases h;exact⟨h1,by simpa using h2⟩
 | v::vs,i,o,r,n,h1,h2,h=>by
  unfold kI at h;cases hv:df v with
  | false=>rw[hv]at h;cases h
  | true =>
   rw[hv,cond_true]at h;have key:∀y∈o.set v.toNat (o.getD v.toNat 0+a.getD i 0),y.natAbs<=400000000*(n+1):=by
    intro y hy;rcases List.mem_or_eq_of_mem_set hy with hy|rfl
    ·have:=h2 y hy;omega
    ·have e1:(o.getD v.toNat 0).natAbs<=400000000*n:=by
      rw[List.getD_eq_getElem?_getD];cases hg:o[v.toNat]? with
      | none=>simp
      | some z=>exact h2 z (List.mem_of_getElem? hg)
     have e2:(a.getD i 0).natAbs<=400000000:=by
      rw[List.getD_eq_getElem?_getD];cases hg:a[i]? with
      | none=>simp
      | some z=>exact ha z (List.mem_of_getElem? hg)
     omega
   have:=DT a ha vs (i+1) _ r (n+1) (by simpa using h1) key h;refine⟨this.1,λy hy=>?_⟩;have:=this.2 y hy;rw[List.length_cons];omega
theorem aa7{a o:List Int}{v:Int}{i:Nat}(hv:df v=true)(ho:o.length=4)(hi:i<a.length):
  ae o v=some (o.getD v.toNat 0)/\ae a (i:Int)=some (a.getD i 0):=by
 unfold df at hv;simp only[Bool.and_eq_true,decide_eq_true_eq]at hv;have ax:v.toNat<o.length:=by omega
 refine⟨?_,?_⟩
 ·have:=aA (xs:=o) (i:=v.toNat) ax;rw[show ((v.toNat:Nat):Int)=v by omega]at this;rw[this,List.getD_eq_getElem?_getD,List.getElem?_eq_getElem ax];rfl
 ·rw[aA hi,List.getD_eq_getElem?_getD,List.getElem?_eq_getElem hi];rfl
theorem aa6(vars:List Int):∀(l o r:List aa),(∀a∈o,bg 4 a)->(∀a∈l,∀y∈a.1,y.natAbs<=400000000)->mL vars l o=some r->(∀a∈r,bg 4 a)/\r.length=o.length+l.length
 | [],o,r,h1,_,h=>by
  unfold mL at h;cases h;exact⟨h1,rfl⟩
 | a::l,o,r,h1,hn,h=>by
  unfold mL at h;cases hp:kI a.1 vars 0 (List.replicate (Int.toNat 4) (0:Int))with
  | none=>rw[hp]at h;cases h
  | some x =>
   rw[hp]at h;dsimp only at h;cases hm:(fR x a.2.1 a.2.2).2 with
   | false=>rw[hm]at h;cases h
   | true =>
    rw[hm,cond_true]at h;have hx:=DT a.1 (hn a (List.mem_cons_self ..)) vars 0 _ x 0 (by simp) (by simp[List.mem_replicate]) hp;have hk:=aav hm;rw[hx.1]at hk;have:=aa6 vars l _ r (λb hb=>by
     rcases List.mem_append.1 hb with hb|hb
     ·exact h1 b hb
     ·rw[List.mem_singleton.1 hb];exact hk) (λb hb=>hn b (List.mem_cons_of_mem _ hb)) h
    refine⟨this.1,?_⟩;rw[this.2,List.length_append,List.length_singleton,List.length_cons];omega
theorem LM{r:ab}{vars:List Int}(h:mK c vars=some r):bt r=true/\r.1=4:=by
 unfold mK at h;cases hc:bt c&&((vars.length:Int)==c.1)with
 | false=>rw[hc]at h;cases h
 | true =>
  rw[hc,cond_true]at h;have hc:=(Bool.and_eq_true_iff.1 hc).1;obtain⟨k1,k2,k3,k4⟩:=cc.1 hc;cases hl:mL vars c.2 []with
  | none=>rw[hl]at h;cases h
  | some l =>
   rw[hl]at h;cases h;have:=aa6 vars c.2 [] l (by simp) (λa ha=>(eX (k1 a ha)).1) hl;exact⟨cc.2 ⟨this.1,by show (0:Int)<=4;omega,by show (4:Int)<=4;omega,by show l.length<=16;rw[this.2];simpa using k4⟩,rfl⟩
theorem Up(vars:List Int)(c z x6:ab){k:Nat}(hk:k<c.2.length)(ha:bg n (c.2[k]))(hv:vars.length=n):∀(m i:Nat) (o:List Int),m+i=vars.length->o.length=4->(∀y∈o,y.natAbs<=400000000*i) ->
  uT vars c z x6 (k:Int) o (i:Int)=match kI (c.2[k]).1 (vars.drop i) i o with
   | none=>gV none
   | some x=>uT vars c z x6 (k:Int) x (vars.length:Int)
 | 0,i,o,hm,ho,hb=>by
  obtain rfl:i=vars.length:=by omega
  rw[List.drop_length];rfl
 | m+1,i,o,hm,ho,hb=>by
  have hi:i<vars.length:=by omega
  have hn:vars.length<=4:=by have:=(eX ha).2.2;have h2:=ha.2;omega
  rw[drop_cons hi]
  conv=>rhs;unfold kI
  rw[TP,aQ hi,cond_true,aA hi];simp only[Option.bind_some];rw[iH];simp only[Option.bind_some];show (bif !df vars[i]then _ else _)=_;cases Dg:df vars[i]with
  | false=>rfl
  | true =>
   obtain⟨s1,s2⟩:=aa7 (a:=(c.2[k]).1) (o:=o) (i:=i) Dg ho (by rw[ha.2];omega);simp only[Bool.not_true,cond_false,cond_true];rw[s1];simp only[Option.bind_some];rw[aA hk];simp only[Option.bind_some];rw[s2];simp only[Option.bind_some];have e1:(o.getD (vars[i]).toNat 0).natAbs<=400000000*i:=by
    rw[List.getD_eq_getElem?_getD];cases hg:o[(vars[i]).toNat]? with
    | none=>simp
    | some z=>exact hb z (List.mem_of_getElem? hg)
   have e2:((c.2[k]).1.getD i 0).natAbs<=400000000:=by
    rw[List.getD_eq_getElem?_getD];cases hg:(c.2[k]).1[i]? with
    | none=>simp
    | some z=>exact (eX ha).1 z (List.mem_of_getElem? hg)
   rw[cj (by omega) (by omega),aN (by omega)];refine Up vars c z x6 hk ha hv m (i+1) _ (by omega) (by simpa using ho) (λy hy=>?_);rcases List.mem_or_eq_of_mem_set hy with hy|rfl
   ·have:=hb y hy;omega
   ·omega
theorem Uo(vars:List Int)(c z:ab)(hc:∀a∈c.2,bg n a)(hl:c.2.length<=16)(hv:vars.length=n):∀(m k:Nat) (o:List aa),m+k=c.2.length->o.length=k ->
  yZ vars c z (4,o) (k:Int)=gV ((mL vars (c.2.drop k) o).map λl=>((4:Int),l))
 | 0,k,o,hm,ho=>by
  obtain rfl:k=c.2.length:=by omega
  rw[TO,aV,cond_false,List.drop_length];rfl
 | m+1,k,o,hm,ho=>by
  have hk:k<c.2.length:=by omega
  have ha:=hc _ (List.getElem_mem hk);have hn:vars.length<=4:=by have:=(eX ha).2.2;have h2:=ha.2;omega
  rw[TO,aQ hk,cond_true,drop_cons hk];have h9:=Up vars c z (4,o) hk ha hv vars.length 0 (List.replicate (Int.toNat 4) (0:Int)) rfl (by simp) (by simp[List.mem_replicate]);rw[List.drop_zero,Int.natCast_zero]at h9;rw[h9];unfold mL;cases hp:kI (c.2[k]).1 vars 0 (List.replicate (Int.toNat 4) (0:Int))with
  | none=>rfl
  | some x =>
   have hx:=DT (c.2[k]).1 (eX ha).1 vars 0 _ x 0 (by simp) (by simp[List.mem_replicate]) hp;dsimp only;rw[TP,aV,cond_false,aA hk];simp only[Option.bind_some];rw[Vv (by rw[hx.1];omega) (λy hy=>by have:=hx.2 y hy;omega) (by have:=(eX ha).2.1;omega)];simp only[Option.bind_some];cases iu:(fR x (c.2[k]).2.1 (c.2[k]).2.2).2 with
   | false=>rfl
   | true =>
    simp only[Bool.not_true,cond_false,cond_true];have d:decide ((o.length+1)*40<=140737488355328)=true:=decide_eq_true (by omega);rw[d,cond_true,aN (by omega)];exact Uo vars c z hc hl hv m (k+1) _ (by omega) (by simp[ho])
theorem aiL(c:ab)(vars:List Int)(hl:c.2.length<=68719476736):Ao c vars=gV (mK c vars):=by
 rw[aiK,r8 _ hl];unfold mK;simp only[Option.bind_some];cases hc:bt c with
 | false=>rfl
 | true =>
  obtain⟨k1,k2,k3,k4⟩:=cc.1 hc;simp only[Bool.not_true,cond_false,Bool.true_and,bne];cases hv:((vars.length:Int)==c.1)with
  | false=>rfl
  | true =>
   simp only[Bool.not_true,cond_false,cond_true];have hv:=beq_iff_eq.1 hv;have:=Uo vars c (0,[]) k1 k4 (by omega) c.2.length 0 [] rfl rfl
   rwa [List.drop_zero]at this
theorem S1(vars:List Int)(c z x6:ab)(a:aa)(ha:bg n a)(hv:vars.length=n)(L:List aa)(b:Int)(k:Int):∀(m i:Nat) (o:List Int),m+i=vars.length->o.length=4->(∀y∈o,y.natAbs<=400000000*i) ->
  uI vars c z x6 a o L b k vars (vars.length:Int) (i:Int)=match kI a.1 (vars.drop i) i o with
   | none=>gV none
   | some x=>uI vars c z x6 a x L b k vars (vars.length:Int) (vars.length:Int)
 | 0,i,o,hm,ho,hb=>by
  obtain rfl:i=vars.length:=by omega
  rw[List.drop_length];rfl
 | m+1,i,o,hm,ho,hb=>by
  have hi:i<vars.length:=by omega
  have hn:vars.length<=4:=by have:=(eX ha).2.2;have h2:=ha.2;omega
  rw[drop_cons hi]
  conv=>rhs;unfold kI
  rw[Sz,aQ hi,cond_true,aA hi];simp only[Option.bind_some];rw[GV];simp only[Option.bind_some];cases Dg:df vars[i]with
  | false=>rfl
  | true =>
   obtain⟨s1,s2⟩:=aa7 (a:=a.1) (o:=o) (i:=i) Dg ho (by rw[ha.2];omega);simp only[Bool.not_true,cond_false,cond_true];rw[s1];simp only[Option.bind_some];rw[s2];simp only[Option.bind_some];have e1:(o.getD (vars[i]).toNat 0).natAbs<=400000000*i:=by
    rw[List.getD_eq_getElem?_getD];cases hg:o[(vars[i]).toNat]? with
    | none=>simp
    | some z=>exact hb z (List.mem_of_getElem? hg)
   have e2:(a.1.getD i 0).natAbs<=400000000:=by
    rw[List.getD_eq_getElem?_getD];cases hg:a.1[i]? with
    | none=>simp
    | some z=>exact (eX ha).1 z (List.mem_of_getElem? hg)
   rw[cj (by omega) (by omega),aN (by omega)];refine S1 vars c z x6 a ha hv L b k m (i+1) _ (by omega) (by simpa using ho) (λy hy=>?_);rcases List.mem_or_eq_of_mem_set hy with hy|rfl
   ·have:=hb y hy;omega
   ·omega
theorem S0(vars:List Int)(c z:ab)(hc:∀a∈c.2,bg n a)(hl:c.2.length<=16)(hv:vars.length=n):∀(m k:Nat) (o:List aa),m+k=c.2.length->o.length=k ->
  yG vars c z (4,o) c.2 (c.2.length:Int) (k:Int)=gV ((mL vars (c.2.drop k) o).map λl=>((4:Int),l))
 | 0,k,o,hm,ho=>by
  obtain rfl:k=c.2.length:=by omega
  rw[Sy,aV,cond_false,List.drop_length];rfl
 | m+1,k,o,hm,ho=>by
  have hk:k<c.2.length:=by omega
  have ha:=hc _ (List.getElem_mem hk);have hn:vars.length<=4:=by have:=(eX ha).2.2;have h2:=ha.2;omega
  rw[Sy,aQ hk,cond_true,drop_cons hk,aA hk];simp only[Option.bind_some];have h9:=S1 vars c z (4,o) (c.2[k]) ha hv c.2 (c.2.length:Int) (k:Int) vars.length 0 (List.replicate (Int.toNat 4) (0:Int)) rfl (by simp) (by simp[List.mem_replicate]);rw[List.drop_zero,Int.natCast_zero]at h9;rw[h9];unfold mL;cases hp:kI (c.2[k]).1 vars 0 (List.replicate (Int.toNat 4) (0:Int))with
  | none=>rfl
  | some x =>
   have hx:=DT (c.2[k]).1 (eX ha).1 vars 0 _ x 0 (by simp) (by simp[List.mem_replicate]) hp;dsimp only;rw[Sz,aV,cond_false];rw[Ve (by rw[hx.1];omega) (λy hy=>by have:=hx.2 y hy;omega) (by have:=(eX ha).2.1;omega)];simp only[Option.bind_some];cases iu:(fR x (c.2[k]).2.1 (c.2[k]).2.2).2 with
   | false=>rfl
   | true =>
    simp only[Bool.not_true,cond_false,cond_true];have d:decide ((o.length+1)*40<=140737488355328)=true:=decide_eq_true (by omega);rw[d,cond_true,aN (by omega)];exact S0 vars c z hc hl hv m (k+1) _ (by omega) (by simp[ho])
theorem ahr(c:ab)(vars:List Int):zX c vars=gV (mK c vars):=by
 rw[ahq,nc];unfold mK;simp only[Option.bind_some];cases hc:bt c with
 | false=>rfl
 | true =>
  obtain⟨k1,k2,k3,k4⟩:=cc.1 hc;simp only[Bool.not_true,cond_false,Bool.true_and,bne];cases hv:((vars.length:Int)==c.1)with
  | false=>rfl
  | true =>
   simp only[Bool.not_true,cond_false,cond_true];have hv:=beq_iff_eq.1 hv;have:=S0 vars c (0,[]) k1 k4 (by omega) c.2.length 0 [] rfl rfl
   rwa [List.drop_zero]at this
def aW(l:List ab):Prop:=l.length<=12/\∀c∈l,bt c=true/\c.1=4
def dF(o:List ab)(c:ab):Option (List ab):=match gz c with
 | none=>none
 | some m=>bif sF m then some o else bif decide (o.length>=12)then none else some (o++[m])
theorem gQ{o:List ab}(ho:aW o)(hc:c.1=4)(h:dF o c=some r):aW r:=by
 unfold dF at h;cases hm:gz c with
 | none=>rw[hm]at h;cases h
 | some m =>
  rw[hm]at h;dsimp only at h;obtain⟨_,m1,m2⟩:=xt hm;cases h3:sF m with
  | true=>rw[h3,cond_true]at h;cases h;exact ho
  | false =>
   rw[h3,cond_false]at h;cases h1:decide (o.length>=12)with
   | true=>rw[h1]at h;cases h
   | false =>
    rw[h1,cond_false]at h;have h2:¬o.length>=12:=of_decide_eq_false h1;cases h;refine⟨by rw[List.length_append,List.length_singleton];omega,λs hs=>?_⟩;rcases List.mem_append.1 hs with k|k
    ·exact ho.2 s k
    ·rw[List.mem_singleton.1 k];exact⟨m1,m2.trans hc⟩
def UL(d:Int)(r:Option (List ab))(e:Option ((aX×Bool×PUnit)×PUnit)):Prop:=match r with
 | some l=>e=some (((d,l),true,()),())
 | none=>∃z,e=some ((z,false,()),())
theorem sh{d:Int}{o:List ab}(hc:bt c=true)(ho:o.length<=12):UL d (dF o c) (hG (d,o) c):=by
 obtain⟨k1,k2,k3,k4⟩:=cc.1 hc;have hn:=mI hc;rw[ai8,sg k2 (by omega) k1 (by omega)];simp only[Option.bind_some];rw[VC hn];unfold dF;have hm:gz c=mH (bR c.1 c.2):=by unfold gz;rw[hc];rfl
 rw[hm];cases h1:mH (bR c.1 c.2)with
 | none=>exact⟨(0,[]),rfl⟩
 | some m =>
  obtain⟨m1,m2,m3,m4⟩:=cc.1 (xt (hm.trans h1)).2.1;unfold gV;simp only[Option.bind_some,Bool.not_true,cond_false];have d0:decide (((m.2.length:Nat):Int)>16)=false:=decide_eq_false (by omega);have d1:decide ((0+o.length)*32<=140737488355328)=true:=decide_eq_true (by omega);have d2:decide ((o.length+1)*32<=140737488355328)=true:=decide_eq_true (by omega);have d3:decide ((((o++[m]).length:Nat):Int)<=12) = !decide (o.length>=12):=by
   rw[List.length_append,List.length_singleton,<-decide_not];congr 1;rw[eq_iff_iff];omega
  rw[d0,cond_false,d1,cond_true,d2,cond_true,d3];have fin:UL d (bif decide (o.length>=12)then none else some (o++[m])) (some (((d,o++[m]),!decide (o.length>=12),()),())):=by
   cases decide (o.length>=12)with
   | true=>exact⟨(d,o++[m]),rfl⟩
   | false=>rfl
  unfold sF eS
  match iu:m.2 with
  | []=>exact fin
  | [a] =>
   have ha:=eX (m1 a (by rw[iu];exact List.mem_singleton.2 rfl));have g0:ae [a] 0=some a:=rfl;rw[show (((([a]:List aa).length:Nat):Int)==1)=true from rfl,cond_true,g0];simp only[Option.bind_some];rw[Vw _ (by omega)];simp only[Option.bind_some];rw[show (!(gl a.1 0 != 0))=(gl a.1 0==0)by simp[bne]];cases gl a.1 0==0 with
   | true=>rfl
   | false=>exact fin
  | a::b::t =>
   have:((((a::b::t:List aa).length:Nat):Int)==1)=false:=by
    rw[beq_eq_false_iff_ne];simp only[List.length_cons];omega
   rw[this];exact fin
def sJ(d:Int)(o:List ab):Option (List ab)->Option ((Bool×PUnit)×aX×PUnit)
 | some r=>some ((true,()),(d,r),())
 | none=>some ((false,()),(d,o),())
theorem rZ{o:List ab}(ho:o.length<=12):nh (d,o) c=sJ d o (dF o c):=by
 rw[ahy,UX];unfold dF;cases h1:gz c with
 | none=>rfl
 | some m =>
  unfold gV;simp only[Option.bind_some,Bool.not_true,cond_false];rw[ahN (xt h1).2.1,apt h1];simp only[Option.bind_some];have d2:decide ((o.length+1)*32<=140737488355328)=true:=decide_eq_true (by omega);have d3:decide (((o.length:Nat):Int)>=12)=decide (o.length>=12):=by rw[Bool.eq_iff_iff];simp;omega
  rw[d3,d2,cond_true];cases sF m with
  | true=>rfl
  | false=>cases decide (o.length>=12)<;>rfl
theorem TA{r:aX}(h:aW r.2)(hd:r.1=4):∀(m i:Nat),m+i=r.2.length->yU r (i:Int)=some ((true,()),())
 | 0,i,hm=>by
  obtain rfl:i=r.2.length:=by omega
  rw[E0,aV,cond_false,hd,iH];have:=h.1;have e:decide (((r.2.length:Nat):Int)<=12)=true:=decide_eq_true (by omega);simp only[Option.bind_some];rw[e];rfl
 | m+1,i,hm=>by
  have hi:i<r.2.length:=by omega
  have dq:i<=12:=by have:=h.1;omega
  obtain⟨c1,c2⟩:=h.2 _ (List.getElem_mem hi);have c4:=(cc.1 c1).2.2.2;rw[E0,aQ hi,cond_true,aA hi];simp only[Option.bind_some];rw[r8 _ (by omega),c1];simp only[Option.bind_some,Bool.not_true,cond_false];rw[c2,hd,aN (by omega)];exact TA h hd m (i+1) (by omega)
theorem r9{l:List ab}(h:aW l):nq (4,l)=some ((true,()),()):=by
 rw[Vq];have:=TA (r:=(4,l)) h rfl l.length 0 rfl
 rwa [Int.natCast_zero]at this
theorem Sl{r:aX}(h:aW r.2)(hd:r.1=4):∀(m i:Nat),m+i=r.2.length->uD r r.2 (r.2.length:Int) (i:Int)=some ((true,()),())
 | 0,i,hm=>by
  obtain rfl:i=r.2.length:=by omega
  rw[Sm,aV,cond_false]
 | m+1,i,hm=>by
  have hi:i<r.2.length:=by omega
  have dq:i<=12:=by have:=h.1;omega
  obtain⟨c1,c2⟩:=h.2 _ (List.getElem_mem hi);rw[Sm,aQ hi,cond_true,aA hi];simp only[Option.bind_some];rw[nc,c1];simp only[Option.bind_some,Bool.not_true,cond_false];rw[c2,hd,aN (by omega)];exact Sl h hd m (i+1) (by omega)
theorem ng{l:List ab}(h:aW l):jS (4,l)=some ((true,()),()):=by
 rw[ahb];have hl:=h.1;have e:decide (((l.length:Nat):Int)>12)=false:=decide_eq_false (by omega);have:=Sl (r:=(4,l)) h rfl l.length 0 rfl;rw[Int.natCast_zero]at this;show (bif decide ((4:Int)<0)then _ else bif decide ((4:Int)>4)then _ else bif decide (((l.length:Nat):Int)>12)then _ else uD (4,l) l (l.length:Int) 0)=_;rw[e,this];rfl
def ez:List ab->List ab->Option (List ab)
 | [],o=>some o
 | c::l,o=>match dF o c with
  | none=>none
  | some o=>ez l o
theorem lZ:∀(l o r:List ab),(∀c∈l,c.1=4)->aW o->ez l o=some r->aW r
 | [],o,r,_,ho,h=>by
  unfold ez at h;cases h;exact ho
 | c::l,o,r,hl,ho,h=>by
  unfold ez at h;cases h1:dF o c with
  | none=>rw[h1]at h;cases h
  | some o2 =>
   rw[h1]at h;exact lZ l o2 r (λx hx=>hl x (List.mem_cons_of_mem _ hx)) (gQ ho (hl c (List.mem_cons_self ..)) h1) h
theorem TM{x z:aX}(hx:aW x.2):∀(m i:Nat) (o:List ab),m+i=x.2.length->aW o->yX x z (4,o) (i:Int)=bZ 4 (ez (x.2.drop i) o)
 | 0,i,o,hm,ho=>by
  obtain rfl:i=x.2.length:=by omega
  rw[TL,aV,cond_false,List.drop_length];rfl
 | m+1,i,o,hm,ho=>by
  have hi:i<x.2.length:=by omega
  have dq:i<=12:=by have:=hx.1;omega
  obtain⟨c1,c2⟩:=hx.2 _ (List.getElem_mem hi);have ha:=sh (d:=4) (o:=o) c1 ho.1;rw[TL,aQ hi,cond_true,aA hi,drop_cons hi];simp only[Option.bind_some];unfold ez;cases h:dF o x.2[i]with
  | none =>
   rw[h]at ha;obtain⟨w,hw⟩:=ha;rw[hw];rfl
  | some r =>
   rw[h]at ha;have ha:hG (4,o) x.2[i]=some (((4,r),true,()),()):=ha;rw[ha];simp only[Option.bind_some,Bool.not_true,cond_false];rw[aN (by omega)];exact TM hx m (i+1) r (by omega) (gQ ho c2 h)
theorem Ha{l:List ab}(h:aW l):sd (4,l)=bZ 4 (ez l []):=by
 rw[aiI,r9 h];simp only[Option.bind_some,Bool.not_true,cond_false];have:=TM (x:=(4,l)) (z:=(0,[])) h l.length 0 [] rfl ⟨by simp,by simp⟩
 rwa [Int.natCast_zero,List.drop_zero]at this
theorem SU{x z:aX}(hx:aW x.2):∀(m i:Nat) (o:List ab),m+i=x.2.length->aW o->yN (some ()) x z (4,o) x.2 (x.2.length:Int) (i:Int)=bZ 4 (ez (x.2.drop i) o)
 | 0,i,o,hm,ho=>by
  obtain rfl:i=x.2.length:=by omega
  rw[SQ,aV,cond_false,List.drop_length];rfl
 | m+1,i,o,hm,ho=>by
  have hi:i<x.2.length:=by omega
  have dq:i<=12:=by have:=hx.1;omega
  obtain⟨c1,c2⟩:=hx.2 _ (List.getElem_mem hi);rw[SQ,aQ hi,cond_true,aA hi,drop_cons hi];simp only[Option.bind_some];rw[ahn];simp only[Option.bind_some,Bool.not_true,cond_false];rw[rZ ho.1];unfold ez;cases h:dF o x.2[i]with
  | none=>rfl
  | some r =>
   unfold sJ;simp only[Option.bind_some,Bool.not_true,cond_false];rw[aN (by omega)];exact SU hx m (i+1) r (by omega) (gQ ho c2 h)
theorem GL{l:List ab}(h:aW l):vc (4,l)=bZ 4 (ez l []):=by
 rw[aho,ng h];simp only[Option.bind_some,Bool.not_true,cond_false];rw[ahY];have:=SU (x:=(4,l)) (z:=(0,[])) h l.length 0 [] rfl ⟨by simp,by simp⟩;rw[Int.natCast_zero,List.drop_zero]at this;refine Eq.trans (congrArg (λe=>Option.bind e _) this) ?_;cases ez l []<;>rfl
def p9(a b:List ab):Option (List ab):=match ez a []with
 | none=>none
 | some x=>match ez b []with
  | none=>none
  | some y=>bif decide (x.length+y.length>12)then none else some (x++y)
theorem en:aW []:=⟨by simp,by simp⟩
theorem alz{a b:List ab}(ha:aW a)(hb:aW b)(h:p9 a b=some r):aW r:=by
 unfold p9 at h;cases h1:ez a []with
 | none=>rw[h1]at h;cases h
 | some x =>
  rw[h1]at h;dsimp only at h;cases h2:ez b []with
  | none=>rw[h2]at h;cases h
  | some y =>
   rw[h2]at h;dsimp only at h;cases h3:decide (x.length+y.length>12)with
   | true=>rw[h3]at h;cases h
   | false =>
    rw[h3]at h;cases h;have hx:=lZ a [] x (λc hc=>(ha.2 c hc).2) en h1;have hy:=lZ b [] y (λc hc=>(hb.2 c hc).2) en h2;have:=of_decide_eq_false h3;refine⟨by rw[List.length_append];omega,λc hc=>?_⟩;rcases List.mem_append.1 hc with hc|hc
    ·exact hx.2 c hc
    ·exact hy.2 c hc
theorem abQ{x y:List ab}(hx:x.length<=12)(hy:y.length<=12):decide (IntKind.i64.wrap ((x.length:Int)+(y.length:Int))>12)=decide (x.length+y.length>12):=by
 rw[cj (by omega) (by omega),Bool.eq_iff_iff];simp;omega
theorem aiP{a b:List ab}(ha:aW a)(hb:aW b):Hc (4,a) (4,b)=bZ 4 (p9 a b):=by
 rw[aiO,Ha ha,Ha hb];unfold p9;cases h1:ez a []with
 | none=>cases ez b []<;>rfl
 | some x =>
  cases h2:ez b []with
  | none=>rfl
  | some y =>
   have hx:=lZ a [] x (λc hc=>(ha.2 c hc).2) en h1;have hy:=lZ b [] y (λc hc=>(hb.2 c hc).2) en h2;have ky:=hx.1;have KM:=hy.1;unfold bZ;simp only[Option.bind_some,Bool.not_true,cond_false,bne_self_eq_false];have d1:decide ((0+x.length)*32<=140737488355328)=true:=decide_eq_true (by omega);have d2:decide ((x.length+y.length)*32<=140737488355328)=true:=decide_eq_true (by omega);rw[abQ ky KM,d1,cond_true,d2,cond_true];cases decide (x.length+y.length>12)<;>rfl
theorem ahv{a b:List ab}(ha:aW a)(hb:aW b):GO (4,a) (4,b)=bZ 4 (p9 a b):=by
 rw[ahu,ng ha];simp only[Option.bind_some,Bool.not_true,cond_false];rw[ng hb];simp only[Option.bind_some,Bool.not_true,cond_false,bne_self_eq_false];rw[GL ha];unfold p9;cases h1:ez a []with
 | none=>rfl
 | some x =>
  have e1:bZ 4 (some x)=some (((4,x),true,()),()):=rfl;rw[e1];simp only[Option.bind_some,Bool.not_true,cond_false];rw[GL hb];cases h2:ez b []with
  | none=>rfl
  | some y =>
   have hx:=lZ a [] x (λc hc=>(ha.2 c hc).2) en h1;have hy:=lZ b [] y (λc hc=>(hb.2 c hc).2) en h2;have ky:=hx.1;have KM:=hy.1;have e2:bZ 4 (some y)=some (((4,y),true,()),()):=rfl;rw[e2];simp only[Option.bind_some,Bool.not_true,cond_false];have d2:decide ((x.length+y.length)*32<=140737488355328)=true:=decide_eq_true (by omega);rw[abQ ky KM,d2,cond_true];cases decide (x.length+y.length>12)<;>rfl
def kd(x:ab):List ab->List ab->Option (List ab)
 | [],o=>some o
 | y::l,o=>bif (cU x y).2 then (match dF o (cU x y).1 with
  | none=>none
  | some o=>kd x l o)else none
def kY(b:List ab):List ab->List ab->Option (List ab)
 | [],o=>some o
 | x::l,o=>match kd x b o with
  | none=>none
  | some o=>kY b l o
theorem tF{x y:ab}(hx:x.1=4)(h:(cU x y).2=true):bt (cU x y).1=true/\(cU x y).1.1=4:=by
 obtain⟨h1,h2,_⟩:=aaj h;refine⟨h1,?_⟩;rw[h2,gE,hx]
theorem CO{x:ab}(hx:x.1=4):∀(l o r:List ab),aW o->kd x l o=some r->aW r
 | [],o,r,ho,h=>by
  unfold kd at h;cases h;exact ho
 | y::l,o,r,ho,h=>by
  unfold kd at h;cases h1:(cU x y).2 with
  | false=>rw[h1]at h;cases h
  | true =>
   rw[h1,cond_true]at h;cases h2:dF o (cU x y).1 with
   | none=>rw[h2]at h;cases h
   | some o2 =>
    rw[h2]at h;exact CO hx l o2 r (gQ ho (tF hx h1).2 h2) h
theorem Xo{b:List ab}:∀(l o r:List ab),(∀c∈l,c.1=4)->aW o->kY b l o=some r->aW r
 | [],o,r,_,ho,h=>by
  unfold kY at h;cases h;exact ho
 | x::l,o,r,hl,ho,h=>by
  unfold kY at h;cases h1:kd x b o with
  | none=>rw[h1]at h;cases h
  | some o2 =>
   rw[h1]at h;exact Xo l o2 r (λc hc=>hl c (List.mem_cons_of_mem _ hc)) (CO (hl x (List.mem_cons_self ..)) b o o2 ho h1) h
theorem TH{a b z:aX}(hb:aW b.2){i:Nat}(hi:i<a.2.length)(hc:bt a.2[i]=true)(hx:(a.2[i]).1=4):∀(m j:Nat) (o:List ab),m+j=b.2.length->aW o ->
  yW a b z (4,o) (i:Int) (j:Int)=match kd a.2[i] (b.2.drop j) o with
   | none=>bZ 4 none
   | some o=>uR a b z (4,o) (IntKind.i64.wrap ((i:Int)+1))
 | 0,j,o,hm,ho=>by
  obtain rfl:j=b.2.length:=by omega
  rw[TJ,aV,cond_false,List.drop_length];rfl
 | m+1,j,o,hm,ho=>by
  have hj:j<b.2.length:=by omega
  have wM:j<=12:=by have:=hb.1;omega
  obtain⟨c1,c2⟩:=hb.2 _ (List.getElem_mem hj);have l1:=(cc.1 hc).2.2.2;have l2:=(cc.1 c1).2.2.2;rw[TJ,aQ hj,cond_true,aA hi,aA hj,drop_cons hj];simp only[Option.bind_some];rw[G9 _ _ (by omega) (by omega)];unfold kd fX;simp only[Option.bind_some];cases h1:(cU a.2[i] b.2[j]).2 with
  | false=>rfl
  | true =>
   obtain⟨d1,d2⟩:=tF hx h1;have ha:=sh (d:=4) (o:=o) d1 ho.1;simp only[Bool.not_true,cond_false,cond_true];cases h2:dF o (cU a.2[i] b.2[j]).1 with
   | none =>
    rw[h2]at ha;obtain⟨w,hw⟩:=ha;rw[hw];rfl
   | some r =>
    rw[h2]at ha;have ha:hG (4,o) (cU a.2[i] b.2[j]).1=some (((4,r),true,()),()):=ha;rw[ha];simp only[Option.bind_some,Bool.not_true,cond_false];rw[aN (by omega)];exact TH hb hi hc hx m (j+1) r (by omega) (gQ ho d2 h2)
theorem TG{a b z:aX}(ha:aW a.2)(hb:aW b.2):∀(m i:Nat) (o:List ab),m+i=a.2.length->aW o->uR a b z (4,o) (i:Int)=bZ 4 (kY b.2 (a.2.drop i) o)
 | 0,i,o,hm,ho=>by
  obtain rfl:i=a.2.length:=by omega
  rw[TI,aV,cond_false,List.drop_length];rfl
 | m+1,i,o,hm,ho=>by
  have hi:i<a.2.length:=by omega
  have dq:i<=12:=by have:=ha.1;omega
  obtain⟨c1,c2⟩:=ha.2 _ (List.getElem_mem hi);have h8:=TH (z:=z) hb hi c1 c2 b.2.length 0 o rfl ho;rw[List.drop_zero,Int.natCast_zero]at h8;rw[TI,aQ hi,cond_true,h8,drop_cons hi];unfold kY;cases h1:kd a.2[i] b.2 o with
  | none=>rfl
  | some o2 =>
   dsimp only;rw[aN (by omega)];exact TG ha hb m (i+1) o2 (by omega) (CO c2 b.2 o o2 ho h1)
theorem aiF{a b:List ab}(ha:aW a)(hb:aW b):Al (4,a) (4,b)=bZ 4 (kY b a []):=by
 rw[aiE,r9 ha];simp only[Option.bind_some,Bool.not_true,cond_false];rw[r9 hb];simp only[Option.bind_some,Bool.not_true,cond_false,bne_self_eq_false];have:=TG (a:=(4,a)) (b:=(4,b)) (z:=(0,[])) ha hb a.length 0 [] rfl en
 rwa [Int.natCast_zero,List.drop_zero]at this
theorem Sr{a b z:aX}(hb:aW b.2){x:ab}(hx:x.1=4)(iG:List ab)(fz fb:Int):∀(m j:Nat) (o:List ab),m+j=b.2.length->aW o ->
  yE a b z (4,o) x iG fz fb b.2 (b.2.length:Int) (j:Int)=match kd x (b.2.drop j) o with
   | none=>bZ 4 none
   | some o=>uF a b z (4,o) iG fz (IntKind.i64.wrap (fb+1))
 | 0,j,o,hm,ho=>by
  obtain rfl:j=b.2.length:=by omega
  rw[Su,aV,cond_false,List.drop_length];rfl
 | m+1,j,o,hm,ho=>by
  have hj:j<b.2.length:=by omega
  have wM:j<=12:=by have:=hb.1;omega
  rw[Su,aQ hj,cond_true,aA hj,drop_cons hj];simp only[Option.bind_some];rw[GK];unfold kd fX;simp only[Option.bind_some];cases h1:(cU x b.2[j]).2 with
  | false=>rfl
  | true =>
   obtain⟨d1,d2⟩:=tF hx h1;simp only[Bool.not_true,cond_false,cond_true];rw[rZ ho.1];cases h2:dF o (cU x b.2[j]).1 with
   | none=>rfl
   | some r =>
    unfold sJ;simp only[Option.bind_some,Bool.not_true,cond_false];rw[aN (by omega)];exact Sr hb hx iG fz fb m (j+1) r (by omega) (gQ ho d2 h2)
theorem Sq{a b z:aX}(ha:aW a.2)(hb:aW b.2):∀(m i:Nat) (o:List ab),m+i=a.2.length->aW o->uF a b z (4,o) a.2 (a.2.length:Int) (i:Int)=bZ 4 (kY b.2 (a.2.drop i) o)
 | 0,i,o,hm,ho=>by
  obtain rfl:i=a.2.length:=by omega
  rw[Ss,aV,cond_false,List.drop_length];rfl
 | m+1,i,o,hm,ho=>by
  have hi:i<a.2.length:=by omega
  have dq:i<=12:=by have:=ha.1;omega
  obtain⟨c1,c2⟩:=ha.2 _ (List.getElem_mem hi);have h8:=Sr (a:=a) (z:=z) hb c2 a.2 (a.2.length:Int) (i:Int) b.2.length 0 o rfl ho;rw[List.drop_zero,Int.natCast_zero]at h8;rw[Ss,aQ hi,cond_true,aA hi,drop_cons hi];simp only[Option.bind_some];rw[h8];unfold kY;cases h1:kd a.2[i] b.2 o with
  | none=>rfl
  | some o2 =>
   dsimp only;rw[aN (by omega)];exact Sq ha hb m (i+1) o2 (by omega) (CO c2 b.2 o o2 ho h1)
theorem ahj{a b:List ab}(ha:aW a)(hb:aW b):zV (4,a) (4,b)=bZ 4 (kY b a []):=by
 rw[ahi,ng ha];simp only[Option.bind_some,Bool.not_true,cond_false];rw[ng hb];simp only[Option.bind_some,Bool.not_true,cond_false,bne_self_eq_false];have:=Sq (a:=(4,a)) (b:=(4,b)) (z:=(0,[])) ha hb a.length 0 [] rfl en
 rwa [Int.natCast_zero,List.drop_zero]at this
def jZ(x:ab):List aa->List aa->List ab->Option (List ab)
 | _,[],o=>some o
 | pre,a::post,o=>bif (cU x (4,pre++[(dO a).1])).2 then (match dF o (cU x (4,pre++[(dO a).1])).1 with
  | none=>none
  | some o=>jZ x (pre++[a]) post o)else none
def kX(m:List aa):List ab->List ab->Option (List ab)
 | [],o=>some o
 | x::l,o=>match jZ x [] m o with
  | none=>none
  | some o=>kX m l o
theorem CN{x:ab}(hx:x.1=4):∀(post pre:List aa) (o r:List ab),aW o->jZ x pre post o=some r->aW r
 | [],pre,o,r,ho,h=>by
  unfold jZ at h;cases h;exact ho
 | a::post,pre,o,r,ho,h=>by
  unfold jZ at h;cases h1:(cU x (4,pre++[(dO a).1])).2 with
  | false=>rw[h1]at h;cases h
  | true =>
   rw[h1,cond_true]at h;cases h2:dF o (cU x (4,pre++[(dO a).1])).1 with
   | none=>rw[h2]at h;cases h
   | some o2 =>
    rw[h2]at h;exact CN hx post _ o2 r (gQ ho (tF hx h1).2 h2) h
theorem JT{m:List aa}:∀(l o r:List ab),(∀c∈l,c.1=4)->aW o->kX m l o=some r->aW r
 | [],o,r,_,ho,h=>by
  unfold kX at h;cases h;exact ho
 | x::l,o,r,hl,ho,h=>by
  unfold kX at h;cases h1:jZ x [] m o with
  | none=>rw[h1]at h;cases h
  | some o2 =>
   rw[h1]at h;exact JT l o2 r (λc hc=>hl c (List.mem_cons_of_mem _ hc)) (CN (hl x (List.mem_cons_self ..)) m [] o o2 ho h1) h
theorem apB(h:bg n a):(dO a).2=true:=by
 unfold dO;rw[h.1];rfl
theorem V2(pre:List α)(a:α)(post:List α):decide ((pre.length:Int)<((pre++a::post).length:Int))=true/\ae (pre++a::post) (pre.length:Int)=some a /\
  (decide ((0:Nat)<=0)&&decide (0<=(pre.length:Int))&&decide ((pre.length:Int)<=((pre++a::post).length:Int)))=true:=by
 refine⟨by simp;omega,?_,by simp;omega⟩;rw[aA (by simp)];simp
theorem TF{z:aX}(hd:x.1=4){i:Nat}(hi:i<x.2.length)(hc:bt x.2[i]=true)(hx:(x.2[i]).1=4)(hm:∀a∈m.2,bg 4 a)(hl:m.2.length<=16):∀(post pre:List aa) (o:List ab),m.2=pre++post->aW o ->
  rU x z m (4,o) (i:Int) (pre.length:Int)=match jZ x.2[i] pre post o with
   | none=>bZ 4 none
   | some o=>uY x z m (4,o) (IntKind.i64.wrap ((i:Int)+1))
 | [],pre,o,he,ho=>by
  rw[Uh,he,List.append_nil,aV,cond_false];rfl
 | a::post,pre,o,he,ho=>by
  obtain⟨e1,e2,e3⟩:=V2 pre a post;have hp:pre.length<=16:=by rw[he,List.length_append]at hl;omega
  have ha:=hm a (by rw[he];simp);have l1:=(cc.1 hc).2.2.2;have d1:decide ((0+pre.length)*40<=140737488355328)=true:=decide_eq_true (by omega);have d2:decide ((pre.length+1)*40<=140737488355328)=true:=decide_eq_true (by omega);have step:rU x z m (4,o) (i:Int) (pre.length:Int)=(sa x.2[i] (4,pre++[(dO a).1])).bind λy=>bif !y.1.2.1 then some (((0,[]),false,()),())else (hG (4,o) y.1.1).bind λy=>bif !y.1.2.1 then some (((0,[]),false,()),())else rU x z m y.1.1 (i:Int) (IntKind.i64.wrap ((pre.length:Int)+1)):=by
   rw[Uh,he,e1,cond_true,e2];simp only[Option.bind_some];rw[Vs];unfold sw;simp only[Option.bind_some];rw[e3,cond_true,Cz,d1,cond_true,d2,cond_true,aA hi,hd];simp only[Option.bind_some]
  rw[step,G9 _ _ (by omega) (by simp;omega)];unfold jZ fX;simp only[Option.bind_some];cases h1:(cU x.2[i] (4,pre++[(dO a).1])).2 with
  | false=>rfl
  | true =>
   obtain⟨c1,c2⟩:=tF hx h1;have sR:=sh (d:=4) (o:=o) c1 ho.1;simp only[Bool.not_true,cond_false,cond_true];cases h2:dF o (cU x.2[i] (4,pre++[(dO a).1])).1 with
   | none =>
    rw[h2]at sR;obtain⟨w,hw⟩:=sR;rw[hw];rfl
   | some r =>
    rw[h2]at sR;have sR:hG (4,o) (cU x.2[i] (4,pre++[(dO a).1])).1=some (((4,r),true,()),()):=sR;rw[sR];simp only[Option.bind_some,Bool.not_true,cond_false];rw[aN (by omega)];have:=TF (z:=z) hd hi hc hx hm hl post (pre++[a]) r (by rw[he];simp) (gQ ho c2 h2);rw[show (pre++[a]).length=pre.length+1 by simp]at this;exact this
theorem TE{x z:aX}{m:ab}(hd:x.1=4)(hx:aW x.2)(hm:∀a∈m.2,bg 4 a)(hl:m.2.length<=16):∀(k i:Nat) (o:List ab),k+i=x.2.length->aW o->uY x z m (4,o) (i:Int)=bZ 4 (kX m.2 (x.2.drop i) o)
 | 0,i,o,hk,ho=>by
  obtain rfl:i=x.2.length:=by omega
  rw[Ug,aV,cond_false,List.drop_length];rfl
 | k+1,i,o,hk,ho=>by
  have hi:i<x.2.length:=by omega
  have dq:i<=12:=by have:=hx.1;omega
  obtain⟨c1,c2⟩:=hx.2 _ (List.getElem_mem hi);have h9:=TF (z:=z) hd hi c1 c2 hm hl m.2 [] o rfl ho;rw[List.length_nil,Int.natCast_zero]at h9;rw[Ug,aQ hi,cond_true,h9,drop_cons hi];unfold kX;cases h1:jZ x.2[i] [] m.2 o with
  | none=>rfl
  | some o2 =>
   dsimp only;rw[aN (by omega)];exact TE hd hx hm hl k (i+1) o2 (by omega) (CN c2 m.2 [] o o2 ho h1)
def oS(r:List ab)(c:ab):Option (List ab):=match gz c with
 | none=>none
 | some m=>kX m.2 r []
theorem Xd{r2:List ab}(hr:aW r)(h:oS r c=some r2):aW r2:=by
 unfold oS at h;cases hm:gz c with
 | none=>rw[hm]at h;cases h
 | some m=>rw[hm]at h;exact JT r [] r2 (λx hx=>(hr.2 x hx).2) en h
theorem aaq(hc:c.1=4)(h:gz c=some m):(∀a∈m.2,bg 4 a)/\m.2.length<=16:=by
 obtain⟨_,m1,m2⟩:=xt h;obtain⟨k1,k2,k3,k4⟩:=cc.1 m1;rw[m2,hc]at k1;exact⟨k1,k4⟩
theorem ajb(hr:aW r)(hc:bt c=true)(h4:c.1=4):Av (4,r) c=bZ 4 (oS r c):=by
 obtain⟨k1,k2,k3,k4⟩:=cc.1 hc;have hn:=mI hc;rw[aja,sg k2 (by omega) k1 (by omega)];simp only[Option.bind_some];rw[VC hn];unfold oS;have hm:gz c=mH (bR c.1 c.2):=by unfold gz;rw[hc];rfl
 rw[hm];cases h1:mH (bR c.1 c.2)with
 | none=>rfl
 | some m =>
  obtain⟨m1,m2⟩:=aaq h4 (hm.trans h1);unfold gV;simp only[Option.bind_some,Bool.not_true,cond_false];have:=TE (x:=(4,r)) (z:=(0,[])) (m:=m) rfl hr m1 m2 r.length 0 [] rfl en
  rwa [Int.natCast_zero,List.drop_zero]at this
theorem Td{z:aX}(hd:x.1=4)(hx:c.1=4)(hm:∀a∈m.2,bg 4 a)(hl:m.2.length<=16)(cD:List ab)(dA cE:Int):∀(post pre:List aa) (o:List ab),m.2=pre++post->aW o ->
  rJ x m z (4,o) c cD dA cE m.2 (m.2.length:Int) (pre.length:Int)=match jZ c pre post o with
   | none=>bZ 4 none
   | some o=>uP x m z (4,o) cD dA (IntKind.i64.wrap (cE+1))
 | [],pre,o,he,ho=>by
  rw[Ta,he,List.append_nil,aV,cond_false];rfl
 | a::post,pre,o,he,ho=>by
  obtain⟨e1,e2,e3⟩:=V2 pre a post;have hp:pre.length<=16:=by rw[he,List.length_append]at hl;omega
  have ha:=hm a (by rw[he];simp);have d1:decide ((0+pre.length)*40<=140737488355328)=true:=decide_eq_true (by omega);have d2:decide ((pre.length+1)*40<=140737488355328)=true:=decide_eq_true (by omega);have step:rJ x m z (4,o) c cD dA cE m.2 (m.2.length:Int) (pre.length:Int)=(rX c (4,pre++[(dO a).1])).bind λy=>bif !y.1.2.1 then some (((0,[]),false,()),())else (nh (4,o) y.1.1).bind λy=>bif !y.1.1 then some (((0,[]),false,()),())else rJ x m z y.2.1 c cD dA cE m.2 (m.2.length:Int) (IntKind.i64.wrap ((pre.length:Int)+1)):=by
   rw[Ta,he,e1,cond_true,e2];simp only[Option.bind_some];rw[UZ];unfold sw;simp only[Option.bind_some];rw[apB ha,Bool.not_true,cond_false,e3,cond_true,Cz,d1,cond_true,d2,cond_true,hd]
  rw[step,GK];unfold jZ fX;simp only[Option.bind_some];cases h1:(cU c (4,pre++[(dO a).1])).2 with
  | false=>rfl
  | true =>
   obtain⟨c1,c2⟩:=tF hx h1;simp only[Bool.not_true,cond_false,cond_true];rw[rZ ho.1];cases h2:dF o (cU c (4,pre++[(dO a).1])).1 with
   | none=>rfl
   | some r =>
    unfold sJ;simp only[Option.bind_some,Bool.not_true,cond_false];rw[aN (by omega)];have:=Td (z:=z) hd hx hm hl cD dA cE post (pre++[a]) r (by rw[he];simp) (gQ ho c2 h2);rw[show (pre++[a]).length=pre.length+1 by simp]at this;exact this
theorem Tc{x z:aX}(hd:x.1=4)(hx:aW x.2)(hm:∀a∈m.2,bg 4 a)(hl:m.2.length<=16):∀(k i:Nat) (o:List ab),k+i=x.2.length->aW o->uP x m z (4,o) x.2 (x.2.length:Int) (i:Int)=bZ 4 (kX m.2 (x.2.drop i) o)
 | 0,i,o,hk,ho=>by
  obtain rfl:i=x.2.length:=by omega
  rw[S9,aV,cond_false,List.drop_length];rfl
 | k+1,i,o,hk,ho=>by
  have hi:i<x.2.length:=by omega
  have dq:i<=12:=by have:=hx.1;omega
  obtain⟨c1,c2⟩:=hx.2 _ (List.getElem_mem hi);have h6:=Td (z:=z) hd c2 hm hl x.2 (x.2.length:Int) (i:Int) m.2 [] o rfl ho;rw[List.length_nil,Int.natCast_zero]at h6;rw[S9,aQ hi,cond_true,aA hi,drop_cons hi];simp only[Option.bind_some];rw[h6];unfold kX;cases h1:jZ x.2[i] [] m.2 o with
  | none=>rfl
  | some o2 =>
   dsimp only;rw[aN (by omega)];exact Tc hd hx hm hl k (i+1) o2 (by omega) (CN c2 m.2 [] o o2 ho h1)
theorem aie(hr:aW r)(hm:∀a∈m.2,bg 4 a)(hl:m.2.length<=16):Af (4,r) m=bZ 4 (kX m.2 r []):=by
 rw[aid];have:=Tc (x:=(4,r)) (z:=(0,[])) rfl hr hm hl r.length 0 [] rfl en
 rwa [Int.natCast_zero,List.drop_zero]at this
def nC:List ab->List ab->Option (List ab)
 | [],o=>some o
 | c::l,o=>match oS o c with
  | none=>none
  | some o=>nC l o
theorem Xe:∀(l o r:List ab),aW o->nC l o=some r->aW r
 | [],o,r,ho,h=>by
  unfold nC at h;cases h;exact ho
 | c::l,o,r,ho,h=>by
  unfold nC at h;cases h1:oS o c with
  | none=>rw[h1]at h;cases h
  | some o2=>rw[h1]at h;exact Xe l o2 r (Xd ho h1) h
def nD(a b:List ab):Option (List ab):=match ez a []with
 | none=>none
 | some o=>nC b o
theorem als{a b:List ab}(ha:aW a)(h:nD a b=some r):aW r:=by
 unfold nD at h;cases h1:ez a []with
 | none=>rw[h1]at h;cases h
 | some o=>rw[h1]at h;exact Xe b o r (lZ a [] o (λc hc=>(ha.2 c hc).2) en h1) h
theorem Tf{b z:aX}(hb:aW b.2):∀(m i:Nat) (o:List ab),m+i=b.2.length->aW o->yP b z (4,o) (i:Int)=bZ 4 (nC (b.2.drop i) o)
 | 0,i,o,hm,ho=>by
  obtain rfl:i=b.2.length:=by omega
  rw[Tg,aV,cond_false,List.drop_length];rfl
 | m+1,i,o,hm,ho=>by
  have hi:i<b.2.length:=by omega
  have dq:i<=12:=by have:=hb.1;omega
  obtain⟨c1,c2⟩:=hb.2 _ (List.getElem_mem hi);rw[Tg,aQ hi,cond_true,aA hi,drop_cons hi];simp only[Option.bind_some];rw[ajb ho c1 c2];unfold nC;cases h:oS o b.2[i]with
  | none=>rfl
  | some r =>
   unfold bZ;simp only[Option.bind_some,Bool.not_true,cond_false];rw[aN (by omega)];have:=Tf (z:=z) hb m (i+1) r (by omega) (Xd ho h);exact this
theorem aik{a b:List ab}(ha:aW a)(hb:aW b):Ah (4,a) (4,b)=bZ 4 (nD a b):=by
 rw[aij,Ha ha];unfold nD;cases h1:ez a []with
 | none=>rfl
 | some o =>
  have e1:bZ 4 (some o)=some (((4,o),true,()),()):=rfl;rw[e1];simp only[Option.bind_some,Bool.not_true,cond_false];rw[r9 hb];simp only[Option.bind_some,Bool.not_true,cond_false,bne_self_eq_false];have:=Tf (b:=(4,b)) (z:=(0,[])) hb b.length 0 o rfl (lZ a [] o (λc hc=>(ha.2 c hc).2) en h1)
  rwa [Int.natCast_zero,List.drop_zero]at this
theorem R8{b z:aX}(hb:aW b.2):∀(m i:Nat) (o:List ab),m+i=b.2.length->aW o->yA b z (4,o) b.2 (b.2.length:Int) (i:Int)=bZ 4 (nC (b.2.drop i) o)
 | 0,i,o,hm,ho=>by
  obtain rfl:i=b.2.length:=by omega
  rw[R9,aV,cond_false,List.drop_length];rfl
 | m+1,i,o,hm,ho=>by
  have hi:i<b.2.length:=by omega
  have dq:i<=12:=by have:=hb.1;omega
  obtain⟨c1,c2⟩:=hb.2 _ (List.getElem_mem hi);rw[R9,aQ hi,cond_true,aA hi,drop_cons hi];simp only[Option.bind_some];rw[UX];unfold nC oS;cases h0:gz b.2[i]with
  | none=>rfl
  | some mm =>
   obtain⟨m1,m2⟩:=aaq c2 h0;unfold gV;simp only[Option.bind_some,Bool.not_true,cond_false];rw[aie ho m1 m2];cases h:kX mm.2 o []with
   | none=>rfl
   | some r =>
    unfold bZ;simp only[Option.bind_some,Bool.not_true,cond_false];rw[aN (by omega)];have:=R8 (z:=z) hb m (i+1) r (by omega) (JT o [] r (λx hx=>(ho.2 x hx).2) en h);exact this
theorem agT{a b:List ab}(ha:aW a)(hb:aW b):zK (4,a) (4,b)=bZ 4 (nD a b):=by
 rw[agS,ng ha];simp only[Option.bind_some,Bool.not_true,cond_false];rw[ng hb];simp only[Option.bind_some,Bool.not_true,cond_false,bne_self_eq_false];rw[GL ha];unfold nD;cases h1:ez a []with
 | none=>rfl
 | some o =>
  have e1:bZ 4 (some o)=some (((4,o),true,()),()):=rfl;rw[e1];simp only[Option.bind_some,Bool.not_true,cond_false];have:=R8 (b:=(4,b)) (z:=(0,[])) hb b.length 0 o rfl (lZ a [] o (λc hc=>(ha.2 c hc).2) en h1)
  rwa [Int.natCast_zero,List.drop_zero]at this
def l9(r:List ab):Option (List ab):=nD [(4,[])] r
theorem LC:aW [((4,[]):ab)]:=⟨by simp,λc hc=>by
 rw[List.mem_singleton.1 hc];exact⟨cc.2 ⟨by simp,by show (0:Int)<=4;omega,by show (4:Int)<=4;omega,by simp⟩,rfl⟩⟩
theorem G3(h:aW r):vm (4,r)=bZ 4 (l9 r):=by
 rw[aii,r9 h];simp only[Option.bind_some,Bool.not_true,cond_false];rw[ai9];simp only[Option.bind_some];rw[aik LC h];unfold l9;cases nD [(4,[])] r<;>rfl
theorem GD(h:aW r):u5 (4,r)=bZ 4 (l9 r):=by
 rw[agR,ng h];simp only[Option.bind_some,Bool.not_true,cond_false];rw[ah3];simp only[Option.bind_some];rw[agT LC h];unfold l9;cases nD [(4,[])] r<;>rfl
def ie(v:Nat):List ab->List ab->Option (List ab)
 | [],o=>some o
 | c::l,o=>bif (dK (bR c.1 c.2) v).2 then (match dF o (dK (bR c.1 c.2) v).1 with
  | none=>none
  | some o=>ie v l o)else none
theorem JA(hc:bt c=true)(h4:c.1=4)(h:(dK (bR c.1 c.2) v).2=true):bt (dK (bR c.1 c.2) v).1=true/\(dK (bR c.1 c.2) v).1.1=4:=by
 have:=Jz (mI hc) h;exact⟨this.1,by rw[this.2,gE,h4]⟩
theorem JB:∀(l o r:List ab),(∀c∈l,bt c=true/\c.1=4)->aW o->ie v l o=some r->aW r
 | [],o,r,_,ho,h=>by
  unfold ie at h;cases h;exact ho
 | c::l,o,r,hl,ho,h=>by
  unfold ie at h;have hc:=hl c (List.mem_cons_self ..);cases h1:(dK (bR c.1 c.2) v).2 with
  | false=>rw[h1]at h;cases h
  | true =>
   rw[h1,cond_true]at h;cases h2:dF o (dK (bR c.1 c.2) v).1 with
   | none=>rw[h2]at h;cases h
   | some o2=>rw[h2]at h;exact JB l o2 r (λx hx=>hl x (List.mem_cons_of_mem _ hx)) (gQ ho (JA hc.1 hc.2 h1).2 h2) h
theorem Th{x z:aX}(hd:x.1=4)(hv:v<4)(hx:aW x.2):∀(m i:Nat) (o:List ab),m+i=x.2.length->aW o->yQ (v:Int) x z (4,o) (i:Int)=bZ 4 (ie v (x.2.drop i) o)
 | 0,i,o,hm,ho=>by
  obtain rfl:i=x.2.length:=by omega
  rw[Ti,aV,cond_false,List.drop_length];rfl
 | m+1,i,o,hm,ho=>by
  have hi:i<x.2.length:=by omega
  have dq:i<=12:=by have:=hx.1;omega
  obtain⟨c1,c2⟩:=hx.2 _ (List.getElem_mem hi);obtain⟨k1,k2,k3,k4⟩:=cc.1 c1;rw[Ti,aQ hi,cond_true,aA hi,drop_cons hi];simp only[Option.bind_some];rw[hd,<-c2,sg k2 (by omega) k1 (by omega)];simp only[Option.bind_some];rw[VB (mI c1) (by rw[gE,c2];exact hv)];unfold ie fX;simp only[Option.bind_some];cases h1:(dK (bR (x.2[i]).1 (x.2[i]).2) v).2 with
  | false=>rw[c2];rfl
  | true =>
   obtain⟨d1,d2⟩:=JA c1 c2 h1;have ha:=sh (d:=(x.2[i]).1) (o:=o) d1 ho.1;simp only[Bool.not_true,cond_false,cond_true];cases h2:dF o (dK (bR (x.2[i]).1 (x.2[i]).2) v).1 with
   | none =>
    rw[h2]at ha;obtain⟨w,hw⟩:=ha;rw[hw,c2];rfl
   | some r =>
    rw[h2]at ha;have ha:hG ((x.2[i]).1,o) (dK (bR (x.2[i]).1 (x.2[i]).2) v).1=some ((((x.2[i]).1,r),true,()),()):=ha;rw[ha];simp only[Option.bind_some,Bool.not_true,cond_false];rw[aN (by omega),c2];exact Th hd hv hx m (i+1) r (by omega) (gQ ho d2 h2)
theorem Vl{r:List ab}{v:Nat}(hv:v<4)(h:aW r):r6 (4,r) (v:Int)=bZ 4 (ie v r []):=by
 rw[Vk,r9 h];simp only[Option.bind_some,Bool.not_true,cond_false];rw[iH,show IntKind.i64.wrap (4 - 1)=3 from by decide];have e:(decide ((0:Int)<=(v:Int))&&decide ((v:Int)<=3))=true:=by simp;omega
 simp only[Option.bind_some];rw[e];have:=Th (x:=(4,r)) (z:=(0,[])) rfl hv h r.length 0 [] rfl en
 rwa [Int.natCast_zero,List.drop_zero]at this
theorem agU(hc:bt c=true)(h4:c.1=4)(hv:v<4):GF c (some (v:Int))=fX (dK (bR c.1 c.2) v):=by
 obtain⟨k1,k2,k3,k4⟩:=cc.1 hc;rw[agV,U0,nc,hc];simp only[Option.bind_some,Bool.not_true,cond_false];rw[Ac k2 (by omega) k1 (by omega)];simp only[Option.bind_some,Bool.not_true,cond_false];rw[UQ (mI hc) (by rw[gE,h4];exact hv)];rfl
theorem SS{x z:aX}(hv:v<4)(hx:aW x.2):∀(m i:Nat) (o:List ab),m+i=x.2.length->aW o->yM (some (some (v:Int),())) x z (4,o) x.2 (x.2.length:Int) (i:Int)=bZ 4 (ie v (x.2.drop i) o)
 | 0,i,o,hm,ho=>by
  obtain rfl:i=x.2.length:=by omega
  rw[SP,aV,cond_false,List.drop_length];rfl
 | m+1,i,o,hm,ho=>by
  have hi:i<x.2.length:=by omega
  have dq:i<=12:=by have:=hx.1;omega
  obtain⟨c1,c2⟩:=hx.2 _ (List.getElem_mem hi);rw[SP,aQ hi,cond_true,aA hi,drop_cons hi];simp only[Option.bind_some];rw[agU c1 c2 hv];unfold ie fX;simp only[Option.bind_some];cases h1:(dK (bR (x.2[i]).1 (x.2[i]).2) v).2 with
  | false=>rfl
  | true =>
   obtain⟨d1,d2⟩:=JA c1 c2 h1;simp only[Bool.not_true,cond_false,cond_true];rw[rZ ho.1];cases h2:dF o (dK (bR (x.2[i]).1 (x.2[i]).2) v).1 with
   | none=>rfl
   | some r =>
    unfold sJ;simp only[Option.bind_some,Bool.not_true,cond_false];rw[aN (by omega)];exact SS hv hx m (i+1) r (by omega) (gQ ho d2 h2)
theorem UP{r:List ab}{v:Nat}(hv:v<4)(h:aW r):zM (4,r) (v:Int)=bZ 4 (ie v r []):=by
 rw[agW,ng h];simp only[Option.bind_some,Bool.not_true,cond_false];have e1:decide ((v:Int)<0)=false:=decide_eq_false (by omega);have e2:decide ((v:Int)>=4)=false:=decide_eq_false (by omega);rw[e1,e2,ahX];have:=SS (x:=(4,r)) (z:=(0,[])) hv h r.length 0 [] rfl en;rw[Int.natCast_zero,List.drop_zero]at this;refine Eq.trans (congrArg (λe=>Option.bind e _) this) ?_;cases ie v r []<;>rfl
def qU(lab:ByteArray)(r:Rw):Bool:=emp lab||r.1.toList==lab.toList
def eo(lab:ByteArray)(l:List Rw):List ab:=(l.filter (qU lab)).map (·.2)
theorem abw(lab:ByteArray)(r:Rw)(A B:R):(bif lab.toList==(ByteArray.mk #[]).toList then A else bif ByteArray.toList r.1==lab.toList then A else B)=bif qU lab r then A else B:=by
 unfold qU emp;cases (lab.toList==(ByteArray.mk #[]).toList)<;>rfl
theorem abv(lab:ByteArray)(r:Rw)(l:List Rw):eo lab (r::l)=bif qU lab r then r.2::eo lab l else eo lab l:=by
 unfold eo;rw[List.filter_cons];cases qU lab r<;>rfl
theorem LS{r:Rel}(h:jc r=true):r.2.2.length<=8/\∀x∈r.2.2,bt x.2=true:=by
 unfold jc at h;simp only[Bool.and_eq_true,decide_eq_true_eq,List.all_eq_true]at h;refine⟨by omega,λx hx=>?_⟩;have:=h.2.2.2 x hx;unfold tR at this;simp only[Bool.and_eq_true]at this;exact this.2.1
theorem EZ{lab:ByteArray}{r:Rel}{z:aX}{d:Int}(hr:jc r=true):∀(m i:Nat) (o:List ab),m+i=r.2.2.length->o.length<=i->rK lab r z (d,o) (i:Int)=some (((d,o++eo lab (r.2.2.drop i)),true,()),())
 | 0,i,o,hm,ho=>by
  obtain rfl:i=r.2.2.length:=by omega
  rw[Te,aV,cond_false,List.drop_length];simp[eo]
 | m+1,i,o,hm,ho=>by
  have hi:i<r.2.2.length:=by omega
  obtain⟨h1,h2⟩:=LS hr;have hd:decide ((o.length+1)*32<=140737488355328)=true:=decide_eq_true (by omega);rw[Te,aQ hi,cond_true,aA hi,drop_cons hi,abv];simp only[Option.bind_some];rw[abw,(Cx (h2 _ (List.getElem_mem hi))).1];simp only[Option.bind_some];rw[hd,cond_true,aN (by omega)];cases qU lab r.2.2[i]with
  | true =>
   simp only[cond_true];rw[EZ hr m (i+1) _ (by omega) (by simp;omega),List.append_assoc];rfl
  | false =>
   simp only[cond_false];rw[EZ hr m (i+1) o (by omega) (by omega)]
theorem aih{r:Rel}(hr:jc r=true)(hg:gL r)(lab:ByteArray):Ag r lab=some (((r.2.1,eo lab r.2.2),true,()),()):=by
 rw[aif,Vr r hg,hr];simp only[Option.bind_some,Bool.not_true,cond_false];have:=EZ (lab:=lab) (z:=(0,[])) (d:=r.2.1) hr r.2.2.length 0 [] rfl (by simp)
 rwa [Int.natCast_zero,List.drop_zero,List.nil_append]at this
theorem EV{lab:ByteArray}{r:Rel}{z:aX}{d:Int}(hr:jc r=true):∀(m i:Nat) (o:List ab),m+i=r.2.2.length->o.length<=i->rE lab r z (d,o) r.2.2 (r.2.2.length:Int) (i:Int)=some (((d,o++eo lab (r.2.2.drop i)),true,()),())
 | 0,i,o,hm,ho=>by
  obtain rfl:i=r.2.2.length:=by omega
  rw[R7,aV,cond_false,List.drop_length];simp[eo]
 | m+1,i,o,hm,ho=>by
  have hi:i<r.2.2.length:=by omega
  obtain⟨h1,h2⟩:=LS hr;have hd:decide ((o.length+1)*32<=140737488355328)=true:=decide_eq_true (by omega);rw[R7,aQ hi,cond_true,aA hi,drop_cons hi,abv];simp only[Option.bind_some];rw[abw,(Cx (h2 _ (List.getElem_mem hi))).2];simp only[Option.bind_some];rw[hd,cond_true,aN (by omega)];cases qU lab r.2.2[i]with
  | true =>
   simp only[cond_true];rw[EV hr m (i+1) _ (by omega) (by simp;omega),List.append_assoc];rfl
  | false =>
   simp only[cond_false];rw[EV hr m (i+1) o (by omega) (by omega)]
theorem agO{r:Rel}(hr:jc r=true)(lab:ByteArray):zJ r lab=some (((r.2.1,eo lab r.2.2),true,()),()):=by
 rw[agN,UW r,hr];simp only[Option.bind_some,Bool.not_true,cond_false];have:=EV (lab:=lab) (z:=(0,[])) (d:=r.2.1) hr r.2.2.length 0 [] rfl (by simp)
 rwa [Int.natCast_zero,List.drop_zero,List.nil_append]at this
theorem aqD(lab:ByteArray)(l:List Rw):(eo lab l).length<=l.length:=by
 unfold eo;rw[List.length_map];exact List.length_filter_le ..
theorem aqE{lab:ByteArray}{l:List Rw}(h:∀x∈l,bt x.2=true):∀c∈eo lab l,bt c=true:=λc hc=>by
 unfold eo at hc;obtain⟨x,hx,rfl⟩:=List.mem_map.1 hc;exact h x (List.mem_filter.1 hx).1
def mP(vars:List Int):List ab->List ab->Option (List ab)
 | [],o=>some o
 | c::l,o=>match mK c vars with
  | none=>none
  | some x=>match dF o x with
   | none=>none
   | some o=>mP vars l o
theorem abn{vars:List Int}:∀(l o r:List ab),aW o->mP vars l o=some r->aW r
 | [],o,r,ho,h=>by
  unfold mP at h;cases h;exact ho
 | c::l,o,r,ho,h=>by
  unfold mP at h;cases h1:mK c vars with
  | none=>rw[h1]at h;cases h
  | some x =>
   rw[h1]at h;dsimp only at h;cases h2:dF o x with
   | none=>rw[h2]at h;cases h
   | some o2=>rw[h2]at h;exact abn l o2 r (gQ ho (LM h1).2 h2) h
theorem TQ{n:ak}{z:aX}{x:aX}(hx:∀c∈x.2,bt c=true)(hl:x.2.length<=1000):∀(m i:Nat) (o:List ab),m+i=x.2.length->aW o->zc n z (4,o) x (i:Int)=bZ 4 (mP n.2.2.2.2.1 (x.2.drop i) o)
 | 0,i,o,hm,ho=>by
  obtain rfl:i=x.2.length:=by omega
  rw[Uk,aV,cond_false,List.drop_length];rfl
 | m+1,i,o,hm,ho=>by
  have hi:i<x.2.length:=by omega
  have hc:=hx _ (List.getElem_mem hi);have l1:=(cc.1 hc).2.2.2;rw[Uk,aQ hi,cond_true,aA hi,drop_cons hi];simp only[Option.bind_some];rw[aiL _ _ (by omega)];unfold mP;cases h1:mK x.2[i] n.2.2.2.2.1 with
  | none=>rfl
  | some y =>
   obtain⟨y1,y2⟩:=LM h1;have ha:=sh (d:=4) (o:=o) y1 ho.1;unfold gV;simp only[Option.bind_some,Bool.not_true,cond_false];cases h2:dF o y with
   | none =>
    rw[h2]at ha;obtain⟨w,hw⟩:=ha;rw[hw];rfl
   | some r =>
    rw[h2]at ha;have ha:hG (4,o) y=some (((4,r),true,()),()):=ha;rw[ha];simp only[Option.bind_some,Bool.not_true,cond_false];rw[aN (by omega)];exact TQ hx hl m (i+1) r (by omega) (gQ ho y2 h2)
theorem SV{n:ak}{z:aX}{x:aX}(hl:x.2.length<=1000):∀(m i:Nat) (o:List ab),m+i=x.2.length->aW o->uN (some (some n,())) x z (4,o) x.2 (x.2.length:Int) (i:Int)=bZ 4 (mP n.2.2.2.2.1 (x.2.drop i) o)
 | 0,i,o,hm,ho=>by
  obtain rfl:i=x.2.length:=by omega
  rw[SR,aV,cond_false,List.drop_length];rfl
 | m+1,i,o,hm,ho=>by
  have hi:i<x.2.length:=by omega
  rw[SR,aQ hi,cond_true,aA hi,drop_cons hi];simp only[Option.bind_some];rw[ah8];simp only[Option.bind_some];rw[ahr];unfold mP;cases h1:mK x.2[i] n.2.2.2.2.1 with
  | none=>rfl
  | some y =>
   obtain⟨y1,y2⟩:=LM h1;unfold gV;simp only[Option.bind_some,Bool.not_true,cond_false];rw[rZ ho.1];cases h2:dF o y with
   | none=>rfl
   | some r =>
    unfold sJ;simp only[Option.bind_some,Bool.not_true,cond_false];rw[aN (by omega)];exact SV hl m (i+1) r (by omega) (gQ ho y2 h2)
def kc(K:List (List ab))(a:Int):List ab:=K.getD a.toNat []
def G4(K:List (List ab)):List aX:=K.map λl=>((4:Int),l)
theorem oB{a:Int}(h0:0<=a)(h1:a<K.length):ae (G4 K) a=some (4,kc K a):=by
 have ax:a.toNat<(G4 K).length:=by unfold G4;rw[List.length_map];omega
 have amy:a.toNat<K.length:=by omega
 have:=aA (xs:=G4 K) (i:=a.toNat) ax;rw[show ((a.toNat:Nat):Int)=a by omega]at this;rw[this];unfold kc;rw[List.getD_eq_getElem?_getD,List.getElem?_eq_getElem amy];have e:(G4 K)[a.toNat]=((4:Int),K[a.toNat]):=by simp[G4]
 exact congrArg some e
theorem Dr(hK:∀l∈K,aW l)(a:Int):aW (kc K a):=by
 unfold kc;rw[List.getD_eq_getElem?_getD];cases hg:K[a.toNat]? with
 | none=>exact en
 | some l=>exact hK l (List.mem_of_getElem? hg)
def om(db:List Rel)(n:ak)(K:List (List ab)):Option (List ab):=
 bif n.1==0 then dF [] (4,[n.2.1])
 else bif n.1==1 then (match ae db (dp (named n.2.2.1) db)with
  | some r=>mP n.2.2.2.2.1 (eo n.2.2.2.1 r.2.2) []
  | none=>none)
 else bif n.1==2 then l9 (kc K n.2.2.2.2.2.2.1)
 else bif n.1==3 then kY (kc K n.2.2.2.2.2.2.2) (kc K n.2.2.2.2.2.2.1) []
 else bif n.1==4 then p9 (kc K n.2.2.2.2.2.2.1) (kc K n.2.2.2.2.2.2.2)
 else bif n.1==5 then ie n.2.2.2.2.2.1.toNat (kc K n.2.2.2.2.2.2.1) []
 else match l9 (kc K n.2.2.2.2.2.2.1)with
  | none=>none
  | some o=>match ie n.2.2.2.2.2.1.toNat o []with
   | none=>none
   | some o=>l9 o
theorem JQ{a:List ab}(h:l9 a=some r):aW r:=als LC h
theorem apd{db:List Rel}{n:ak}(h:dU db n=true)(h0:n.1=0):bt (4,[n.2.1])=true/\n.2.1.1.length=4:=by
 unfold dU iX at h;simp only[Bool.and_eq_true]at h;have h5:=h.2.2.2.2;rw[h0]at h5;simp only[beq_self_eq_true,cond_true,Bool.and_eq_true,beq_iff_eq]at h5;have hl:n.2.1.1.length=4:=by omega
 exact⟨cc.2 ⟨λa ha=>by rw[List.mem_singleton.1 ha];exact⟨h5.1,hl⟩,by show (0:Int)<=4;omega,by show (4:Int)<=4;omega,by simp⟩,hl⟩
theorem apc{db:List Rel}{n:ak}(h:dU db n=true)(h1:n.1=1):∃r,ae db (dp (named n.2.2.1) db)=some r:=by
 unfold dU iX at h;simp only[Bool.and_eq_true]at h;have h5:=h.2.2.2.2;rw[h1]at h5;simp only[show ((1:Int)==0)=false from rfl,beq_self_eq_true,cond_true,cond_false]at h5;unfold po at h5;cases hg:ae db (dp (named n.2.2.1) db)with
 | some r=>exact⟨r,rfl⟩
 | none=>rw[hg]at h5;simp at h5
theorem Z3{db:List Rel}{n:ak}(h:dU db n=true)(h1:n.1=5\/n.1=6):0<=n.2.2.2.2.2.1/\n.2.2.2.2.2.1<=3:=by
 unfold dU iX at h;simp only[Bool.and_eq_true]at h;have h5:=h.2.2.2.2;rcases h1 with h1|h1
 ·rw[h1]at h5;simp only[show ((5:Int)==0)=false from rfl,show ((5:Int)==1)=false from rfl,cond_false,Bool.and_eq_true]at h5;unfold df at h5;simpa using h5.2
 ·rw[h1]at h5;simp only[show ((6:Int)==0)=false from rfl,show ((6:Int)==1)=false from rfl,cond_false,Bool.and_eq_true]at h5;unfold df at h5;simpa using h5.2
theorem ape{db:List Rel}{n:ak}(h:dU db n=true):n.1=0\/n.1=1\/n.1=2\/n.1=3\/n.1=4\/n.1=5\/n.1=6:=by
 rw[LD]at h;simp only[Bool.and_eq_true,decide_eq_true_eq]at h;omega
theorem abI{db:List Rel}{n:ak}(hK:∀l∈K,aW l)(h:om db n K=some r):aW r:=by
 have ka:=Dr hK n.2.2.2.2.2.2.1;have kb:=Dr hK n.2.2.2.2.2.2.2;unfold om at h;cases h0:n.1==0 with
 | true=>rw[h0,cond_true]at h;exact gQ en rfl h
 | false =>
  rw[h0,cond_false]at h;cases h1:n.1==1 with
  | true =>
   rw[h1,cond_true]at h;cases hg:ae db (dp (named n.2.2.1) db)with
   | none=>rw[hg]at h;cases h
   | some rl=>rw[hg]at h;exact abn _ _ _ en h
  | false =>
   rw[h1,cond_false]at h;cases h2:n.1==2 with
   | true=>rw[h2,cond_true]at h;exact JQ h
   | false =>
    rw[h2,cond_false]at h;cases h3:n.1==3 with
    | true=>rw[h3,cond_true]at h;exact Xo _ _ _ (λc hc=>(ka.2 c hc).2) en h
    | false =>
     rw[h3,cond_false]at h;cases h4:n.1==4 with
     | true=>rw[h4,cond_true]at h;exact alz ka kb h
     | false =>
      rw[h4,cond_false]at h;cases h5:n.1==5 with
      | true=>rw[h5,cond_true]at h;exact JB _ _ _ ka.2 en h
      | false =>
       rw[h5,cond_false]at h;cases h6:l9 (kc K n.2.2.2.2.2.2.1)with
       | none=>rw[h6]at h;cases h
       | some o =>
        rw[h6]at h;dsimp only at h;cases h7:ie n.2.2.2.2.2.1.toNat o []with
        | none=>rw[h7]at h;cases h
        | some o2=>rw[h7]at h;exact JQ h
def GC(K:List (List ab))(r:Option (List ab))(e:Option ((aX×Bool×PUnit)×List aX×PUnit)):Prop:=match r with
 | some l=>e=some (((4,l),true,()),G4 K,())
 | none=>∃z,e=some ((z,false,()),G4 K,())
theorem kS(K:List (List ab))(r:Option (List ab)):GC K r ((bZ 4 r).bind λy=>some ((y.1.1,y.1.2.1,()),G4 K,())):=by
 cases r with
 | none=>exact⟨(0,[]),rfl⟩
 | some l=>rfl
theorem alw{x:List α}{i:Int}{y:α}(h:ae x i=some y):y∈x:=by
 by_cases h0:0<=i
 ·by_cases ax:i.toNat<x.length
  ·have:=aA (xs:=x) ax;rw[show ((i.toNat:Nat):Int)=i by omega,h]at this;injection this with this;rw[this];exact List.getElem_mem ax
  ·exfalso;have:ae x i=none:=by
    unfold ae
    first
    | rw[if_neg (by omega)]
    | (simp;omega)
   rw[h]at this;cases this
 ·exfalso;rw[alx x (by omega)]at h;cases h
theorem VQ{p:Nat->Bool}:∀{n i:Nat},oF p n i=true->∀j,i<=j->j<i+n->p j=true
 | 0,i,_,j,h1,h2=>by omega
 | n+1,i,h,j,h1,h2=>by
  simp only[oF,Bool.and_eq_true]at h;by_cases e:j=i
  ·subst e;exact h.1
  ·exact VQ h.2 j (by omega) (by omega)
theorem ak0{db:List Rel}(h:gi db=true){r:Rel}(hr:r∈db):jc r=true:=by
 obtain⟨i,hi,rfl⟩:=List.getElem_of_mem hr;unfold gi at h;rw[Bool.and_eq_true]at h;have:=VQ h.1 i (by omega) (by omega);unfold oL at this;rw[List.getElem?_eq_getElem hi]at this;simp only[Bool.and_eq_true]at this;exact this.1
theorem abO{db:List Rel}{n:ak}(sY:gi db=true)(hd:zL zQ db<=68719476736)(hN:dU db n=true)(hK:∀l∈K,aW l)
  (hA:1<=ar n.1->0<=n.2.2.2.2.2.2.1/\n.2.2.2.2.2.2.1<K.length) (hB:ar n.1=2->0<=n.2.2.2.2.2.2.2/\n.2.2.2.2.2.2.2<K.length) :
  GC K (om db n K) (Ax db n (G4 K))/\GC K (om db n K) (Ab db n (G4 K)):=by
 have ka:=Dr hK n.2.2.2.2.2.2.1;have kb:=Dr hK n.2.2.2.2.2.2.2;rw[aji,ah0];unfold om;rcases ape hN with h|h|h|h|h|h|h
 ·obtain⟨hc,hl⟩:=apd hN h;rw[h];simp only[beq_self_eq_true,cond_true];rw[GQ _ (by omega)];simp only[Option.bind_some];rw[rZ (by simp)];have ha:=sh (d:=4) (o:=[]) hc (by simp);cases hb:dF [] (4,[n.2.1])with
  | none =>
   rw[hb]at ha;obtain⟨w,hw⟩:=ha;rw[hw];exact⟨⟨w,rfl⟩,⟨(4,[]),rfl⟩⟩
  | some r =>
   rw[hb]at ha;have ha:hG (4,[]) (4,[n.2.1])=some (((4,r),true,()),()):=ha;rw[ha];exact⟨rfl,rfl⟩
 ·obtain⟨rl,hr⟩:=apc hN h;have qp:=alw hr;have nL:=(oR hd).2 rl qp;have Kt:=ak0 sY qp;obtain⟨r1,r2⟩:=LS Kt;have bd:=aqD n.2.2.2.1 rl.2.2;rw[h];simp only[show ((1:Int)==0)=false from rfl,beq_self_eq_true,cond_true,cond_false];rw[ajh,G6 db _ (oR hd).1,ah9,GH db _ (oR hd).1];simp only[Option.bind_some];rw[hr];simp only[Option.bind_some];rw[aih Kt nL,agO Kt];simp only[Option.bind_some,Bool.not_true,cond_false];rw[ahZ];have hs:=TQ (n:=n) (z:=(0,[])) (x:=(rl.2.1,eo n.2.2.2.1 rl.2.2)) (aqE r2) (by show (eo n.2.2.2.1 rl.2.2).length<=1000;omega) (eo n.2.2.2.1 rl.2.2).length 0 [] rfl en;have hi:=SV (n:=n) (z:=(0,[])) (x:=(4,eo n.2.2.2.1 rl.2.2)) (by show (eo n.2.2.2.1 rl.2.2).length<=1000;omega) (eo n.2.2.2.1 rl.2.2).length 0 [] rfl en;rw[Int.natCast_zero,List.drop_zero]at hs hi;rw[hs];refine⟨kS K _,?_⟩;have dq:uN (some (some n,())) (4,eo n.2.2.2.1 rl.2.2) (0,[]) (4,[]) (eo n.2.2.2.1 rl.2.2) ((eo n.2.2.2.1 rl.2.2).length:Int) 0=_:=hi;rw[dq];cases mP n.2.2.2.2.1 (eo n.2.2.2.1 rl.2.2) []with
  | none=>exact⟨(0,[]),rfl⟩
  | some l=>rfl
 ·obtain⟨a1,a2⟩:=hA (by rw[h];decide);rw[h];simp only[show ((2:Int)==0)=false from rfl,show ((2:Int)==1)=false from rfl,beq_self_eq_true,cond_true,cond_false];rw[oB a1 a2];simp only[Option.bind_some];rw[G3 ka,GD ka];exact⟨kS K _,kS K _⟩
 ·obtain⟨a1,a2⟩:=hA (by rw[h];decide);obtain⟨b1,b2⟩:=hB (by rw[h];decide);rw[h];simp only[show ((3:Int)==0)=false from rfl,show ((3:Int)==1)=false from rfl,show ((3:Int)==2)=false from rfl,beq_self_eq_true,cond_true,cond_false];rw[oB a1 a2,oB b1 b2];simp only[Option.bind_some];rw[aiF ka kb,ahj ka kb];exact⟨kS K _,kS K _⟩
 ·obtain⟨a1,a2⟩:=hA (by rw[h];decide);obtain⟨b1,b2⟩:=hB (by rw[h];decide);rw[h];simp only[show ((4:Int)==0)=false from rfl,show ((4:Int)==1)=false from rfl,show ((4:Int)==2)=false from rfl,show ((4:Int)==3)=false from rfl,beq_self_eq_true,cond_true,cond_false];rw[oB a1 a2,oB b1 b2];simp only[Option.bind_some];rw[aiP ka kb,ahv ka kb];exact⟨kS K _,kS K _⟩
 ·obtain⟨a1,a2⟩:=hA (by rw[h];decide);obtain⟨v1,v2⟩:=Z3 hN (.inl h);have hv:n.2.2.2.2.2.1=((n.2.2.2.2.2.1.toNat:Nat):Int):=by omega
  have hs:=Vl (r:=kc K n.2.2.2.2.2.2.1) (v:=n.2.2.2.2.2.1.toNat) (by omega) ka;have hi:=UP (r:=kc K n.2.2.2.2.2.2.1) (v:=n.2.2.2.2.2.1.toNat) (by omega) ka;rw[<-hv]at hs hi;rw[h];simp only[show ((5:Int)==0)=false from rfl,show ((5:Int)==1)=false from rfl,show ((5:Int)==2)=false from rfl,show ((5:Int)==3)=false from rfl,show ((5:Int)==4)=false from rfl,beq_self_eq_true,cond_true,cond_false];rw[oB a1 a2];simp only[Option.bind_some];rw[hs,hi];exact⟨kS K _,kS K _⟩
 ·obtain⟨a1,a2⟩:=hA (by rw[h];decide);obtain⟨v1,v2⟩:=Z3 hN (.inr h);have hv:n.2.2.2.2.2.1=((n.2.2.2.2.2.1.toNat:Nat):Int):=by omega
  rw[h];simp only[show ((6:Int)==0)=false from rfl,show ((6:Int)==1)=false from rfl,show ((6:Int)==2)=false from rfl,show ((6:Int)==3)=false from rfl,show ((6:Int)==4)=false from rfl,show ((6:Int)==5)=false from rfl,cond_false];rw[oB a1 a2];simp only[Option.bind_some];rw[G3 ka,GD ka];cases hc:l9 (kc K n.2.2.2.2.2.2.1)with
  | none =>
   have e0:bZ 4 none=some (((0,[]),false,()),()):=rfl;rw[e0];simp only[Option.bind_some,Bool.not_false,cond_true];refine⟨?_,⟨(0,[]),rfl⟩⟩;have hz:r6 (0,[]) n.2.2.2.2.2.1=some (((0,[]),false,()),()):=by
    rw[Vk,Vq,E0];simp only[iH,Option.bind_some];have e1:(decide ((0:Int)<=n.2.2.2.2.2.1)&&decide (n.2.2.2.2.2.1<=IntKind.i64.wrap (0 - 1)))=false:=by
     rw[show IntKind.i64.wrap (0 - 1) = -1 from by decide];simp;omega
    rw[e1];rfl
   rw[hz];exact⟨(0,[]),rfl⟩
  | some o =>
   have ho:=JQ hc;have e0:bZ 4 (some o)=some (((4,o),true,()),()):=rfl;have hs:=Vl (r:=o) (v:=n.2.2.2.2.2.1.toNat) (by omega) ho;have hi:=UP (r:=o) (v:=n.2.2.2.2.2.1.toNat) (by omega) ho;rw[<-hv]at hs hi;rw[e0];simp only[Option.bind_some,Bool.not_true,cond_false];rw[hs,hi];cases sZ:ie n.2.2.2.2.2.1.toNat o []with
   | none=>exact⟨⟨(0,[]),rfl⟩,⟨(0,[]),rfl⟩⟩
   | some o2 =>
    have kn:=JB o [] o2 ho.2 en sZ;have e2:bZ 4 (some o2)=some (((4,o2),true,()),()):=rfl;rw[e2];simp only[Option.bind_some,Bool.not_true,cond_false];rw[G3 kn,GD kn];exact⟨kS K _,kS K _⟩
theorem arw{n:ak}{i:Int}{T T':List Int}(h:eE n i T=some T')(hi:0<=i)(hT:∀t∈T,0<=t/\t<i):
  (∀t∈T',0<=t/\t<i+1)/\(1<=ar n.1->0<=n.2.2.2.2.2.2.1/\n.2.2.2.2.2.2.1<i)/\(ar n.1=2->0<=n.2.2.2.2.2.2.2/\n.2.2.2.2.2.2.2<i):=by
 unfold eE at h;have up:∀(U:List Int),(∀t∈U,0<=t/\t<i)->∀t∈i::U,0<=t/\t<i+1:=λU hU t ht=>by
  rcases List.mem_cons.1 ht with rfl|ht
  ·omega
  ·have:=hU t ht;omega
 rcases VT n.1 with e|e|e
 ·rw[e]at h;cases h;exact⟨up T hT,by omega,by omega⟩
 ·rw[e]at h;cases T with
  | nil=>cases h
  | cons r T =>
   cases hr:r==n.2.2.2.2.2.2.1 with
   | false=>simp only[hr,cond_false]at h;cases h
   | true =>
    simp only[hr,cond_true]at h;cases h;have hr:=beq_iff_eq.1 hr;have h1:=hT r (List.mem_cons_self ..);exact⟨up T λt ht=>hT t (List.mem_cons_of_mem _ ht),λ_=>hr▸h1,by omega⟩
 ·rw[e]at h;cases T with
  | nil=>cases h
  | cons r T =>
   cases T with
   | nil=>cases h
   | cons s T =>
    cases hr:r==n.2.2.2.2.2.2.2 with
    | false=>simp only[hr,cond_false]at h;cases h
    | true =>
     simp only[hr,cond_true]at h;cases hs:s==n.2.2.2.2.2.2.1 with
     | false=>simp only[hs,cond_false]at h;cases h
     | true =>
      simp only[hs,cond_true]at h;cases h;have hr:=beq_iff_eq.1 hr;have hs:=beq_iff_eq.1 hs;have h1:=hT r (List.mem_cons_self ..);have h2:=hT s (List.mem_cons_of_mem _ (List.mem_cons_self ..));exact⟨up T λt ht=>hT t (List.mem_cons_of_mem _ (List.mem_cons_of_mem _ ht)),λ_=>hs▸h2,λ_=>hr▸h1⟩
theorem W4(db:List Rel):∀(l:List ak) (i:Int) (T:List Int),jY db l i T=true->0<=i->(∀t∈T,0<=t/\t<i)->∀(j:Nat) (hj:j<l.length),
  dU db l[j]=true/\(1<=ar (l[j]).1->0<=(l[j]).2.2.2.2.2.2.1/\(l[j]).2.2.2.2.2.2.1<i+j)/\(ar (l[j]).1=2->0<=(l[j]).2.2.2.2.2.2.2/\(l[j]).2.2.2.2.2.2.2<i+j)
 | [],_,_,_,_,_,j,hj=>by simp at hj
 | n::l,i,T,h,hi,hT,j,hj=>by
  unfold jY at h;cases h1:dU db n with
  | false=>rw[h1]at h;cases h
  | true =>
   rw[h1,cond_true]at h;cases h2:eE n i T with
   | none=>rw[h2]at h;cases h
   | some T' =>
    rw[h2]at h;dsimp only at h;obtain⟨k1,k2,k3⟩:=arw h2 hi hT;cases j with
    | zero =>
     refine⟨h1,λh=>?_,λh=>?_⟩
     ·have:=k2 h;simp only[List.getElem_cons_zero];omega
     ·have:=k3 h;simp only[List.getElem_cons_zero];omega
    | succ j =>
     have:=W4 db l (i+1) T' h (by omega) k1 j (by simpa using hj);simp only[List.getElem_cons_succ];refine⟨this.1,λh=>?_,λh=>?_⟩
     ·have:=this.2.1 h;omega
     ·have:=this.2.2 h;omega
def jl(db:List Rel):List ak->List (List ab)->Option (List (List ab))
 | [],K=>some K
 | n::l,K=>match om db n K with
  | none=>none
  | some r=>jl db l (K++[r])
theorem QO(K:List (List ab))(r:List ab):G4 K++[(4,r)]=G4 (K++[r]):=by unfold G4;simp
theorem EE(K:List (List ab)):(G4 K).length=K.length:=by unfold G4;simp
theorem QR(hK:∀l∈K,aW l)(hr:aW r):∀l∈K++[r],aW l:=λl hl=>by
 rcases List.mem_append.1 hl with h|h
 ·exact hK l h
 ·rw[List.mem_singleton.1 h];exact hr
def tQ:Option (List (List ab))->Option ((List aX×Bool×PUnit)×PUnit)
 | some R=>some ((G4 R,true,()),())
 | none=>some (([],false,()),())
section
variable{db:List Rel}{f:List ak}(sY:gi db=true)(hd:zL zQ db<=68719476736)(hf:f.length<=12)(o4:∀(j:Nat) (hj:j<f.length),dU db f[j]=true/\(1<=ar (f[j]).1->0<=(f[j]).2.2.2.2.2.2.1/\(f[j]).2.2.2.2.2.2.1<(j:Int))/\(ar (f[j]).1=2->0<=(f[j]).2.2.2.2.2.2.2/\(f[j]).2.2.2.2.2.2.2<(j:Int)))
include sY hd hf o4
theorem Uq:∀(m i:Nat) (K:List (List ab)),m+i=f.length->K.length=i->(∀l∈K,aW l)->uZ db f (G4 K) (i:Int)=tQ (jl db (f.drop i) K)
 | 0,i,K,hm,hl,hK=>by
  obtain rfl:i=f.length:=by omega
  rw[Uj,aV,cond_false,List.drop_length];rfl
 | m+1,i,K,hm,hl,hK=>by
  have hi:i<f.length:=by omega
  obtain⟨f1,f3,f4⟩:=o4 i hi;have iv:=(abO sY hd f1 hK (by rw[hl];exact f3) (by rw[hl];exact f4)).1;rw[Uj,aQ hi,cond_true,aA hi,drop_cons hi];simp only[Option.bind_some];unfold jl;cases hr:om db f[i] K with
  | none =>
   rw[hr]at iv;obtain⟨z,hz⟩:=iv;rw[hz];rfl
  | some r =>
   rw[hr]at iv;have iv:Ax db f[i] (G4 K)=some (((4,r),true,()),G4 K,()):=iv;rw[iv];simp only[Option.bind_some,Bool.not_true,cond_false];have kZ:decide (((G4 K).length+1)*32<=140737488355328)=true:=decide_eq_true (by rw[EE];omega);rw[kZ,cond_true,aN (by omega),QO];exact Uq m (i+1) (K++[r]) (by omega) (by simp[hl]) (QR hK (abI hK hr))
theorem S6:∀(m i:Nat) (K:List (List ab)),m+i=f.length->K.length=i->(∀l∈K,aW l)->uO db f (G4 K) f (f.length:Int) (i:Int)=tQ (jl db (f.drop i) K)
 | 0,i,K,hm,hl,hK=>by
  obtain rfl:i=f.length:=by omega
  rw[S5,aV,cond_false,List.drop_length];rfl
 | m+1,i,K,hm,hl,hK=>by
  have hi:i<f.length:=by omega
  obtain⟨f1,f3,f4⟩:=o4 i hi;have iv:=(abO sY hd f1 hK (by rw[hl];exact f3) (by rw[hl];exact f4)).2;rw[S5,aQ hi,cond_true,aA hi,drop_cons hi];simp only[Option.bind_some];unfold jl;cases hr:om db f[i] K with
  | none =>
   rw[hr]at iv;obtain⟨z,hz⟩:=iv;rw[hz];rfl
  | some r =>
   rw[hr]at iv;have iv:Ab db f[i] (G4 K)=some (((4,r),true,()),G4 K,()):=iv;rw[iv];simp only[Option.bind_some,Bool.not_true,cond_false];have kZ:decide (((G4 K).length+1)*32<=140737488355328)=true:=decide_eq_true (by rw[EE];omega);rw[kZ,cond_true,aN (by omega),QO];exact S6 m (i+1) (K++[r]) (by omega) (by simp[hl]) (QR hK (abI hK hr))
omit sY hd hf o4 in
theorem IN:∀(l:List ak) (K R:List (List ab)),jl db l K=some R->R.length=K.length+l.length
 | [],K,R,h=>by
  unfold jl at h;cases h;rfl
 | n::l,K,R,h=>by
  unfold jl at h;cases hr:om db n K with
  | none=>rw[hr]at h;cases h
  | some r =>
   rw[hr]at h;have:=IN l _ R h;rw[this,List.length_append,List.length_singleton,List.length_cons];omega
end
def Z4(K:List (List ab)):List ab:=kc K ((K.length:Int) - 1)
def p4(db:List Rel)(f:List ak):Option (List ab):=bif ga db f then (jl db f []).map Z4 else none
theorem WW{db:List Rel}{f:List ak}(h:ga db f=true):gi db=true/\f.length≠0/\f.length<=12/\∀(j:Nat) (hj:j<f.length),dU db f[j]=true/\(1<=ar (f[j]).1->0<=(f[j]).2.2.2.2.2.2.1/\(f[j]).2.2.2.2.2.2.1<(j:Int))/\(ar (f[j]).1=2->0<=(f[j]).2.2.2.2.2.2.2/\(f[j]).2.2.2.2.2.2.2<(j:Int)):=by
 unfold ga at h;simp only[Bool.and_eq_true,decide_eq_true_eq]at h;obtain⟨h1,⟨h3,h4⟩,h5⟩:=h;refine⟨h1,by omega,by omega,λj hj=>?_⟩;obtain⟨k1,k2,k3⟩:=W4 db f 0 [] h5 (by omega) (by simp) j hj;refine⟨k1,λh=>?_,λh=>?_⟩
 ·have:=k2 h;omega
 ·have:=k3 h;omega
theorem Z6{R:List (List ab)}(h:R.length≠0)(h2:R.length<=1000):ae (G4 R) (IntKind.i64.wrap (((G4 R).length:Int) - 1))=some (4,Z4 R):=by
 rw[EE,cj (by omega) (by omega)];exact oB (by omega) (by omega)
theorem aim{db:List Rel}{f:List ak}(hd:zL zQ db<=68719476736)(hf:zL zN f<=68719476736):G5 db f=bZ 4 (p4 db f):=by
 rw[ail,Vo db f (oR hd) (sI hf)];unfold p4;simp only[Option.bind_some];cases h:ga db f with
 | false=>rfl
 | true =>
  obtain⟨a0,a1,a2,a3⟩:=WW h;have hr:=Uq a0 hd a2 a3 f.length 0 [] rfl rfl (by simp);rw[List.drop_zero,Int.natCast_zero]at hr;have hr:uZ db f [] 0=tQ (jl db f []):=hr;simp only[Bool.not_true,cond_false,cond_true];rw[ajg,hr];cases hR:jl db f []with
  | none=>rfl
  | some R =>
   have hl:=IN f [] R hR;have e:tQ (some R)=some ((G4 R,true,()),()):=rfl;rw[e];simp only[Option.bind_some,Bool.not_true,cond_false];rw[Z6 (by simp at hl;omega) (by simp at hl;omega)];rfl
theorem agZ{db:List Rel}{f:List ak}(hd:zL zQ db<=68719476736)(hf:zL zN f<=68719476736):GG db f=bZ 4 (p4 db f):=by
 rw[agY,ah7,UT db f (sI hf)];unfold p4;simp only[Option.bind_some];cases h:ga db f with
 | false=>rfl
 | true =>
  obtain⟨a0,a1,a2,a3⟩:=WW h;have hr:=S6 a0 hd a2 a3 f.length 0 [] rfl rfl (by simp);rw[List.drop_zero,Int.natCast_zero]at hr;have hr:uO db f [] f (f.length:Int) 0=tQ (jl db f []):=hr;simp only[Bool.not_true,cond_false,cond_true];rw[hr];cases hR:jl db f []with
  | none=>rfl
  | some R =>
   have hl:=IN f [] R hR;have e:tQ (some R)=some ((G4 R,true,()),()):=rfl;rw[e];simp only[Option.bind_some,Bool.not_true,cond_false];rw[Z6 (by simp at hl;omega) (by simp at hl;omega)];rfl
def mw(db:List Rel)(f:List ak):Bool×Bool:=bif qS db f then (match p4 db f with
 | some l=>(decide (l.length>0),true)
 | none=>(false,false))else (false,false)
theorem Xq(n:Nat):decide ((n:Int)>0)=decide (n>0):=by rw[Bool.eq_iff_iff];simp
theorem aiN{db:List Rel}{f:List ak}(hd:zL zQ db<=68719476736)(hf:zL zN f<=68719476736):Hb db f=iD (mw db f):=by
 rw[aiM,aiA db f hd hf];unfold mw;simp only[Option.bind_some];cases h:qS db f with
 | false=>rfl
 | true =>
  simp only[Bool.not_true,cond_false,cond_true];rw[aim hd hf];cases p4 db f with
  | none=>rfl
  | some l =>
   unfold bZ iD;simp only[Option.bind_some,cond_true];rw[Xq]
theorem aht{db:List Rel}{f:List ak}(hd:zL zQ db<=68719476736)(hf:zL zN f<=68719476736):GN db f=iD (mw db f):=by
 rw[ahs,ahe db f hf];unfold mw;simp only[Option.bind_some];cases h:qS db f with
 | false=>rfl
 | true =>
  simp only[Bool.not_true,cond_false,cond_true];rw[agZ hd hf];cases p4 db f with
  | none=>rfl
  | some l =>
   unfold bZ iD;simp only[Option.bind_some,cond_true];rw[Xq]
def iw(db:List Rel)(f:List ak):Bool:=(mw db f).2&&(mw db f).1
theorem TU{db:List Rel}{R:List (List ak)}(hd:zL zQ db<=68719476736)(hR:∀f∈R,zL zN f<=68719476736)(hl:R.length<=68719476736):∀(m i:Nat),m+i=R.length->ze db R (i:Int)=some (((R.drop i).all (iw db),()),())
 | 0,i,hm=>by
  obtain rfl:i=R.length:=by omega
  rw[Un,aV,cond_false,List.drop_length];rfl
 | m+1,i,hm=>by
  have hi:i<R.length:=by omega
  rw[Un,aQ hi,cond_true,aA hi,drop_cons hi,List.all_cons];simp only[Option.bind_some];rw[aiN hd (hR _ (List.getElem_mem hi)),aN (by omega),TU hd hR hl m (i+1) (by omega)];unfold iD iw;simp only[Option.bind_some];cases (mw db R[i]).2<;>cases (mw db R[i]).1<;>rfl
theorem SM{db:List Rel}{R:List (List ak)}(hd:zL zQ db<=68719476736)(hR:∀f∈R,zL zN f<=68719476736)(hl:R.length<=68719476736):∀(m i:Nat),m+i=R.length->yH db R R (R.length:Int) (i:Int)=some (((R.drop i).all (iw db),()),())
 | 0,i,hm=>by
  obtain rfl:i=R.length:=by omega
  rw[SB,aV,cond_false,List.drop_length];rfl
 | m+1,i,hm=>by
  have hi:i<R.length:=by omega
  rw[SB,aQ hi,cond_true,aA hi,drop_cons hi,List.all_cons];simp only[Option.bind_some];rw[aht hd (hR _ (List.getElem_mem hi)),aN (by omega),SM hd hR hl m (i+1) (by omega)];unfold iD iw;simp only[Option.bind_some];cases (mw db R[i]).2<;>cases (mw db R[i]).1<;>rfl
theorem ajn{db:List Rel}{R:List (List ak)}(hd:zL zQ db<=68719476736)(hR:∀f∈R,zL zN f<=68719476736)(hl:R.length<=68719476736):Az db R=some ((R.all (iw db),()),()):=by
 rw[ajm];have:=TU hd hR hl R.length 0 rfl
 rwa [Int.natCast_zero,List.drop_zero]at this
theorem ahA{db:List Rel}{R:List (List ak)}(hd:zL zQ db<=68719476736)(hR:∀f∈R,zL zN f<=68719476736)(hl:R.length<=68719476736):zY db R=some ((R.all (iw db),()),()):=by
 rw[ahz];have:=SM hd hR hl R.length 0 rfl
 rwa [Int.natCast_zero,List.drop_zero]at this
def pr(p:Rel×Rel):Bool:=p.1.1.toList==p.2.1.toList&&p.1.2.1==p.2.2.1
def alike(a b:List Rel):Bool:=(List.zip a b).all pr&&(a.length:Int)==(b.length:Int)
theorem akC(a b:List Rel):alike a b=alike b a:=by
 have key:∀(a b:List Rel),(List.zip a b).all pr=(List.zip b a).all pr:=by
  intro a;induction a with
  | nil=>intro b;cases b<;>rfl
  | cons x a ih =>
   intro b;cases b with
   | nil=>rfl
   | cons y b =>
    simp only[List.zip_cons_cons,List.all_cons];rw[ih b];congr 1;unfold pr;rw[Bool.eq_iff_iff];simp only[Bool.and_eq_true,beq_iff_eq];constructor<;>(rintro⟨h1,h2⟩;exact⟨h1.symm,h2.symm⟩)
 unfold alike;rw[key a b];congr 1;rw[Bool.eq_iff_iff];simp only[beq_iff_eq];omega
theorem TT{a b:List Rel}(ha:a.length<=68719476736):∀(m i:Nat),m+i=a.length->zd a b (i:Int)=some (((List.zip (a.drop i) (b.drop i)).all pr&&(a.length:Int)==(b.length:Int),()),())
 | 0,i,hm=>by
  obtain rfl:i=a.length:=by omega
  rw[Um,aV,cond_false,List.drop_length];rfl
 | m+1,i,hm=>by
  have hi:i<a.length:=by omega
  rw[Um,aQ hi,cond_true];by_cases hj:i<b.length
  ·rw[aQ hj,cond_true,aA hi,aA hj,drop_cons hi,drop_cons hj,List.zip_cons_cons,List.all_cons];simp only[Option.bind_some];rw[aN (by omega),TT ha m (i+1) (by omega)];unfold pr bne;cases (ByteArray.toList (a[i]).1==ByteArray.toList (b[i]).1)<;>cases ((a[i]).2.1==(b[i]).2.1)<;>rfl
  ·have e:decide ((i:Int)<(b.length:Int))=false:=decide_eq_false (by omega);rw[e,cond_false,show b.drop i=[]from List.drop_eq_nil_of_le (by omega),List.zip_nil_right];rfl
theorem ajl{a b:List Rel}(ha:a.length<=68719476736):Ay a b=some ((alike a b,()),()):=by
 rw[ajk];have:=TT (b:=b) ha a.length 0 rfl
 rwa [Int.natCast_zero,List.drop_zero,List.drop_zero]at this
theorem S8{a b:List Rel}(ha:a.length<=68719476736)(gk:a.length=b.length):∀(m i:Nat),m+i=a.length->yO a b (a.length:Int) (i:Int)=some (((List.zip (a.drop i) (b.drop i)).all pr,()),())
 | 0,i,hm=>by
  obtain rfl:i=a.length:=by omega
  rw[S7,aV,cond_false,List.drop_length];rfl
 | m+1,i,hm=>by
  have hi:i<a.length:=by omega
  have hj:i<b.length:=by omega
  rw[S7,aQ hi,cond_true,aA hi,aA hj,drop_cons hi,drop_cons hj,List.zip_cons_cons,List.all_cons];simp only[Option.bind_some];rw[aN (by omega),S8 ha gk m (i+1) (by omega)];unfold pr bne;cases (ByteArray.toList (a[i]).1==ByteArray.toList (b[i]).1)<;>cases ((a[i]).2.1==(b[i]).2.1)<;>rfl
theorem aib{a b:List Rel}(ha:a.length<=68719476736):Ad a b=some ((alike a b,()),()):=by
 rw[aia];unfold alike bne;cases h:((a.length:Int)==(b.length:Int))with
 | false=>rw[Bool.and_false];rfl
 | true =>
  have gk:a.length=b.length:=by have:=beq_iff_eq.1 h;omega
  have:=S8 ha gk a.length 0 rfl;rw[Int.natCast_zero,List.drop_zero,List.drop_zero]at this;rw[Bool.and_true,<-this];rfl
def lN(s:dn)(v:List Rel):Bool:=gi v&&alike v (s.2.getD 0 [])
def D4(s:dn):Bool:=s.2.all (lN s)&&((decide (1<=(s.2.length:Int))&&decide ((s.2.length:Int)<=10))&&(!decide ((s.1.length:Int)>4)&&s.2.all (λv=>s.1.all (iw v))))
structure sk (s:dn):Prop where
 v:s.2.length<=68719476736
 r:s.1.length<=68719476736
 dv:∀v∈s.2,zL zQ v<=68719476736
 dr:∀f∈s.1,zL zN f<=68719476736
theorem abS(h:zS s<=68719476736):sk s:=by
 have hz:zS s=zL (zL zN) s.1+zL (zL zQ) s.2:=rfl;exact⟨Nat.le_trans (gG (zL zQ) _) (by omega),Nat.le_trans (gG (zL zN) _) (by omega),λv hv=>Nat.le_trans (gh (zL zQ) hv) (by omega),λf hf=>Nat.le_trans (gh (zL zN) hf) (by omega)⟩
theorem Xk{x:List α}{d:α}(h:0<x.length):ae x 0=some (x.getD 0 d):=by
 have:=aA (xs:=x) (i:=0) h;rw[Int.natCast_zero]at this;rw[this,List.getD_eq_getElem?_getD,List.getElem?_eq_getElem h];rfl
theorem TS(hs:sk s):∀(m i:Nat),m+i=s.2.length->yV s (i:Int)=some (((s.2.drop i).all (λv=>s.1.all (iw v)),()),())
 | 0,i,hm=>by
  obtain rfl:i=s.2.length:=by omega
  rw[TD,aV,cond_false,List.drop_length];rfl
 | m+1,i,hm=>by
  have hi:i<s.2.length:=by omega
  have:=hs.v;rw[TD,aQ hi,cond_true,aA hi,drop_cons hi,List.all_cons];simp only[Option.bind_some];rw[ajn (hs.dv _ (List.getElem_mem hi)) hs.dr hs.r,aN (by omega),TS hs m (i+1) (by omega)];simp only[Option.bind_some];cases s.1.all (iw s.2[i])<;>rfl
theorem TR(hs:sk s):∀(m i:Nat),m+i=s.2.length->uQ s (i:Int)=bif (s.2.drop i).all (lN s)then uQ s (s.2.length:Int)else some ((false,()),())
 | 0,i,hm=>by
  obtain rfl:i=s.2.length:=by omega
  rw[List.drop_length];rfl
 | m+1,i,hm=>by
  have hi:i<s.2.length:=by omega
  have:=hs.v;have hz:=hs.dv _ (List.getElem_mem hi);have h0:s.2.getD 0 []∈s.2:=by
   rw[List.getD_eq_getElem?_getD,List.getElem?_eq_getElem (by omega)];exact List.getElem_mem _
  rw[TC,aQ hi,cond_true,aA hi,drop_cons hi,List.all_cons];simp only[Option.bind_some];rw[Vm _ (oR hz),Xk (d:=[]) (by omega)];simp only[Option.bind_some];rw[ajl (oR (hs.dv _ h0)).1,aN (by omega),TR hs m (i+1) (by omega),akC];unfold lN;simp only[Option.bind_some];cases gi s.2[i]<;>cases alike s.2[i] (s.2.getD 0 [])<;>rfl
theorem aiC(hs:sk s):Ak s=some ((D4 s,()),()):=by
 rw[aiB];have h2:=TR hs s.2.length 0 rfl;have h9:=TS hs s.2.length 0 rfl;rw[Int.natCast_zero,List.drop_zero]at h2 h9;rw[h2,TC,aV,cond_false,iH];simp only[Option.bind_some];rw[h9];unfold D4;cases s.2.all (lN s)with
 | false=>rfl
 | true =>
  cases (decide (1<=(s.2.length:Int))&&decide ((s.2.length:Int)<=10))with
  | false=>rfl
  | true=>cases decide ((s.1.length:Int)>4)<;>rfl
theorem SA(hs:sk s):∀(m i:Nat),m+i=s.2.length->yD s s.2 (s.2.length:Int) (i:Int)=some (((s.2.drop i).all (λv=>lN s v&&s.1.all (iw v)),()),())
 | 0,i,hm=>by
  obtain rfl:i=s.2.length:=by omega
  rw[Sp,aV,cond_false,List.drop_length];rfl
 | m+1,i,hm=>by
  have hi:i<s.2.length:=by omega
  have:=hs.v;have hz:=hs.dv _ (List.getElem_mem hi);rw[Sp,aQ hi,cond_true,aA hi,drop_cons hi,List.all_cons];simp only[Option.bind_some];rw[UR,Xk (d:=[]) (by omega)];simp only[Option.bind_some];rw[aib (oR hz).1];simp only[Option.bind_some];rw[ahA hz hs.dr hs.r,aN (by omega),SA hs m (i+1) (by omega)];unfold lN;simp only[Option.bind_some];cases gi s.2[i]<;>cases alike s.2[i] (s.2.getD 0 [])<;>cases s.1.all (iw s.2[i])<;>rfl
theorem ahg(hs:sk s):zU s=some ((D4 s,()),()):=by
 rw[ahf];have h4:=SA hs s.2.length 0 rfl;rw[Int.natCast_zero,List.drop_zero]at h4;rw[h4];unfold D4;have e1:decide ((s.2.length:Int)<1) = !decide (1<=(s.2.length:Int)):=by rw[<-decide_not];congr 1;rw[eq_iff_iff];omega
 have e2:decide ((s.2.length:Int)>10) = !decide ((s.2.length:Int)<=10):=by rw[<-decide_not];congr 1;rw[eq_iff_iff];omega
 have e3:s.2.all (λv=>lN s v&&s.1.all (iw v))=(s.2.all (lN s)&&s.2.all (λv=>s.1.all (iw v))):=by
  generalize s.2=l;induction l with
  | nil=>rfl
  | cons a l ih =>
   simp only[List.all_cons,ih];cases lN s a<;>cases s.1.all (iw a)<;>cases l.all (lN s)<;>rfl
 rw[e1,e2,e3];cases decide (1<=(s.2.length:Int))<;>cases decide ((s.2.length:Int)<=10)<;>cases decide ((s.1.length:Int)>4)<;>cases s.2.all (lN s)<;>cases s.2.all (λv=>s.1.all (iw v))<;>rfl
theorem apg(s:dn)(hs:cY aa2 s):Hj s=some ((true,()),()):=by
 rw[ajq,akc s 1048576 hs (by omega) (by omega)];simp only[Option.bind_some];rcases mQ 1048576 (zS s)with⟨e,_⟩|⟨k1,e,a1,d1⟩
 ·rw[e];rfl
 have c1:decide (k1<0)=false:=by simp;omega
 rw[e];simp only[c1,cond_false];have zs:zS s<=68719476736:=by omega
 rw[akA s zs,Option.bind_some];dsimp only;rw[aiC (abS zs)];simp only[Option.bind_some];rw[ahg (abS zs)];simp only[Option.bind_some,beq_self_eq_true,Bool.not_true,cond_false,ajO s zs]
end Go.Proofs.YtbhogmdpmkpinaaGreat.P.It
