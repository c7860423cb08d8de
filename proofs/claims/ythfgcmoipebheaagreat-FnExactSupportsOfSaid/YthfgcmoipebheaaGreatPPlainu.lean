/- A part of the proof: Plainu. No conditions. -/
import Derived.Test.YthfgcmoipebheaaGreatPIt3u
import Derived.Test.YthfgcmoipebheaaGreatPG8
set_option linter.unusedVariables false
set_option linter.unusedSimpArgs false
namespace Go.Proofs.YthfgcmoipebheaaGreat.P.It
open Am
variable{i k m n v:Nat}{R α β:Type}{a b:aa}{d p q y:Int}{c:aB}{S l l':List aa}{K:List (List ah)}{x:ah}{r:List ah}
theorem cb{x:Int}(h1 : -9223372036854775808<=x)(h2:x<=9223372036854775807):IntKind.i64.wrap x=x:=by
 rw[IntKind.wrap_i64];omega
theorem aD{xs:List α}{i:Nat}(h:i<xs.length):ab xs (i:Int)=some xs[i]:=by
 unfold ab;rw[if_pos (by omega)];simp[h]
theorem aO(h:i<=1000000000000):IntKind.i64.wrap ((i:Int)+1)=((i+1:Nat):Int):=by
 rw[cb]<;>omega
theorem fg{k:Int}(h0:0<=k)(h1:k<=1000000000000000000):IntKind.i64.wrap (k+1)=k+1:=cb (by omega) (by omega)
theorem aT(h:i<n):decide ((i:Int)<(n:Int))=true:=by simp;omega
theorem aW(n:Nat):decide ((n:Int)<(n:Int))=false:=by simp
theorem p3:decide ((-1:Int)<0)=true:=by decide
theorem mY:maxLen=9223372036854775807:=by decide
theorem pg{x:List α}(h:i<x.length)(v:α):ab (x.set i v) (i:Int)=some v:=by
 rw[aD (by simpa using h)];simp
theorem nh{R:Type}(x:List α)(c:Int)(hl:x.length<=68719476736)(h0:0<=c)(hc:c<=1000)(A B:R):(bif decide (0<=(x.length:Int))&&decide ((x.length:Int)<=(x.length:Int))&&decide ((x.length:Int)*c<=140737488355328)&&decide ((x.length:Int)<=9223372036854775807)then A else B)=A:=by
 have h1:(x.length:Int)*c<=68719476736*1000:=Int.mul_le_mul (by omega) hc h0 (by omega);have h2:(x.length:Int)*c<=140737488355328:=by omega
 have h3:(x.length:Int)<=9223372036854775807:=by omega
 simp[h2,h3]
theorem kT(x:List α)(p:α->Bool)(F E:Option R)(f:Int->Option R)(hl:x.length<=68719476736)
  (h1:∀(i:Nat) (h:i<x.length),f (i:Int)=bif p x[i]then f ((i+1:Nat):Int)else F) (h2:f (x.length:Int)=E) :
  ∀(n i:Nat),n+i=x.length->f (i:Int)=bif (x.drop i).all p then E else F
 | 0,i,hn=>by
  obtain rfl:i=x.length:=by omega
  rw[h2,List.drop_eq_nil_of_le (by omega)];rfl
 | n+1,i,hn=>by
  have hi:i<x.length:=by omega
  rw[h1 i hi,kT x p F E f hl h1 h2 n (i+1) (by omega),List.drop_eq_getElem_cons hi,List.all_cons];cases p x[i]<;>rfl
theorem rq(x:List α)(p:α->Bool)(F E:Option R)(f:Int->Option R)(hl:x.length<=68719476736)
  (h1:∀(i:Nat) (h:i<x.length),f (i:Int)=bif p x[i]then f ((i+1:Nat):Int)else F) (h2:f (x.length:Int)=E):f 0=bif x.all p then E else F:=by
 have:=kT x p F E f hl h1 h2 x.length 0 (by omega)
 rwa [List.drop_zero]at this
def cq{α:Type}(p:α->Bool)(x:List α):Int:=if x.findIdx p<x.length then (x.findIdx p:Int)else -1
theorem HM(x:List α)(p:α->Bool)(r:Int->Option R)(f:Int->Option R)
  (h1:∀(i:Nat) (h:i<x.length),f (i:Int)=bif p x[i]then r (i:Int)else f ((i+1:Nat):Int)) (h2:f (x.length:Int)=r (-1)) :
  ∀(n i:Nat),n+i=x.length->(∀j (h:j<x.length),j<i->p x[j]=false)->f (i:Int)=r (cq p x)
 | 0,i,hn,hp=>by
  obtain rfl:i=x.length:=by omega
  have:x.findIdx p=x.length:=List.findIdx_eq_length.2 (λy hy=>by
   obtain⟨j,hj,rfl⟩:=List.mem_iff_getElem.1 hy;exact hp j hj hj)
  rw[h2];unfold cq;rw[if_neg (by omega)]
 | n+1,i,hn,hp=>by
  have hi:i<x.length:=by omega
  rw[h1 i hi];cases hb:p x[i]with
  | true =>
   have:x.findIdx p=i:=(List.findIdx_eq hi).2 ⟨hb,λj hj=>hp j (by omega) hj⟩;unfold cq;rw[this,if_pos hi];rfl
  | false =>
   rw[cond_false];exact HM x p r f h1 h2 n (i+1) (by omega) (λj hj cH=>by
    by_cases he:j=i
    ·subst he;exact hb
    ·exact hp j hj (by omega))
def fw(k:Int)(n:Nat):Int:=if (n:Int)<=k then k - n else -1
theorem gb{k:Int}(h:¬(n:Int)<=k):fw k n = -1:=if_neg h
theorem ox{k:Int}(h:(n:Int)<=k):fw k n=k - n:=if_pos h
theorem nv(k:Int)(n:Nat):(fw k n = -1/\¬(n:Int)<=k)\/∃m,fw k n=m/\m=k - n/\0<=m:=by
 by_cases h:(n:Int)<=k
 ·exact .inr ⟨_,ox h,rfl,by omega⟩
 ·exact .inl ⟨gb h,h⟩
theorem wF{k:Int}{a b:Nat}{u:R}(h:0<=k - (a:Int)):some ((fw (k - (a:Int)) b,u),u)=some ((fw k (a+b),u),u):=by
 congr 3;unfold fw;by_cases h1:(b:Int)<=k - a
 ·rw[if_pos h1,if_pos (by omega)];omega
 ·rw[if_neg h1,if_neg (by omega)]
def zB(x:ByteArray):Nat:=x.size
def zI(x:List Int):Nat:=x.length
def zL{α:Type}(f:α->Nat)(x:List α):Nat:=x.length+(x.map f).sum
theorem dA(f:α->Nat)(x:List α):x.length<=zL f x:=Nat.le_add_right _ _
theorem dG(f:α->Nat){x:List α}{y:α}(h:y∈x):f y<=zL f x:=by
 have:f y<=(x.map f).sum:=by
  induction x with
  | nil=>cases h
  | cons a l ih =>
   rw[List.map_cons,List.sum_cons];rcases List.mem_cons.1 h with rfl|h
   ·omega
   ·have:=ih h;omega
 unfold zL;omega
theorem wG(x:List α)(W:α->Prop)(g:α->Nat)(S:α->Int->Option ((Int×PUnit)×PUnit))(f:Int->Int->Option ((Int×PUnit)×PUnit))(hl:x.length<=1048576)(hW:∀y∈x,W y)
  (hS:∀y k,W y->0<=k->k<=1048576->S y k=some ((fw k (g y),()),()))
  (h1:∀(i:Nat) (h:i<x.length) k,f k (i:Int)=(S x[i] k).bind λy=>bif decide (y.1.1<0)then some ((-1,()),())else f y.1.1 ((i+1:Nat):Int)) (h2:∀k,f k (x.length:Int)=some ((k,()),())) :
  ∀(n i:Nat) (k:Int),n+i=x.length->0<=k->k<=1048576->f k (i:Int)=some ((fw k ((x.drop i).map g).sum,()),())
 | 0,i,k,hn,h0,hk=>by
  obtain rfl:i=x.length:=by omega
  rw[h2,List.drop_eq_nil_of_le (by omega),ox (by simpa using h0)];simp
 | n+1,i,k,hn,h0,hk=>by
  have hi:i<x.length:=by omega
  rw[h1 i hi,hS x[i] k (hW _ (List.getElem_mem hi)) h0 hk,List.drop_eq_getElem_cons hi,List.map_cons,List.sum_cons];simp only[Option.bind_some];rcases nv k (g x[i])with⟨e,a⟩|⟨m,e,a,d⟩
  ·rw[e,p3,cond_true,gb (by omega)]
  ·have c:decide (m<0)=false:=by simp;omega
   rw[e,c,cond_false,wG x W g S f hl hW hS h1 h2 n (i+1) m (by omega) d (by omega),a];exact wF (by omega)
theorem SY(x:List α)(S:α->Option ((α×PUnit)×PUnit))(f:List α->Int->Option ((List α×PUnit)×PUnit))(hl:x.length<=68719476736)(hS:∀y∈x,S y=some ((y,()),()))
  (h1:∀(i:Nat) (h:i<x.length) (v:List α),v.length=x.length->f v (i:Int)=(S x[i]).bind λy=>f (v.set i y.1.1) ((i+1:Nat):Int)) (h2:∀v:List α,f v (x.length:Int)=some ((v,()),())) :
  ∀(n i:Nat) (v:List α),n+i=x.length->v.length=x.length->f v (i:Int)=some ((v.take i++x.drop i,()),())
 | 0,i,v,hn,hv=>by
  obtain rfl:i=x.length:=by omega
  rw[h2,List.take_of_length_le (by omega),List.drop_eq_nil_of_le (by omega),List.append_nil]
 | n+1,i,v,hn,hv=>by
  have hi:i<x.length:=by omega
  rw[h1 i hi v hv,hS _ (List.getElem_mem hi)];simp only[Option.bind_some];rw[SY x S f hl hS h1 h2 n (i+1) _ (by omega) (by simpa using hv)];congr 3;have e1:(v.set i x[i]).take (i+1)=v.take i++[x[i]]:=by
   rw[List.take_add_one,List.take_set_of_le (by omega)];simp[hv,hi]
  rw[e1,List.append_assoc,List.singleton_append];congr 1;exact (List.drop_eq_getElem_cons hi).symm
theorem uE(x:List α)(S:α->Option ((α×PUnit)×PUnit))(f:List α->Int->Option ((List α×PUnit)×PUnit))(hl:x.length<=68719476736)(hS:∀y∈x,S y=some ((y,()),()))
  (h1:∀(i:Nat) (h:i<x.length) (v:List α),v.length=x.length->f v (i:Int)=(S x[i]).bind λy=>f (v.set i y.1.1) ((i+1:Nat):Int)) (h2:∀v:List α,f v (x.length:Int)=some ((v,()),())) (v:List α) (hv:v.length=x.length) :
  f v 0=some ((x,()),()):=by
 have:=SY x S f hl hS h1 h2 x.length 0 v (by omega) hv;rw[Int.natCast_zero]at this;rw[this];simp
theorem o8(x:List α)(E:Option R)(f:Int->Option R)(hl:x.length<=68719476736)
  (h1:∀(i:Nat) (h:i<x.length),f (i:Int)=f ((i+1:Nat):Int)) (h2:f (x.length:Int)=E):f 0=E:=by
 have:=rq x (λ_=>true) E E f hl (λi h=>by simpa using h1 i h) h2;rw[this];cases x.all _<;>rfl
def zA(x:aa):Nat:=zI x.1
abbrev we:Ty:=.agg (.pair (.slice 0 (.int .i64)) (.pair (.int .i64) .bool))
def zC(x:aB):Nat:=zL zA x.2
abbrev Xy:Ty:=.agg (.pair (.int .i64) (.slice 0 we))
def zR(x:Rw):Nat:=zB x.1+zC x.2
abbrev CP:Ty:=.agg (.pair .str Xy)
def zQ(x:Rel):Nat:=zB x.1+zL zR x.2.2
abbrev CO:Ty:=.agg (.pair .str (.pair (.int .i64) (.slice 0 CP)))
def zN(x:av):Nat:=zA x.2.1+zB x.2.2.1+zB x.2.2.2.1+zI x.2.2.2.2.1
abbrev CN:Ty:=.agg (.pair (.int .i64) (.pair we (.pair .str (.pair .str (.pair (.slice 0 (.int .i64)) (.pair (.int .i64) (.pair (.int .i64) (.int .i64))))))))
def zP(x:ah):Nat:=zC x.1+zL zI x.2
theorem Sb(x:List Int)(k:Int)(w:dh (.slice 0 (.int .i64)) x)(h0:0<=k)(hk:k<=1048576):zu x k=some ((fw k (zI x),()),()):=by
 have hl:x.length<=maxLen:=w.1;rw[mY]at hl;rw[aeX,cb (by omega) (by omega)];by_cases h:k - (x.length:Int)<0
 ·simp only[h,decide_true,cond_true];rw[gb (by unfold zI;omega)]
 ·simp only[h,decide_false,cond_false];rw[ox (by unfold zI;omega)];rfl
theorem Sa(x:aa)(k:Int)(w:dh we x)(h0:0<=k)(hk:k<=1048576):uj x k=some ((fw k (zA x),()),()):=by
 have hz:zA x=zI x.1:=rfl;rw[aeU];rw[Sb _ _ w.1 (by omega) (by omega)];simp only[Option.bind_some];rcases nv k (zI x.1)with⟨e1,a1⟩|⟨k1,e1,a1,d1⟩
 ·rw[e1];simp only[p3,cond_true];rw[gb (by rw[hz];omega)]
 have c1:decide (k1<0)=false:=by simp;omega
 rw[e1];simp only[c1,cond_false];rw[ox (by rw[hz];omega)];congr 3<;>(rw[hz];omega)
theorem aeT(x:List aa)(k:Int)(w:dh (.slice 0 we) x)(h0:0<=k)(hk:k<=1048576):zt x k=some ((fw k (zL zA x),()),()):=by
 have hl:x.length<=maxLen:=w.1;rw[mY]at hl;rw[aeS,cb (by omega) (by omega)];have hz:zL zA x=x.length+(x.map zA).sum:=rfl;by_cases h:k - (x.length:Int)<0
 ·simp only[h,decide_true,cond_true];rw[gb (by rw[hz];omega)]
 ·simp only[h,decide_false,cond_false];have:=wG x (dh we) zA uj (λk i=>yi x k i) (by omega) w.2 (λy k w h0 hk=>Sa y k w h0 hk) (λi hi k=>by
   rw[Rf,aD hi,aT hi,aO (by omega)];simp only[cond_true,Option.bind_some]) (λk=>by rw[Rf,aW];rfl) x.length 0 (k - (x.length:Int)) (by omega) (by omega) (by omega)
  rw[Int.natCast_zero]at this;refine this.trans ?_;rw[List.drop_zero,hz,wF (by omega)]
theorem aeW(x:aB)(k:Int)(w:dh Xy x)(h0:0<=k)(hk:k<=1048576):FV x k=some ((fw k (zC x),()),()):=by
 have hz:zC x=zL zA x.2:=rfl;rw[aeV];rw[aeT _ _ w.2 (by omega) (by omega)];simp only[Option.bind_some];rcases nv k (zL zA x.2)with⟨e1,a1⟩|⟨k1,e1,a1,d1⟩
 ·rw[e1];simp only[p3,cond_true];rw[gb (by rw[hz];omega)]
 have c1:decide (k1<0)=false:=by simp;omega
 rw[e1];simp only[c1,cond_false];rw[ox (by rw[hz];omega)];congr 3<;>(rw[hz];omega)
theorem ae9(x:Rw)(k:Int)(w:dh CP x)(h0:0<=k)(hk:k<=1048576):zF x k=some ((fw k (zR x),()),()):=by
 have hz:zR x=zB x.1+zC x.2:=rfl;rw[ae8];have b1:zB x.1<=maxLen:=w.1;rw[mY]at b1;obtain⟨k1,e1,a1⟩:∃m,IntKind.i64.wrap (k - ((ByteArray.size x.1:Nat):Int))=m/\m=k - (zB x.1:Int):=⟨_,cb (by unfold zB at b1;omega) (by unfold zB at b1;omega),rfl⟩;simp only[e1];by_cases d1:k1<0
 ·simp only[d1,decide_true,cond_true];rw[gb (by rw[hz];omega)]
 simp only[d1,decide_false,cond_false];rw[aeW _ _ w.2 (by omega) (by omega)];simp only[Option.bind_some];rcases nv k1 (zC x.2)with⟨e2,a2⟩|⟨k2,e2,a2,d2⟩
 ·rw[e2];simp only[p3,cond_true];rw[gb (by rw[hz];omega)]
 have c2:decide (k2<0)=false:=by simp;omega
 rw[e2];simp only[c2,cond_false];rw[ox (by rw[hz];omega)];congr 3<;>(rw[hz];omega)
theorem ae7(x:List Rw)(k:Int)(w:dh (.slice 0 CP) x)(h0:0<=k)(hk:k<=1048576):zG x k=some ((fw k (zL zR x),()),()):=by
 have hl:x.length<=maxLen:=w.1;rw[mY]at hl;rw[ae6,cb (by omega) (by omega)];have hz:zL zR x=x.length+(x.map zR).sum:=rfl;by_cases h:k - (x.length:Int)<0
 ·simp only[h,decide_true,cond_true];rw[gb (by rw[hz];omega)]
 ·simp only[h,decide_false,cond_false];have:=wG x (dh CP) zR zF (λk i=>yl x k i) (by omega) w.2 (λy k w h0 hk=>ae9 y k w h0 hk) (λi hi k=>by
   rw[Ri,aD hi,aT hi,aO (by omega)];simp only[cond_true,Option.bind_some]) (λk=>by rw[Ri,aW];rfl) x.length 0 (k - (x.length:Int)) (by omega) (by omega) (by omega)
  rw[Int.natCast_zero]at this;refine this.trans ?_;rw[List.drop_zero,hz,wF (by omega)]
theorem ae5(x:Rel)(k:Int)(w:dh CO x)(h0:0<=k)(hk:k<=1048576):zy x k=some ((fw k (zQ x),()),()):=by
 have hz:zQ x=zB x.1+zL zR x.2.2:=rfl;rw[ae4];have b1:zB x.1<=maxLen:=w.1;rw[mY]at b1;obtain⟨k1,e1,a1⟩:∃m,IntKind.i64.wrap (k - ((ByteArray.size x.1:Nat):Int))=m/\m=k - (zB x.1:Int):=⟨_,cb (by unfold zB at b1;omega) (by unfold zB at b1;omega),rfl⟩;simp only[e1];by_cases d1:k1<0
 ·simp only[d1,decide_true,cond_true];rw[gb (by rw[hz];omega)]
 simp only[d1,decide_false,cond_false];rw[ae7 _ _ w.2.2 (by omega) (by omega)];simp only[Option.bind_some];rcases nv k1 (zL zR x.2.2)with⟨e2,a2⟩|⟨k2,e2,a2,d2⟩
 ·rw[e2];simp only[p3,cond_true];rw[gb (by rw[hz];omega)]
 have c2:decide (k2<0)=false:=by simp;omega
 rw[e2];simp only[c2,cond_false];rw[ox (by rw[hz];omega)];congr 3<;>(rw[hz];omega)
theorem ae3(x:List Rel)(k:Int)(w:dh (.slice 0 CO) x)(h0:0<=k)(hk:k<=1048576):zD x k=some ((fw k (zL zQ x),()),()):=by
 have hl:x.length<=maxLen:=w.1;rw[mY]at hl;rw[ae2,cb (by omega) (by omega)];have hz:zL zQ x=x.length+(x.map zQ).sum:=rfl;by_cases h:k - (x.length:Int)<0
 ·simp only[h,decide_true,cond_true];rw[gb (by rw[hz];omega)]
 ·simp only[h,decide_false,cond_false];have:=wG x (dh CO) zQ zy (λk i=>yk x k i) (by omega) w.2 (λy k w h0 hk=>ae5 y k w h0 hk) (λi hi k=>by
   rw[Rh,aD hi,aT hi,aO (by omega)];simp only[cond_true,Option.bind_some]) (λk=>by rw[Rh,aW];rfl) x.length 0 (k - (x.length:Int)) (by omega) (by omega) (by omega)
  rw[Int.natCast_zero]at this;refine this.trans ?_;rw[List.drop_zero,hz,wF (by omega)]
theorem ae1(x:av)(k:Int)(w:dh CN x)(h0:0<=k)(hk:k<=1048576):zv x k=some ((fw k (zN x),()),()):=by
 have hz:zN x=zA x.2.1+zB x.2.2.1+zB x.2.2.2.1+zI x.2.2.2.2.1:=rfl;rw[ae0];rw[Sa _ _ w.2.1 (by omega) (by omega)];simp only[Option.bind_some];rcases nv k (zA x.2.1)with⟨e1,a1⟩|⟨k1,e1,a1,d1⟩
 ·rw[e1];simp only[p3,cond_true];rw[gb (by rw[hz];omega)]
 have c1:decide (k1<0)=false:=by simp;omega
 rw[e1];simp only[c1,cond_false];have b2:zB x.2.2.1<=maxLen:=w.2.2.1;rw[mY]at b2;obtain⟨k2,e2,a2⟩:∃m,IntKind.i64.wrap (k1 - ((ByteArray.size x.2.2.1:Nat):Int))=m/\m=k1 - (zB x.2.2.1:Int):=⟨_,cb (by unfold zB at b2;omega) (by unfold zB at b2;omega),rfl⟩;simp only[e2];by_cases d2:k2<0
 ·simp only[d2,decide_true,cond_true];rw[gb (by rw[hz];omega)]
 simp only[d2,decide_false,cond_false];have b3:zB x.2.2.2.1<=maxLen:=w.2.2.2.1;rw[mY]at b3;obtain⟨k3,e3,a3⟩:∃m,IntKind.i64.wrap (k2 - ((ByteArray.size x.2.2.2.1:Nat):Int))=m/\m=k2 - (zB x.2.2.2.1:Int):=⟨_,cb (by unfold zB at b3;omega) (by unfold zB at b3;omega),rfl⟩;simp only[e3];by_cases d3:k3<0
 ·simp only[d3,decide_true,cond_true];rw[gb (by rw[hz];omega)]
 simp only[d3,decide_false,cond_false];rw[Sb _ _ w.2.2.2.2.1 (by omega) (by omega)];simp only[Option.bind_some];rcases nv k3 (zI x.2.2.2.2.1)with⟨e4,a4⟩|⟨k4,e4,a4,d4⟩
 ·rw[e4];simp only[p3,cond_true];rw[gb (by rw[hz];omega)]
 have c4:decide (k4<0)=false:=by simp;omega
 rw[e4];simp only[c4,cond_false];rw[ox (by rw[hz];omega)];congr 3<;>(rw[hz];omega)
theorem aeZ(x:List av)(k:Int)(w:dh (.slice 0 CN) x)(h0:0<=k)(hk:k<=1048576):zw x k=some ((fw k (zL zN x),()),()):=by
 have hl:x.length<=maxLen:=w.1;rw[mY]at hl;rw[aeY,cb (by omega) (by omega)];have hz:zL zN x=x.length+(x.map zN).sum:=rfl;by_cases h:k - (x.length:Int)<0
 ·simp only[h,decide_true,cond_true];rw[gb (by rw[hz];omega)]
 ·simp only[h,decide_false,cond_false];have:=wG x (dh CN) zN zv (λk i=>yj x k i) (by omega) w.2 (λy k w h0 hk=>ae1 y k w h0 hk) (λi hi k=>by
   rw[Rg,aD hi,aT hi,aO (by omega)];simp only[cond_true,Option.bind_some]) (λk=>by rw[Rg,aW];rfl) x.length 0 (k - (x.length:Int)) (by omega) (by omega) (by omega)
  rw[Int.natCast_zero]at this;refine this.trans ?_;rw[List.drop_zero,hz,wF (by omega)]
theorem Sd(x:List Int)(h:zI x<=68719476736):um x=some ((x,()),()):=by
 have hl:x.length<=68719476736:=h;rw[aff,nh x 8 hl (by omega) (by omega)];exact uE x (λy=>some ((y,()),())) (λv i=>yn x v i) hl (λy _=>rfl) (λi hi v hv=>by
  rw[Rk,aT hi,aO (by omega)];simp only[aD hi,aD (show i<v.length by omega),cond_true,Option.bind_some,Int.toNat_natCast]) (λv=>by rw[Rk,aW];rfl) _ (by simp)
theorem Sc(x:aa)(h:zA x<=68719476736):uk x=some ((x,()),()):=by
 have hz:zA x=zI x.1:=rfl;rw[afc,Sd _ (by omega)];rfl
theorem afb(x:List aa)(h:zL zA x<=68719476736):zH x=some ((x,()),()):=by
 have hl:x.length<=68719476736:=Nat.le_trans (dA _ x) h;rw[afa,nh x 40 hl (by omega) (by omega)];exact uE x uk (λv i=>ym x v i) hl (λy hy=>Sc y (Nat.le_trans (dG _ hy) h)) (λi hi v hv=>by
  rw[Rj,aT hi,aO (by omega)];simp only[aD hi,aD (show i<v.length by omega),cond_true,Option.bind_some,Int.toNat_natCast]) (λv=>by rw[Rj,aW];rfl) _ (by simp)
theorem afe(x:aB)(h:zC x<=68719476736):FW x=some ((x,()),()):=by
 have hz:zC x=zL zA x.2:=rfl;rw[afd,afb _ (by omega)];rfl
theorem afr(x:Rw)(h:zR x<=68719476736):zM x=some ((x,()),()):=by
 have hz:zR x=zB x.1+zC x.2:=rfl;rw[afq,afe _ (by omega)];rfl
theorem afp(x:List Rw)(h:zL zR x<=68719476736):zO x=some ((x,()),()):=by
 have hl:x.length<=68719476736:=Nat.le_trans (dA _ x) h;rw[afo,nh x 48 hl (by omega) (by omega)];exact uE x zM (λv i=>yq x v i) hl (λy hy=>afr y (Nat.le_trans (dG _ hy) h)) (λi hi v hv=>by
  rw[Rn,aT hi,aO (by omega)];simp only[aD hi,aD (show i<v.length by omega),cond_true,Option.bind_some,Int.toNat_natCast]) (λv=>by rw[Rn,aW];rfl) _ (by simp)
theorem afn(x:Rel)(h:zQ x<=68719476736):zK x=some ((x,()),()):=by
 have hz:zQ x=zB x.1+zL zR x.2.2:=rfl;rw[afm,afp _ (by omega)];rfl
theorem afl(x:List Rel)(h:zL zQ x<=68719476736):oS x=some ((x,()),()):=by
 have hl:x.length<=68719476736:=Nat.le_trans (dA _ x) h;rw[afk,nh x 48 hl (by omega) (by omega)];exact uE x zK (λv i=>yp x v i) hl (λy hy=>afn y (Nat.le_trans (dG _ hy) h)) (λi hi v hv=>by
  rw[Rm,aT hi,aO (by omega)];simp only[aD hi,aD (show i<v.length by omega),cond_true,Option.bind_some,Int.toNat_natCast]) (λv=>by rw[Rm,aW];rfl) _ (by simp)
theorem afj(x:av)(h:zN x<=68719476736):zJ x=some ((x,()),()):=by
 have hz:zN x=zA x.2.1+zB x.2.2.1+zB x.2.2.2.1+zI x.2.2.2.2.1:=rfl;rw[afi,Sc _ (by omega),Sd _ (by omega)];rfl
theorem afh(x:List av)(h:zL zN x<=68719476736):oR x=some ((x,()),()):=by
 have hl:x.length<=68719476736:=Nat.le_trans (dA _ x) h;rw[afg,nh x 128 hl (by omega) (by omega)];exact uE x zJ (λv i=>yo x v i) hl (λy hy=>afj y (Nat.le_trans (dG _ hy) h)) (λi hi v hv=>by
  rw[Rl,aT hi,aO (by omega)];simp only[aD hi,aD (show i<v.length by omega),cond_true,Option.bind_some,Int.toNat_natCast]) (λv=>by rw[Rl,aW];rfl) _ (by simp)
theorem FO(x:List Int)(h:zI x<=68719476736):rh x x=some ((true,()),()):=by
 have hl:x.length<=68719476736:=h;rw[aei];simp only[bne_self_eq_false,cond_false];refine o8 x (some ((true,()),())) (λi=>xR x x i) hl (λi hi=>?_) ?_
 ·rw[QW,aT hi,aO (by omega)];simp only[aD hi,cond_true,Option.bind_some,bne_self_eq_false,beq_self_eq_true,Bool.not_true,cond_false]
 ·rw[QW,aW];rfl
theorem aeh(x:List (List Int))(h:zL zI x<=68719476736):ze x x=some ((true,()),()):=by
 have hl:x.length<=68719476736:=Nat.le_trans (dA _ x) h;rw[aeg];simp only[bne_self_eq_false,cond_false];refine o8 x (some ((true,()),())) (λi=>xQ x x i) hl (λi hi=>?_) ?_
 ·rw[QV,aT hi,aO (by omega)];simp only[aD hi,cond_true,Option.bind_some,FO _ (Nat.le_trans (dG _ (List.getElem_mem hi)) h),Bool.not_true,cond_false]
 ·rw[QV,aW];rfl
theorem R5(x:aa)(h:zA x<=68719476736):zb x x=some ((true,()),()):=by
 have hz:zA x=zI x.1:=rfl;rw[aee];simp only[bne_self_eq_false,beq_self_eq_true,Bool.not_true,cond_false,Option.bind_some,FO x.1 (by omega)]
theorem aed(x:List aa)(h:zL zA x<=68719476736):zc x x=some ((true,()),()):=by
 have hl:x.length<=68719476736:=Nat.le_trans (dA _ x) h;rw[aec];simp only[bne_self_eq_false,cond_false];refine o8 x (some ((true,()),())) (λi=>xP x x i) hl (λi hi=>?_) ?_
 ·rw[QU,aT hi,aO (by omega)];simp only[aD hi,cond_true,Option.bind_some,R5 _ (Nat.le_trans (dG _ (List.getElem_mem hi)) h),Bool.not_true,cond_false]
 ·rw[QU,aW];rfl
theorem R6(x:aB)(h:zC x<=68719476736):zd x x=some ((true,()),()):=by
 have hz:zC x=zL zA x.2:=rfl;rw[aef];simp only[bne_self_eq_false,beq_self_eq_true,Bool.not_true,cond_false,Option.bind_some,aed x.2 (by omega)]
theorem aeu(x:Rw)(h:zR x<=68719476736):FR x x=some ((true,()),()):=by
 have hz:zR x=zB x.1+zC x.2:=rfl;rw[aet];simp only[bne_self_eq_false,beq_self_eq_true,Bool.not_true,cond_false,Option.bind_some,R6 x.2 (by omega)]
theorem aes(x:List Rw)(h:zL zR x<=68719476736):zi x x=some ((true,()),()):=by
 have hl:x.length<=68719476736:=Nat.le_trans (dA _ x) h;rw[aer];simp only[bne_self_eq_false,cond_false];refine o8 x (some ((true,()),())) (λi=>xU x x i) hl (λi hi=>?_) ?_
 ·rw[QZ,aT hi,aO (by omega)];simp only[aD hi,cond_true,Option.bind_some,aeu _ (Nat.le_trans (dG _ (List.getElem_mem hi)) h),Bool.not_true,cond_false]
 ·rw[QZ,aW];rfl
theorem aeq(x:Rel)(h:zQ x<=68719476736):FQ x x=some ((true,()),()):=by
 have hz:zQ x=zB x.1+zL zR x.2.2:=rfl;rw[aep];simp only[bne_self_eq_false,beq_self_eq_true,Bool.not_true,cond_false,Option.bind_some,aes x.2.2 (by omega)]
theorem aeo(x:List Rel)(h:zL zQ x<=68719476736):zh x x=some ((true,()),()):=by
 have hl:x.length<=68719476736:=Nat.le_trans (dA _ x) h;rw[aen];simp only[bne_self_eq_false,cond_false];refine o8 x (some ((true,()),())) (λi=>xT x x i) hl (λi hi=>?_) ?_
 ·rw[QY,aT hi,aO (by omega)];simp only[aD hi,cond_true,Option.bind_some,aeq _ (Nat.le_trans (dG _ (List.getElem_mem hi)) h),Bool.not_true,cond_false]
 ·rw[QY,aW];rfl
theorem aem(x:av)(h:zN x<=68719476736):FP x x=some ((true,()),()):=by
 have hz:zN x=zA x.2.1+zB x.2.2.1+zB x.2.2.2.1+zI x.2.2.2.2.1:=rfl;rw[ael];simp only[bne_self_eq_false,beq_self_eq_true,Bool.not_true,cond_false,Option.bind_some,R5 x.2.1 (by omega),FO x.2.2.2.2.1 (by omega)]
theorem aek(x:List av)(h:zL zN x<=68719476736):zg x x=some ((true,()),()):=by
 have hl:x.length<=68719476736:=Nat.le_trans (dA _ x) h;rw[aej];simp only[bne_self_eq_false,cond_false];refine o8 x (some ((true,()),())) (λi=>xS x x i) hl (λi hi=>?_) ?_
 ·rw[QX,aT hi,aO (by omega)];simp only[aD hi,cond_true,Option.bind_some,aem _ (Nat.le_trans (dG _ (List.getElem_mem hi)) h),Bool.not_true,cond_false]
 ·rw[QX,aW];rfl
theorem aex(x:ah)(h:zP x<=68719476736):FU x x=some ((true,()),()):=by
 have hz:zP x=zC x.1+zL zI x.2:=rfl;rw[aew];simp only[bne_self_eq_false,beq_self_eq_true,Bool.not_true,cond_false,Option.bind_some,R6 x.1 (by omega),aeh x.2 (by omega)]
theorem R7(x:List ah)(h:zL zP x<=68719476736):rk x x=some ((true,()),()):=by
 have hl:x.length<=68719476736:=Nat.le_trans (dA _ x) h;rw[aev];simp only[bne_self_eq_false,cond_false];refine o8 x (some ((true,()),())) (λi=>xV x x i) hl (λi hi=>?_) ?_
 ·rw[Q0,aT hi,aO (by omega)];simp only[aD hi,cond_true,Option.bind_some,aex _ (Nat.le_trans (dG _ (List.getElem_mem hi)) h),Bool.not_true,cond_false]
 ·rw[Q0,aW];rfl
def mL{α:Type}(m:α->Int->α×Int):List α->Int->List α×Int
 | [],k=>([],k)
 | y::l,k=>((m y k).1::(mL m l (m y k).2).1,(mL m l (m y k).2).2)
def mI(_:Int)(k:Int):Int×Int:=(k,k+1)
def Md{α:Type}(m:α->Int->α×Int)(z:α->Nat):Prop:=∀y k,k<=(m y k).2/\(m y k).2<=k+12*z y+12
theorem dW{m:α->Int->α×Int}{z:α->Nat}(h:Md m z):∀(x:List α) (k:Int),k<=(mL m x k).2/\(mL m x k).2<=k+12*zL z x
 | [],k=>by simp[mL,zL]
 | y::l,k=>by
  have h1:=h y k;have h2:=dW h l (m y k).2;have e:zL z (y::l)=1+z y+zL z l:=by simp only[zL,List.length_cons,List.map_cons,List.sum_cons];omega
  simp only[mL];omega
theorem Jq:Md mI (λ_=>0):=λy k=>by unfold mI;simp only[];omega
theorem jK(x:List Int)(k:Int):k<=(mL mI x k).2/\(mL mI x k).2<=k+12*zI x:=by
 have:=dW Jq x k;have e:zL (λ_:Int=>0) x=zI x:=by
  unfold zL zI;have:∀l:List Int,(l.map (λ_=>0)).sum=0:=λl=>by induction l<;>simp_all
  rw[this];rfl
 rw[e]at this;exact this
theorem WN(m:α->Int->α×Int):∀(x:List α) (k:Int),(mL m x k).1.length=x.length
 | [],_=>rfl
 | y::l,k=>by simp only[mL,List.length_cons,WN m l]
theorem WO(m:α->Int->α×Int)(z:α->Nat)(hm:∀y k,k<=(m y k).2)(f:List α->Int->Int->Option ((Int×PUnit)×List α×PUnit))
  (h1:∀(v:List α) (k:Int) (i:Nat) (hi:i<v.length),v.length<=68719476736->0<=k->(m v[i] k).2<=1000000000000000000->z v[i]<=68719476736->f v k (i:Int)=f (v.set i (m v[i] k).1) (m v[i] k).2 ((i+1:Nat):Int))
  (h2:∀v k,f v k (v.length:Int)=some ((k,()),v,())) (mF:∀x k,k<=(mL m x k).2) :
  ∀(x pre:List α) (k:Int),0<=k->(mL m x k).2<=1000000000000000000->(pre++x).length<=68719476736->(∀y∈x,z y<=68719476736)->f (pre++x) k (pre.length:Int)=some (((mL m x k).2,()),pre++(mL m x k).1,())
 | [],pre,k,_,_,_,_=>by
  rw[List.append_nil,h2];simp[mL]
 | y::l,pre,k,h0,hk,hl,hz=>by
  have hy:(pre++y::l)[pre.length]'(by simp)=y:=by simp
  have a1:=hm y k;have a2:=mF l (m y k).2;simp only[mL]at hk ⊢;rw[h1 (pre++y::l) k pre.length (by simp) hl h0 (by rw[hy];omega) (by rw[hy];exact hz y (by simp)),hy];have e:(pre++y::l).set pre.length (m y k).1=(pre++[(m y k).1])++l:=by simp
  rw[e];have:=WO m z hm f h1 h2 mF l (pre++[(m y k).1]) (m y k).2 (by omega) hk (by simp at hl ⊢;omega) (λq hq=>hz q (List.mem_cons_of_mem _ hq));rw[List.length_append,List.length_singleton]at this;rw[this,List.append_assoc,List.singleton_append]
theorem pV(m:α->Int->α×Int)(z:α->Nat)(hm:∀y k,k<=(m y k).2)(f:List α->Int->Int->Option ((Int×PUnit)×List α×PUnit))(mF:∀x k,k<=(mL m x k).2)(x:List α)(k:Int)(h0:0<=k)(hk:(mL m x k).2<=1000000000000000000)(hl:x.length<=68719476736)(hz:∀y∈x,z y<=68719476736)
  (h1:∀(v:List α) (k:Int) (i:Nat) (hi:i<v.length),v.length<=68719476736->0<=k->(m v[i] k).2<=1000000000000000000->z v[i]<=68719476736->f v k (i:Int)=f (v.set i (m v[i] k).1) (m v[i] k).2 ((i+1:Nat):Int))
  (h2:∀v k,f v k (v.length:Int)=some ((k,()),v,())) :
  f x k 0=some (((mL m x k).2,()),(mL m x k).1,()):=by
 have:=WO m z hm f h1 h2 mF x [] k h0 hk (by simpa using hl) hz;simpa using this
theorem Uo(m:α->Int->α×Int)(z:α->Nat)(hm:∀y k,k<=(m y k).2)(f:List α->Int->Int->Option ((Int×PUnit)×PUnit))
  (h1:∀(v:List α) (k:Int) (i:Nat) (hi:i<v.length) (y:α),v[i]=(m y k).1->v.length<=68719476736->0<=k->(m y k).2<=1000000000000000000->z y<=68719476736->f v k (i:Int)=f v (m y k).2 ((i+1:Nat):Int))
  (h2:∀v k,f v k (v.length:Int)=some ((k,()),())) (mF:∀x k,k<=(mL m x k).2) :
  ∀(x pre:List α) (k:Int),0<=k->(mL m x k).2<=1000000000000000000->(pre++x).length<=68719476736->(∀y∈x,z y<=68719476736)->f (pre++(mL m x k).1) k (pre.length:Int)=some (((mL m x k).2,()),())
 | [],pre,k,_,_,_,_=>by
  simp only[mL,List.append_nil];rw[h2]
 | y::l,pre,k,h0,hk,hl,hz=>by
  have a1:=hm y k;have a2:=mF l (m y k).2;simp only[mL]at hk ⊢;rw[h1 _ k pre.length (by simp) y (by simp) (by simp[WN]at hl ⊢;omega) h0 (by omega) (hz y (by simp))];have:=Uo m z hm f h1 h2 mF l (pre++[(m y k).1]) (m y k).2 (by omega) hk (by simp at hl ⊢;omega) (λq hq=>hz q (List.mem_cons_of_mem _ hq));rw[List.length_append,List.length_singleton,List.append_assoc,List.singleton_append]at this;exact this
theorem BX(m:α->Int->α×Int)(z:α->Nat)(hm:∀y k,k<=(m y k).2)(f:List α->Int->Int->Option ((Int×PUnit)×PUnit))(mF:∀x k,k<=(mL m x k).2)(x:List α)(k:Int)(h0:0<=k)(hk:(mL m x k).2<=1000000000000000000)(hl:x.length<=68719476736)(hz:∀y∈x,z y<=68719476736)
  (h1:∀(v:List α) (k:Int) (i:Nat) (hi:i<v.length) (y:α),v[i]=(m y k).1->v.length<=68719476736->0<=k->(m y k).2<=1000000000000000000->z y<=68719476736->f v k (i:Int)=f v (m y k).2 ((i+1:Nat):Int))
  (h2:∀v k,f v k (v.length:Int)=some ((k,()),())) :
  f (mL m x k).1 k 0=some (((mL m x k).2,()),()):=by
 have:=Uo m z hm f h1 h2 mF x [] k h0 hk (by simpa using hl) hz;simpa using this
theorem Yf(b:Int):(strOf [b]).size=1:=rfl
theorem Re:∀(n:Nat) (k:Int) (s:ByteArray),0<=k->k<10 ^ n->k<=1000000000000000000->s.size+n<=1000->∃r,yh k s=some ((r,()),())
 | 0,k,s,h0,h1,hb,hs=>by
  have hk:k=0:=by simp at h1;omega
  rw[Rc,hk];have e:decide ((ByteArray.mk #[109]).size+s.size<=140737488355328)=true:=by
   have:(ByteArray.mk #[109]).size=1:=rfl;rw[this];simp;omega
  simp only[e,cond_true];exact⟨_,rfl⟩
 | n+1,k,s,h0,h1,hb,hs=>by
  rw[Rc];by_cases hk:k>0
  ·have e:decide ((strOf [IntKind.u8.wrap (IntKind.i64.wrap (48+k.tmod 10))]).size+s.size<=140737488355328)=true:=by
    rw[Yf];simp;omega
   have hq:k.tdiv 10=k / 10:=Int.tdiv_eq_ediv_of_nonneg h0;have h3:(10:Int) ^ (n+1)=10 ^ n*10:=Int.pow_succ _ _;simp only[hk,decide_true,cond_true,e];rw[hq,cb (by omega) (by omega)];exact Re n (k / 10) _ (by omega) (by omega) (by omega) (by rw[ByteArray.size_append,Yf];omega)
  ·have e:decide ((ByteArray.mk #[109]).size+s.size<=140737488355328)=true:=by
    have:(ByteArray.mk #[109]).size=1:=rfl;rw[this];simp;omega
   simp only[hk,decide_false,cond_false,e,cond_true];exact⟨_,rfl⟩
noncomputable def sr(k:Int):ByteArray:=match lZ k with
 | some r=>r.1.1
 | none=>ByteArray.empty
theorem zr(k:Int)(h0:0<=k)(h1:k<=1000000000000000000):lZ k=some ((sr k,()),()):=by
 have:∃r,lZ k=some ((r,()),()):=by
  rw[aeR];by_cases h:k<=0
  ·simp only[h,decide_true,cond_true];exact⟨_,rfl⟩
  ·simp only[h,decide_false,cond_false];have e1:(10:Int) ^ 19=10000000000000000000:=by decide
   have e2:(ByteArray.mk #[]).size=0:=rfl;exact Re 19 k (ByteArray.mk #[]) h0 (by omega) h1 (by omega)
 obtain⟨r,hr⟩:=this;unfold sr;rw[hr]
theorem zm(x:List Int)(k:Int)(h0:0<=k)(hk:(mL mI x k).2<=1000000000000000000)(hl:x.length<=68719476736):oQ x k=some (((mL mI x k).2,()),(mL mI x k).1,()):=by
 rw[aeI];refine pV mI (λ_=>0) (λy k=>(Jq y k).1) (λv k i=>yc v k i) (λx k=>(jK x k).1) x k h0 hk hl (λ_ _=>Nat.zero_le _) (λv k i hi hl h0 hk hz=>?_) (λv k=>by rw[Q7,aW];rfl);have dr:k+1<=1000000000000000000:=hk;have w0:IntKind.i64.wrap (k+1)=k+1:=fg (by omega) (by omega);rw[Q7,aT hi,aO (by omega)];simp only[cond_true,Option.bind_some,aD hi,pg hi,List.set_set,Int.toNat_natCast,w0]
 try rfl
theorem R8(x:List Int)(k:Int)(h0:0<=k)(hk:(mL mI x k).2<=1000000000000000000)(hl:x.length<=68719476736):ug (mL mI x k).1 k=some (((mL mI x k).2,()),()):=by
 rw[aeC];refine BX mI (λ_=>0) (λy k=>(Jq y k).1) (λv k i=>xY v k i) (λx k=>(jK x k).1) x k h0 hk hl (λ_ _=>Nat.zero_le _) (λv k i hi y hy hl h0 hk hz=>?_) (λv k=>by rw[Q3,aW];rfl);have dr:k+1<=1000000000000000000:=hk;have w0:IntKind.i64.wrap (k+1)=k+1:=fg (by omega) (by omega);rw[Q3,aT hi,aD hi,hy,aO (by omega)];simp only[mI,cond_true,Option.bind_some,bne_self_eq_false,beq_self_eq_true,Bool.not_true,cond_false,w0]
theorem pW:Md (mL mI) zI:=λx k=>by
 have:=jK x k;omega
theorem aeH(x:List (List Int))(k:Int)(h0:0<=k)(hk:(mL (mL mI) x k).2<=1000000000000000000)(hz:zL zI x<=68719476736):zl x k=some (((mL (mL mI) x k).2,()),(mL (mL mI) x k).1,()):=by
 rw[aeG];refine pV (mL mI) zI (λy k=>(pW y k).1) (λv k i=>yb v k i) (λx k=>(dW pW x k).1) x k h0 hk (Nat.le_trans (dA _ x) hz) (λy hy=>Nat.le_trans (dG _ hy) hz) (λv k i hi hl h0 hk hz=>?_) (λv k=>by rw[Q6,aW];rfl);have q0:=jK v[i] k;have dr:(mL mI v[i] k).2<=1000000000000000000:=hk;have s0:=zm v[i] k (by omega) (by omega) (by have fZ:zI v[i]<=68719476736:=hz;unfold zI at fZ;omega);rw[Q6,aT hi,aO (by omega)];simp only[cond_true,Option.bind_some,aD hi,pg hi,List.set_set,Int.toNat_natCast,s0]
 try rfl
theorem aeB(x:List (List Int))(k:Int)(h0:0<=k)(hk:(mL (mL mI) x k).2<=1000000000000000000)(hz:zL zI x<=68719476736):zk (mL (mL mI) x k).1 k=some (((mL (mL mI) x k).2,()),()):=by
 rw[aeA];refine BX (mL mI) zI (λy k=>(pW y k).1) (λv k i=>xX v k i) (λx k=>(dW pW x k).1) x k h0 hk (Nat.le_trans (dA _ x) hz) (λy hy=>Nat.le_trans (dG _ hy) hz) (λv k i hi y hy hl h0 hk hz=>?_) (λv k=>by rw[Q2,aW];rfl);have q0:=jK y k;have dr:(mL mI y k).2<=1000000000000000000:=hk;have s0:=R8 y k (by omega) (by omega) (by have fZ:zI y<=68719476736:=hz;unfold zI at fZ;omega);have n0:decide ((mL mI y k).2<0)=false:=decide_eq_false (by omega);rw[Q2,aT hi,aD hi,hy,aO (by omega)];simp only[cond_true,Option.bind_some,bne_self_eq_false,beq_self_eq_true,Bool.not_true,cond_false,s0,n0]
noncomputable def mA(x:aa)(k:Int):aa×Int:=(((mL mI x.1 k).1,(mL mI x.1 k).2,((mL mI x.1 k).2+1).tmod 3==0),(mL mI x.1 k).2+1+1)
theorem mZ:Md mA zA:=λx k=>by
 have q0:=jK x.1 k;have hz:zA x=zI x.1:=rfl;unfold mA;simp only[];omega
theorem R9(x:List aa)(k:Int)(h0:0<=k)(hk:(mL mA x k).2<=1000000000000000000)(hz:zL zA x<=68719476736):ui x k=some (((mL mA x k).2,()),(mL mA x k).1,()):=by
 rw[aeF];refine pV mA zA (λy k=>(mZ y k).1) (λv k i=>ya v k i) (λx k=>(dW mZ x k).1) x k h0 hk (Nat.le_trans (dA _ x) hz) (λy hy=>Nat.le_trans (dG _ hy) hz) (λv k i hi hl h0 hk hz=>?_) (λv k=>by rw[Q5,aW];rfl);have q0:=jK v[i].1 k;have dr:(mL mI v[i].1 k).2+1+1<=1000000000000000000:=hk;have dV:zI v[i].1<=68719476736:=by have fZ:zA v[i]<=68719476736:=hz;simp only[zA]at fZ;omega
 have s0:=zm v[i].1 k (by omega) (by omega) (by unfold zI at *;omega);have w1:IntKind.i64.wrap ((mL mI v[i].1 k).2+1)=(mL mI v[i].1 k).2+1:=fg (by omega) (by omega);have w2:IntKind.i64.wrap ((mL mI v[i].1 k).2+1+1)=(mL mI v[i].1 k).2+1+1:=fg (by omega) (by omega);rw[Q5,aT hi,aO (by omega)];simp only[cond_true,Option.bind_some,aD hi,pg hi,List.set_set,Int.toNat_natCast,s0,w1,w2]
 try rfl
theorem aez(x:List aa)(k:Int)(h0:0<=k)(hk:(mL mA x k).2<=1000000000000000000)(hz:zL zA x<=68719476736):zj (mL mA x k).1 k=some (((mL mA x k).2,()),()):=by
 rw[aey];refine BX mA zA (λy k=>(mZ y k).1) (λv k i=>xW v k i) (λx k=>(dW mZ x k).1) x k h0 hk (Nat.le_trans (dA _ x) hz) (λy hy=>Nat.le_trans (dG _ hy) hz) (λv k i hi y hy hl h0 hk hz=>?_) (λv k=>by rw[Q1,aW];rfl);have q0:=jK y.1 k;have dr:(mL mI y.1 k).2+1+1<=1000000000000000000:=hk;have dV:zI y.1<=68719476736:=by have fZ:zA y<=68719476736:=hz;simp only[zA]at fZ;omega
 have s0:=R8 y.1 k (by omega) (by omega) (by unfold zI at *;omega);have n0:decide ((mL mI y.1 k).2<0)=false:=decide_eq_false (by omega);have w1:IntKind.i64.wrap ((mL mI y.1 k).2+1)=(mL mI y.1 k).2+1:=fg (by omega) (by omega);have w2:IntKind.i64.wrap ((mL mI y.1 k).2+1+1)=(mL mI y.1 k).2+1+1:=fg (by omega) (by omega);rw[Q1,aT hi,aD hi,hy,aO (by omega)];simp only[mA,cond_true,Option.bind_some,bne_self_eq_false,beq_self_eq_true,Bool.not_true,cond_false,s0,n0,w1,w2]
noncomputable def mR(x:Rw)(k:Int):Rw×Int:=((sr k,(k+1,(mL mA x.2.2 (k+1+1)).1)),(mL mA x.2.2 (k+1+1)).2)
theorem Cx:Md mR zR:=λx k=>by
 have q2:=dW mZ x.2.2 (k+1+1);have hz:zR x=zB x.1+zL zA x.2.2:=by simp only[zR,zC]<;>omega
 unfold mR;simp only[];omega
theorem aeO(x:List Rw)(k:Int)(h0:0<=k)(hk:(mL mR x k).2<=1000000000000000000)(hz:zL zR x<=68719476736):zp x k=some (((mL mR x k).2,()),(mL mR x k).1,()):=by
 rw[aeN];refine pV mR zR (λy k=>(Cx y k).1) (λv k i=>yf v k i) (λx k=>(dW Cx x k).1) x k h0 hk (Nat.le_trans (dA _ x) hz) (λy hy=>Nat.le_trans (dG _ hy) hz) (λv k i hi hl h0 hk hz=>?_) (λv k=>by rw[Ra,aW];rfl);have q2:=dW mZ v[i].2.2 (k+1+1);have dr:(mL mA v[i].2.2 (k+1+1)).2<=1000000000000000000:=hk;have dV:zB v[i].1+zL zA v[i].2.2<=68719476736:=by have fZ:zR v[i]<=68719476736:=hz;simp only[zR,zC]at fZ;omega
 have t0:=zr (k) (by omega) (by omega);have w0:IntKind.i64.wrap (k+1)=k+1:=fg (by omega) (by omega);have w1:IntKind.i64.wrap (k+1+1)=k+1+1:=fg (by omega) (by omega);have s2:=R9 v[i].2.2 (k+1+1) (by omega) (by omega) (by omega);rw[Ra,aT hi,aO (by omega)];simp only[cond_true,Option.bind_some,aD hi,pg hi,List.set_set,Int.toNat_natCast,t0,w0,w1,s2]
 try rfl
noncomputable def mQ(x:Rel)(k:Int):Rel×Int:=((sr k,k+1,(mL mR x.2.2 (k+1+1)).1),(mL mR x.2.2 (k+1+1)).2)
theorem Js:Md mQ zQ:=λx k=>by
 have q2:=dW Cx x.2.2 (k+1+1);have hz:zQ x=zB x.1+zL zR x.2.2:=rfl;unfold mQ;simp only[];omega
theorem aeM(x:List Rel)(k:Int)(h0:0<=k)(hk:(mL mQ x k).2<=1000000000000000000)(hz:zL zQ x<=68719476736):zo x k=some (((mL mQ x k).2,()),(mL mQ x k).1,()):=by
 rw[aeL];refine pV mQ zQ (λy k=>(Js y k).1) (λv k i=>ye v k i) (λx k=>(dW Js x k).1) x k h0 hk (Nat.le_trans (dA _ x) hz) (λy hy=>Nat.le_trans (dG _ hy) hz) (λv k i hi hl h0 hk hz=>?_) (λv k=>by rw[Q9,aW];rfl);have q2:=dW Cx v[i].2.2 (k+1+1);have dr:(mL mR v[i].2.2 (k+1+1)).2<=1000000000000000000:=hk;have dV:zB v[i].1+zL zR v[i].2.2<=68719476736:=by have fZ:zQ v[i]<=68719476736:=hz;simp only[zQ]at fZ;omega
 have t0:=zr (k) (by omega) (by omega);have w0:IntKind.i64.wrap (k+1)=k+1:=fg (by omega) (by omega);have w1:IntKind.i64.wrap (k+1+1)=k+1+1:=fg (by omega) (by omega);have s2:=aeO v[i].2.2 (k+1+1) (by omega) (by omega) (by omega);rw[Q9,aT hi,aO (by omega)];simp only[cond_true,Option.bind_some,aD hi,pg hi,List.set_set,Int.toNat_natCast,t0,w0,w1,s2]
 try rfl
noncomputable def mN(x:av)(k:Int):av×Int:=((k,((mL mI x.2.1.1 (k+1)).1,(mL mI x.2.1.1 (k+1)).2,((mL mI x.2.1.1 (k+1)).2+1).tmod 3==0),sr ((mL mI x.2.1.1 (k+1)).2+1+1),sr ((mL mI x.2.1.1 (k+1)).2+1+1+1),(mL mI x.2.2.2.2.1 ((mL mI x.2.1.1 (k+1)).2+1+1+1+1)).1,(mL mI x.2.2.2.2.1 ((mL mI x.2.1.1 (k+1)).2+1+1+1+1)).2,(mL mI x.2.2.2.2.1 ((mL mI x.2.1.1 (k+1)).2+1+1+1+1)).2+1,(mL mI x.2.2.2.2.1 ((mL mI x.2.1.1 (k+1)).2+1+1+1+1)).2+1+1),(mL mI x.2.2.2.2.1 ((mL mI x.2.1.1 (k+1)).2+1+1+1+1)).2+1+1+1)
theorem Jr:Md mN zN:=λx k=>by
 have q1:=jK x.2.1.1 (k+1);have q6:=jK x.2.2.2.2.1 ((mL mI x.2.1.1 (k+1)).2+1+1+1+1);have hz:zN x=zI x.2.1.1+zB x.2.2.1+zB x.2.2.2.1+zI x.2.2.2.2.1:=by simp only[zN,zA]<;>omega
 unfold mN;simp only[];omega
theorem aeK(x:List av)(k:Int)(h0:0<=k)(hk:(mL mN x k).2<=1000000000000000000)(hz:zL zN x<=68719476736):zn x k=some (((mL mN x k).2,()),(mL mN x k).1,()):=by
 rw[aeJ];refine pV mN zN (λy k=>(Jr y k).1) (λv k i=>yd v k i) (λx k=>(dW Jr x k).1) x k h0 hk (Nat.le_trans (dA _ x) hz) (λy hy=>Nat.le_trans (dG _ hy) hz) (λv k i hi hl h0 hk hz=>?_) (λv k=>by rw[Q8,aW];rfl);have q1:=jK v[i].2.1.1 (k+1);have q6:=jK v[i].2.2.2.2.1 ((mL mI v[i].2.1.1 (k+1)).2+1+1+1+1);have dr:(mL mI v[i].2.2.2.2.1 ((mL mI v[i].2.1.1 (k+1)).2+1+1+1+1)).2+1+1+1<=1000000000000000000:=hk;have dV:zI v[i].2.1.1+zB v[i].2.2.1+zB v[i].2.2.2.1+zI v[i].2.2.2.2.1<=68719476736:=by have fZ:zN v[i]<=68719476736:=hz;simp only[zN,zA]at fZ;omega
 have w0:IntKind.i64.wrap (k+1)=k+1:=fg (by omega) (by omega);have s1:=zm v[i].2.1.1 (k+1) (by omega) (by omega) (by unfold zI at *;omega);have w2:IntKind.i64.wrap ((mL mI v[i].2.1.1 (k+1)).2+1)=(mL mI v[i].2.1.1 (k+1)).2+1:=fg (by omega) (by omega);have w3:IntKind.i64.wrap ((mL mI v[i].2.1.1 (k+1)).2+1+1)=(mL mI v[i].2.1.1 (k+1)).2+1+1:=fg (by omega) (by omega);have t4:=zr ((mL mI v[i].2.1.1 (k+1)).2+1+1) (by omega) (by omega);have w4:IntKind.i64.wrap ((mL mI v[i].2.1.1 (k+1)).2+1+1+1)=(mL mI v[i].2.1.1 (k+1)).2+1+1+1:=fg (by omega) (by omega);have t5:=zr ((mL mI v[i].2.1.1 (k+1)).2+1+1+1) (by omega) (by omega);have w5:IntKind.i64.wrap ((mL mI v[i].2.1.1 (k+1)).2+1+1+1+1)=(mL mI v[i].2.1.1 (k+1)).2+1+1+1+1:=fg (by omega) (by omega);have s6:=zm v[i].2.2.2.2.1 ((mL mI v[i].2.1.1 (k+1)).2+1+1+1+1) (by omega) (by omega) (by unfold zI at *;omega);have w7:IntKind.i64.wrap ((mL mI v[i].2.2.2.2.1 ((mL mI v[i].2.1.1 (k+1)).2+1+1+1+1)).2+1)=(mL mI v[i].2.2.2.2.1 ((mL mI v[i].2.1.1 (k+1)).2+1+1+1+1)).2+1:=fg (by omega) (by omega);have w8:IntKind.i64.wrap ((mL mI v[i].2.2.2.2.1 ((mL mI v[i].2.1.1 (k+1)).2+1+1+1+1)).2+1+1)=(mL mI v[i].2.2.2.2.1 ((mL mI v[i].2.1.1 (k+1)).2+1+1+1+1)).2+1+1:=fg (by omega) (by omega);have w9:IntKind.i64.wrap ((mL mI v[i].2.2.2.2.1 ((mL mI v[i].2.1.1 (k+1)).2+1+1+1+1)).2+1+1+1)=(mL mI v[i].2.2.2.2.1 ((mL mI v[i].2.1.1 (k+1)).2+1+1+1+1)).2+1+1+1:=fg (by omega) (by omega);rw[Q8,aT hi,aO (by omega)];simp only[cond_true,Option.bind_some,aD hi,pg hi,List.set_set,Int.toNat_natCast,w0,s1,w2,w3,t4,w4,t5,w5,s6,w7,w8,w9]
 try rfl
noncomputable def mP(x:ah)(k:Int):ah×Int:=(((k,(mL mA x.1.2 (k+1)).1),(mL (mL mI) x.2 ((mL mA x.1.2 (k+1)).2)).1),(mL (mL mI) x.2 ((mL mA x.1.2 (k+1)).2)).2)
theorem vS:Md mP zP:=λx k=>by
 have q1:=dW mZ x.1.2 (k+1);have q2:=dW pW x.2 ((mL mA x.1.2 (k+1)).2);have hz:zP x=zL zA x.1.2+zL zI x.2:=by simp only[zP,zC]<;>omega
 unfold mP;simp only[];omega
theorem aeQ(x:List ah)(k:Int)(h0:0<=k)(hk:(mL mP x k).2<=1000000000000000000)(hz:zL zP x<=68719476736):zq x k=some (((mL mP x k).2,()),(mL mP x k).1,()):=by
 rw[aeP];refine pV mP zP (λy k=>(vS y k).1) (λv k i=>yg v k i) (λx k=>(dW vS x k).1) x k h0 hk (Nat.le_trans (dA _ x) hz) (λy hy=>Nat.le_trans (dG _ hy) hz) (λv k i hi hl h0 hk hz=>?_) (λv k=>by rw[Rb,aW];rfl);have q1:=dW mZ v[i].1.2 (k+1);have q2:=dW pW v[i].2 ((mL mA v[i].1.2 (k+1)).2);have dr:(mL (mL mI) v[i].2 ((mL mA v[i].1.2 (k+1)).2)).2<=1000000000000000000:=hk;have dV:zL zA v[i].1.2+zL zI v[i].2<=68719476736:=by have fZ:zP v[i]<=68719476736:=hz;simp only[zP,zC]at fZ;omega
 have w0:IntKind.i64.wrap (k+1)=k+1:=fg (by omega) (by omega);have s1:=R9 v[i].1.2 (k+1) (by omega) (by omega) (by omega);have s2:=aeH v[i].2 ((mL mA v[i].1.2 (k+1)).2) (by omega) (by omega) (by omega);rw[Rb,aT hi,aO (by omega)];simp only[cond_true,Option.bind_some,aD hi,pg hi,List.set_set,Int.toNat_natCast,w0,s1,s2]
 try rfl
theorem aeE(x:List ah)(k:Int)(h0:0<=k)(hk:(mL mP x k).2<=1000000000000000000)(hz:zL zP x<=68719476736):uh (mL mP x k).1 k=some (((mL mP x k).2,()),()):=by
 rw[aeD];refine BX mP zP (λy k=>(vS y k).1) (λv k i=>xZ v k i) (λx k=>(dW vS x k).1) x k h0 hk (Nat.le_trans (dA _ x) hz) (λy hy=>Nat.le_trans (dG _ hy) hz) (λv k i hi y hy hl h0 hk hz=>?_) (λv k=>by rw[Q4,aW];rfl);have q1:=dW mZ y.1.2 (k+1);have q2:=dW pW y.2 ((mL mA y.1.2 (k+1)).2);have dr:(mL (mL mI) y.2 ((mL mA y.1.2 (k+1)).2)).2<=1000000000000000000:=hk;have dV:zL zA y.1.2+zL zI y.2<=68719476736:=by have fZ:zP y<=68719476736:=hz;simp only[zP,zC]at fZ;omega
 have w0:IntKind.i64.wrap (k+1)=k+1:=fg (by omega) (by omega);have s1:=aez y.1.2 (k+1) (by omega) (by omega) (by omega);have n1:decide ((mL mA y.1.2 (k+1)).2<0)=false:=decide_eq_false (by omega);have s2:=aeB y.2 ((mL mA y.1.2 (k+1)).2) (by omega) (by omega) (by omega);have n2:decide ((mL (mL mI) y.2 ((mL mA y.1.2 (k+1)).2)).2<0)=false:=decide_eq_false (by omega);rw[Q4,aT hi,aD hi,hy,aO (by omega)];simp only[mP,cond_true,Option.bind_some,bne_self_eq_false,beq_self_eq_true,Bool.not_true,cond_false,w0,s1,n1,s2,n2]
def gA(a:aa):Prop:=a.1.length<=68719476736
def gC(c:aB):Prop:=c.2.length<=68719476736/\∀a∈c.2,gA a
def gR(r:Rw):Prop:=r.1.size<=68719476736/\gC r.2
def gL(r:Rel):Prop:=r.1.size<=68719476736/\r.2.2.length<=68719476736/\∀y∈r.2.2,gR y
theorem TI{x:ByteArray}(h:i<x.data.toList.length):mo x (i:Int)=some ((x.data.toList[i].toNat:Nat):Int):=by
 unfold mo;rw[if_pos (by omega)];have h':i<x.size:=by simpa using h
 simp only[Int.toNat_natCast];rw[show x[i]?=some x[i]from getElem?_pos x i h'];simp only[Option.map_some];congr 3
def iy(x:ByteArray)(a b:Int):Bool:=x.data.toList.all (λc => !(decide (((c.toNat:Nat):Int)<a)) && !(decide (((c.toNat:Nat):Int)>b)))&&(decide (1<=(x.size:Int))&&decide ((x.size:Int)<=6))
theorem sJ(x:ByteArray):x.size=x.data.toList.length:=by simp
theorem kQ(a b c:Int):iA a b c=some ((decide (b<=a)&&decide (a<=c),()),()):=by
 rw[adL];by_cases h:a>=b
 ·simp[h]
 ·simp[h]
theorem FL(x:ByteArray)(a b:Int)(hl:x.size<=68719476736):re x a b=some ((iy x a b,()),()):=by
 rw[ad8];have:=kT x.data.toList (λc => !(decide (((c.toNat:Nat):Int)<a)) && !(decide (((c.toNat:Nat):Int)>b))) (some ((false,()),())) (some ((decide (1<=(x.size:Int))&&decide ((x.size:Int)<=6),()),())) (λi=>tO x a b i) (by rw[<-sJ];exact hl) (λi hi=>by
  have hb:i<x.size:=by rw[sJ];exact hi
  rw[QQ,TI hi,aO (by omega)];simp only[aT hb,cond_true,Option.bind_some];cases decide (((x.data.toList[i].toNat:Nat):Int)<a)<;>cases decide (((x.data.toList[i].toNat:Nat):Int)>b)<;>rfl) (by rw[QQ,<-sJ,aW,kQ];rfl) x.data.toList.length 0 (by omega)
 simp only[List.drop_zero,Int.natCast_zero]at this;rw[show tO x a b 0=_ from this];unfold iy;cases x.data.toList.all _<;>rfl
theorem RM(x:ByteArray)(a b:Int):tW x a b=some ((iy x a b,()),()):=by
 rw[ac4];unfold iy;by_cases h1:(x.size:Int)<1
 ·have:¬(1<=(x.size:Int)):=by omega
  simp[h1,this]
 ·by_cases h2:(x.size:Int)>6
  ·have:¬((x.size:Int)<=6):=by omega
   simp only[h1,h2,decide_false,decide_true,cond_false,cond_true,this,Bool.and_false]
  ·have e1:1<=(x.size:Int):=by omega
   have e2:(x.size:Int)<=6:=by omega
   simp only[h1,h2,decide_false,cond_false,e1,e2,decide_true,Bool.and_self,Bool.and_true];have:=kT x.data.toList (λc => !(decide (((c.toNat:Nat):Int)<a)) && !(decide (((c.toNat:Nat):Int)>b))) (some ((false,()),())) (some ((true,()),())) (λi=>tE x a b i) (by rw[<-sJ];omega) (λi hi=>by
    have hb:i<x.size:=by rw[sJ];exact hi
    rw[P4,TI hi,aO (by omega)];simp only[aT hb,cond_true,Option.bind_some];cases decide (((x.data.toList[i].toNat:Nat):Int)<a)<;>cases decide (((x.data.toList[i].toNat:Nat):Int)>b)<;>rfl) (by rw[P4,<-sJ,aW];rfl) x.data.toList.length 0 (by omega)
   simp only[List.drop_zero,Int.natCast_zero]at this;rw[show tE x a b 0=_ from this];cases x.data.toList.all _<;>rfl
theorem ac2(x:ByteArray):Fz x=some ((iy x 65 90,()),()):=by
 rw[ac1,RM];rfl
theorem RL(x:ByteArray):yL x=some ((iy x 97 122,()),()):=by
 rw[ac0,RM];rfl
def cY(a:Int):Bool:=decide (-400000000<=a)&&decide (a<=400000000)
theorem RS(a:Int):yR a=some ((cY a,()),()):=by
 rw[adt,kQ,Option.bind_some];rfl
theorem Rt(a:Int):yx a=some ((cY a,()),()):=by
 rw[acn];unfold cY;by_cases h:a >= -400000000
 ·simp[h]
 ·simp[h]
theorem acG{a:Int}(h:cY a=true):qW a=some (((a.natAbs:Int),()),()):=by
 simp only[cY,Bool.and_eq_true,decide_eq_true_eq]at h;rw[Fs];by_cases h0:a<0
 ·simp only[h0,decide_true,cond_true];rw[cb (by omega) (by omega)];congr 3;omega
 ·simp only[h0,decide_false,cond_false];congr 3;omega
theorem acF(a:Nat):qW (a:Int)=some (((a:Int),()),()):=by
 rw[Fs];have:decide ((a:Int)<0)=false:=by simp
 rw[this,cond_false]
theorem RW{a:Int}(h:cY a=true):uc a=some (((a.natAbs:Int),()),()):=by
 simp only[cY,Bool.and_eq_true,decide_eq_true_eq]at h;rw[RU];rw[cb (by omega) (by omega)];simp only[cond_true];congr 3;split<;>omega
theorem DJ:∀(n:Nat) (a b:Int),b.natAbs<=n->0<=a->0<=b->xp a b=some ((((Nat.gcd a.natAbs b.natAbs:Nat):Int),()),())
 | n,a,b,hn,ha,hb=>by
  rw[aa4];by_cases h0:b=0
  ·subst h0;simp only[bne_self_eq_false,cond_false];simp;omega
  ·have:(b != 0)=true:=by simpa using h0
   rw[this,cond_true,cond_true];have au:a.natAbs % b.natAbs<b.natAbs:=Nat.mod_lt _ (by omega);have hm:=Int.natAbs_tmod a b;cases n with
   | zero=>omega
   | succ n =>
    rw[DJ n b (Int.tmod a b) (by omega) hb (Int.tmod_nonneg _ ha),hm];congr 4;rw[Nat.gcd_comm a.natAbs,Nat.gcd_rec b.natAbs a.natAbs,Nat.gcd_comm]
 termination_by n=>n
theorem RA(a:Nat){b:Int}(hb:cY b=true):oI (a:Int) b=some ((((Nat.gcd a b.natAbs:Nat):Int),()),()):=by
 rw[Rz,acF,acG hb];simp only[Option.bind_some];rw[DJ _ _ _ (Nat.le_refl _) (by omega) (by omega)];simp
def gl(x:List Int)(g:Nat):Nat:=x.foldl (λg y=>Nat.gcd g y.natAbs) g
theorem TN:∀(x:List Int) (g h:Nat),gl x (Nat.gcd g h)=Nat.gcd (gl x g) h
 | [],_,_=>rfl
 | y::x,g,h=>by
  change gl x (Nat.gcd (Nat.gcd g h) y.natAbs)=Nat.gcd (gl x (Nat.gcd g y.natAbs)) h;rw[show Nat.gcd (Nat.gcd g h) y.natAbs=Nat.gcd (Nat.gcd g y.natAbs) h by rw[Nat.gcd_assoc,Nat.gcd_comm h,<-Nat.gcd_assoc],TN x]
theorem HV(x:List Int)(k:Nat):gl x k=Nat.gcd (gl x 0) k:=by
 rw[<-TN,Nat.gcd_zero_left]
theorem DU(x:List Int)(i:Int):∀(n:Nat) (a b:Int),b.natAbs<=n->0<=a->0<=b->xH x a i b=qQ x ((Nat.gcd a.natAbs b.natAbs:Nat):Int) (IntKind.i64.wrap (i+1))
 | n,a,b,hn,ha,hb=>by
  rw[aa9];by_cases h0:b=0
  ·subst h0;simp only[bne_self_eq_false,cond_false];congr 1;simp;omega
  ·have:(b != 0)=true:=by simpa using h0
   rw[this,cond_true,cond_true];have au:a.natAbs % b.natAbs<b.natAbs:=Nat.mod_lt _ (by omega);have hm:=Int.natAbs_tmod a b;cases n with
   | zero=>omega
   | succ n =>
    rw[DU x i n b (Int.tmod a b) (by omega) hb (Int.tmod_nonneg _ ha),hm];congr 2;rw[Nat.gcd_comm a.natAbs,Nat.gcd_rec b.natAbs a.natAbs,Nat.gcd_comm]
 termination_by n=>n
theorem QD(x:List Int)(hl:x.length<=68719476736)(hx:∀y∈x,cY y=true):∀(n i g:Nat),n+i=x.length->qQ x (g:Int) (i:Int)=some ((((gl (x.drop i) g:Nat):Int),()),())
 | 0,i,g,hn=>by
  obtain rfl:i=x.length:=by omega
  rw[xG,aW,List.drop_eq_nil_of_le (by omega)];rfl
 | n+1,i,g,hn=>by
  have hi:i<x.length:=by omega
  rw[xG,aT hi,aD hi,cond_true,Option.bind_some,RW (hx _ (List.getElem_mem hi)),Option.bind_some,DU x i _ _ _ (Nat.le_refl _) (Int.natCast_nonneg _) (Int.natCast_nonneg _),aO (by omega),QD x hl hx n (i+1) _ (by omega),List.drop_eq_getElem_cons hi];simp only[Int.natAbs_natCast];rfl
theorem R0(x:List Int)(k:Int)(hl:x.length<=68719476736)(hx:∀y∈x,cY y=true)(hk:cY k=true):oO x k=some ((((gl x k.natAbs:Nat):Int),()),()):=by
 rw[RZ,RW hk,Option.bind_some];have:=QD x hl hx x.length 0 k.natAbs (by omega);simpa using this
theorem P0(x:List Int)(hl:x.length<=68719476736)(hx:∀y∈x,cY y=true):∀(n i g:Nat),n+i=x.length->tD x (g:Int) x (x.length:Int) (i:Int)=some ((((gl (x.drop i) g:Nat):Int),()),())
 | 0,i,g,hn=>by
  obtain rfl:i=x.length:=by omega
  rw[xv,aW,List.drop_eq_nil_of_le (by omega)];rfl
 | n+1,i,g,hn=>by
  have hi:i<x.length:=by omega
  rw[xv,aT hi,aD hi,cond_true,Option.bind_some,RA _ (hx _ (List.getElem_mem hi)),Option.bind_some,aO (by omega),P0 x hl hx n (i+1) _ (by omega),List.drop_eq_getElem_cons hi];rfl
theorem RI(x:List Int)(hl:x.length<=68719476736)(hx:∀y∈x,cY y=true):lV x=some ((((gl x 0:Nat):Int),()),()):=by
 rw[RH];have:=P0 x hl hx x.length 0 0 (by omega);simpa using this
def bJ(a:aa):Bool := !(decide ((a.1.length:Int)>4))&&(cY a.2.1&&(a.1.all cY&&decide (((gl a.1 a.2.1.natAbs:Nat):Int)<=1)))
theorem q7(a:aa):lX a=some ((bJ a,()),()):=by
 rw[adm,RS];unfold bJ;cases h:decide ((a.1.length:Int)>4)with
 | true=>rfl
 | false =>
  have hl:a.1.length<=68719476736:=by simp at h;omega
  simp only[cond_false,Option.bind_some,Bool.not_false,Bool.true_and];cases hk:cY a.2.1 with
  | false=>rfl
  | true =>
   simp only[Bool.not_true,cond_false,Bool.true_and];have:=kT a.1 cY (some ((false,()),())) (qL a (a.1.length:Int)) (λi=>qL a i) hl (λi hi=>by
    rw[Qj,aD hi,aO (by omega)];simp only[aT hi,cond_true,Option.bind_some,RS];cases cY a.1[i]<;>rfl) rfl a.1.length 0 (by omega)
   simp only[List.drop_zero,Int.natCast_zero]at this;rw[show qL a 0=_ from this];cases ha:a.1.all cY with
   | false=>rfl
   | true =>
    rw[cond_true,Qj,aW,cond_false,R0 a.1 _ hl (List.all_eq_true.1 ha) hk];rfl
theorem nH(a:aa):kc a=some ((bJ a,()),()):=by
 rw[acf,Rt];unfold bJ;cases h:decide ((a.1.length:Int)>4)with
 | true=>rfl
 | false =>
  have hl:a.1.length<=68719476736:=by simp at h;omega
  simp only[cond_false,Option.bind_some,Bool.not_false,Bool.true_and];cases hk:cY a.2.1 with
  | false=>rfl
  | true =>
   simp only[Bool.not_true,cond_false,Bool.true_and];have:=kT a.1 cY (some ((false,()),())) (qF a a.1 (a.1.length:Int) (a.1.length:Int)) (λi=>qF a a.1 (a.1.length:Int) i) hl (λi hi=>by
    rw[PE,aD hi,aO (by omega)];simp only[aT hi,cond_true,Option.bind_some,Rt];cases cY a.1[i]<;>rfl) rfl a.1.length 0 (by omega)
   simp only[List.drop_zero,Int.natCast_zero]at this;rw[show qF a a.1 (a.1.length:Int) 0=_ from this];cases ha:a.1.all cY with
   | false=>rfl
   | true =>
    rw[cond_true,PE,aW,cond_false,RI a.1 hl (List.all_eq_true.1 ha),Option.bind_some,RA _ hk,Option.bind_some,<-HV];rfl
def bG(c:aB):Bool:=c.2.all (λa=>bJ a && !((a.1.length:Int) != c.1))&&(decide (0<=c.1)&&decide (c.1<=4)&&decide ((c.2.length:Int)<=16))
theorem tX(c:aB)(hl:c.2.length<=68719476736):nI c=some ((bG c,()),()):=by
 rw[adn];have:=kT c.2 (λa=>bJ a && !((a.1.length:Int) != c.1)) (some ((false,()),())) (qM c (c.2.length:Int)) (λi=>qM c i) hl (λi hi=>by
  rw[Qk,aD hi,aO (by omega)];simp only[aT hi,cond_true,Option.bind_some,q7];cases bJ c.2[i]<;>cases ((c.2[i].1.length:Int) != c.1)<;>rfl) rfl c.2.length 0 (by omega)
 simp only[List.drop_zero,Int.natCast_zero]at this;rw[show qM c 0=_ from this,Qk,aW,kQ];unfold bG;cases c.2.all _<;>cases (decide (0<=c.1)&&decide (c.1<=4))<;>rfl
theorem oG(c:aB):kP c=some ((bG c,()),()):=by
 rw[acg];unfold bG;by_cases h1:c.1<0
 ·have:¬(0<=c.1):=by omega
  simp[h1,this]
 by_cases h2:c.1>4
 ·have:¬(c.1<=4):=by omega
  simp[h1,h2,this]
 by_cases h3:(c.2.length:Int)>16
 ·have:¬((c.2.length:Int)<=16):=by omega
  simp only[h1,h2,h3,this,decide_false,decide_true,cond_false,cond_true,Bool.and_false]
 ·have e1:0<=c.1:=by omega
  have e2:c.1<=4:=by omega
  have e3:(c.2.length:Int)<=16:=by omega
  simp only[h1,h2,h3,e1,e2,e3,decide_false,decide_true,cond_false,Bool.and_self,Bool.and_true];have:=kT c.2 (λa=>bJ a && !((a.1.length:Int) != c.1)) (some ((false,()),())) (some ((true,()),())) (λi=>tk c c.2 (c.2.length:Int) i) (by omega) (λi hi=>by
   rw[PF,aD hi,aO (by omega)];simp only[aT hi,cond_true,Option.bind_some,nH];cases bJ c.2[i]<;>cases ((c.2[i].1.length:Int) != c.1)<;>rfl) (by rw[PF,aW];rfl) c.2.length 0 (by omega)
  simp only[List.drop_zero,Int.natCast_zero]at this;rw[show tk c c.2 (c.2.length:Int) 0=_ from this];cases c.2.all _<;>rfl
def wu(d:Int)(r:Rw):Bool:=iy r.1 97 122&&(bG r.2 && !(r.2.1 != d))
def qa(r:Rel):Bool:=iy r.1 65 90&&(decide (0<=r.2.1)&&decide (r.2.1<=4)&&(decide ((r.2.2.length:Int)<=8)&&r.2.2.all (wu r.2.1)))
theorem adx(r:Rel)(h:gL r):yT r=some ((qa r,()),()):=by
 obtain⟨h0,hl,hg⟩:=h;rw[adw];have:=kT r.2.2 (wu r.2.1) (some ((false,()),())) (qP r (r.2.2.length:Int)) (λi=>qP r i) hl (λi hi=>by
  have B2:=hg _ (List.getElem_mem hi);rw[Qr,aD hi,aO (by omega)];simp only[aT hi,cond_true,Option.bind_some,FL _ _ _ B2.1,tX _ B2.2.1];unfold wu;cases iy r.2.2[i].1 97 122<;>cases bG r.2.2[i].2<;>cases (r.2.2[i].2.1 != r.2.1)<;>rfl) rfl r.2.2.length 0 (by omega)
 simp only[List.drop_zero,Int.natCast_zero]at this;rw[show qP r 0=_ from this,Qr,aW,kQ,FL _ _ _ h0];unfold qa;cases r.2.2.all _<;>cases iy r.1 65 90<;>cases (decide (0<=r.2.1)&&decide (r.2.1<=4))<;>cases decide ((r.2.2.length:Int)<=8)<;>rfl
theorem acr(r:Rel):yA r=some ((qa r,()),()):=by
 rw[acq,ac2];unfold qa;cases iy r.1 65 90 with
 | false=>rfl
 | true =>
  simp only[Option.bind_some,Bool.not_true,cond_false,Bool.true_and];by_cases h1:r.2.1<0
  ·have:¬(0<=r.2.1):=by omega
   simp[h1,this]
  by_cases h2:r.2.1>4
  ·have:¬(r.2.1<=4):=by omega
   simp[h1,h2,this]
  by_cases h3:(r.2.2.length:Int)>8
  ·have:¬((r.2.2.length:Int)<=8):=by omega
   simp only[h1,h2,h3,this,decide_false,decide_true,cond_false,cond_true,Bool.and_false,Bool.false_and]
  ·have e1:0<=r.2.1:=by omega
   have e2:r.2.1<=4:=by omega
   have e3:(r.2.2.length:Int)<=8:=by omega
   simp only[h1,h2,h3,e1,e2,e3,decide_false,decide_true,cond_false,Bool.and_self,Bool.true_and];have:=kT r.2.2 (wu r.2.1) (some ((false,()),())) (some ((true,()),())) (λi=>tp r r.2.2 (r.2.2.length:Int) i) (by omega) (λi hi=>by
    rw[PK,aD hi,aO (by omega)];simp only[aT hi,cond_true,Option.bind_some,RL,oG];unfold wu;cases iy r.2.2[i].1 97 122<;>cases bG r.2.2[i].2<;>cases (r.2.2[i].2.1 != r.2.1)<;>rfl) (by rw[PK,aW];rfl) r.2.2.length 0 (by omega)
   simp only[List.drop_zero,Int.natCast_zero]at this;rw[show tp r r.2.2 (r.2.2.length:Int) 0=_ from this];cases r.2.2.all _<;>rfl
def named(n:ByteArray)(r:Rel):Bool:=r.1.toList==n.toList
theorem FG(x:List Rel)(n:ByteArray)(hl:x.length<=68719476736):oL x n=some ((cq (named n) x,()),()):=by
 rw[adj];exact HM x (named n) (λi=>some ((i,()),())) (λi=>xy x n i) (λi hi=>by
  rw[Qi,aD hi,aO (by omega)];simp only[aT hi,cond_true,Option.bind_some];rfl) (by rw[Qi,aW];rfl) x.length 0 (by omega) (λj _ h=>by omega)
theorem Fp(x:List Rel)(n:ByteArray)(hl:x.length<=68719476736):qU x n=some ((cq (named n) x,()),()):=by
 rw[acb];exact HM x (named n) (λi=>some ((i,()),())) (λi=>xj x n x (x.length:Int) i) (λi hi=>by
  rw[PD,aD hi,aO (by omega)];simp only[aT hi,cond_true,Option.bind_some];rfl) (by rw[PD,aW];rfl) x.length 0 (by omega) (λj _ h=>by omega)
theorem af2(p:α->Bool)(x:List α)(i:Nat)(hi:i<x.length)(hp:p x[i]=true):decide (cq p (x.take i)>=0)=(cq p x != (i:Int)):=by
 have h1:x.findIdx p<=i:=Nat.le_of_not_lt λh=>by
  have:=List.not_of_lt_findIdx h;rw[hp]at this;cases this
 have h2:(x.take i).findIdx p=min i (x.findIdx p):=List.findIdx_take;have h3:(x.take i).length=i:=by simp;omega
 unfold cq;rw[h2,h3,if_pos (by omega:x.findIdx p<x.length)];by_cases h:x.findIdx p=i
 ·rw[if_neg (by omega),h];simp
 ·rw[if_pos (by omega)];have e1:((x.findIdx p:Nat):Int)≠(i:Int):=by omega
  have e2:((min i (x.findIdx p):Nat):Int)>=0:=by omega
  simp[e1,e2]
def rr(p:Nat->Bool):Nat->Nat->Bool
 | 0,_=>true
 | n+1,i=>p i&&rr p n (i+1)
theorem IY(l:Nat)(p:Nat->Bool)(F E:Option R)(f:Int->Option R)
  (h1:∀(i:Nat),i<l->f (i:Int)=bif p i then f ((i+1:Nat):Int)else F) (h2:f (l:Int)=E) :
  ∀(n i:Nat),n+i=l->f (i:Int)=bif rr p n i then E else F
 | 0,i,hn=>by
  obtain rfl:i=l:=by omega
  rw[h2];rfl
 | n+1,i,hn=>by
  rw[h1 i (by omega),IY l p F E f h1 h2 n (i+1) (by omega)];cases h:p i<;>simp[rr,h]
def o4(x:List Rel)(i:Nat):Bool:=match x[i]? with
 | some r=>qa r && !(decide (cq (named r.1) (x.take i)>=0))
 | none=>true
def mf(x:List Rel):Bool:=rr (o4 x) x.length 0&&decide ((x.length:Int)<=6)
theorem adp(x:List Rel)(h:x.length<=68719476736/\∀a∈x,gL a):yP x=some ((mf x,()),()):=by
 obtain⟨hl,hg⟩:=h;rw[ado];have:=IY x.length (o4 x) (some ((false,()),())) (qN x (x.length:Int)) (λi=>qN x i) (λi hi=>by
  rw[Ql,aD hi,aO (by omega)];have e:(decide ((0:Int)<=(i:Int))&&decide ((i:Int)<=(x.length:Int)))=true:=by simp;omega
  have e2:oL (List.drop (Int.toNat 0) (List.take ((i:Int)).toNat x)) x[i].1=some ((cq (named x[i].1) (x.take i),()),()):=by
   have:List.drop (Int.toNat 0) (List.take ((i:Int)).toNat x)=x.take i:=by simp
   rw[this];exact FG _ _ (by simp;omega)
  have e0:(decide (0<=0)&&decide ((0:Int)<=(i:Int))&&decide ((i:Int)<=(x.length:Int)))=true:=by simp;omega
  simp only[aT hi,cond_true,Option.bind_some,adx _ (hg _ (List.getElem_mem hi)),e2];rw[e0];unfold o4;rw[List.getElem?_eq_getElem hi];simp only[];cases qa x[i]<;>cases decide (cq (named x[i].1) (x.take i)>=0)<;>rfl) rfl x.length 0 (by omega)
 simp only[Int.natCast_zero]at this;rw[show qN x 0=_ from this,Ql,aW];unfold mf;cases rr (o4 x) x.length 0<;>rfl
theorem aci(x:List Rel):yu x=some ((mf x,()),()):=by
 rw[ach];unfold mf;by_cases h:(x.length:Int)>6
 ·have:¬((x.length:Int)<=6):=by omega
  simp only[h,this,decide_true,decide_false,cond_true,Bool.and_false]
 ·have e:(x.length:Int)<=6:=by omega
  simp only[h,e,decide_true,decide_false,cond_false,Bool.and_true];have:=IY x.length (o4 x) (some ((false,()),())) (some ((true,()),())) (λi=>tl x x (x.length:Int) i) (λi hi=>by
   rw[PG,aD hi,aO (by omega)];simp only[aT hi,cond_true,Option.bind_some,acr,Fp _ _ (show x.length<=68719476736 by omega)];unfold o4;rw[List.getElem?_eq_getElem hi];simp only[];rw[af2 _ x i hi (by simp[named])];cases qa x[i]<;>cases (cq (named x[i].1) x != (i:Int))<;>rfl) (by rw[PG,aW];rfl) x.length 0 (by omega)
  simp only[Int.natCast_zero]at this;rw[show tl x x (x.length:Int) 0=_ from this];cases rr (o4 x) x.length 0<;>rfl
theorem Tl(p:α->Bool)(x:List α):(decide (cq p x<0)=true)\/(decide (cq p x<0)=false/\∃y,ab x (cq p x)=some y):=by
 unfold cq;by_cases h:x.findIdx p<x.length
 ·right;rw[if_pos h];refine⟨by simp,x[x.findIdx p],aD h⟩
 ·left;rw[if_neg h];decide
def emp(x:ByteArray):Bool:=x.toList==(ByteArray.mk #[]).toList
def oB(a:aa):Bool:=((a.1.length:Int)==0)&&((a.2.1==0) && !a.2.2)
def dP(v:Int):Bool:=decide (0<=v)&&decide (v<=3)
def CH(n:av):Bool:=emp n.2.2.1&&(emp n.2.2.2.1 && !decide ((n.2.2.2.2.1.length:Int)>0))
def Jf(x:ByteArray):Bool:=emp x||iy x 97 122
def qb(db:List Rel)(n:av):Bool:=(n.2.2.2.2.1.all dP)&&(!decide (cq (named n.2.2.1) db<0)&&(match ab db (cq (named n.2.2.1) db)with
 | some r=>(r.2.1==(n.2.2.2.2.1.length:Int))&&Jf n.2.2.2.1
 | none=>false))
theorem ad5(a:aa):FK a=some ((oB a,()),()):=by
 rw[ad4];unfold oB;generalize ((a.1.length:Int)==0)=b1;generalize (a.2.1==0)=b2;cases b1<;>cases b2<;>rfl
theorem ac6(a:aa):FB a=some ((oB a,()),()):=by
 rw[ac5];unfold oB;generalize ((a.1.length:Int)==0)=b1;generalize (a.2.1==0)=b2;cases b1<;>cases b2<;>rfl
theorem FA(v:Int):tV v=some ((dP v,()),()):=by
 rw[ac3];unfold dP;by_cases h:v>=0
 ·have:(v<4)=(v<=3):=by apply propext;omega
  simp[h,this]
 ·have:¬0<=v:=by omega
  simp[h]
theorem aba(db:List Rel)(n:av)(hb:zN n<=68719476736):qT db n (cq (named n.2.2.1) db) 0=some ((qb db n,()),()):=by
 have hz:zN n=zA n.2.1+zB n.2.2.1+zB n.2.2.2.1+zI n.2.2.2.2.1:=rfl;have:=rq n.2.2.2.2.1 dP (some ((false,()),())) (qT db n (cq (named n.2.2.1) db) (n.2.2.2.2.1.length:Int)) (λi=>qT db n (cq (named n.2.2.1) db) i) (by unfold zI at hz;omega) (λi hi=>by
  rw[QP,aD hi,aT hi,aO (by unfold zI at hz;omega)];simp only[cond_true,Option.bind_some,kQ];change (bif !dP _ then _ else _)=_;cases dP n.2.2.2.2.1[i]<;>rfl) rfl
 rw[this,QP,aW,cond_false];unfold qb;have hd:decide (cq (named n.2.2.1) db>=0) = !decide (cq (named n.2.2.1) db<0):=by
  by_cases h:cq (named n.2.2.1) db<0
  ·have:¬cq (named n.2.2.1) db>=0:=by omega
   simp[h]
  ·have:cq (named n.2.2.1) db>=0:=by omega
   simp[h,this]
 rw[hd,FL _ _ _ (by unfold zB at hz;omega)];cases n.2.2.2.2.1.all dP with
 | false=>rfl
 | true =>
  rcases Tl (named n.2.2.1) db with h|⟨h,r,hr⟩
  ·rw[h];rfl
  ·rw[h,hr];simp only[Bool.not_false,cond_true,Option.bind_some,Bool.true_and];unfold Jf emp;generalize (r.2.1==(n.2.2.2.2.1.length:Int))=b1;generalize (ByteArray.toList n.2.2.2.1==(ByteArray.mk #[]).toList)=b2;cases b1<;>cases b2<;>rfl
def lE(db:List Rel)(n:av):Bool:=bif n.1==0 then bJ n.2.1&&((n.2.1.1.length:Int)==4)else bif n.1==1 then qb db n else (decide (2<=n.1)&&decide (n.1<=6))&&dP n.2.2.2.2.2.1
theorem aa2(db:List Rel)(n:av)(hd:db.length<=68719476736)(hb:zN n<=68719476736):eX db n=some ((lE db n,()),()):=by
 rw[aa1,q7,FG _ _ hd];simp only[Option.bind_some,aba db n hb,kQ];unfold lE dP;generalize (n.1==0)=b0;generalize (n.1==1)=b1;generalize (bJ n.2.1)=b2;generalize (decide (2<=n.1)&&decide (n.1<=6))=b3;cases b0<;>cases b1<;>cases b2<;>cases b3<;>rfl
def gP(n:av):Bool:=((n.1==3||n.1==4)||n.2.2.2.2.2.2.2==0)&&(!decide (n.1<=1)||n.2.2.2.2.2.2.1==0)
def sV(n:av):Bool:=(n.1==5||n.1==6)||n.2.2.2.2.2.1==0
theorem aa0(db:List Rel)(n:av)(hd:db.length<=68719476736)(hb:zN n<=68719476736):qD db n=some ((sV n&&(gP n&&lE db n),()),()):=by
 rw[aaZ,aa2 db n hd hb];unfold sV gP;simp only[bne];generalize (n.1==5)=b5;generalize (n.1==6)=b6;generalize (n.1==3)=b3;generalize (n.1==4)=b4;generalize (decide (n.1<=1))=b1;generalize (n.2.2.2.2.2.1==0)=c1;generalize (n.2.2.2.2.2.2.1==0)=c2;generalize (n.2.2.2.2.2.2.2==0)=c3;cases b5<;>cases b6<;>cases b3<;>cases b4<;>cases b1<;>cases c1<;>cases c2<;>cases c3<;>rfl
def fI(db:List Rel)(n:av):Bool:=(n.1==0||oB n.2.1)&&((n.1==1||CH n)&&(sV n&&(gP n&&lE db n)))
theorem ad7(db:List Rel)(n:av)(hd:db.length<=68719476736)(hb:zN n<=68719476736):za db n=some ((fI db n,()),()):=by
 rw[ad6,aa0 db n hd hb,ad5];unfold fI CH emp;simp only[bne,Option.bind_some];generalize (n.1==0)=b0;generalize (n.1==1)=b1;generalize oB n.2.1=b2;generalize (ByteArray.toList n.2.2.1==(ByteArray.mk #[]).toList)=b3;generalize (ByteArray.toList n.2.2.2.1==(ByteArray.mk #[]).toList)=b4;generalize (decide ((n.2.2.2.2.1.length:Int)>0))=b5;generalize (sV n&&(gP n&&lE db n))=b6;cases b0<;>cases b1<;>cases b2<;>cases b3<;>cases b4<;>cases b5<;>rfl
theorem aaS(n:av)(hb:n.2.2.2.2.1.length<=68719476736):xd n=some ((n.2.2.2.2.1.all dP,()),()):=by
 rw[aaR];have:=rq n.2.2.2.2.1 dP (some ((false,()),())) (some ((true,()),())) (λi=>xx n n.2.2.2.2.1 (n.2.2.2.2.1.length:Int) i) hb (λi hi=>by
  rw[P3,aD hi,aT hi,aO (by omega)];simp only[cond_true,Option.bind_some,FA];cases dP n.2.2.2.2.1[i]<;>rfl) (by rw[P3,aW];rfl)
 rw[this];cases n.2.2.2.2.1.all dP<;>rfl
def sf(db:List Rel)(n:av):Bool:=bif n.1==0 then (n.2.2.2.2.2.1==0)&&(bJ n.2.1&&((n.2.1.1.length:Int)==4))else bif n.1==1 then (n.2.2.2.2.2.1==0)&&qb db n else bif n.1==5||n.1==6 then dP n.2.2.2.2.2.1 else n.2.2.2.2.2.1==0
theorem aaV(db:List Rel)(n:av)(hd:db.length<=68719476736)(hb:zN n<=68719476736):xe db n=some ((sf db n,()),()):=by
 have hz:zN n=zA n.2.1+zB n.2.2.1+zB n.2.2.2.1+zI n.2.2.2.2.1:=rfl;rw[aaU,nH,Fp _ _ hd,RL,aaS n (by unfold zI at hz;omega),Oo,Oo,FA];simp only[Option.bind_some,bne];unfold sf qb Jf emp;rcases Tl (named n.2.2.1) db with h|⟨h,r,hr⟩
 ·rw[h];generalize (n.1==0)=b0;generalize (n.1==1)=b1;generalize (n.1==5)=b5;generalize (n.1==6)=b6;generalize (n.2.2.2.2.2.1==0)=c1;generalize (bJ n.2.1)=b2;generalize (n.2.2.2.2.1.all dP)=b3;cases b0<;>cases b1<;>cases b5<;>cases b6<;>cases c1<;>cases b2<;>cases b3<;>rfl
 ·rw[h,hr];simp only[Option.bind_some];generalize (n.1==0)=b0;generalize (n.1==1)=b1;generalize (n.1==5)=b5;generalize (n.1==6)=b6;generalize (n.2.2.2.2.2.1==0)=c1;generalize (bJ n.2.1)=b2;generalize (n.2.2.2.2.1.all dP)=b3;generalize (r.2.1==(n.2.2.2.2.1.length:Int))=c2;generalize (ByteArray.toList n.2.2.2.1==(ByteArray.mk #[]).toList)=c3;generalize iy n.2.2.2.1 97 122=c4;cases b0<;>cases b1<;>cases b5<;>cases b6<;>cases c1<;>cases b2<;>cases b3<;>cases c2<;>cases c3<;>cases c4<;>rfl
def uL(db:List Rel)(n:av):Bool:=(n.1==0||oB n.2.1)&&((n.1==1||CH n)&&sf db n)
theorem acW(db:List Rel)(n:av)(hd:db.length<=68719476736)(hb:zN n<=68719476736):yJ db n=some ((uL db n,()),()):=by
 rw[acV,aaT,aaV db n hd hb,ac6];unfold uL CH emp;simp only[bne,Option.bind_some];generalize (n.1==0)=b0;generalize (n.1==1)=b1;generalize oB n.2.1=b2;generalize (ByteArray.toList n.2.2.1==(ByteArray.mk #[]).toList)=b3;generalize (ByteArray.toList n.2.2.2.1==(ByteArray.mk #[]).toList)=b4;generalize (decide ((n.2.2.2.2.1.length:Int)>0))=b5;generalize sf db n=b6;cases b0<;>cases b1<;>cases b2<;>cases b3<;>cases b4<;>cases b5<;>rfl
theorem Xq(db:List Rel)(n:av):fI db n=(uL db n&&(gP n&&(decide (0<=n.1)&&decide (n.1<=6)))):=by
 unfold fI uL;have key:(sV n&&(gP n&&lE db n))=(sf db n&&(gP n&&(decide (0<=n.1)&&decide (n.1<=6)))):=by
  unfold sV lE sf;by_cases h0:n.1=0
  ·rw[h0];cases (n.2.2.2.2.2.1==0)<;>cases gP n<;>cases (bJ n.2.1&&((n.2.1.1.length:Int)==4))<;>rfl
  by_cases h1:n.1=1
  ·rw[h1];cases (n.2.2.2.2.2.1==0)<;>cases gP n<;>cases qb db n<;>rfl
  by_cases h2:2<=n.1/\n.1<=6
  ·have e0:(n.1==0)=false:=by simpa using h0
   have e1:(n.1==1)=false:=by simpa using h1
   have e2:decide (2<=n.1)=true:=by simp[h2.1]
   have e3:decide (n.1<=6)=true:=by simp[h2.2]
   have e4:decide (0<=n.1)=true:=by simp;omega
   rw[e0,e1,e2,e3,e4];by_cases h5:n.2.2.2.2.2.1=0
   ·rw[h5];cases (n.1==5)<;>cases (n.1==6)<;>cases gP n<;>rfl
   ·have e5:(n.2.2.2.2.2.1==0)=false:=by simpa using h5
    rw[e5];cases (n.1==5)<;>cases (n.1==6)<;>cases gP n<;>cases dP n.2.2.2.2.2.1<;>rfl
  ·have e0:(n.1==0)=false:=by simpa using h0
   have e1:(n.1==1)=false:=by simpa using h1
   have e2:(decide (2<=n.1)&&decide (n.1<=6))=false:=by
    rw[Bool.and_eq_false_iff];by_cases h:2<=n.1
    ·right;simp;omega
    ·left;simp;omega
   have e3:(decide (0<=n.1)&&decide (n.1<=6))=false:=by
    rw[Bool.and_eq_false_iff];by_cases h:0<=n.1
    ·right;simp;omega
    ·left;simp;omega
   rw[e0,e1,e2,e3];simp
 rw[key];simp only[Bool.and_assoc]
def ar(k:Int):Nat:=bif k==3||k==4 then 2 else bif decide (k>1)then 1 else 0
def eR(n:av)(i:Int)(T:List Int):Option (List Int):=match ar n.1,T with
 | 0,T=>some (i::T)
 | 1,r::T=>bif r==n.2.2.2.2.2.2.1 then some (i::T)else none
 | 2,r::s::T=>bif r==n.2.2.2.2.2.2.2 then bif s==n.2.2.2.2.2.2.1 then some (i::T)else none else none
 | _,_=>none
def kX(db:List Rel):List av->Int->List Int->Bool
 | [],_,T=>(T.length:Int)==1
 | n::l,i,T=>bif fI db n then (match eR n i T with
  | some T'=>kX db l (i+1) T'
  | none=>false)else false
theorem Sn(k:Int):ar k=0\/ar k=1\/ar k=2:=by
 unfold ar;cases (k==3||k==4)<;>cases decide (k>1)<;>simp
theorem agk(x:List α){i:Int}(h:i<0):ab x i=none:=by
 unfold ab;rw[if_neg (by omega)]
theorem rL(x:List α){i:Int}(j:Nat)(h:i=(j:Int))(hj:j<x.length):ab x i=some x[j]:=by
 subst h;exact aD hj
theorem TL(T:List α)(r:α):ab (r::T).reverse (((r::T).reverse.length:Int) - 1)=some r:=by
 rw[rL _ T.length (by simp) (by simp)];simp
theorem agj(T:List α)(r s:α):ab (r::s::T).reverse (((r::s::T).reverse.length:Int) - 2)=some s:=by
 rw[rL _ T.length (by simp<;>omega) (by simp<;>omega)];simp[List.getElem_append]
theorem Dx(db:List Rel)(f:List av)(T U:List Int)(i:Nat)(m:Nat)(hi:i<=1000000)(hT:(U.reverse++T.reverse).length<=1000000)(hm:U.length=m):
  nF db f (T.reverse++U.reverse) (i:Int) (m:Int) ((T.reverse++U.reverse).length:Int)=qO db f ((i:Int)::T).reverse ((i+1:Nat):Int):=by
 have hl:(T.reverse++U.reverse).length=T.length+m:=by simp[hm]
 have hle:T.length+m<=1000000:=by simp at hT;omega
 rw[aaY,hl,cb (by omega) (by omega)];have e1:((T.length+m:Nat):Int) - (m:Int)=(T.length:Int):=by omega
 rw[e1,aO (by omega)];have e2:(List.drop (Int.toNat 0) (List.take (Int.toNat (T.length:Int)) (T.reverse++U.reverse)))=T.reverse:=by
  rw[Int.toNat_natCast];simp
 rw[e2];have d1:decide ((0:Int)<=(T.length:Int))=true:=by simp
 have d2:decide ((T.length:Int)<=((T.length+m:Nat):Int))=true:=decide_eq_true (by omega);have d3:decide ((0+T.reverse.length)*8<=140737488355328)=true:=by simp;omega
 have d4:decide ((T.reverse.length+1)*8<=140737488355328)=true:=by simp;omega
 rw[d1,d2,d3,d4];simp
theorem aaX(db:List Rel)(f:List av)(T:List Int)(i:Nat)(h:i<f.length)(hl:f.length<=1000000)(hT:T.length<=i):
  jZ db f T.reverse (i:Int) ((ar f[i].1:Nat):Int)=match eR f[i] i T with
   | some T'=>qO db f T'.reverse ((i+1:Nat):Int)
   | none=>some ((false,()),()):=by
 rw[aaW];unfold eR;rcases Sn f[i].1 with hm|hm|hm
 ·rw[hm];have d:decide ((T.reverse.length:Int)<((0:Nat):Int))=false:=by simp
  have:=Dx db f T [] i 0 (by omega) (by simp;omega) rfl;simp only[List.reverse_nil,List.append_nil]at this;rw[d];exact this
 ·rw[hm];cases T with
  | nil=>rfl
  | cons r T =>
   have d:decide (((r::T).reverse.length:Int)<((1:Nat):Int))=false:=decide_eq_false (by simp only[List.length_reverse,List.length_cons];omega);have hw:IntKind.i64.wrap (((r::T).reverse.length:Int) - 1)=((r::T).reverse.length:Int) - 1:=cb (by simp only[List.length_reverse,List.length_cons];omega) (by simp only[List.length_reverse,List.length_cons]at hT ⊢;omega);have:=Dx db f T [r] i 1 (by omega) (by simp only[List.length_append,List.length_reverse,List.length_cons,List.length_nil]at hT ⊢;omega) rfl;rw[show T.reverse++[r].reverse=(r::T).reverse by simp]at this;rw[d,hw,TL,aD h];simp only[cond_false,Option.bind_some];change (bif r != f[i].2.2.2.2.2.2.1 then _ else nF db f (r::T).reverse (i:Int) ((1:Nat):Int) ((r::T).reverse.length:Int))=_;rw[this];simp only[bne];cases (r==f[i].2.2.2.2.2.2.1)<;>rfl
 ·rw[hm]
  match T,hT with
  | [],_=>rfl
  | [r],_=>rfl
  | r::s::T,hT =>
   have d:decide (((r::s::T).reverse.length:Int)<((2:Nat):Int))=false:=decide_eq_false (by simp only[List.length_reverse,List.length_cons];omega);have hw:IntKind.i64.wrap (((r::s::T).reverse.length:Int) - 1)=((r::s::T).reverse.length:Int) - 1:=cb (by simp only[List.length_reverse,List.length_cons];omega) (by simp only[List.length_reverse,List.length_cons]at hT ⊢;omega);have hw2:IntKind.i64.wrap (((r::s::T).reverse.length:Int) - 2)=((r::s::T).reverse.length:Int) - 2:=cb (by simp only[List.length_reverse,List.length_cons];omega) (by simp only[List.length_reverse,List.length_cons]at hT ⊢;omega);have:=Dx db f T [r,s] i 2 (by omega) (by simp only[List.length_append,List.length_reverse,List.length_cons,List.length_nil]at hT ⊢;omega) rfl;rw[show T.reverse++[r,s].reverse=(r::s::T).reverse by simp]at this;rw[d,hw,hw2,TL,agj,aD h];simp only[cond_false,Option.bind_some];change (bif r != f[i].2.2.2.2.2.2.2 then _ else bif s != f[i].2.2.2.2.2.2.1 then _ else nF db f (r::s::T).reverse (i:Int) ((2:Nat):Int) ((r::s::T).reverse.length:Int))=_;rw[this];simp only[bne];cases (r==f[i].2.2.2.2.2.2.2)<;>cases (s==f[i].2.2.2.2.2.2.1)<;>rfl
theorem al4{n:av}{i:Int}{T T':List Int}(h:eR n i T=some T'):T'.length<=T.length+1:=by
 unfold eR at h;split at h
 ·injection h with h;subst h;simp
 ·rename_i r T0 _;cases hc:(r==n.2.2.2.2.2.2.1)with
  | true=>rw[hc]at h;injection h with h;subst h;simp
  | false=>rw[hc]at h;cases h
 ·rename_i r s T0 _;cases hc:(r==n.2.2.2.2.2.2.2)with
  | true =>
   rw[hc]at h;cases hs:(s==n.2.2.2.2.2.2.1)with
   | true=>rw[hs]at h;injection h with h;subst h;simp
   | false=>rw[hs]at h;cases h
  | false=>rw[hc]at h;cases h
 ·cases h
theorem Qp(db:List Rel)(f:List av)(hd:db.length<=68719476736)(hf:∀n∈f,zN n<=68719476736)(hl:f.length<=1000000):
  ∀(n i:Nat) (T:List Int),n+i=f.length->T.length<=i->qO db f T.reverse (i:Int)=some ((kX db (f.drop i) i T,()),())
 | 0,i,T,hn,hT=>by
  obtain rfl:i=f.length:=by omega
  rw[Qo,aW,List.drop_eq_nil_of_le (by omega),List.length_reverse];rfl
 | n+1,i,T,hn,hT=>by
  have hi:i<f.length:=by omega
  rw[Qo,aT hi,aD hi,List.drop_eq_getElem_cons hi];simp only[cond_true,Option.bind_some,ad7 db _ hd (hf _ (List.getElem_mem hi))];unfold kX;cases fI db f[i]with
  | false=>rfl
  | true =>
   simp only[Bool.not_true,cond_false,cond_true];have e:(bif f[i].1==3 then jZ db f T.reverse (i:Int) 2 else bif f[i].1==4 then jZ db f T.reverse (i:Int) 2 else bif decide (f[i].1>1)then jZ db f T.reverse (i:Int) 1 else jZ db f T.reverse (i:Int) 0)=jZ db f T.reverse (i:Int) ((ar f[i].1:Nat):Int):=by
    unfold ar;cases (f[i].1==3)<;>cases (f[i].1==4)<;>cases decide (f[i].1>1)<;>rfl
   rw[e,aaX db f T i hi hl hT];cases hs:eR f[i] (i:Int) T with
   | none=>rfl
   | some T' =>
    have:=al4 hs;simp only[];rw[Qp db f hd hf hl n (i+1) T' (by omega) (by omega)];simp
def eW(st:List Int):List Int->Int->Prop
 | [],nx=>nx = -1
 | r::T,nx=>r=nx/\∃(j:Nat) (v:Int),r=(j:Int)/\st[j]?=some v/\0<=v/\v<=r/\eW st T (v - 1)
theorem eW.set{st:List Int}{v:Int}:∀{T:List Int} {nx:Int},eW st T nx->nx<i->eW (st.set i v) T nx
 | [],nx,h,_=>h
 | r::T,nx,h,hi=>by
  simp only[eW]at h ⊢;obtain⟨h1,j,w,h2,h3,h4,h5,h6⟩:=h;refine⟨h1,j,w,h2,?_,h4,h5,eW.set h6 (by omega)⟩;rw[List.getElem?_set_ne (by omega)];exact h3
theorem adf(k:Int):FD k=some ((bif k==0||k==1 then 0 else bif k==2||(k==5||k==6)then 1 else bif k==3||k==4 then 2 else -1,()),()):=by
 rw[ade];cases (k==0)<;>cases (k==1)<;>cases (k==2)<;>cases (k==5)<;>cases (k==6)<;>cases (k==3)<;>cases (k==4)<;>rfl
theorem alk(x:α)(k:α->Option β):(some x).bind k=k x:=rfl
theorem PI(db:List Rel)(f:List av)(hd:db.length<=68719476736)(hf:∀n∈f,zN n<=68719476736)(hl:f.length<=1000000)(h0:f.length≠0):
  ∀(n i:Nat) (st T:List Int),n+i=f.length->st.length=f.length->eW st T ((i:Int) - 1)->tn db f st f (f.length:Int) (i:Int)=some ((kX db (f.drop i) i T,()),())
 | 0,i,st,T,hn,a6,hT=>by
  obtain rfl:i=f.length:=by omega
  rw[PH,aW,List.drop_eq_nil_of_le (by omega),cb (by omega) (by omega)];cases T with
  | nil=>simp only[eW]at hT;omega
  | cons r T =>
   simp only[eW]at hT;obtain⟨h1,j,v,h2,h3,h4,h5,h6⟩:=hT;obtain⟨hj,h3⟩:=List.getElem?_eq_some_iff.1 h3;rw[rL (i:=(f.length:Int) - 1) st j (by omega) hj,h3];simp only[cond_false,Option.bind_some,kX];congr 3;cases T with
   | nil =>
    simp only[eW]at h6;have:v=0:=by omega
    simp[this]
   | cons s T =>
    simp only[eW]at h6;have:v≠0:=by omega
    have e1:(v==0)=false:=by simpa using this
    have e2:(((r::s::T).length:Int)==1)=false:=by simp;omega
    rw[e1,e2]
 | n+1,i,st,T,hn,a6,hT=>by
  have hi:i<f.length:=by omega
  have n5:i<st.length:=by omega
  have hw:IntKind.i64.wrap ((i:Int) - 1)=(i:Int) - 1:=cb (by omega) (by omega);rw[PH,aT hi,aD hi,List.drop_eq_getElem_cons hi,aD n5,hw];simp only[cond_true,Option.bind_some,acW db _ hd (hf _ (List.getElem_mem hi)),adf,aaQ,aO (show i<=1000000000000 by omega),alk,Int.toNat_natCast];unfold kX;rw[Xq];generalize hN:f[i]=N;cases uL db N with
  | false=>rfl
  | true =>
   simp only[Bool.not_true,cond_false,Bool.true_and];have pv:∀(v:Int) (T':List Int),0<=v->v<=(i:Int)->eW st T' (v - 1)->v - 1<(i:Int)->tn db f (st.set i v) f (f.length:Int) ((i+1:Nat):Int)=some ((kX db (f.drop (i+1)) ((i+1:Nat):Int) ((i:Int)::T'),()),()):=by
    intro v T' IN hv hc au;refine PI db f hd hf hl h0 n (i+1) _ _ (by omega) (by simpa using a6) ?_;simp only[eW];refine⟨by omega,i,v,rfl,by simp[n5],IN,hv,hc.set au⟩
   have agE:((i:Int)+1)=((i+1:Nat):Int):=by omega
   rw[agE];by_cases sh:N.1=0\/N.1=1
   ·have e1:(N.1==0||N.1==1)=true:=by simpa using sh
    have e2:ar N.1=0:=by rcases sh with h|h<;>rw[h]<;>rfl
    have e3:((N.1==3||N.1==4)||N.2.2.2.2.2.2.2==0)=(N.2.2.2.2.2.2.2==0):=by rcases sh with h|h<;>rw[h]<;>rfl
    have e4:decide (N.1<=1)=true:=by rcases sh with h|h<;>rw[h]<;>rfl
    have e5:(decide (0<=N.1)&&decide (N.1<=6))=true:=by rcases sh with h|h<;>rw[h]<;>rfl
    have e6:eR N (i:Int) T=some ((i:Int)::T):=by unfold eR;rw[e2];rfl
    unfold gP;rw[e1,e3,e4,e5,e6,pv (i:Int) T (by omega) (by omega) hT (by omega)];simp only[bne];cases (N.2.2.2.2.2.2.1==0)<;>cases (N.2.2.2.2.2.2.2==0)<;>rfl
   ·by_cases k1:N.1=2\/N.1=5\/N.1=6
    ·have e0:(N.1==0||N.1==1)=false:=by rcases k1 with h|h|h<;>rw[h]<;>rfl
     have e1:(N.1==2||(N.1==5||N.1==6))=true:=by rcases k1 with h|h|h<;>rw[h]<;>rfl
     have e2:ar N.1=1:=by rcases k1 with h|h|h<;>rw[h]<;>rfl
     have e3:((N.1==3||N.1==4)||N.2.2.2.2.2.2.2==0)=(N.2.2.2.2.2.2.2==0):=by rcases k1 with h|h|h<;>rw[h]<;>rfl
     have e4:decide (N.1<=1)=false:=by rcases k1 with h|h|h<;>rw[h]<;>rfl
     have e5:(decide (0<=N.1)&&decide (N.1<=6))=true:=by rcases k1 with h|h|h<;>rw[h]<;>rfl
     unfold gP;rw[e0,e1,e3,e4,e5];cases T with
     | nil =>
      simp only[eW]at hT;have ei:((i:Int)==0)=true:=by simp;omega
      have e6:eR N (i:Int) []=none:=by unfold eR;rw[e2];rfl
      rw[ei,e6];cases (N.2.2.2.2.2.2.2==0)<;>rfl
     | cons r T =>
      simp only[eW]at hT;obtain⟨h1,j,v,h2,h3,h4,h5,h6⟩:=hT;obtain⟨hj,h3⟩:=List.getElem?_eq_some_iff.1 h3;have ei:((i:Int)==0)=false:=by simp;omega
      have e6:eR N (i:Int) (r::T)=bif r==N.2.2.2.2.2.2.1 then some ((i:Int)::T)else none:=by unfold eR;rw[e2];rfl
      have e7:(N.2.2.2.2.2.2.1==(i:Int) - 1)=(r==N.2.2.2.2.2.2.1):=by rw[<-h1,Bool.eq_iff_iff];simp only[beq_iff_eq];exact eq_comm
      rw[ei,e6,rL (i:=(i:Int) - 1) st j (by omega) hj,h3];simp only[bne,e7,Option.bind_some];rw[pv v T h4 (by omega) h6 (by omega)];cases (N.2.2.2.2.2.2.2==0)<;>cases (r==N.2.2.2.2.2.2.1)<;>rfl
    ·by_cases k2:N.1=3\/N.1=4
     ·have e0:(N.1==0||N.1==1)=false:=by rcases k2 with h|h<;>rw[h]<;>rfl
      have e1:(N.1==2||(N.1==5||N.1==6))=false:=by rcases k2 with h|h<;>rw[h]<;>rfl
      have e2:ar N.1=2:=by rcases k2 with h|h<;>rw[h]<;>rfl
      have e3:(N.1==3||N.1==4)=true:=by rcases k2 with h|h<;>rw[h]<;>rfl
      have e4:decide (N.1<=1)=false:=by rcases k2 with h|h<;>rw[h]<;>rfl
      have e5:(decide (0<=N.1)&&decide (N.1<=6))=true:=by rcases k2 with h|h<;>rw[h]<;>rfl
      unfold gP;rw[e0,e1,e3,e4,e5];cases T with
      | nil =>
       simp only[eW]at hT;have ei:((i:Int)==0)=true:=by simp;omega
       have e6:eR N (i:Int) []=none:=by unfold eR;rw[e2];rfl
       rw[ei,e6];rfl
      | cons r T =>
       simp only[eW]at hT;obtain⟨h1,j,v,h2,h3,h4,h5,h6⟩:=hT;obtain⟨hj,h3⟩:=List.getElem?_eq_some_iff.1 h3;have ei:((i:Int)==0)=false:=by simp;omega
       have e7:(N.2.2.2.2.2.2.2==(i:Int) - 1)=(r==N.2.2.2.2.2.2.2):=by rw[<-h1,Bool.eq_iff_iff];simp only[beq_iff_eq];exact eq_comm
       rw[ei,rL (i:=(i:Int) - 1) st j (by omega) hj,h3];simp only[bne,e7,Option.bind_some];cases T with
       | nil =>
        simp only[eW]at h6;have ev:(v==0)=true:=by simp;omega
        have e6:eR N (i:Int) [r]=none:=by unfold eR;rw[e2];rfl
        rw[ev,e6];cases (r==N.2.2.2.2.2.2.2)<;>rfl
       | cons s T =>
        have BL:=h6;simp only[eW]at BL;obtain⟨g1,j2,v2,g2,g3,g4,g5,g6⟩:=BL;obtain⟨vc,g3⟩:=List.getElem?_eq_some_iff.1 g3;have ev:(v==0)=false:=by simp;omega
        have e6:eR N (i:Int) (r::s::T)=bif r==N.2.2.2.2.2.2.2 then bif s==N.2.2.2.2.2.2.1 then some ((i:Int)::T)else none else none:=by unfold eR;rw[e2];rfl
        rw[ev,e6,cb (x:=v - 1) (by omega) (by omega)];have e8:(N.2.2.2.2.2.2.1==v - 1)=(s==N.2.2.2.2.2.2.1):=by rw[<-g1,Bool.eq_iff_iff];simp only[beq_iff_eq];exact eq_comm
        simp only[e8];cases hs:(s==N.2.2.2.2.2.2.1)with
        | false=>cases (r==N.2.2.2.2.2.2.2)<;>rfl
        | true =>
         rw[beq_iff_eq]at hs;rw[<-hs,rL st j2 g2 vc,g3];simp only[Option.bind_some];rw[pv v2 T g4 (by omega) g6 (by omega)];cases (r==N.2.2.2.2.2.2.2)<;>rfl
     ·have e0:(N.1==0||N.1==1)=false:=by simpa using sh
      have e1:(N.1==2||(N.1==5||N.1==6))=false:=by simpa using k1
      have e2:(N.1==3||N.1==4)=false:=by simpa using k2
      have e5:(decide (0<=N.1)&&decide (N.1<=6))=false:=by
       rw[Bool.and_eq_false_iff];by_cases h:0<=N.1
       ·right;simp;omega
       ·left;simp;omega
      rw[e0,e1,e2,e5];simp
def fG(db:List Rel)(f:List av):Bool:=mf db&&((decide (1<=(f.length:Int))&&decide ((f.length:Int)<=12))&&kX db f 0 [])
theorem afS{db:List Rel}(h:mf db=true):db.length<=6:=by
 unfold mf at h;simp only[Bool.and_eq_true,decide_eq_true_eq]at h;omega
theorem ads(db:List Rel)(f:List av)(hd:db.length<=68719476736/\∀a∈db,gL a)(hf:∀n∈f,zN n<=68719476736):yQ db f=some ((fG db f,()),()):=by
 rw[adr,adp db hd,kQ];simp only[Option.bind_some];unfold fG;cases hb:mf db with
 | false=>rfl
 | true =>
  cases hc:(decide (1<=(f.length:Int))&&decide ((f.length:Int)<=12))with
  | false=>rfl
  | true =>
   simp only[Bool.and_eq_true,decide_eq_true_eq]at hc;have:=Qp db f hd.1 hf (by omega) f.length 0 [] (by omega) (by simp);simp only[List.drop_zero,Int.natCast_zero,List.reverse_nil]at this;simp only[Bool.not_true,cond_false,Bool.true_and];exact this
theorem acm(db:List Rel)(f:List av)(hf:∀n∈f,zN n<=68719476736):yw db f=some ((fG db f,()),()):=by
 rw[ack,aci db];simp only[Option.bind_some];unfold fG;cases hb:mf db with
 | false=>rfl
 | true =>
  have BU:=afS hb;by_cases h1:(f.length:Int)<1
  ·have:decide (1<=(f.length:Int))=false:=by simp;omega
   simp[h1,this]
  ·by_cases h2:(f.length:Int)>12
   ·have:decide ((f.length:Int)<=12)=false:=by simp;omega
    simp[h1,h2,this]
   ·have e1:decide (1<=(f.length:Int))=true:=by simp;omega
    have e2:decide ((f.length:Int)<=12)=true:=by simp;omega
    rw[nh f 8 (by omega) (by omega) (by omega)];have:=PI db f (by omega) hf (by omega) (by omega) f.length 0 (List.replicate f.length 0) [] (by omega) (by simp) (by simp[eW]);simp only[List.drop_zero,Int.natCast_zero]at this;simp only[h1,h2,decide_false,e1,e2,Bool.not_true,cond_false,Bool.true_and];exact this
theorem agb(h:zA a<=68719476736):gA a:=h
theorem agc(h:zC c<=68719476736):gC c:=⟨Nat.le_trans (dA _ _) h,λa ha=>agb (Nat.le_trans (dG _ ha) h)⟩
theorem age{r:Rw}(h:zR r<=68719476736):gR r:=by
 have hz:zR r=zB r.1+zC r.2:=rfl;exact⟨by unfold zB at hz;omega,agc (by omega)⟩
theorem agd{r:Rel}(h:zQ r<=68719476736):gL r:=by
 have hz:zQ r=zB r.1+zL zR r.2.2:=rfl;exact⟨by unfold zB at hz;omega,Nat.le_trans (dA _ _) (Nat.le_trans (Nat.le_add_left _ _) (hz▸h)),λa ha=>age (Nat.le_trans (dG _ ha) (by omega))⟩
theorem TB{x:List Rel}(h:zL zQ x<=68719476736):x.length<=68719476736/\∀a∈x,gL a:=⟨Nat.le_trans (dA _ _) h,λa ha=>agd (Nat.le_trans (dG _ ha) h)⟩
theorem TC{f:List av}(h:zL zN f<=68719476736):∀n∈f,zN n<=68719476736:=λn hn=>Nat.le_trans (dG _ hn) h
def fJ(n:av):Bool := !(n.1==2) && !(n.1==6)
theorem adv(db:List Rel)(f:List av)(hd:zL zQ db<=68719476736)(hf:zL zN f<=68719476736):yS db f=some ((fG db f&&f.all fJ,()),()):=by
 have hl:f.length<=68719476736:=Nat.le_trans (dA _ _) hf;rw[adu];rw[rq f fJ (some ((false,()),())) (tF db f (f.length:Int)) (λi=>tF db f i) hl (λi hi=>by
  rw[Qq,aD hi,aT hi,aO (by omega)];simp only[cond_true,Option.bind_some];unfold fJ;cases (f[i].1==2)<;>cases (f[i].1==6)<;>rfl) rfl]
 rw[Qq,aW,ads db f (TB hd) (TC hf)];cases f.all fJ<;>cases fG db f<;>rfl
theorem acp(db:List Rel)(f:List av)(hf:zL zN f<=68719476736):yy db f=some ((fG db f&&f.all fJ,()),()):=by
 have hl:f.length<=68719476736:=Nat.le_trans (dA _ _) hf;rw[aco,acm db f (TC hf)];have:=rq f fJ (some ((false,()),())) (some ((true,()),())) (λi=>xk f f (f.length:Int) i) hl (λi hi=>by
  rw[PJ,aD hi,aT hi,aO (by omega)];simp only[cond_true,Option.bind_some];unfold fJ;cases (f[i].1==2)<;>cases (f[i].1==6)<;>rfl) (by rw[PJ,aW];rfl)
 simp only[Option.bind_some,this];cases f.all fJ<;>cases fG db f<;>rfl
theorem ape(s:ah):zP s=zC s.1+zL zI s.2:=rfl
theorem Si{a:Int}(h:a.natAbs<=4000000000000000000):qW a=some (((a.natAbs:Int),()),()):=by
 rw[Fs];by_cases h0:a<0
 ·simp only[h0,decide_true,cond_true];rw[cb (by omega) (by omega)];congr 3;omega
 ·simp only[h0,decide_false,cond_false];congr 3;omega
theorem Sh{a:Int}(h:a.natAbs<=4000000000000000000):uc a=some (((a.natAbs:Int),()),()):=by
 rw[RU];rw[cb (by omega) (by omega)];simp only[cond_true];congr 3;split<;>omega
theorem tdiv_le(a b:Int):(a.tdiv b).natAbs<=a.natAbs:=by
 rw[Int.natAbs_tdiv];exact Nat.div_le_self _ _
theorem Ry{a b:Int}(ha:a.natAbs<=4000000000000000000)(hb:b.natAbs<=4000000000000000000):oI a b=some ((((Nat.gcd a.natAbs b.natAbs:Nat):Int),()),()):=by
 rw[Rz,Si ha,Si hb];simp only[Option.bind_some];rw[DJ _ _ _ (Nat.le_refl _) (by omega) (by omega)];simp
theorem JT{a b:Int}(ha:a.natAbs<=400000000)(hb:b.natAbs<=400000000):(a*b).natAbs<=160000000000000000:=by
 rw[Int.natAbs_mul];exact Nat.mul_le_mul ha hb
theorem KB{a b:Int}(ha:a.natAbs<=400000000)(hb:b.natAbs<=400000000):IntKind.i64.wrap (a*b)=a*b:=by
 have:=JT ha hb;exact cb (by omega) (by omega)
def dm:List Int->List Int->Int
 | x::xs,y::ys=>if x=y then dm xs ys else if x<y then -1 else 1
 | _,_=>0
theorem mX:∀x:List Int,dm x x=0
 | []=>rfl
 | x::xs=>by simp[dm,mX xs]
theorem WC:∀{x y:List Int},x.length=y.length->dm x y=0->x=y
 | [],[],_,_=>rfl
 | x::xs,y::ys,hl,h=>by
  simp only[dm]at h;split at h
  ·rename_i e;rw[e,WC (by simpa using hl) h]
  ·split at h<;>omega
theorem lG:∀x y:List Int,dm y x = -dm x y
 | [],[]=>rfl
 | [],_::_=>rfl
 | _::_,[]=>rfl
 | x::xs,y::ys=>by
  simp only[dm];by_cases h:x=y
  ·rw[if_pos h,if_pos h.symm,lG xs ys]
  ·rw[if_neg h,if_neg (Ne.symm h)];by_cases h2:x<y
   ·rw[if_pos h2,if_neg (by omega)];rfl
   ·rw[if_neg h2,if_pos (by omega)]
theorem WE(x y:List Int):dm x y = -1\/dm x y=0\/dm x y=1:=by
 induction x generalizing y with
 | nil=>cases y<;>simp[dm]
 | cons a x ih =>
  cases y with
  | nil=>simp[dm]
  | cons b y =>
   simp only[dm];split
   ·exact ih y
   ·split<;>simp
theorem vN:∀{x y z:List Int},dm x y<0->dm y z<0->dm x z<0
 | [],_,_,h,_=>by simp[dm]at h
 | _::_,[],_,h,_=>by simp[dm]at h
 | _::_,_::_,[],_,h=>by simp[dm]at h
 | x::xs,y::ys,z::zs,h1,h2=>by
  simp only[dm]at h1 h2 ⊢;by_cases e1:x=y
  ·subst e1;rw[if_pos rfl]at h1;by_cases e2:x=z
   ·rw[if_pos e2]at h2 ⊢;exact vN h1 h2
   ·rw[if_neg e2]at h2 ⊢;exact h2
  ·rw[if_neg e1]at h1;have h1:x<y:=by
    by_cases h:x<y
    ·exact h
    ·rw[if_neg h]at h1;omega
   by_cases e2:y=z
   ·subst e2;rw[if_neg e1,if_pos h1];omega
   ·rw[if_neg e2]at h2;have h2:y<z:=by
     by_cases h:y<z
     ·exact h
     ·rw[if_neg h]at h2;omega
    rw[if_neg (by omega),if_pos (by omega)];omega
def jS(a b:Int):Int:=if a<b then -1 else if b<a then 1 else 0
theorem akZ{a1 a2 b1 b2 c1 c2:Int}(h1:0<a2)(h2:0<b2)(h3:0<c2)(x:a1*b2<b1*a2)(y:b1*c2<c1*b2):a1*c2<c1*a2:=by
 have p:=Int.mul_lt_mul_of_pos_right x h3;have q:=Int.mul_lt_mul_of_pos_right y h1;have:a1*c2*b2<c1*a2*b2:=by
  have e1:a1*c2*b2=a1*b2*c2:=by rw[Int.mul_assoc,Int.mul_comm c2,<-Int.mul_assoc]
  have e2:c1*a2*b2=c1*b2*a2:=by rw[Int.mul_assoc,Int.mul_comm a2,<-Int.mul_assoc]
  have e3:b1*a2*c2=b1*c2*a2:=by rw[Int.mul_assoc,Int.mul_comm a2,<-Int.mul_assoc]
  omega
 exact Int.lt_of_mul_lt_mul_right this (Int.le_of_lt h2)
theorem p8{a1 a2 b1 b2 c1 c2:Int}(h1:0<a2)(h2:0<b2)(h3:0<c2)(x:a1*b2<=b1*a2)(y:b1*c2<=c1*b2):a1*c2<=c1*a2:=by
 have p:=Int.mul_le_mul_of_nonneg_right x (Int.le_of_lt h3);have q:=Int.mul_le_mul_of_nonneg_right y (Int.le_of_lt h1);have:a1*c2*b2<=c1*a2*b2:=by
  have e1:a1*c2*b2=a1*b2*c2:=by rw[Int.mul_assoc,Int.mul_comm c2,<-Int.mul_assoc]
  have e2:c1*a2*b2=c1*b2*a2:=by rw[Int.mul_assoc,Int.mul_comm a2,<-Int.mul_assoc]
  have e3:b1*a2*c2=b1*c2*a2:=by rw[Int.mul_assoc,Int.mul_comm a2,<-Int.mul_assoc]
  omega
 exact Int.le_of_mul_le_mul_right this h2
def dD(a:aa):Int:=if gl a.1 0=0 then 1 else (gl a.1 0:Nat)
def dv(a:aa):List Int:=a.1.map (λx=>x.tdiv (dD a))
def ba(a b:aa):Int:=dm (dv a) (dv b)
def c8(a b:aa):Int:=if jS (a.2.1*dD b) (b.2.1*dD a)≠0 then jS (a.2.1*dD b) (b.2.1*dD a)else if a.2.2=b.2.2 then 0 else if a.2.2=true then 1 else -1
def eu(a b:aa):Int:=if ba a b≠0 then ba a b else c8 a b
def cQ(n:Nat)(a:aa):Prop:=bJ a=true/\a.1.length=n/\gl a.1 0≠0
theorem nN(a:aa):0<dD a:=by
 unfold dD;split
 ·omega
 ·have:0<gl a.1 0:=Nat.pos_of_ne_zero (by assumption);exact Int.natCast_pos.2 this
theorem jv(a:aa):(dv a).length=a.1.length:=by simp[dv]
theorem jW(ha:a.1.length=n)(hb:b.1.length=n):ba a b=0↔dv a=dv b:=by
 constructor
 ·intro h;exact WC (by rw[jv,jv,ha,hb]) h
 ·intro h;unfold ba;rw[h,mX]
theorem alp{a b:Int}:jS a b<0↔a<b:=by
 unfold jS;split
 ·simp;assumption
 ·split<;>simp<;>omega
theorem J9{a b:Int}:jS a b=0↔a=b:=by
 unfold jS;split
 ·simp;omega
 ·split<;>simp<;>omega
theorem wE{a b:aa}:c8 a b<0↔a.2.1*dD b<b.2.1*dD a\/(a.2.1*dD b=b.2.1*dD a/\a.2.2=false/\b.2.2=true):=by
 unfold c8;by_cases h:jS (a.2.1*dD b) (b.2.1*dD a)=0
 ·rw[if_neg (by simpa using h)];have e:=J9.1 h;rw[e];cases a.2.2<;>cases b.2.2<;>simp
 ·rw[if_pos h,alp];have e:a.2.1*dD b≠b.2.1*dD a:=λe=>h (J9.2 e);constructor
  ·exact .inl
  ·rintro (h|h)
   ·exact h
   ·exact absurd h.1 e
theorem mc:eu a b<0↔ba a b<0\/(ba a b=0/\c8 a b<0):=by
 unfold eu;split
 ·rename_i h;constructor
  ·exact .inl
  ·rintro (h2|h2)
   ·exact h2
   ·exact absurd h2.1 h
 ·rename_i h;have h:ba a b=0:=by simpa using h
  rw[h];simp
theorem HU:∀(x:List Int) (g:Nat),(gl x g) ∣ g/\∀y∈x,gl x g ∣ y.natAbs
 | [],g=>⟨Nat.dvd_refl _,by simp⟩
 | a::x,g=>by
  obtain⟨h1,h2⟩:=HU x (Nat.gcd g a.natAbs);have e:gl (a::x) g=gl x (Nat.gcd g a.natAbs):=rfl;rw[e];refine⟨Nat.dvd_trans h1 (Nat.gcd_dvd_left _ _),λy hy=>?_⟩;rcases List.mem_cons.1 hy with rfl|hy
  ·exact Nat.dvd_trans h1 (Nat.gcd_dvd_right _ _)
  ·exact h2 y hy
theorem SP(a:aa):a.1=(dv a).map (· * dD a):=by
 unfold dv;rw[List.map_map];have:∀y∈a.1,((· * dD a) ∘ λx=>x.tdiv (dD a)) y=y:=by
  intro y hy;simp only[Function.comp];unfold dD;split
  ·simp
  ·exact Int.tdiv_mul_cancel (Int.natAbs_dvd_natAbs.1 (by simpa using (HU a.1 0).2 y hy))
 conv=>lhs;rw[<-List.map_id a.1]
 exact (List.map_congr_left λy hy=>(this y hy).symm)
theorem afD(ha:cQ n a)(hb:cQ n b)(h1:dv a=dv b)(h2:a.2.1*dD b=b.2.1*dD a)(h3:a.2.2=b.2.2):a=b:=by
 have SX:∀{a:aa},cQ n a->∃g:Nat,dD a=(g:Int)/\Nat.Coprime g a.2.1.natAbs/\0<g:=by
  intro a h;refine⟨gl a.1 0,by unfold dD;rw[if_neg h.2.2],?_,Nat.pos_of_ne_zero h.2.2⟩;have:=h.1;unfold bJ at this;simp only[Bool.and_eq_true,decide_eq_true_eq]at this;have h4:=this.2.2.2;rw[HV]at h4;have h5:Nat.gcd (gl a.1 0) a.2.1.natAbs<=1:=by omega
  have h6:0<Nat.gcd (gl a.1 0) a.2.1.natAbs:=Nat.gcd_pos_of_pos_left _ (Nat.pos_of_ne_zero h.2.2);unfold Nat.Coprime;omega
 obtain⟨g,e1,c1,p1⟩:=SX ha;obtain⟨k,e2,c2,p2⟩:=SX hb;rw[e1,e2]at h2;have h4:a.2.1.natAbs*k=b.2.1.natAbs*g:=by
  have:=congrArg Int.natAbs h2;simpa[Int.natAbs_mul]using this
 have d1:g ∣ k:=c1.dvd_of_dvd_mul_left (by rw[h4];exact Nat.dvd_mul_left _ _);have d2:k ∣ g:=c2.dvd_of_dvd_mul_left (by rw[<-h4];exact Nat.dvd_mul_left _ _);have e:g=k:=Nat.dvd_antisymm d1 d2;subst e;have h5:a.2.1=b.2.1:=Int.eq_of_mul_eq_mul_right (by omega) h2;have h6:a.1=b.1:=by rw[SP a,SP b,h1,e1,e2]
 obtain⟨a1,a2,a3⟩:=a;obtain⟨b1,b2,b3⟩:=b;simp only at h3 h5 h6;rw[h3,h5,h6]
theorem Yg{c:aa}(h1:c8 a b<0)(h2:c8 b c<0):c8 a c<0:=by
 rw[wE]at *
 have pa:=nN a;have pb:=nN b;have pc:=nN c;rcases h1 with h1|⟨h1,h3,h4⟩
 ·rcases h2 with h2|⟨h2,h5,h6⟩
  ·exact .inl (akZ pa pb pc h1 h2)
  ·left;have:=p8 pa pb pc (Int.le_of_lt h1) (Int.le_of_eq h2);rcases Int.lt_or_eq_of_le this with h|h
   ·exact h
   ·exfalso;have:=p8 (a1:=b.2.1) (a2:=dD b) (b1:=c.2.1) (b2:=dD c) (c1:=a.2.1) (c2:=dD a) pb pc pa (Int.le_of_eq h2) (Int.le_of_eq h.symm);omega
 ·rcases h2 with h2|⟨h2,h5,h6⟩
  ·left;have:=p8 pa pb pc (Int.le_of_eq h1) (Int.le_of_lt h2);rcases Int.lt_or_eq_of_le this with h|h
   ·exact h
   ·exfalso;have:=p8 (a1:=c.2.1) (a2:=dD c) (b1:=a.2.1) (b2:=dD a) (c1:=b.2.1) (c2:=dD b) pc pa pb (Int.le_of_eq h.symm) (Int.le_of_eq h1);omega
  ·rw[h4]at h5;cases h5
theorem Kq{c:aa}(h1:¬c8 a b<0)(h2:¬c8 b c<0):¬c8 a c<0:=by
 rw[wE]at *
 have pa:=nN a;have pb:=nN b;have pc:=nN c;have TS:b.2.1*dD a<=a.2.1*dD b:=by have:=not_or.1 h1;omega
 have TT:c.2.1*dD b<=b.2.1*dD c:=by have:=not_or.1 h2;omega
 have h3:=p8 (a1:=c.2.1) (a2:=dD c) (b1:=b.2.1) (b2:=dD b) (c1:=a.2.1) (c2:=dD a) pc pb pa TT TS
 rintro (h|⟨h,h4,h5⟩)
 ·omega
 ·have e1:a.2.1*dD b=b.2.1*dD a:=by
   have:=p8 (a1:=a.2.1) (a2:=dD a) (b1:=c.2.1) (b2:=dD c) (c1:=b.2.1) (c2:=dD b) pa pc pb (Int.le_of_eq h) TT;omega
  have e2:b.2.1*dD c=c.2.1*dD b:=by
   have:=p8 (a1:=b.2.1) (a2:=dD b) (b1:=a.2.1) (b2:=dD a) (c1:=c.2.1) (c2:=dD c) pb pa pc TS (Int.le_of_eq h);omega
  cases hb:b.2.2
  ·exact h2 (.inr ⟨e2,hb,h5⟩)
  ·exact h1 (.inr ⟨e1,h4,hb⟩)
theorem sN(a:aa):¬c8 a a<0:=by
 rw[wE]
 rintro (h|⟨_,h1,h2⟩)
 ·omega
 ·rw[h1]at h2;cases h2
theorem CM{n:Nat}:oF (cQ n) eu:=by
 have key:∀{x y:aa},cQ n x->cQ n y->ba x y=0->dv x=dv y:=λhx hy h=>(jW hx.2.1 hy.2.1).1 h;refine⟨λx hx h=>?_,λx y z hx hy hz h1 h2=>?_,λx y z hx hy hz h1 h2 h=>?_,λx y hx hy h1 h2=>?_⟩
 ·rw[mc]at h;have e:ba x x=0:=mX _;rw[e]at h;rcases h with h|h
  ·omega
  ·exact sN x h.2
 ·rw[mc]at *
  rcases h1 with h1|⟨h1,h3⟩
  ·rcases h2 with h2|⟨h2,h4⟩
   ·exact .inl (vN h1 h2)
   ·left;have:=key hy hz h2;unfold ba at *
    rw[<-this];exact h1
  ·have e1:=key hx hy h1;rcases h2 with h2|⟨h2,h4⟩
   ·left;unfold ba at *
    rw[e1];exact h2
   ·right;refine⟨?_,Yg h3 h4⟩;unfold ba at *
    rw[e1];exact h2
 ·rw[mc]at *
  have h1:=not_or.1 h1;have h2:=not_or.1 h2;have f1:=lG (dv x) (dv y);have f2:=lG (dv y) (dv z);have f3:=lG (dv x) (dv z);have v1:=WE (dv x) (dv y);have v2:=WE (dv y) (dv z);have u1:=h1.1;have u2:=h2.1;unfold ba at u1 u2;by_cases w1:ba x y=0
  ·have e1:=key hx hy w1;have s1:¬c8 x y<0:=λh=>h1.2 ⟨w1,h⟩;by_cases w2:ba y z=0
   ·have e2:=key hy hz w2;have s2:¬c8 y z<0:=λh=>h2.2 ⟨w2,h⟩;rcases h with h|h
    ·unfold ba at h;rw[e1,e2,mX]at h;omega
    ·exact Kq s1 s2 h.2
   ·have:ba x z=ba y z:=by unfold ba;rw[e1]
    rw[this]at h;rcases h with h|h
    ·exact h2.1 h
    ·exact w2 h.1
  ·have g1:dm (dv y) (dv x)<0:=by unfold ba at w1;omega
   by_cases w2:ba y z=0
   ·have e2:=key hy hz w2;have:ba x z=ba x y:=by unfold ba;rw[e2]
    rw[this]at h;rcases h with h|h
    ·exact h1.1 h
    ·exact w1 h.1
   ·have g2:dm (dv z) (dv y)<0:=by unfold ba at w2;omega
    have g3:=vN g2 g1;unfold ba at h;omega
 ·rw[mc]at *
  have h1:=not_or.1 h1;have h2:=not_or.1 h2;have f1:=lG (dv x) (dv y);have w:ba x y=0:=by
   have a1:=h1.1;have a2:=h2.1;unfold ba at *
   omega
  have w':ba y x=0:=by unfold ba at *;omega
  have s1:¬c8 x y<0:=λh=>h1.2 ⟨w,h⟩;have s2:¬c8 y x<0:=λh=>h2.2 ⟨w',h⟩;rw[wE]at s1 s2;have s1:=not_or.1 s1;have s2:=not_or.1 s2;have e:x.2.1*dD y=y.2.1*dD x:=by omega
  refine afD hx hy (key hx hy w) e ?_;have t1:¬(x.2.2=false/\y.2.2=true):=λh=>s1.2 ⟨e,h⟩;have t2:¬(y.2.2=false/\x.2.2=true):=λh=>s2.2 ⟨e.symm,h⟩;cases kz:x.2.2<;>cases sd:y.2.2<;>simp_all
structure jk (n:Nat) (S l:List aa):Prop where
 sorted:S.Pairwise λx y=>ba x y<0
 sub:∀s∈S,s∈l
 rF:∀a∈l,∃s∈S,ba s a=0/\¬c8 s a<0
theorem Kz(h:ba a b=0):ba b a=0:=by
 have:=lG (dv a) (dv b);unfold ba at *;omega
theorem Sy{S':List aa}(hV:∀a∈l,cQ n a)(hm:∀a,a∈l↔a∈l')(h:jk n S l)(h':jk n S' l'):∀s∈S,s∈S':=by
 intro s hs;have bb:=h.sub s hs;obtain⟨t,ht,w1,s1⟩:=h'.rF s ((hm s).1 bb);have U7:=(hm t).2 (h'.sub t ht);obtain⟨u,hu,w2,s2⟩:=h.rF t U7;have ks:=hV s bb;have kt:=hV t U7;have ku:=hV u (h.sub u hu);have e1:dv t=dv s:=(jW kt.2.1 ks.2.1).1 w1;have e2:dv u=dv t:=(jW ku.2.1 kt.2.1).1 w2;have w3:ba u s=0:=(jW ku.2.1 ks.2.1).2 (e2.trans e1);have hus:u=s:=by
  apply Classical.byContradiction;intro bg;have key:∀{a b:aa},a∈S->b∈S->a≠b->ba a b<0\/ba b a<0:=by
   intro a b ha hb bg;obtain⟨i,hi,rfl⟩:=List.getElem_of_mem ha;obtain⟨j,hj,rfl⟩:=List.getElem_of_mem hb;rcases Nat.lt_trichotomy i j with mB|mB|mB
   ·exact .inl (List.pairwise_iff_getElem.1 h.sorted i j hi hj mB)
   ·subst mB;exact absurd rfl bg
   ·exact .inr (List.pairwise_iff_getElem.1 h.sorted j i hj hi mB)
  rcases key hu hs bg with h1|h1
  ·omega
  ·have:=Kz w3;omega
 subst hus;have o:=@CM n;have:t=u:=o.GU t u kt ku (λhc=>by
  rw[mc]at hc;rcases hc with hc|hc
  ·omega
  ·exact s1 hc.2) (λhc=>by
  rw[mc]at hc;rcases hc with hc|hc
  ·omega
  ·exact s2 hc.2)
 rw[<-this];exact ht
theorem afH{S':List aa}(hV:∀a∈l,cQ n a)(hm:∀a,a∈l↔a∈l')(h:jk n S l)(h':jk n S' l'):S=S':=by
 have nd:∀{S l:List aa},jk n S l->S.Nodup:=by
  intro S l h;refine h.sorted.imp λ{a b} iI he=>?_;subst he;have:ba a a=0:=mX _;omega
 have hp:S.Perm S':=(List.perm_ext_iff_of_nodup (nd h) (nd h')).2 λa=>⟨Sy hV hm h h' a,Sy (λa ha=>hV a ((hm a).2 ha)) (λa=>(hm a).symm) h' h a⟩;refine List.Perm.eq_of_pairwise (le:=λx y=>ba x y<0) (λa b _ _ h1 h2=>?_) h.sorted h'.sorted hp;have:=lG (dv a) (dv b);unfold ba at *;omega
def fa:List aa->List aa
 | []=>[]
 | [a]=>[a]
 | a::b::l=>if ba a b=0 then fa (b::l)else a::fa (b::l)
theorem Wz:∀(l:List aa),(∀a∈l,cQ n a)->l.Pairwise (λx y=>¬eu y x<0)->jk n (fa l) l
 | [],_,_=>⟨List.Pairwise.nil,λs h=>h,by simp⟩
 | [a],_,_=>⟨by simp[fa],λs h=>h,λx hx=>⟨a,by simp[fa],by
   rw[List.mem_singleton.1 hx];exact⟨mX _,sN a⟩⟩⟩
 | a::b::l,hV,hP=>by
  have la:=List.pairwise_cons.1 hP;have ih:=Wz (b::l) (λx hx=>hV x (List.mem_cons_of_mem _ hx)) la.2;have ka:=hV a (by simp);have kb:=hV b (by simp);have up:∀x∈b::l,¬ba x a<0:=λx hx h=>la.1 x hx (mc.2 (.inl h));by_cases hw:ba a b=0
  ·have e:fa (a::b::l)=fa (b::l):=by simp[fa,hw]
   rw[e];refine⟨ih.sorted,λs hs=>List.mem_cons_of_mem _ (ih.sub s hs),λx hx=>?_⟩;rcases List.mem_cons.1 hx with rfl|hx
   ·obtain⟨s,hs,w1,s1⟩:=ih.rF b (by simp);have ks:=hV s (List.mem_cons_of_mem _ (ih.sub s hs));have e1:dv s=dv b:=(jW ks.2.1 kb.2.1).1 w1;have e2:dv x=dv b:=(jW ka.2.1 kb.2.1).1 hw;refine⟨s,hs,(jW ks.2.1 ka.2.1).2 (e1.trans e2.symm),?_⟩;have s2:¬c8 b x<0:=λh=>la.1 b (by simp) (mc.2 (.inr ⟨Kz hw,h⟩));exact Kq s1 s2
   ·exact ih.rF x hx
  ·have e:fa (a::b::l)=a::fa (b::l):=by simp[fa,hw]
   rw[e];have iI:ba a b<0:=by
    have h1:=up b (by simp);have:=lG (dv a) (dv b);unfold ba at *;omega
   refine⟨List.pairwise_cons.2 ⟨λx hx=>?_,ih.sorted⟩,λs hs=>?_,λx hx=>?_⟩
   ·have oe:=ih.sub x hx;rcases List.mem_cons.1 oe with rfl|oe
    ·exact iI
    ·have rU:¬ba x b<0:=λh=>(List.pairwise_cons.1 la.2).1 x oe (mc.2 (.inl h));have kx:=hV x (by simp[oe]);have f:=lG (dv x) (dv b);by_cases h0:ba b x=0
     ·have e3:dv b=dv x:=(jW kb.2.1 kx.2.1).1 h0;unfold ba at iI ⊢;rw[<-e3];exact iI
     ·have h2:ba b x<0:=by unfold ba at *;omega
      exact vN iI h2
   ·rcases List.mem_cons.1 hs with rfl|hs
    ·simp
    ·exact List.mem_cons_of_mem _ (ih.sub s hs)
   ·rcases List.mem_cons.1 hx with rfl|hx
    ·exact⟨x,by simp,mX _,sN x⟩
    ·obtain⟨s,hs,h⟩:=ih.rF x hx;exact⟨s,List.mem_cons_of_mem _ hs,h⟩
def cR:List aa->aa->List aa
 | [],a=>[a]
 | s::S,a=>if ba s a<0 then s::cR S a else if ba s a=0 then (if c8 s a<0 then a::S else s::S)else a::s::S
theorem sD(a:aa):∀(S:List aa),∀s∈cR S a,s∈S\/s=a
 | [],s,h=>by simp[cR]at h;exact .inr h
 | t::S,s,h=>by
  simp only[cR]at h;split at h
  ·rcases List.mem_cons.1 h with rfl|h
   ·simp
   ·rcases sD a S s h with h|h
    ·exact .inl (List.mem_cons_of_mem _ h)
    ·exact .inr h
  ·split at h
   ·split at h
    ·rcases List.mem_cons.1 h with rfl|h
     ·exact .inr rfl
     ·exact .inl (List.mem_cons_of_mem _ h)
    ·exact .inl h
   ·rcases List.mem_cons.1 h with rfl|h
    ·exact .inr rfl
    ·exact .inl h
theorem XJ(ka:cQ n a):∀(S:List aa),(∀s∈S,cQ n s)->(∃s∈cR S a,ba s a=0/\¬c8 s a<0)/\∀t∈S,∃s∈cR S a,ba s t=0/\¬c8 s t<0
 | [],_=>⟨⟨a,by simp[cR],mX _,sN a⟩,by simp⟩
 | t::S,hV=>by
  obtain⟨h1,h2⟩:=XJ ka S (λs hs=>hV s (List.mem_cons_of_mem _ hs));have kt:=hV t (by simp);have self:∀x:aa,ba x x=0/\¬c8 x x<0:=λx=>⟨mX _,sN x⟩;simp only[cR];split
  ·obtain⟨s,hs,hh⟩:=h1;refine⟨⟨s,List.mem_cons_of_mem _ hs,hh⟩,λu hu=>?_⟩;rcases List.mem_cons.1 hu with rfl|hu
   ·exact⟨u,by simp,self u⟩
   ·obtain⟨s,hs,hh⟩:=h2 u hu;exact⟨s,List.mem_cons_of_mem _ hs,hh⟩
  ·split
   ·rename_i hw;split
    ·rename_i a6;refine⟨⟨a,by simp,self a⟩,λu hu=>?_⟩;rcases List.mem_cons.1 hu with rfl|hu
     ·refine⟨a,by simp,Kz hw,λh=>?_⟩;exact sN a (Yg h a6)
     ·exact⟨u,List.mem_cons_of_mem _ hu,self u⟩
    ·rename_i a6;exact⟨⟨t,by simp,hw,a6⟩,λu hu=>⟨u,hu,self u⟩⟩
   ·exact⟨⟨a,by simp,self a⟩,λu hu=>⟨u,List.mem_cons_of_mem _ hu,self u⟩⟩
theorem XK(ka:cQ n a):∀(S:List aa),(∀s∈S,cQ n s)->S.Pairwise (λx y=>ba x y<0)->(cR S a).Pairwise λx y=>ba x y<0
 | [],_,_=>by simp[cR]
 | t::S,hV,hP=>by
  have la:=List.pairwise_cons.1 hP;have kt:=hV t (by simp);simp only[cR];split
  ·rename_i hw;refine List.pairwise_cons.2 ⟨λx hx=>?_,XK ka S (λs hs=>hV s (List.mem_cons_of_mem _ hs)) la.2⟩;rcases sD a S x hx with hx|rfl
   ·exact la.1 x hx
   ·exact hw
  ·rename_i hw;split
   ·rename_i U9;have e:dv t=dv a:=(jW kt.2.1 ka.2.1).1 U9;split
    ·refine List.pairwise_cons.2 ⟨λx hx=>?_,la.2⟩;have:=la.1 x hx;unfold ba at this ⊢;rw[<-e];exact this
    ·exact hP
   ·rename_i U9;have h1:ba a t<0:=by
     have:=lG (dv t) (dv a);unfold ba at *;omega
    refine List.pairwise_cons.2 ⟨λx hx=>?_,hP⟩;rcases List.mem_cons.1 hx with rfl|hx
    ·exact h1
    ·exact vN h1 (la.1 x hx)
theorem akX(ka:cQ n a)(hV:∀a∈l,cQ n a)(h:jk n S l):jk n (cR S a) (l++[a]):=by
 have hS:∀s∈S,cQ n s:=λs hs=>hV s (h.sub s hs);obtain⟨d1,d2⟩:=XJ ka S hS;refine⟨XK ka S hS h.sorted,λs hs=>?_,λx hx=>?_⟩
 ·rcases sD a S s hs with hs|rfl
  ·exact List.mem_append_left _ (h.sub s hs)
  ·simp
 ·rcases List.mem_append.1 hx with hx|hx
  ·obtain⟨s,hs,w1,s1⟩:=h.rF x hx;obtain⟨t,ht,w2,s2⟩:=d2 s hs;have kx:=hV x hx;have ks:=hS s hs;have kt:cQ n t:=by
    rcases sD a S t ht with h|rfl
    ·exact hS t h
    ·exact ka
   have e1:=(jW ks.2.1 kx.2.1).1 w1;have e2:=(jW kt.2.1 ks.2.1).1 w2;exact⟨t,ht,(jW kt.2.1 kx.2.1).2 (e2.trans e1),Kq s2 s1⟩
  ·rw[List.mem_singleton.1 hx];exact d1
theorem Tq:∀(l m S:List aa),(∀a∈l,cQ n a)->(∀a∈m,cQ n a)->jk n S m->jk n (l.foldl cR S) (m++l)
 | [],m,S,_,_,h=>by simpa using h
 | a::l,m,S,hl,hm,h=>by
  have ka:=hl a (by simp);have:=Tq l (m++[a]) (cR S a) (λx hx=>hl x (List.mem_cons_of_mem _ hx)) (λx hx=>by
   rcases List.mem_append.1 hx with hx|hx
   ·exact hm x hx
   ·rw[List.mem_singleton.1 hx];exact ka) (akX ka hm h)
  simpa using this
theorem akl{n:Nat}(hV:∀a∈l,cQ n a)(hm:∀a,a∈l↔a∈l'):fa (eQ eu l)=l'.foldl cR []:=by
 have hp:=qe eu l;have h1:jk n (fa (eQ eu l)) (eQ eu l):=Wz _ (λa ha=>hV a (hp.mem_iff.1 ha)) (Kc CM hV);have h2:jk n (l'.foldl cR []) ([]++l'):=Tq l' [] [] (λa ha=>hV a ((hm a).2 ha)) (by simp) ⟨List.Pairwise.nil,by simp,by simp⟩;rw[List.nil_append]at h2;exact afH (λa ha=>hV a (hp.mem_iff.1 ha)) (λa=>(hp.mem_iff).trans (hm a)) h1 h2
theorem gh(h:bJ a=true):a.1.length<=4/\cY a.2.1=true/\∀y∈a.1,cY y=true:=by
 unfold bJ at h;simp only[Bool.and_eq_true,Bool.not_eq_true',decide_eq_false_iff_not,List.all_eq_true]at h;exact⟨by omega,h.2.1,h.2.2.1⟩
theorem CJ(h:cY y=true):-400000000<=y/\y<=400000000:=by
 unfold cY at h;simpa using h
theorem TO:∀(x:List Int) (g:Nat),(∀y∈x,cY y=true)->g<=400000000->gl x g<=400000000
 | [],g,_,hg=>hg
 | a::x,g,h,hg=>by
  have e:gl (a::x) g=gl x (Nat.gcd g a.natAbs):=rfl;rw[e];refine TO x _ (λy hy=>h y (List.mem_cons_of_mem _ hy)) ?_;have hb:=CJ (h a (by simp));by_cases h0:g=0
  ·subst h0;rw[Nat.gcd_zero_left];omega
  ·exact Nat.le_trans (Nat.gcd_le_left _ (Nat.pos_of_ne_zero h0)) hg
theorem afR(h:bJ a=true):dD a<=400000000:=by
 have:=TO a.1 0 (gh h).2.2 (by omega);unfold dD;split<;>omega
theorem Cw(a:aa):(bif true then if 1<((gl a.1 0:Nat):Int)then ((gl a.1 0:Nat):Int)else 1 else if ((gl a.1 0:Nat):Int)<1 then ((gl a.1 0:Nat):Int)else 1)=dD a:=by
 simp only[cond_true];unfold dD;by_cases h:gl a.1 0=0
 ·rw[if_pos h,h];rfl
 ·rw[if_neg h];by_cases h2:1<((gl a.1 0:Nat):Int)
  ·rw[if_pos h2]
  ·rw[if_neg h2];omega
theorem RJ(h:bJ a=true):lV a.1=some ((((gl a.1 0:Nat):Int),()),()):=RI a.1 (by have:=(gh h).1;omega) (gh h).2.2
theorem RK(h:bJ a=true):yK a=some ((gl a.1 0 != 0,()),()):=by
 rw[acX,RJ h];simp only[Option.bind_some];congr 3;cases hg:gl a.1 0 with
 | zero=>rfl
 | succ n=>simp;omega
theorem yI(h:bJ a=true):qY a=some ((dD a,()),()):=by
 rw[acR,RJ h];simp only[Option.bind_some];unfold dD;cases hg:gl a.1 0 with
 | zero=>rfl
 | succ n =>
  have:(((n+1:Nat):Int)==0)=false:=by simp;omega
  rw[this];rfl
theorem yZ(h:bJ a=true):q9 a=some ((((gl a.1 0:Nat):Int),()),()):=by
 rw[adP,R0 a.1 0 (by have:=(gh h).1;omega) (gh h).2.2 (by decide)];rfl
theorem agl:∀(x:List Int),gl x 0=0↔∀y∈x,y=0:=by
 intro x;constructor
 ·intro h y hy;have:=(HU x 0).2 y hy;rw[h]at this;have:=Nat.eq_zero_of_zero_dvd this;omega
 ·intro h;induction x with
  | nil=>rfl
  | cons a x ih =>
   have e:gl (a::x) 0=gl x (Nat.gcd 0 a.natAbs):=rfl;rw[e,h a (by simp)];exact ih λy hy=>h y (List.mem_cons_of_mem _ hy)
theorem RY(a:aa)(hl:a.1.length<=68719476736):ud a=some ((gl a.1 0==0,()),()):=by
 rw[adN];rw[rq a.1 (λy=>y==0) (some ((false,()),())) (some ((true,()),())) (λi=>xF a i) hl (λi hi=>by
  rw[QB,aT hi,aD hi,aO (by omega)];simp only[cond_true,Option.bind_some,bne];cases a.1[i]==0<;>rfl) (by rw[QB,aW];rfl)]
 have e:a.1.all (λy=>y==0)=(gl a.1 0==0):=by
  rw[Bool.eq_iff_iff,List.all_eq_true,beq_iff_eq,agl];simp
 rw[e];cases gl a.1 0==0<;>rfl
theorem C4{D:Int}(h:cY y=true):IntKind.i64.wrap (y.tdiv D)=y.tdiv D:=by
 have:=CJ h;have h2:(y.tdiv D).natAbs<=y.natAbs:=tdiv_le y D;exact cb (by omega) (by omega)
theorem RP(a b:Int):yO a b=some ((jS a b,()),()):=by
 rw[adi];unfold jS;by_cases h1:a<b
 ·rw[if_pos h1,decide_eq_true h1];rfl
 ·rw[if_neg h1,decide_eq_false h1];by_cases h2:b<a
  ·have:a>b:=h2;rw[if_pos h2,decide_eq_true this];rfl
  ·have:¬a>b:=h2;rw[if_neg h2,decide_eq_false this];rfl
theorem WD{x y:List Int}{i:Nat}(hx:i<x.length)(hy:i<y.length):dm (x.drop i) (y.drop i)=if x[i]=y[i]then dm (x.drop (i+1)) (y.drop (i+1))else if x[i]<y[i]then -1 else 1:=by
 rw[List.drop_eq_getElem_cons hx,List.drop_eq_getElem_cons hy];rfl
theorem Bx(a:aa):(dD a != 0)=true:=by
 have:=nN a;simp;omega
theorem PX(ha:bJ a=true)(hb:bJ b=true)(hl:a.1.length=b.1.length):∀(n i:Nat),n+i=a.1.length ->
  xq a b (dD a) (dD b) (a.1.length:Int) (i:Int)=some ((dm ((dv a).drop i) ((dv b).drop i),()),())
 | 0,i,hn=>by
  obtain rfl:i=a.1.length:=by omega
  rw[PW,aW];have e1:(dv a).drop a.1.length=[]:=List.drop_eq_nil_of_le (by rw[jv];omega);rw[e1];rfl
 | n+1,i,hn=>by
  have hi:i<a.1.length:=by omega
  have ew:i<b.1.length:=by omega
  have na:=(gh ha).2.2 _ (List.getElem_mem hi);have nb:=(gh hb).2.2 _ (List.getElem_mem ew);rw[PW,aT hi,aD hi,aD ew,Bx,Bx,aO (by have:=(gh ha).1;omega)];simp only[cond_true,Option.bind_some];rw[C4 na,C4 nb,RP];simp only[Option.bind_some];rw[PX ha hb hl n (i+1) (by omega),WD (i:=i) (by rw[jv];exact hi) (by rw[jv];exact ew)];have e1:(dv a)[i]'(by rw[jv];exact hi)=a.1[i].tdiv (dD a):=by simp[dv]
  have e2:(dv b)[i]'(by rw[jv];exact ew)=b.1[i].tdiv (dD b):=by simp[dv]
  rw[e1,e2];generalize a.1[i].tdiv (dD a)=x;generalize b.1[i].tdiv (dD b)=y;by_cases h:x=y
  ·rw[if_pos h,J9.2 h];rfl
  ·rw[if_neg h];unfold jS;by_cases h1:x<y
   ·rw[if_pos h1,if_pos h1];rfl
   ·rw[if_neg h1,if_neg h1,if_pos (by omega)];rfl
theorem RB(ha:bJ a=true)(hb:bJ b=true)(hl:a.1.length=b.1.length):tR a b=some ((ba a b,()),()):=by
 rw[acK,yI ha,yI hb];simp only[Option.bind_some];have:=PX ha hb hl a.1.length 0 (by omega);rw[Int.natCast_zero]at this;rw[this];rfl
theorem QF(ha:bJ a=true)(hb:bJ b=true)(hl:a.1.length=b.1.length):∀(n i:Nat),n+i=a.1.length ->
  xI a b (dD a) (dD b) (i:Int)=some ((dm ((dv a).drop i) ((dv b).drop i),()),())
 | 0,i,hn=>by
  obtain rfl:i=a.1.length:=by omega
  rw[QE,aW];have e1:(dv a).drop a.1.length=[]:=List.drop_eq_nil_of_le (by rw[jv];omega);rw[e1];rfl
 | n+1,i,hn=>by
  have hi:i<a.1.length:=by omega
  have ew:i<b.1.length:=by omega
  have na:=(gh ha).2.2 _ (List.getElem_mem hi);have nb:=(gh hb).2.2 _ (List.getElem_mem ew);rw[QE,aT hi,aT ew,aD hi,aD ew,Bx,Bx,aO (by have:=(gh ha).1;omega)];simp only[cond_true,Option.bind_some];rw[C4 na,C4 nb,QF ha hb hl n (i+1) (by omega),WD (i:=i) (by rw[jv];exact hi) (by rw[jv];exact ew)];have e1:(dv a)[i]'(by rw[jv];exact hi)=a.1[i].tdiv (dD a):=by simp[dv]
  have e2:(dv b)[i]'(by rw[jv];exact ew)=b.1[i].tdiv (dD b):=by simp[dv]
  rw[e1,e2];generalize a.1[i].tdiv (dD a)=x;generalize b.1[i].tdiv (dD b)=y;by_cases h:x=y
  ·rw[if_pos h,h];simp
  ·rw[if_neg h];have e:(x != y)=true:=by simpa using h
   rw[e,cond_true];by_cases h1:x<y
   ·rw[if_pos h1,decide_eq_true h1];rfl
   ·rw[if_neg h1,decide_eq_false h1];rfl
theorem adU(ha:bJ a=true)(hb:bJ b=true)(hl:a.1.length=b.1.length):ra a b=some ((ba a b,()),()):=by
 rw[adT,yZ ha,yZ hb];simp only[Option.bind_some];rw[Cw,Cw];have:=QF ha hb hl a.1.length 0 (by omega);rw[Int.natCast_zero]at this;rw[this];rfl
theorem CF(ha:bJ a=true)(hb:bJ b=true):IntKind.i64.wrap (a.2.1*dD b)=a.2.1*dD b:=by
 have h1:=CJ (gh ha).2.1;have h2:=nN b;have h3:=afR hb;exact KB (by omega) (by omega)
theorem adR(ha:bJ a=true)(hb:bJ b=true):y3 a b=some ((!decide (c8 a b<0),()),()):=by
 rw[adQ,yZ ha,yZ hb];simp only[Option.bind_some];rw[Cw,Cw,CF ha hb,CF hb ha];have hs:=@wE a b;generalize a.2.1*dD b=x at *
 generalize b.2.1*dD a=y at *
 by_cases h1:x>y
 ·have:¬c8 a b<0:=λh=>by
   rcases hs.1 h with h|h<;>omega
  rw[decide_eq_true h1,decide_eq_false this];rfl
 ·rw[decide_eq_false h1];by_cases h2:x=y
  ·subst h2;simp only[cond_false,beq_self_eq_true,cond_true];cases h3:a.2.2
   ·cases h4:b.2.2
    ·have:¬c8 a b<0:=λh=>by
      rcases hs.1 h with h|h
      ·omega
      ·rw[h4]at h;exact absurd h.2.2 (by simp)
     rw[decide_eq_false this];rfl
    ·have:c8 a b<0:=hs.2 (.inr ⟨rfl,h3,h4⟩);rw[decide_eq_true this];rfl
   ·have:¬c8 a b<0:=λh=>by
     rcases hs.1 h with h|h
     ·omega
     ·rw[h3]at h;exact absurd h.2.1 (by simp)
    rw[decide_eq_false this];rfl
  ·have e:(x==y)=false:=by simpa using h2
   have:c8 a b<0:=hs.2 (.inl (by omega));rw[e,decide_eq_true this];rfl
theorem ab9(ha:bJ a=true)(hb:bJ b=true)(hl:a.1.length=b.1.length):Rq a b=some ((eu a b,()),()):=by
 have e0:((a.1.length:Int) != (b.1.length:Int))=false:=by rw[hl];simp
 rw[ab8,nH,nH,ha,hb,e0,RB ha hb hl,yI ha,yI hb];simp only[Option.bind_some,Bool.not_true,cond_false];rw[CF ha hb,CF hb ha,RP];simp only[Option.bind_some];unfold eu c8;by_cases h:ba a b=0
 ·rw[h];simp only[bne_self_eq_false,cond_false,ne_eq,not_true_eq_false,if_false];by_cases h2:jS (a.2.1*dD b) (b.2.1*dD a)=0
  ·rw[h2];simp only[bne_self_eq_false,cond_false,not_true_eq_false,if_false];cases a.2.2<;>cases b.2.2<;>rfl
  ·have e:(jS (a.2.1*dD b) (b.2.1*dD a) != 0)=true:=by simpa using h2
   rw[e,if_pos h2];rfl
 ·have e:(ba a b != 0)=true:=by simpa using h
  rw[e,if_pos h];rfl
theorem C3(h:n<=68719476736):decide ((0+n)*8<=140737488355328)=true:=by simp;omega
theorem iv{c:Nat}(h:n<=68719476736)(hc:c<=1000):decide ((n+1)*c<=140737488355328)=true:=by
 have:=Nat.mul_le_mul (show n+1<=68719476737 by omega) hc;simp;omega
theorem R2(a:aa)(h:a.1.length<=68719476736):y4 a=some ((a,()),()):=by
 rw[adV,C3 h];rfl
theorem yG(a:aa)(h:a.1.length<=68719476736):tS a=some ((a,()),()):=by
 rw[acL,RD,C3 h];rfl
theorem HD(l:List α):l.drop (Int.toNat 0)=l:=rfl
theorem Xo(h1:n<=m)(h2:m<=1000000):(decide ((0:Nat)<=0)&&decide (0<=(n:Int))&&decide ((n:Int)<=(m:Int)))=true:=by simp;omega
theorem Xp(h1:n<=m):(decide (0<=(n:Int))&&decide ((n:Int)<=(m:Int))&&decide ((m:Int)<=(m:Int)))=true:=by simp;omega
theorem aln{S:List α}(hi:i<S.length)(a:α):S.set i a=S.take i++a::S.drop (i+1):=by
 rw[List.set_eq_take_append_cons_drop,if_pos hi]
theorem WA(hS:S.length<=1000000)(i:Nat):decide ((0+(List.drop (Int.toNat 0) (S.take i)).length)*40<=140737488355328)=true/\decide (((List.drop (Int.toNat 0) (S.take i)).length+1)*40<=140737488355328)=true /\
  ∀a:aa,decide (((List.drop (Int.toNat 0) (S.take i)++[a]).length+(S.drop i).length)*40<=140737488355328)=true:=by
 rw[HD];refine⟨?_,?_,λa=>?_⟩<;>simp only[List.length_append,List.length_take,List.length_drop,List.length_singleton,decide_eq_true_eq]<;>omega
theorem QO(ka:cQ n a)(hV:∀s∈S,cQ n s)(hS:S.length<=1000000):∀(m i:Nat),m+i=S.length ->
  xL S a (i:Int)=some ((S.take i++cR (S.drop i) a,()),())
 | 0,i,hm=>by
  obtain rfl:i=S.length:=by omega
  obtain⟨l1,l2,l3⟩:=WA hS S.length;have l3:=l3 a;rw[QN,aW,Int.toNat_natCast];have et:S.take S.length=S:=List.take_of_length_le (Nat.le_refl _);simp only[cond_false,Xo (Nat.le_refl _) hS,Xp (Nat.le_refl S.length),et,cond_true]at l1 l2 l3 ⊢;rw[l1,l2,l3,HD];simp[cR]
 | m+1,i,hm=>by
  have hi:i<S.length:=by omega
  have ks:=hV _ (List.getElem_mem hi);have hl:S[i].1.length=a.1.length:=ks.2.1.trans ka.2.1.symm;have ahU:=adU ks.1 ka.1 hl;have ahN:=adR ks.1 ka.1;obtain⟨l1,l2,l3⟩:=WA hS i;have l3:=l3 a;have et:S.take S.length=S:=List.take_of_length_le (Nat.le_refl _);have l4:decide ((0+S.length)*40<=140737488355328)=true:=by simp;omega
  rw[QN,aT hi,aD hi,aO (by omega),Int.toNat_natCast];simp only[cond_true,Option.bind_some,ahU,ahN,Xo (Nat.le_of_lt hi) hS,Xp (Nat.le_of_lt hi),et,l1,l2,l3,l4];rw[List.drop_eq_getElem_cons hi];simp only[cR];by_cases w:ba S[i] a<0
  ·rw[decide_eq_true w,if_pos w,cond_true,QO ka hV hS m (i+1) (by omega)];have e:S.take (i+1)=S.take i++[S[i]]:=by rw[List.take_add_one,List.getElem?_eq_getElem hi];rfl
   rw[e,List.append_assoc];rfl
  ·rw[decide_eq_false w,if_neg w,cond_false];by_cases w0:ba S[i] a=0
   ·have e:(ba S[i] a==0)=true:=by simpa using w0
    rw[e,if_pos w0,cond_true];by_cases st:c8 S[i] a<0
    ·rw[decide_eq_true st,if_pos st];simp only[Bool.not_true,cond_false];rw[aln hi]
    ·rw[decide_eq_false st,if_neg st];simp only[Bool.not_false,cond_true];rw[<-List.drop_eq_getElem_cons hi,List.take_append_drop]
   ·have e:(ba S[i] a==0)=false:=by simpa using w0
    rw[e,if_neg w0,cond_false,HD];simp
theorem ad3(ka:cQ n a)(hV:∀s∈S,cQ n s)(hS:S.length<=1000000):y8 S a=some ((cR S a,()),()):=by
 rw[ad2];have:=QO ka hV hS S.length 0 (by omega);rw[Int.natCast_zero]at this;rw[this];simp
theorem JX(a:aa):∀S:List aa,(cR S a).length<=S.length+1
 | []=>by simp[cR]
 | s::S=>by
  have:=JX a S;simp only[cR];split
  ·simp;omega
  ·split
   ·split<;>simp
   ·simp
theorem akY(ka:cQ n a)(hV:∀s∈S,cQ n s):∀s∈cR S a,cQ n s:=λs hs=>by
 rcases sD a S s hs with h|rfl
 ·exact hV s h
 ·exact ka
def fD(a:aa):Bool:=gl a.1 0==0&&(decide (a.2.1>0)||(a.2.1==0&&a.2.2))
def er(a:aa):Bool:=gl a.1 0 != 0
def jM(d:Int):aB:=(d,[(List.replicate d.toNat (0:Int),1,false)])
def cw(d:Int)(l:List aa):aB:=bif l.any fD then jM d else (d,(l.filter er).foldl cR [])
def bm(n:Nat)(a:aa):Prop:=bJ a=true/\a.1.length=n
theorem JL{n:Nat}(h:bm n a)(hv:er a=true):cQ n a:=⟨h.1,h.2,by unfold er at hv;simpa using hv⟩
theorem W0(h0:0<=d)(h1:d<=1000):(decide (0<=d)&&decide (d<=d)&&decide (d*8<=140737488355328)&&decide (d<=9223372036854775807))=true:=by simp;omega
theorem FJ(h0:0<=d)(h1:d<=1000):y6 d=some ((jM d,()),()):=by
 rw[ad0,W0 h0 h1];rfl
theorem Fx(h0:0<=d)(h1:d<=1000):tU d=some ((jM d,()),()):=by
 rw[acU,W0 h0 h1];rfl
theorem xK(h0:0<=d)(h1:d<=1000){l:List aa}(hV:∀a∈l,bm n a)(hl:l.length<=1000)(z:aB):∀(m i:Nat) (S:List aa),m+i=l.length->(∀s∈S,cQ n s)->S.length<=i ->
  tN d l z (d,S) (i:Int)=some ((bif (l.drop i).any fD then jM d else (d,((l.drop i).filter er).foldl cR S),()),())
 | 0,i,S,hm,_,_=>by
  obtain rfl:i=l.length:=by omega
  rw[QM,aW,List.drop_eq_nil_of_le (Nat.le_refl _)];rfl
 | m+1,i,S,hm,hS,hSl=>by
  have hi:i<l.length:=by omega
  have kv:=hV _ (List.getElem_mem hi);have h4:=(gh kv.1).1;rw[QM,aT hi,aD hi,aO (by omega)];simp only[cond_true,Option.bind_some];rw[RY _ (by omega),List.drop_eq_getElem_cons hi,List.any_cons,List.filter_cons];simp only[Option.bind_some];have ih:=λS h1 h2=>xK h0 h1 hV hl z m (i+1) S (by omega);cases hg:gl l[i].1 0==0
  ·have hv:er l[i]=true:=by unfold er bne;rw[hg];rfl
   have hb:fD l[i]=false:=by unfold fD;rw[hg];rfl
   have ka:=JL kv hv;rw[hv,hb,cond_false,R2 _ (by omega)];simp only[Option.bind_some];rw[ad3 ka hS (by omega)];simp only[Option.bind_some];have:=xK h0 h1 hV hl z m (i+1) (cR S l[i]) (by omega) (akY ka hS) (by have:=JX l[i] S;omega);rw[this];rfl
  ·have hv:er l[i]=false:=by unfold er bne;rw[hg];rfl
   rw[hv,cond_true,adS];have e1:fD l[i]=(decide (l[i].2.1>0)||(l[i].2.1==0&&l[i].2.2)):=by unfold fD;rw[hg];rfl
   rw[e1];have:=xK h0 h1 hV hl z m (i+1) S (by omega) hS (by omega);by_cases c1:l[i].2.1<0
   ·have c2:¬l[i].2.1>0:=by omega
    have c3:(l[i].2.1==0)=false:=by simp;omega
    rw[decide_eq_true c1,decide_eq_false c2,c3];simp only[cond_true,Option.bind_some,Bool.not_true,cond_false,Bool.false_and,Bool.or_self,Bool.false_or];rw[this];rfl
   ·rw[decide_eq_false c1];by_cases c3:l[i].2.1=0
    ·have c4:(l[i].2.1==0)=true:=by simpa using c3
     have c2:¬l[i].2.1>0:=by omega
     rw[decide_eq_false c2,c4];cases l[i].2.2
     ·simp only[cond_false,cond_true,Option.bind_some,Bool.not_true,Bool.not_false,Bool.and_false,Bool.or_self,Bool.false_or];rw[this];rfl
     ·simp only[cond_false,cond_true,Option.bind_some,Bool.not_true,Bool.not_false,Bool.and_true,Bool.or_true,Bool.true_or];rw[FJ h0 h1];rfl
    ·have c4:(l[i].2.1==0)=false:=by simpa using c3
     have c2:l[i].2.1>0:=by omega
     rw[decide_eq_true c2,c4];simp only[cond_false,cond_true,Option.bind_some,Bool.not_false,Bool.true_or];rw[FJ h0 h1];rfl
theorem y7{n:Nat}{d:Int}(h0:0<=d)(h1:d<=1000){l:List aa}(hV:∀a∈l,bm n a)(hl:l.length<=1000):oP d l=some ((cw d l,()),()):=by
 rw[ad1];have:=xK h0 h1 hV hl (0,[]) l.length 0 [] (by omega) (by simp) (by simp);rw[Int.natCast_zero]at this;rw[this];rfl
abbrev sU:Ty:=.pair (.slice 3 ak) (.pair ak aN)
theorem Hq(ha:bm n a)(hb:bm n b):ns (a,(b,()))=some ((fE sU ns a b,()),()) /\
  fE sU ns a b=eu a b:=by
 have h:ns (a,(b,()))=some ((eu a b,()),()):=ab9 ha.1 hb.1 (ha.2.trans hb.2.symm);have e:fE sU ns a b=eu a b:=by
  unfold fE;rw[h]
 exact⟨by rw[e];exact h,e⟩
theorem aku{V:α->Prop}{cf cg:α->α->Int}(h:oF V cf){W:α->Prop}(hW:∀x,W x->V x)(he:∀x y,W x->W y->cg x y=cf x y):oF W cg:=by
 refine⟨λx hx=>?_,λx y z hx hy hz h1 h2=>?_,λx y z hx hy hz h1 h2=>?_,λx y hx hy h1 h2=>?_⟩
 ·rw[he x x hx hx];exact h.irrefl x (hW x hx)
 ·rw[he _ _ hx hy]at h1;rw[he _ _ hy hz]at h2;rw[he _ _ hx hz];exact h.trans x y z (hW _ hx) (hW _ hy) (hW _ hz) h1 h2
 ·rw[he _ _ hx hy]at h1;rw[he _ _ hy hz]at h2;rw[he _ _ hx hz];exact h.ntrans x y z (hW _ hx) (hW _ hy) (hW _ hz) h1 h2
 ·rw[he _ _ hx hy]at h1;rw[he _ _ hy hx]at h2;exact h.GU x y (hW _ hx) (hW _ hy) h1 h2
theorem alv{K:List aa}(hV:∀a∈K,cQ n a)(hl:K.length<=1000000):
  R4 K (Value.func (Fn.func 168) #[] #[])=some ((),eQ eu K,()):=by
 have hv:∀a∈K,bm n a:=λa ha=>⟨(hV a ha).1,(hV a ha).2.1⟩;have hO:oF (λa=>a∈K) (fE sU ns):=
  aku (@CM n) (λa ha=>hV a ha) (λx y hx hy=>(Hq (hv x hx) (hv y hy)).2)
 have hs:eQ eu K=eQ (fE sU ns) K:=by
  have hp:=qe eu K;refine X6 hO (λa ha=>ha) hp ?_;have:=Kc (@CM n) hV;refine List.Pairwise.imp_of_mem (λ{a b} ha hb h=>?_) this;rw[(Hq (hv b (hp.mem_iff.1 hb)) (hv a (hp.mem_iff.1 ha))).2];exact h
 show sM 66 sU 2 168 _ (K,(Value.func (Fn.func 168) #[] #[],()))=_;unfold sM;rw[if_pos ⟨rfl,⟨λa ha b hb=>(Hq (hv a ha) (hv b hb)).1,hO⟩,Nat.lt_of_le_of_lt hl (by decide)⟩];rw[hs];rfl
theorem P7{d:Int}{K:List aa}(hV:∀a∈K,cQ n a)(hl:K.length<=1000)(z:aB):∀(m i:Nat) (out:List aa),m+i=K.length->out.length<=i ->
  qI z ((i:Int),K) (d,out) (K.length:Int) (i:Int)=some (((d,out++fa (K.drop i)),()),())
 | 0,i,out,hm,_=>by
  obtain rfl:i=K.length:=by omega
  rw[P6];dsimp only;rw[aW,List.drop_eq_nil_of_le (Nat.le_refl _),cond_false];simp[fa]
 | m+1,i,out,hm,ho=>by
  have hi:i<K.length:=by omega
  have k1:=hV _ (List.getElem_mem hi);have ei:((i:Int)+1)=((i+1:Nat):Int):=by omega
  have dd:(V.dead.idle&&decide ((i:Int)<=(i:Int)))=true:=by simp[V.idle,V.aJ]
  have sz:decide ((out.length+1)*40<=140737488355328)=true:=iv (by omega) (by omega);rw[P6];dsimp only;rw[aT hi,aD hi,dd,aO (by omega),sz,ei];simp only[cond_true,Option.bind_some];have ih:=λout h=>P7 (d:=d) hV hl z m (i+1) out (by omega) h;by_cases h2:i+1<K.length
  ·have k2:=hV _ (List.getElem_mem h2);have e2:decide (((i+1:Nat):Int)<=((i+1:Nat):Int))=true:=by simp
   rw[aT h2,aD h2,e2];simp only[cond_true,Option.bind_some];rw[RB k1.1 k2.1 (k1.2.1.trans k2.2.1.symm)];simp only[Option.bind_some];rw[List.drop_eq_getElem_cons hi,List.drop_eq_getElem_cons h2];simp only[fa];rw[<-List.drop_eq_getElem_cons h2];by_cases w:ba K[i] K[i+1]=0
   ·have e:(ba K[i] K[i+1]==0)=true:=by simpa using w
    rw[e,if_pos w,cond_true,ih out (by omega)]
   ·have e:(ba K[i] K[i+1]==0)=false:=by simpa using w
    rw[e,if_neg w,cond_false,ih (out++[K[i]]) (by simp;omega),List.append_assoc];rfl
  ·have hz:i+1=K.length:=by omega
   have e2:decide (((i+1:Nat):Int)<(K.length:Int))=false:=by simp;omega
   rw[e2,cond_false,ih (out++[K[i]]) (by simp;omega),List.drop_eq_getElem_cons hi,List.drop_eq_nil_of_le (by omega)];simp[fa]
def JJ(d:Int)(l:List aa):aB:=bif l.any fD then jM d else (d,fa (eQ eu (l.filter er)))
theorem DN{d:Int}(h0:0<=d)(h1:d<=1000)(hV:∀a∈l,bm n a)(hl:l.length<=1000)(z:aB):∀(m i:Nat) (K:List aa),m+i=l.length->(∀s∈K,cQ n s)->K.length<=i ->
  qJ d l z K l (l.length:Int) (i:Int)=some ((bif (l.drop i).any fD then jM d else (d,fa (eQ eu (K++(l.drop i).filter er))),()),())
 | 0,i,K,hm,hK,hKl=>by
  obtain rfl:i=l.length:=by omega
  rw[P8,aW,List.drop_eq_nil_of_le (Nat.le_refl _),cond_false,alv hK (by omega)];simp only[Option.bind_some,List.any_nil,cond_false,List.filter_nil,List.append_nil];have hp:=qe eu K;have:=P7 (d:=d) (K:=eQ eu K) (λa ha=>hK a (hp.mem_iff.1 ha)) (by rw[hp.length_eq];omega) z (eQ eu K).length 0 [] (by omega) (by simp);rw[Int.natCast_zero]at this;rw[this];simp
 | m+1,i,K,hm,hK,hKl=>by
  have hi:i<l.length:=by omega
  have kv:=hV _ (List.getElem_mem hi);have h4:=(gh kv.1).1;rw[P8,aT hi,aD hi,aO (by omega)];simp only[cond_true,Option.bind_some];rw[RK kv.1,List.drop_eq_getElem_cons hi,List.any_cons,List.filter_cons];simp only[Option.bind_some];cases hg:gl l[i].1 0==0
  ·have hv:er l[i]=true:=by unfold er bne;rw[hg];rfl
   have cI:(gl l[i].1 0 != 0)=true:=hv;have hb:fD l[i]=false:=by unfold fD;rw[hg];rfl
   have ka:=JL kv hv;rw[hv,cI,hb,Bool.not_true,cond_false,yG _ (by omega)];simp only[Option.bind_some];rw[iv (by omega) (by omega),cond_true];have:=DN h0 h1 hV hl z m (i+1) (K++[l[i]]) (by omega) (λs hs=>by
    rcases List.mem_append.1 hs with h|h
    ·exact hK s h
    ·rw[List.mem_singleton.1 h];exact ka) (by simp;omega)
   rw[this];simp
  ·have hv:er l[i]=false:=by unfold er bne;rw[hg];rfl
   have cI:(gl l[i].1 0 != 0)=false:=hv;rw[hv,cI,Bool.not_false,cond_true];have e1:fD l[i]=(decide (l[i].2.1>0)||(l[i].2.1==0&&l[i].2.2)):=by unfold fD;rw[hg];rfl
   rw[e1];have:=DN h0 h1 hV hl z m (i+1) K (by omega) hK (by omega);cases c1:decide (l[i].2.1>0)
   ·cases c2:l[i].2.1==0
    ·simp only[cond_false,Bool.false_and,Bool.or_self,Bool.false_or];rw[this];rfl
    ·cases c3:l[i].2.2
     ·simp only[cond_false,cond_true,Bool.and_false,Bool.or_self,Bool.false_or];rw[this];rfl
     ·simp only[cond_false,cond_true,Bool.and_true,Bool.or_true,Bool.true_or];rw[Fx h0 h1];rfl
   ·simp only[cond_true,Bool.true_or];rw[Fx h0 h1];rfl
theorem adb(h0:0<=d)(h1:d<=1000)(hV:∀a∈l,bm n a)(hl:l.length<=1000):oK d l=some ((JJ d l,()),()):=by
 rw[ada];have:=DN h0 h1 hV hl (0,[]) l.length 0 [] (by omega) (by simp) (by simp);rw[Int.natCast_zero]at this;rw[this];rfl
theorem norm_eq{n:Nat}(hV:∀a∈l,bm n a)(hm:∀a,a∈l↔a∈l'):JJ d l=cw d l':=by
 have e1:l.any fD=l'.any fD:=by
  rw[Bool.eq_iff_iff,List.any_eq_true,List.any_eq_true];exact⟨λ⟨x,hx,h⟩=>⟨x,(hm x).1 hx,h⟩,λ⟨x,hx,h⟩=>⟨x,(hm x).2 hx,h⟩⟩
 have e2:fa (eQ eu (l.filter er))=(l'.filter er).foldl cR []:=akl (n:=n) (λa ha=>JL (hV a (List.mem_filter.1 ha).1) (List.mem_filter.1 ha).2) (λa=>by
  rw[List.mem_filter,List.mem_filter,hm a])
 unfold JJ cw;rw[e1,e2]
theorem TG{g:Nat}(hg:g<=4000000000000000000)(hy:y.natAbs<=4000000000000000000):Nat.gcd g y.natAbs<=4000000000000000000:=by
 by_cases h0:g=0
 ·subst h0;rw[Nat.gcd_zero_left];exact hy
 ·exact Nat.le_trans (Nat.gcd_le_left _ (Nat.pos_of_ne_zero h0)) hg
theorem TM:∀(x:List Int) (g:Nat),(∀y∈x,y.natAbs<=4000000000000000000)->g<=4000000000000000000->gl x g<=4000000000000000000
 | [],g,_,hg=>hg
 | a::x,g,h,hg=>TM x (Nat.gcd g a.natAbs) (λy hy=>h y (List.mem_cons_of_mem _ hy)) (TG hg (h a (by simp)))
theorem QC(x:List Int)(hl:x.length<=68719476736)(hx:∀y∈x,y.natAbs<=4000000000000000000):∀(n i g:Nat),n+i=x.length->qQ x (g:Int) (i:Int)=some ((((gl (x.drop i) g:Nat):Int),()),())
 | 0,i,g,hn=>by
  obtain rfl:i=x.length:=by omega
  rw[xG,aW,List.drop_eq_nil_of_le (by omega)];rfl
 | n+1,i,g,hn=>by
  have hi:i<x.length:=by omega
  rw[xG,aT hi,aD hi,cond_true,Option.bind_some,Sh (hx _ (List.getElem_mem hi)),Option.bind_some,DU x i _ _ _ (Nat.le_refl _) (Int.natCast_nonneg _) (Int.natCast_nonneg _),aO (by omega),QC x hl hx n (i+1) _ (by omega),List.drop_eq_getElem_cons hi];simp only[Int.natAbs_natCast];rfl
theorem adO(x:List Int)(k:Int)(hl:x.length<=68719476736)(hx:∀y∈x,y.natAbs<=4000000000000000000)(hk:k.natAbs<=4000000000000000000):oO x k=some ((((gl x k.natAbs:Nat):Int),()),()):=by
 rw[RZ,Sh hk,Option.bind_some];have:=QC x hl hx x.length 0 k.natAbs (by omega);simpa using this
theorem PZ(x:List Int)(hl:x.length<=68719476736)(hx:∀y∈x,y.natAbs<=4000000000000000000):∀(n i g:Nat),n+i=x.length->g<=4000000000000000000->tD x (g:Int) x (x.length:Int) (i:Int)=some ((((gl (x.drop i) g:Nat):Int),()),())
 | 0,i,g,hn,_=>by
  obtain rfl:i=x.length:=by omega
  rw[xv,aW,List.drop_eq_nil_of_le (by omega)];rfl
 | n+1,i,g,hn,hg=>by
  have hi:i<x.length:=by omega
  have hy:=hx _ (List.getElem_mem hi);rw[xv,aT hi,aD hi,cond_true,Option.bind_some,Ry (by simpa using hg) hy,Option.bind_some,aO (by omega)];simp only[Int.natAbs_natCast];rw[PZ x hl hx n (i+1) _ (by omega) (TG hg hy),List.drop_eq_getElem_cons hi];rfl
theorem acS(x:List Int)(hl:x.length<=68719476736)(hx:∀y∈x,y.natAbs<=4000000000000000000):lV x=some ((((gl x 0:Nat):Int),()),()):=by
 rw[RH];have:=PZ x hl hx x.length 0 0 (by omega) (by omega);simpa using this
def iq(g:Nat):Int:=if g=0 then 1 else (g:Int)
def ft(x:List Int)(k:Int)(st:Bool):aa×Bool :=
 bif bJ (x.map (λy=>y.tdiv (iq (gl x k.natAbs))),k.tdiv (iq (gl x k.natAbs)),st)then ((x.map (λy=>y.tdiv (iq (gl x k.natAbs))),k.tdiv (iq (gl x k.natAbs)),st),true)else (([],0,false),false)
theorem Xr(g:Nat):(iq g != 0)=true:=by
 unfold iq;split
 ·rfl
 ·simp;omega
theorem aj4(g:Nat):(bif true then if 1<(g:Int)then (g:Int)else 1 else if (g:Int)<1 then (g:Int)else 1)=iq g:=by
 simp only[cond_true];unfold iq;by_cases h:g=0
 ·rw[if_pos h,h];rfl
 ·rw[if_neg h];by_cases h2:1<(g:Int)
  ·rw[if_pos h2]
  ·rw[if_neg h2];omega
theorem wI{D:Int}(h:y.natAbs<=4000000000000000000):IntKind.i64.wrap (y.tdiv D)=y.tdiv D:=by
 have h2:(y.tdiv D).natAbs<=y.natAbs:=tdiv_le y D;exact cb (by omega) (by omega)
theorem Tk(x:List α)(g:α->β)(E:List β->Option R)(f:List β->Int->Option R)
  (h1:∀(i:Nat) (hi:i<x.length) (v:List β),v.length=x.length->f v (i:Int)=f (v.set i (g x[i])) ((i+1:Nat):Int)) (h2:∀v,v.length=x.length->f v (x.length:Int)=E v) :
  ∀(n i:Nat) (v:List β),n+i=x.length->v.length=x.length->f v (i:Int)=E (v.take i++(x.drop i).map g)
 | 0,i,v,hn,hv=>by
  obtain rfl:i=x.length:=by omega
  rw[h2 v hv,List.take_of_length_le (by omega),List.drop_eq_nil_of_le (by omega)];simp
 | n+1,i,v,hn,hv=>by
  have hi:i<x.length:=by omega
  rw[h1 i hi v hv,Tk x g E f h1 h2 n (i+1) _ (by omega) (by simpa using hv)];congr 1;have e1:(v.set i (g x[i])).take (i+1)=v.take i++[g x[i]]:=by
   rw[List.take_add_one,List.take_set_of_le (by omega)];simp[hv,hi]
  rw[e1,List.append_assoc,List.drop_eq_getElem_cons hi,List.map_cons];rfl
theorem HJ(x:List α)(g:α->β)(E:List β->Option R)(f:List β->Int->Option R)
  (h1:∀(i:Nat) (hi:i<x.length) (v:List β),v.length=x.length->f v (i:Int)=f (v.set i (g x[i])) ((i+1:Nat):Int)) (h2:∀v,v.length=x.length->f v (x.length:Int)=E v) (v:List β) (hv:v.length=x.length):f v 0=E (x.map g):=by
 have:=Tk x g E f h1 h2 x.length 0 v (by omega) hv;rw[Int.natCast_zero]at this;rw[this];simp
theorem oU(x:List α)(g:α->β)(E:List β->Option R)(f:List β->Int->Option R)
  (h1:∀(i:Nat) (hi:i<x.length) (o:List β),o.length=i->f o (i:Int)=f (o++[g x[i]]) ((i+1:Nat):Int)) (h2:∀o,f o (x.length:Int)=E o):f [] 0=E (x.map g):=by
 have key:∀(n i:Nat) (o:List β),n+i=x.length->o.length=i->f o (i:Int)=E (o++(x.drop i).map g):=by
  intro n;induction n with
  | zero =>
   intro i o hn ho;obtain rfl:i=x.length:=by omega
   rw[h2,List.drop_eq_nil_of_le (by omega)];simp
  | succ n ih =>
   intro i o hn ho;have hi:i<x.length:=by omega
   rw[h1 i hi o ho,ih (i+1) _ (by omega) (by simp;omega),List.drop_eq_getElem_cons hi,List.map_cons,List.append_assoc];rfl
 have:=key x.length 0 [] (by omega) rfl;rw[Int.natCast_zero]at this;rw[this];simp
theorem RO{x:List Int}{k:Int}{st:Bool}(hl:x.length<=1000)(hx:∀y∈x,y.natAbs<=4000000000000000000)(hk:k.natAbs<=4000000000000000000):lW x k st=some (((ft x k st).1,(ft x k st).2,()),()):=by
 have hg:=TM x 0 hx (by omega);have iL:=nh (R:=Option ((aa×Bool×PUnit)×PUnit)) x 8 (by omega) (by omega) (by omega);have loop:∀D:Int,(D != 0)=true->qH x ([],0,false) D (List.replicate x.length (0:Int),k.tdiv D,st) x (x.length:Int) 0=(bif bJ (x.map (λy=>y.tdiv D),k.tdiv D,st)then some (((x.map (λy=>y.tdiv D),k.tdiv D,st),true,()),())else some ((([],0,false),false,()),())):=by
  intro D hD;refine HJ x (λy=>y.tdiv D) (λv=>(bif bJ (v,k.tdiv D,st)then some (((v,k.tdiv D,st),true,()),())else some ((([],0,false),false,()),()))) (λv i=>qH x ([],0,false) D (v,k.tdiv D,st) x (x.length:Int) i) (λi hi v hv=>?_) (λv hv=>?_) _ (by simp)
  ·rw[P5,aT hi,aD hi,aO (by omega),hD];simp only[cond_true,Option.bind_some];rw[aD (by omega),wI (hx _ (List.getElem_mem hi)),Int.toNat_natCast];simp only[Option.bind_some]
  ·rw[P5,aW,cond_false,nH];simp only[Option.bind_some];cases bJ (v,k.tdiv D,st)<;>rfl
 rw[ac8,acS x (by omega) hx];simp only[Option.bind_some];rw[Ry (by simpa using hg) hk];simp only[Option.bind_some,Int.natAbs_natCast];rw[<-HV];unfold ft;by_cases h0:gl x k.natAbs=0
 ·have e:iq (gl x k.natAbs)=1:=by unfold iq;rw[if_pos h0]
  rw[e,h0];have e2:(((0:Nat):Int)==0)=true:=rfl;rw[e2,cond_true,iL,wI hk,loop 1 rfl];cases bJ (x.map (λy=>y.tdiv 1),k.tdiv 1,st)<;>rfl
 ·have e:iq (gl x k.natAbs)=((gl x k.natAbs:Nat):Int):=by unfold iq;rw[if_neg h0]
  have e2:(((gl x k.natAbs:Nat):Int)==0)=false:=by simpa using h0
  have e3:(((gl x k.natAbs:Nat):Int) != 0)=true:=by simpa using h0
  rw[e,e2,cond_false,iL,e3,cond_true,wI hk,loop _ e3];cases bJ (x.map (λy=>y.tdiv ((gl x k.natAbs:Nat):Int)),k.tdiv ((gl x k.natAbs:Nat):Int),st)<;>rfl
theorem RX{x:List Int}{k:Int}{st:Bool}(hl:x.length<=1000)(hx:∀y∈x,y.natAbs<=4000000000000000000)(hk:k.natAbs<=4000000000000000000):lY x k st=some (((ft x k st).1,(ft x k st).2,()),()):=by
 have loop:∀D:Int,(D != 0)=true->tK x ([],0,false) D ([],k.tdiv D,st) 0=(bif bJ (x.map (λy=>y.tdiv D),k.tdiv D,st)then some (((x.map (λy=>y.tdiv D),k.tdiv D,st),true,()),())else some ((([],0,false),false,()),())):=by
  intro D hD;refine oU x (λy=>y.tdiv D) (λv=>(bif bJ (v,k.tdiv D,st)then some (((v,k.tdiv D,st),true,()),())else some ((([],0,false),false,()),()))) (λv i=>tK x ([],0,false) D (v,k.tdiv D,st) i) (λi hi v hv=>?_) (λv=>?_)
  ·have hs:decide ((v.length+1)*8<=140737488355328)=true:=iv (by omega) (by omega);rw[QA,aT hi,aD hi,aO (by omega),hD];simp only[cond_true,Option.bind_some];rw[hs,cond_true,wI (hx _ (List.getElem_mem hi))]
  ·rw[QA,aW,cond_false,q7];simp only[Option.bind_some];cases bJ (v,k.tdiv D,st)<;>rfl
 rw[adM,adO x k (by omega) hx hk];simp only[Option.bind_some];rw[aj4,Xr,cond_true,wI hk,loop _ (Xr _)];unfold ft;cases bJ _<;>rfl
theorem W1{x:List Int}{k:Int}{st:Bool}(h:(ft x k st).2=true):bm x.length (ft x k st).1:=by
 unfold ft at *
 cases ha:bJ (x.map (λy=>y.tdiv (iq (gl x k.natAbs))),k.tdiv (iq (gl x k.natAbs)),st)
 ·rw[ha]at h;cases h
 ·exact⟨ha,by simp⟩
theorem Tt:∀(l S:List aa),(l.foldl cR S).length<=S.length+l.length
 | [],S=>by simp
 | a::l,S=>by
  have:=Tt l (cR S a);have h2:=JX a S;simp only[List.foldl_cons,List.length_cons];omega
theorem HQ:∀(l S:List aa),∀s∈l.foldl cR S,s∈S\/s∈l
 | [],S,s,h=>.inl h
 | a::l,S,s,h=>by
  rcases HQ l (cR S a) s h with h|h
  ·rcases sD a S s h with h|rfl
   ·exact .inl h
   ·exact .inr (by simp)
  ·exact .inr (by simp[h])
theorem Dh(f:α->Nat)(n:Nat):∀l:List α,(∀a∈l,f a<=n)->zL f l<=l.length*(n+1)
 | [],_=>by simp[zL]
 | a::l,h=>by
  have h1:=h a (by simp);have h2:=Dh f n l (λb hb=>h b (by simp[hb]));simp only[zL,List.length_cons,List.map_cons,List.sum_cons,Nat.add_mul,Nat.one_mul]at h2 ⊢;omega
theorem akr(h:bm n a):zA a<=4:=by
 have:=(gh h.1).1;unfold zA zI;exact this
def wU:aB:=(0,[])
def bu(a:aa)(v:Nat):Int:=a.1.getD v 0
def ig(a:aa)(p:Int)(b:aa)(q:Int):aa×Bool:=ft (List.zipWith (λx y=>p*x+q*y) a.1 b.1) (p*a.2.1+q*b.2.1) (a.2.2&&p != 0||b.2.2&&q != 0)
def jJ(d:Int)(l:List aa):aB×Bool:=bif decide ((cw d l).2.length>16)then (wU,false)else (cw d l,true)
def ga(v:Nat)(a:aa):List aa->List aa->Option (List aa)
 | [],o=>some o
 | b::l,o=>bif decide (bu b v>=0)then ga v a l o else bif (ig a (0 - bu b v) b (bu a v)).2 then ga v a l (o++[(ig a (0 - bu b v) b (bu a v)).1])else none
def iV(v:Nat)(L:List aa):List aa->List aa->Option (List aa)
 | [],o=>some o
 | a::l,o=>bif decide (bu a v<=0)then iV v L l o else match ga v a L o with
  | some o=>iV v L l o
  | none=>none
def uH(v:Nat)(L:List aa):Option (List aa):=iV v L L (L.filter λa=>bu a v==0)
def dJ(c:aB)(v:Nat):aB×Bool:=match uH v c.2 with
 | some l=>jJ c.1 l
 | none=>(wU,false)
def nQ:Nat->aB->Option aB
 | 0,c=>some c
 | n+1,c=>bif (dJ c n).2 then nQ n (dJ c n).1 else none
def HG(c:aB):Bool×Bool:=match nQ c.1.toNat c with
 | some r=>(decide (r.2.length>0),true)
 | none=>(false,false)
def iF(c:aB):Bool×Bool:=bif bG c then HG (cw c.1 c.2)else (false,false)
def ik(a:aa):aa×Bool:=bif bJ a then ((a.1.map (λx=>0 - x),0 - a.2.1,!a.2.2),true)else (([],0,false),false)
def ek(a b:aB):aB×Bool:=bif bG a&&(bG b&&a.1==b.1)then jJ a.1 (a.2++b.2)else (wU,false)
def jG(c:aB)(a:aa):Bool×Bool:=bif (ik a).2&&(ek c ((a.1.length:Int),[(ik a).1])).2 then iF (ek c ((a.1.length:Int),[(ik a).1])).1 else (false,false)
def kC(d:Int):List aa->List aa->Option (List aa)
 | pre,[]=>some pre
 | pre,a::post=>bif (jG (d,pre++post) a).2 then (bif (jG (d,pre++post) a).1 then kC d pre post else kC d (pre++[a]) post)else none
def oi(c:aB):Option aB:=bif (iF c).2 then (bif (iF c).1 then some (jM c.1)else (kC c.1 [] c.2).map λl=>(c.1,l))else none
def kB(c:aB):Option aB:=bif bG c then oi (cw c.1 c.2)else none
theorem cB:bG c=true↔(∀a∈c.2,bm c.1.toNat a)/\0<=c.1/\c.1<=4/\c.2.length<=16:=by
 unfold bG bm;simp only[Bool.and_eq_true,List.all_eq_true,decide_eq_true_eq,Bool.not_eq_true',bne_eq_false_iff_eq];constructor
 ·rintro⟨h1,⟨h2,h3⟩,h4⟩
  exact⟨λa ha=>⟨(h1 a ha).1,by have:=(h1 a ha).2;omega⟩,h2,h3,by omega⟩
 ·rintro⟨h1,h2,h3,h4⟩
  exact⟨λa ha=>⟨(h1 a ha).1,by have:=(h1 a ha).2;omega⟩,⟨h2,h3⟩,by omega⟩
theorem akk(d:Int)(l:List aa):(cw d l).2.length<=max 1 l.length:=by
 unfold cw;cases l.any fD with
 | true=>simp[jM];omega
 | false =>
  have h1:=Tt (l.filter er) [];have h2:=List.length_filter_le er l;simp only[cond_false,List.length_nil]at h1 ⊢;omega
theorem Xk{d:Int}(h0:0<=d)(h1:d<=4):bm d.toNat ((List.replicate d.toNat (0:Int),1,false):aa):=by
 obtain⟨n,rfl⟩:∃n:Nat,d=n:=⟨d.toNat,by omega⟩;have:n=0\/n=1\/n=2\/n=3\/n=4:=by omega
 refine⟨?_,by simp⟩;rcases this with rfl|rfl|rfl|rfl|rfl<;>decide
theorem Xl{d:Int}(hd:d=n)(h1:d<=4)(h:∀a∈l,bm n a):∀a∈(cw d l).2,bm n a:=by
 intro a ha;unfold cw at ha;cases hb:l.any fD with
 | true =>
  rw[hb]at ha;simp only[cond_true,jM,List.mem_singleton]at ha;subst ha;have:=Xk (d:=d) (by omega) h1
  rwa [show d.toNat=n by omega]at this ⊢
 | false =>
  rw[hb]at ha;rcases HQ _ _ a ha with h2|h2
  ·cases h2
  ·exact h a (List.mem_filter.1 h2).1
theorem il(d:Int)(l:List aa):(cw d l).1=d:=by
 unfold cw;cases l.any fD<;>rfl
theorem sw(h:bG c=true):bG (cw c.1 c.2)=true:=by
 obtain⟨h1,h2,h3,h4⟩:=cB.1 h;rw[cB,il];exact⟨Xl (by omega) h3 h1,h2,h3,by have:=akk c.1 c.2;omega⟩
theorem WG{l:List aa}(h0:0<=d)(h1:d<=4)(h:∀a∈l,bm d.toNat a)(hk:(jJ d l).2=true):bG (jJ d l).1=true/\(jJ d l).1=cw d l:=by
 unfold jJ at *
 cases hc:decide ((cw d l).2.length>16)with
 | true=>rw[hc]at hk;cases hk
 | false =>
  refine⟨?_,rfl⟩;rw[cond_false,cB,il];exact⟨Xl (by omega) h1 h,h0,h1,Nat.le_of_not_lt (of_decide_eq_false hc)⟩
theorem WQ{a b:aB}(h:(ek a b).2=true):bG (ek a b).1=true/\(ek a b).1=cw a.1 (a.2++b.2)/\bG a=true/\bG b=true/\a.1=b.1:=by
 unfold ek at *
 cases hc:bG a&&(bG b&&a.1==b.1)with
 | false=>rw[hc]at h;cases h
 | true =>
  rw[hc]at h;simp only[Bool.and_eq_true,beq_iff_eq]at hc;obtain⟨ha,hb,hd⟩:=hc;have a1:=cB.1 ha;have b1:=cB.1 hb;have:=WG (l:=a.2++b.2) a1.2.1 a1.2.2.1 (λx hx=>by
   rcases List.mem_append.1 hx with hx|hx
   ·exact a1.1 x hx
   ·rw[hd];exact b1.1 x hx) h
  exact⟨this.1,this.2,ha,hb,hd⟩
theorem aj6(ha:bm n a)(hb:bm n b)(h:(ig a p b q).2=true):bm n (ig a p b q).1:=by
 have:=W1 h
 rwa [List.length_zipWith,ha.2,hb.2,Nat.min_self]at this
theorem vT(ha:bm n a):∀(l o r:List aa),(∀x∈l,bm n x)->(∀x∈o,bm n x)->ga v a l o=some r->∀x∈r,bm n x
 | [],o,r,_,ho,h=>by simp only[ga,Option.some.injEq]at h;subst h;exact ho
 | b::l,o,r,hl,ho,h=>by
  simp only[ga]at h;have dE:∀x∈l,bm n x:=λx hx=>hl x (by simp[hx]);cases hc:decide (bu b v>=0)with
  | true=>rw[hc]at h;exact vT ha l o r dE ho h
  | false =>
   rw[hc]at h;cases hm:(ig a (0 - bu b v) b (bu a v)).2 with
   | false=>rw[hm]at h;cases h
   | true =>
    rw[hm]at h;refine vT ha l _ r dE (λx hx=>?_) h;rcases List.mem_append.1 hx with hx|hx
    ·exact ho x hx
    ·rw[List.mem_singleton.1 hx];exact aj6 ha (hl b (by simp)) hm
theorem Jw{L:List aa}(hL:∀x∈L,bm n x):∀(l o r:List aa),(∀x∈l,bm n x)->(∀x∈o,bm n x)->iV v L l o=some r->∀x∈r,bm n x
 | [],o,r,_,ho,h=>by simp only[iV,Option.some.injEq]at h;subst h;exact ho
 | a::l,o,r,hl,ho,h=>by
  simp only[iV]at h;have dE:∀x∈l,bm n x:=λx hx=>hl x (by simp[hx]);cases hc:decide (bu a v<=0)with
  | true=>rw[hc]at h;exact Jw hL l o r dE ho h
  | false =>
   rw[hc,cond_false]at h;cases hm:ga v a L o with
   | none=>rw[hm]at h;cases h
   | some o2 =>
    rw[hm]at h;exact Jw hL l o2 r dE (vT (hl a (by simp)) L o o2 hL ho hm) h
theorem afU{L r:List aa}(hL:∀x∈L,bm n x)(h:uH v L=some r):∀x∈r,bm n x :=
 Jw hL L _ r hL (λx hx=>hL x (List.mem_filter.1 hx).1) h
theorem HE(hc:bG c=true)(h:(dJ c v).2=true):bG (dJ c v).1=true/\(dJ c v).1.1=c.1:=by
 obtain⟨h1,h2,h3,h4⟩:=cB.1 hc;unfold dJ at *
 cases hd:uH v c.2 with
 | none=>rw[hd]at h;cases h
 | some l =>
  rw[hd]at h;have:=WG h2 h3 (afU h1 hd) h;exact⟨this.1,by rw[this.2,il]⟩
abbrev Qt:=_root_.Rat
def dot:List Int->List Qt->Qt
 | c::cs,x::xs=>(c:Qt)*x+dot cs xs
 | _,_=>0
def lhs(a:aa)(x:List Qt):Qt:=dot a.1 x+(a.2.1:Qt)
theorem Xm(h:cY y=true):y.natAbs<=400000000:=by
 have:=CJ h;omega
theorem eB(h:bm n a):(∀y∈a.1,y.natAbs<=400000000)/\a.2.1.natAbs<=400000000/\a.1.length<=4:=by
 obtain⟨h1,h2,h3⟩:=gh h.1;exact⟨λy hy=>Xm (h3 y hy),Xm h2,h1⟩
def nc(a:aa)(p:Int)(b:aa)(q:Int):List Int:=List.zipWith (λx y=>p*x+q*y) a.1 b.1
theorem Jv(a:aa)(p:Int)(b:aa)(q:Int):(List.zip a.1 b.1).map (λz=>p*z.1+q*z.2)=nc a p b q:=by
 unfold nc List.zip;rw[List.map_zipWith]
theorem sk{x:Int}(hp:p.natAbs<=400000000)(hq:q.natAbs<=400000000)(hx:x.natAbs<=400000000)(hy:y.natAbs<=400000000):
  (p*x+q*y).natAbs<=400000000000000000/\IntKind.i64.wrap (IntKind.i64.wrap (p*x)+IntKind.i64.wrap (q*y))=p*x+q*y:=by
 have h1:=JT hp hx;have h2:=JT hq hy;rw[KB hp hx,KB hq hy];exact⟨by omega,cb (by omega) (by omega)⟩
theorem WX(ha:bm n a)(hb:bm n b)(hp:p.natAbs<=400000000)(hq:q.natAbs<=400000000):
  (nc a p b q).length<=1000/\(∀y∈nc a p b q,y.natAbs<=4000000000000000000)/\(p*a.2.1+q*b.2.1).natAbs<=4000000000000000000:=by
 obtain⟨a1,a2,a3⟩:=eB ha;obtain⟨b1,b2,b3⟩:=eB hb;refine⟨by unfold nc;rw[List.length_zipWith];omega,λy hy=>?_,?_⟩
 ·rw[<-Jv]at hy;obtain⟨⟨u,v⟩,hz,rfl⟩:=List.mem_map.1 hy;have hm:=List.of_mem_zip hz;have:=(sk hp hq (a1 u hm.1) (b1 v hm.2)).1;dsimp only;omega
 ·have:=(sk hp hq a2 b2).1;omega
theorem Yz(ha:bm n a)(hb:bm n b)(hi:i<(List.zip a.1 b.1).length):∃(h1:i<a.1.length) (h2:i<b.1.length),(List.zip a.1 b.1)[i]=(a.1[i],b.1[i]):=by
 rw[List.length_zip]at hi;exact⟨by omega,by omega,by simp⟩
theorem Di(ha:bm n a)(hb:bm n b):(List.zip a.1 b.1).length=a.1.length:=by
 rw[List.length_zip,ha.2,hb.2,Nat.min_self]
theorem adA(ha:bm n a)(hb:bm n b)(hp:0<=p)(B9:p<=400000000)(hq:0<=q)(hq2:q<=400000000):yV a p b q=some (((ig a p b q).1,(ig a p b q).2,()),()):=by
 obtain⟨a1,a2,a3⟩:=eB ha;obtain⟨b1,b2,b3⟩:=eB hb;have pA:p.natAbs<=400000000:=by omega
 have pC:q.natAbs<=400000000:=by omega
 obtain⟨m1,m2,m3⟩:=WX ha hb pA pC;have hlen:(((a.1.length:Nat):Int) != ((b.1.length:Nat):Int))=false:=by rw[ha.2,hb.2];simp
 have r7:(decide (0<=p)&&decide (p<=400000000))=true:=by simp;omega
 have ahH:(decide (0<=q)&&decide (q<=400000000))=true:=by simp;omega
 rw[adz,q7,q7,kQ,kQ,ha.1,hb.1,hlen,r7,ahH];simp only[Option.bind_some,Bool.not_true,cond_false];have loop:=oU (List.zip a.1 b.1) (λz=>p*z.1+q*z.2) (λo=>tG p q a b ([],0,false) o (((List.zip a.1 b.1).length:Nat):Int)) (λo i=>tG p q a b ([],0,false) o i) (λi hi o ho=>by
  obtain⟨h1,h2,hz⟩:=Yz ha hb hi;have hd:decide ((o.length+1)*8<=140737488355328)=true:=iv (by omega) (by omega);rw[Qs,aT h1,cond_true,aD h1,aD h2];simp only[Option.bind_some];rw[hd,cond_true,(sk pA pC (a1 _ (List.getElem_mem h1)) (b1 _ (List.getElem_mem h2))).2,aO (by omega),hz]) (λo=>rfl)
 rw[loop,Jv,Di ha hb,Qs,aW,cond_false,(sk pA pC a2 b2).2];have hm:=λst=>RX (st:=st) m1 m2 m3;have e1:decide (p>0)=(p != 0):=by rw[Bool.eq_iff_iff];simp;omega
 have e2:decide (q>0)=(q != 0):=by rw[Bool.eq_iff_iff];simp;omega
 rw[hm,hm,hm,e1,e2];unfold ig;show _=some (((ft (nc a p b q) (p*a.2.1+q*b.2.1) (a.2.2&&p != 0||b.2.2&&q != 0)).1,(ft (nc a p b q) (p*a.2.1+q*b.2.1) (a.2.2&&p != 0||b.2.2&&q != 0)).2,()),());cases a.2.2<;>cases b.2.2<;>cases hp0:(p != 0)<;>cases hq0:(q != 0)<;>rfl
theorem acx(ha:bm n a)(hb:bm n b)(hp:0<=p)(B9:p<=400000000)(hq:0<=q)(hq2:q<=400000000):yD a p b q=some (((ig a p b q).1,(ig a p b q).2,()),()):=by
 obtain⟨a1,a2,a3⟩:=eB ha;obtain⟨b1,b2,b3⟩:=eB hb;have pA:p.natAbs<=400000000:=by omega
 have pC:q.natAbs<=400000000:=by omega
 obtain⟨m1,m2,m3⟩:=WX ha hb pA pC;have hlen:(((a.1.length:Nat):Int) != ((b.1.length:Nat):Int))=false:=by rw[ha.2,hb.2];simp
 have c1:decide (p<0)=false:=by simp;omega
 have c2:decide (p>400000000)=false:=by simp;omega
 have c3:decide (q<0)=false:=by simp;omega
 have c4:decide (q>400000000)=false:=by simp;omega
 rw[acw,nH,nH,ha.1,hb.1,hlen,c1,c2,c3,c4];simp only[Option.bind_some,Bool.not_true,cond_false];have iL:=nh (R:=Option ((aa×Bool×PUnit)×PUnit)) a.1 8 (by omega) (by omega) (by omega);rw[iL,List.length_replicate];have loop:=HJ (List.zip a.1 b.1) (λz=>p*z.1+q*z.2) (λo=>tr p q a b ([],0,false) o (a.1.length:Int) (((List.zip a.1 b.1).length:Nat):Int)) (λo i=>tr p q a b ([],0,false) o (a.1.length:Int) i) (λi hi o ho=>by
  obtain⟨h1,h2,hz⟩:=Yz ha hb hi;rw[Di ha hb]at ho;rw[PM,aT h1,cond_true,aD h1,aD h2,aD (show i<o.length by omega)];simp only[Option.bind_some];rw[(sk pA pC (a1 _ (List.getElem_mem h1)) (b1 _ (List.getElem_mem h2))).2,aO (by omega),hz,Int.toNat_natCast]) (λo _=>rfl) (List.replicate a.1.length (0:Int)) (by rw[List.length_replicate,Di ha hb])
 rw[loop,Jv,Di ha hb,PM,aW,cond_false,(sk pA pC a2 b2).2];have hm:=λst=>RO (st:=st) m1 m2 m3;rw[hm,hm,hm];unfold ig;show _=some (((ft (nc a p b q) (p*a.2.1+q*b.2.1) (a.2.2&&p != 0||b.2.2&&q != 0)).1,(ft (nc a p b q) (p*a.2.1+q*b.2.1) (a.2.2&&p != 0||b.2.2&&q != 0)).2,()),());cases a.2.2<;>cases b.2.2<;>cases hp0:(p != 0)<;>cases hq0:(q != 0)<;>rfl
def gw(r:aB×Bool):Option ((aB×Bool×PUnit)×PUnit):=some ((r.1,r.2,()),())
theorem FC(h0:0<=d)(h1:d<=1000)(hV:∀a∈l,bm n a)(hl:l.length<=1000):oK d l=some ((cw d l,()),()):=by
 rw[adb h0 h1 hV hl,norm_eq hV (λa=>Iff.rfl)]
theorem RN{n:Nat}(h0:0<=d)(h1:d<=1000)(hV:∀a∈l,bm n a)(hl:l.length<=1000):yM d l=gw (jJ d l):=by
 rw[ac7,FC h0 h1 hV hl];simp only[Option.bind_some];unfold jJ;have e:decide ((((cw d l).2.length:Nat):Int)>16)=decide ((cw d l).2.length>16):=by rw[Bool.eq_iff_iff];simp;omega
 rw[e];cases decide ((cw d l).2.length>16)<;>rfl
theorem aaP{k:Int}(h0:0<=k)(h1:k<=1000000):FM none k=some (([],()),()):=by
 have w0:IntKind.i64.wrap (k - IntKind.i64.wrap (0 - 0))=k:=by
  have:IntKind.i64.wrap (0 - 0)=0:=by decide
  rw[this,Int.sub_zero,cb (by omega) (by omega)]
 rw[aea,w0];have c1:decide (k<0)=false:=by simp;omega
 rw[c1,cond_false];by_cases hk:k>0
 ·have c2:decide (k>0)=true:=by simpa using hk
  have c3:decide (0<k)=true:=by simpa using hk
  have c4:decide (aH.sz≠0)=true:=by decide
  have c5:decide (k*((40:Nat):Int)<=140737488355328)=true:=by simp;omega
  have c6:decide (k<=140737488355328)=true:=by simp;omega
  rw[c2,c4,c6,cond_true];show (bif (true&&true&&decide (k*((40:Nat):Int)<=140737488355328)&&true)then some (([],()),())else none)=some (([],()),());rw[c5];rfl
 ·have c2:decide (k>0)=false:=by simpa using hk
  rw[c2,cond_false]
theorem KQ{x y:List aa}(hx:x.length<=1000)(hy:y.length<=1000):uf [x,y]=some ((x++y,()),()):=by
 have g0:ab [x,y] 0=some x:=rfl;have g1:ab [x,y] 1=some y:=rfl;have w1:IntKind.i64.wrap (0+1)=1:=by decide
 have w2:IntKind.i64.wrap (1+1)=2:=by decide
 have s1:IntKind.i64.wrap (0+(x.length:Int))=x.length:=by rw[Int.zero_add];exact cb (by omega) (by omega)
 have s2:IntKind.i64.wrap ((x.length:Int)+(y.length:Int))=((x.length+y.length:Nat):Int):=cb (by omega) (by omega);have n1:decide ((x.length:Int)<0)=false:=decide_eq_false (by omega);have n2:decide (((x.length+y.length:Nat):Int)<0)=false:=decide_eq_false (by omega);rw[ad9];show xN [x,y] 0 [x,y] 2 0=_;rw[DY,show decide ((0:Int)<2)=true from rfl,cond_true,g0];simp only[Option.bind_some];rw[s1,n1,cond_false,w1,DY,show decide ((1:Int)<2)=true from rfl,cond_true,g1];simp only[Option.bind_some];rw[s2,n2,cond_false,w2,DY,show decide ((2:Int)<2)=false from rfl,cond_false,aaP (by omega) (by omega)];simp only[Option.bind_some];show xM [x,y] [] [x,y] 2 0=_;have d1:decide ((([]:List aa).length+x.length)*40<=140737488355328)=true:=by simp;omega
 have d2:decide ((x.length+y.length)*40<=140737488355328)=true:=by simp;omega
 rw[DX,show decide ((0:Int)<2)=true from rfl,cond_true,g0];simp only[Option.bind_some];rw[d1,cond_true,w1,List.nil_append,DX,show decide ((1:Int)<2)=true from rfl,cond_true,g1];simp only[Option.bind_some];rw[d2,cond_true,w2,DX,show decide ((2:Int)<2)=false from rfl,cond_false]
theorem Tz(a b:aB):(a.1 != b.1) = !(a.1==b.1):=rfl
theorem RT(a b:aB)(ha:a.2.length<=68719476736)(hb:b.2.length<=68719476736):yU a b=gw (ek a b):=by
 rw[ady,tX a ha,tX b hb];simp only[Option.bind_some];unfold ek;cases h1:bG a with
 | false=>rfl
 | true =>
  cases h2:bG b with
  | false=>rfl
  | true =>
   rw[Tz];cases h3:a.1==b.1 with
   | false=>rfl
   | true =>
    obtain⟨a1,a2,a3,a4⟩:=cB.1 h1;obtain⟨b1,b2,b3,b4⟩:=cB.1 h2;have hd:a.1=b.1:=by simpa using h3
    have c1:decide ((0+a.2.length)*40<=140737488355328)=true:=by simp;omega
    have c2:decide ((a.2.length+b.2.length)*40<=140737488355328)=true:=by simp;omega
    have hn:=y7 (n:=a.1.toNat) (d:=a.1) a2 (by omega) (l:=a.2++b.2) (λx hx=>by
     rcases List.mem_append.1 hx with hx|hx
     ·exact a1 x hx
     ·rw[hd];exact b1 x hx) (by rw[List.length_append];omega)
    simp only[Bool.not_true,cond_false,Bool.and_self,cond_true];rw[c1,cond_true,c2,cond_true,hn];simp only[Option.bind_some];unfold jJ;have e:decide ((((cw a.1 (a.2++b.2)).2.length:Nat):Int)>16)=decide ((cw a.1 (a.2++b.2)).2.length>16):=by rw[Bool.eq_iff_iff];simp;omega
    rw[e];cases decide ((cw a.1 (a.2++b.2)).2.length>16)<;>rfl
theorem Ru(a b:aB):yB a b=gw (ek a b):=by
 rw[acs,oG a,oG b];simp only[Option.bind_some];unfold ek;cases h1:bG a with
 | false=>rfl
 | true =>
  cases h2:bG b with
  | false=>rfl
  | true =>
   rw[Tz];cases h3:a.1==b.1 with
   | false=>rfl
   | true =>
    obtain⟨a1,a2,a3,a4⟩:=cB.1 h1;obtain⟨b1,b2,b3,b4⟩:=cB.1 h2;have hd:a.1=b.1:=by simpa using h3
    simp only[Bool.not_true,cond_false,Bool.and_self,cond_true];rw[KQ (by omega) (by omega)];simp only[Option.bind_some];rw[RN (n:=a.1.toNat) a2 (by omega) (λx hx=>by
     rcases List.mem_append.1 hx with hx|hx
     ·exact a1 x hx
     ·rw[hd];exact b1 x hx) (by rw[List.length_append];omega)]
    rfl
theorem vX(h:y.natAbs<=400000000):IntKind.i64.wrap (0 - y)=0 - y:=cb (by omega) (by omega)
def Br(r:aa×Bool):Option ((aa×Bool×PUnit)×PUnit):=some ((r.1,r.2,()),())
theorem adC(a:aa):yW a=Br (ik a):=by
 rw[adB,q7];simp only[Option.bind_some];unfold ik;cases h:bJ a with
 | false=>rfl
 | true =>
  obtain⟨a1,a2,a3⟩:=eB ⟨h,rfl⟩;simp only[Bool.not_true,cond_false,cond_true];rw[vX a2];refine (oU a.1 (λy=>0 - y) (λo=>some (((o,0 - a.2.1,!a.2.2),true,()),())) (λo i=>xA a ([],0,false) (o,0 - a.2.1,!a.2.2) i) (λi hi o ho=>?_) (λo=>?_))
  ·have hd:decide ((o.length+1)*8<=140737488355328)=true:=iv (by omega) (by omega);rw[Qu,aT hi,cond_true,aD hi];simp only[Option.bind_some];rw[hd,cond_true,vX (a1 _ (List.getElem_mem hi)),aO (by omega)]
  ·rw[Qu,aW];rfl
theorem acz(a:aa):yE a=Br (ik a):=by
 rw[acy,nH];simp only[Option.bind_some];unfold ik;cases h:bJ a with
 | false=>rfl
 | true =>
  obtain⟨a1,a2,a3⟩:=eB ⟨h,rfl⟩;have iL:=nh (R:=Option ((aa×Bool×PUnit)×PUnit)) a.1 8 (by omega) (by omega) (by omega);simp only[Bool.not_true,cond_false,cond_true];rw[iL,vX a2];refine HJ a.1 (λy=>0 - y) (λo=>some (((o,0 - a.2.1,!a.2.2),true,()),())) (λo i=>xl a ([],0,false) (o,0 - a.2.1,!a.2.2) a.1 (a.1.length:Int) i) (λi hi o ho=>?_) (λo _=>?_) _ (by simp)
  ·rw[PN,aT hi,cond_true,aD hi];simp only[Option.bind_some];rw[aD (show i<o.length by omega)];simp only[Option.bind_some];rw[vX (a1 _ (List.getElem_mem hi)),aO (by omega),Int.toNat_natCast]
  ·rw[PN,aW];rfl
theorem drop_cons{x:List α}(h:i<x.length):x.drop i=x[i]::x.drop (i+1):=List.drop_eq_getElem_cons h
theorem oX(h:bm n a)(hv:v<n):ab a.1 (v:Int)=some (bu a v):=by
 have hl:v<a.1.length:=by rw[h.2];exact hv
 rw[aD hl];unfold bu;rw[List.getD_eq_getElem?_getD,List.getElem?_eq_getElem hl];rfl
theorem Sw{v:Nat}(h:bm n a):(bu a v).natAbs<=400000000:=by
 unfold bu;rw[List.getD_eq_getElem?_getD];cases hg:a.1[v]? with
 | none=>simp
 | some y=>exact (eB h).1 y (List.mem_of_getElem? hg)
theorem CB:∀(l o r:List aa),ga v a l o=some r->r.length<=o.length+l.length
 | [],o,r,h=>by simp only[ga,Option.some.injEq]at h;subst h;simp
 | b::l,o,r,h=>by
  simp only[ga]at h;cases hc:decide (bu b v>=0)with
  | true =>
   rw[hc]at h;have:=CB l o r h;simp only[List.length_cons];omega
  | false =>
   rw[hc]at h;cases hm:(ig a (0 - bu b v) b (bu a v)).2 with
   | false=>rw[hm]at h;cases h
   | true =>
    rw[hm]at h;have:=CB l _ r h;simp only[List.length_append,List.length_cons,List.length_nil]at this ⊢;omega
def BB:Option ((aB×Bool×PUnit)×PUnit):=some ((wU,false,()),())
theorem WZ{v:Nat}(ha:bm n a)(hb:bm n b)(h1:0<bu a v)(h2:bu b v<0):
  IntKind.i64.wrap (0 - bu b v)=0 - bu b v/\0<=0 - bu b v/\0 - bu b v<=400000000/\0<=bu a v/\bu a v<=400000000:=by
 have n1:=Sw (v:=v) ha;have n2:=Sw (v:=v) hb;exact⟨vX n2,by omega,by omega,by omega,by omega⟩
theorem QI{v:Nat}(hv:v<n)(c z:aB)(hL:∀a∈c.2,bm n a)(hl:c.2.length<=16)(hi:i<c.2.length):∀(m k:Nat) (o:List aa),m+k=c.2.length->o.length+m<=10000 ->
  qR (v:Int) c z o (i:Int) (k:Int)=match (bif decide (bu (c.2[i]) v<=0)then some o else ga v (c.2[i]) (c.2.drop k) o)with
   | some r=>qS (v:Int) c z r ((i+1:Nat):Int)
   | none=>BB
 | 0,k,o,hm,ho=>by
  have e:(bif decide (bu (c.2[i]) v<=0)then some o else ga v (c.2[i]) (c.2.drop k) o)=some o:=by
   rw[List.drop_eq_nil_of_le (by omega)];cases decide (bu (c.2[i]) v<=0)<;>rfl
  have au:decide ((k:Int)<(c.2.length:Int))=false:=decide_eq_false (by omega);rw[e,QH,au,cond_false,aO (by omega)]
 | m+1,k,o,hm,ho=>by
  have hk:k<c.2.length:=by omega
  have ki:=hL _ (List.getElem_mem hi);have kk:=hL _ (List.getElem_mem hk);have ih:=λo ho=>QI hv c z hL hl hi m (k+1) o (by omega) ho;rw[QH,aT hk,cond_true,aD hi,aD hk];simp only[Option.bind_some];rw[oX ki hv,oX kk hv];simp only[Option.bind_some];rw[aO (by omega)];cases h1:decide (bu (c.2[i]) v<=0)with
  | true =>
   rw[cond_true,ih o (by omega),h1];rfl
  | false =>
   have p1:=of_decide_eq_false h1;rw[cond_false,drop_cons hk];simp only[ga];cases h2:decide (bu (c.2[k]) v>=0)with
   | true =>
    rw[cond_true,ih o (by omega),h1];rfl
   | false =>
    have p2:=of_decide_eq_false h2;obtain⟨e1,e2,e3,e4,e5⟩:=WZ (v:=v) ki kk (by omega) (by omega);rw[cond_false,e1,adA ki kk e2 e3 e4 e5];simp only[Option.bind_some];cases hmx:(ig (c.2[i]) (0 - bu (c.2[k]) v) (c.2[k]) (bu (c.2[i]) v)).2 with
    | false=>rfl
    | true =>
     have hd:decide ((o.length+1)*40<=140737488355328)=true:=iv (by omega) (by omega);simp only[Bool.not_true,cond_false,cond_true];rw[hd,cond_true,ih _ (by simp;omega),h1];rfl
theorem DV(hv:v<n)(c z:aB)(h0:0<=c.1)(h4:c.1<=4)(hL:∀a∈c.2,bm n a)(hl:c.2.length<=16):∀(m i:Nat) (o:List aa),m+i=c.2.length->o.length<=16+i*16->(∀a∈o,bm n a) ->
  qS (v:Int) c z o (i:Int)=match iV v c.2 (c.2.drop i) o with
   | some r=>gw (jJ c.1 r)
   | none=>BB
 | 0,i,o,hm,ho,hV=>by
  have au:decide ((i:Int)<(c.2.length:Int))=false:=decide_eq_false (by omega);rw[QK,au,cond_false,List.drop_eq_nil_of_le (by omega),y7 h0 (by omega) hV (by omega)];simp only[Option.bind_some,iV];unfold jJ;have e:decide ((((cw c.1 o).2.length:Nat):Int)>16)=decide ((cw c.1 o).2.length>16):=by rw[Bool.eq_iff_iff];simp;omega
  rw[e];cases decide ((cw c.1 o).2.length>16)<;>rfl
 | m+1,i,o,hm,ho,hV=>by
  have hi:i<c.2.length:=by omega
  have:=QI hv c z hL hl hi c.2.length 0 o (by omega) (by omega);rw[Int.natCast_zero]at this;rw[QK,aT hi,cond_true,this,List.drop_zero,drop_cons hi];simp only[iV];cases h1:decide (bu (c.2[i]) v<=0)with
  | true =>
   simp only[cond_true];exact DV hv c z h0 h4 hL hl m (i+1) o (by omega) (by omega) hV
  | false =>
   simp only[cond_false];cases hx:ga v (c.2[i]) c.2 o with
   | none=>rfl
   | some r =>
    have hr:=CB _ _ _ hx;exact DV hv c z h0 h4 hL hl m (i+1) r (by omega) (by omega) (vT (hL _ (List.getElem_mem hi)) _ _ _ hL hV hx)
theorem R3(hc:bG c=true)(hv:v<c.1.toNat):ue c (v:Int)=gw (dJ c v):=by
 obtain⟨hL,h0,h4,hl⟩:=cB.1 hc;have key:∀(m i:Nat) (o:List aa),m+i=c.2.length->o.length<=i->tL (v:Int) c (0,[]) o (i:Int)=qS (v:Int) c (0,[]) (o++(c.2.drop i).filter λa=>bu a v==0) 0:=by
  intro m;induction m with
  | zero =>
   intro i o hm ho;have au:decide ((i:Int)<(c.2.length:Int))=false:=decide_eq_false (by omega);rw[QJ,au,cond_false,List.drop_eq_nil_of_le (by omega)];simp
  | succ m ih =>
   intro i o hm ho;have hi:i<c.2.length:=by omega
   have ki:=hL _ (List.getElem_mem hi);have hd:decide ((o.length+1)*40<=140737488355328)=true:=iv (by omega) (by omega);rw[QJ,aT hi,cond_true,aD hi];simp only[Option.bind_some];rw[oX ki hv];simp only[Option.bind_some];rw[hd,aO (by omega),drop_cons hi];cases hz:bu (c.2[i]) v==0 with
   | true =>
    rw[cond_true,cond_true,ih (i+1) _ (by omega) (by simp;omega),List.filter_cons_of_pos (p:=λa=>bu a v==0) hz,List.append_assoc];rfl
   | false =>
    rw[cond_false,ih (i+1) _ (by omega) (by omega),List.filter_cons_of_neg (p:=λa=>bu a v==0) (by rw[hz];simp)]
 have k0:=key c.2.length 0 [] (by omega) (by simp);rw[Int.natCast_zero,List.nil_append,List.drop_zero]at k0;have hf:=List.length_filter_le (λa=>bu a v==0) c.2;have k1:=DV hv c (0,[]) h0 h4 hL hl c.2.length 0 (c.2.filter λa=>bu a v==0) (by omega) (by omega) (λa ha=>hL a (List.mem_filter.1 ha).1);rw[Int.natCast_zero,List.drop_zero]at k1;rw[adX,k0,k1];unfold dJ uH;cases iV v c.2 c.2 (c.2.filter λa=>bu a v==0)<;>rfl
theorem PC{v:Nat}(hv:v<n)(c z:aB){L:List aa}(hL:∀a∈L,bm n a)(hl:L.length<=16)(ha:bm n a)(hp:0<bu a v){i:Nat}(hi:i<=1000):∀(m k:Nat) (o:List aa),m+k=L.length->o.length+m<=10000 ->
  ti (v:Int) c z o a L (L.length:Int) (i:Int) L (L.length:Int) (k:Int)=match ga v a (L.drop k) o with
   | some r=>oC (v:Int) c z r L (L.length:Int) ((i+1:Nat):Int)
   | none=>BB
 | 0,k,o,hm,ho=>by
  have au:decide ((k:Int)<(L.length:Int))=false:=decide_eq_false (by omega);rw[PA,au,cond_false,List.drop_eq_nil_of_le (by omega),aO (by omega)];rfl
 | m+1,k,o,hm,ho=>by
  have hk:k<L.length:=by omega
  have kk:=hL _ (List.getElem_mem hk);have ih:=λo ho=>PC hv c z hL hl ha hp hi m (k+1) o (by omega) ho;rw[PA,aT hk,cond_true,aD hk];simp only[Option.bind_some];rw[oX kk hv,oX ha hv];simp only[Option.bind_some];rw[aO (by omega),drop_cons hk];simp only[ga];cases h2:decide (bu (L[k]) v>=0)with
  | true =>
   rw[cond_true,ih o (by omega)];rfl
  | false =>
   have p2:=of_decide_eq_false h2;obtain⟨e1,e2,e3,e4,e5⟩:=WZ (v:=v) ha kk hp (by omega);rw[cond_false,e1,acx ha kk e2 e3 e4 e5];simp only[Option.bind_some];cases hmx:(ig a (0 - bu (L[k]) v) (L[k]) (bu a v)).2 with
   | false=>rfl
   | true =>
    have hd:decide ((o.length+1)*40<=140737488355328)=true:=iv (by omega) (by omega);simp only[Bool.not_true,cond_false,cond_true];rw[hd,cond_true,ih _ (by simp;omega)]
theorem DK(hv:v<n)(c z:aB)(h0:0<=c.1)(h4:c.1<=4)(hL:∀a∈c.2,bm n a)(hl:c.2.length<=16):∀(m i:Nat) (o:List aa),m+i=c.2.length->o.length<=16+i*16->(∀a∈o,bm n a) ->
  oC (v:Int) c z o c.2 (c.2.length:Int) (i:Int)=match iV v c.2 (c.2.drop i) o with
   | some r=>gw (jJ c.1 r)
   | none=>BB
 | 0,i,o,hm,ho,hV=>by
  have au:decide ((i:Int)<(c.2.length:Int))=false:=decide_eq_false (by omega);rw[Pz,au,cond_false,List.drop_eq_nil_of_le (by omega),RN h0 (by omega) hV (by omega)];rfl
 | m+1,i,o,hm,ho,hV=>by
  have hi:i<c.2.length:=by omega
  have ki:=hL _ (List.getElem_mem hi);rw[Pz,aT hi,cond_true,aD hi];simp only[Option.bind_some];rw[oX ki hv];simp only[Option.bind_some];rw[aO (by omega),drop_cons hi];simp only[iV];cases h1:decide (bu (c.2[i]) v<=0)with
  | true =>
   simp only[cond_true];exact DK hv c z h0 h4 hL hl m (i+1) o (by omega) (by omega) hV
  | false =>
   have p1:=of_decide_eq_false h1;have:=PC hv c z hL hl ki (by omega) (i:=i) (by omega) c.2.length 0 o (by omega) (by omega);rw[Int.natCast_zero,List.drop_zero]at this;simp only[cond_false];rw[this];cases hx:ga v (c.2[i]) c.2 o with
   | none=>rfl
   | some r =>
    have hr:=CB _ _ _ hx;exact DK hv c z h0 h4 hL hl m (i+1) r (by omega) (by omega) (vT ki _ _ _ hL hV hx)
theorem Rr(hc:bG c=true){v:Nat}(hv:v<c.1.toNat):tP c (v:Int)=gw (dJ c v):=by
 obtain⟨hL,h0,h4,hl⟩:=cB.1 hc;have key:∀(m i:Nat) (o:List aa),m+i=c.2.length->o.length<=i->tj (v:Int) c (0,[]) o c.2 (c.2.length:Int) (i:Int)=oC (v:Int) c (0,[]) (o++(c.2.drop i).filter λa=>bu a v==0) c.2 (c.2.length:Int) 0:=by
  intro m;induction m with
  | zero =>
   intro i o hm ho;have au:decide ((i:Int)<(c.2.length:Int))=false:=decide_eq_false (by omega);rw[PB,au,cond_false,List.drop_eq_nil_of_le (by omega)];simp
  | succ m ih =>
   intro i o hm ho;have hi:i<c.2.length:=by omega
   have ki:=hL _ (List.getElem_mem hi);have hd:decide ((o.length+1)*40<=140737488355328)=true:=iv (by omega) (by omega);rw[PB,aT hi,cond_true,aD hi];simp only[Option.bind_some];rw[oX ki hv];simp only[Option.bind_some];rw[hd,aO (by omega),drop_cons hi];cases hz:bu (c.2[i]) v==0 with
   | true =>
    rw[cond_true,cond_true,ih (i+1) _ (by omega) (by simp;omega),List.filter_cons_of_pos (p:=λa=>bu a v==0) hz,List.append_assoc];rfl
   | false =>
    rw[cond_false,ih (i+1) _ (by omega) (by omega),List.filter_cons_of_neg (p:=λa=>bu a v==0) (by rw[hz];simp)]
 have k0:=key c.2.length 0 [] (by omega) (by simp);rw[Int.natCast_zero,List.nil_append,List.drop_zero]at k0;have hf:=List.length_filter_le (λa=>bu a v==0) c.2;have k1:=DK hv c (0,[]) h0 h4 hL hl c.2.length 0 (c.2.filter λa=>bu a v==0) (by omega) (by omega) (λa ha=>hL a (List.mem_filter.1 ha).1);rw[Int.natCast_zero,List.drop_zero]at k1;have c1:decide ((v:Int)<0)=false:=decide_eq_false (by omega);have c2:decide ((v:Int)>=c.1)=false:=decide_eq_false (by omega);rw[aca,oG,hc];simp only[Option.bind_some,Bool.not_true,cond_false];rw[c1,c2,cond_false,cond_false,k0,k1];unfold dJ uH;cases iV v c.2 c.2 (c.2.filter λa=>bu a v==0)<;>rfl
def nA(r:Bool×Bool):Option ((Bool×Bool×PUnit)×PUnit):=some ((r.1,r.2,()),())
theorem WB(l:List aa):decide (((l.length:Nat):Int)>0)=decide (l.length>0):=by rw[Bool.eq_iff_iff];simp
theorem Qn:∀(n:Nat) (c:aB),bG c=true->n<=c.1.toNat->xz c ((n:Int) - 1)=nA (match nQ n c with
   | some r=>(decide (r.2.length>0),true)
   | none=>(false,false))
 | 0,c,hc,hn=>by
  rw[Qm,show decide ((((0:Nat):Int) - 1)>=0)=false from rfl,cond_false,WB];rfl
 | n+1,c,hc,hn=>by
  have h4:=(cB.1 hc).2.2.1;have e:(((n+1:Nat):Int) - 1)=(n:Int):=by omega
  have lg:decide ((n:Int)>=0)=true:=decide_eq_true (by omega);rw[e,Qm,lg,cond_true,R3 hc (by omega)];unfold gw;simp only[Option.bind_some,nQ];cases hd:(dJ c n).2 with
  | false=>rfl
  | true =>
   have k:=HE hc hd;simp only[Bool.not_true,cond_false,cond_true];rw[show IntKind.i64.wrap ((n:Int) - 1)=(n:Int) - 1 from cb (by omega) (by omega)];exact Qn n _ k.1 (by rw[k.2];omega)
theorem RR(c:aB)(hl:c.2.length<=68719476736):tY c=nA (iF c):=by
 rw[adq,tX c hl];simp only[Option.bind_some];unfold iF;cases hc:bG c with
 | false=>rfl
 | true =>
  obtain⟨h1,h2,h3,h4⟩:=cB.1 hc;simp only[Bool.not_true,cond_false,cond_true];rw[y7 h2 (by omega) h1 (by omega)];simp only[Option.bind_some];have:=Qn c.1.toNat (cw c.1 c.2) (sw hc) (by rw[il];omega);rw[show IntKind.i64.wrap (c.1 - 1)=((c.1.toNat:Nat):Int) - 1 by rw[cb (by omega) (by omega)];omega,this];unfold HG;rw[il]
  all_goals (cases nQ c.1.toNat (cw c.1 c.2)<;>rfl)
theorem Qb:∀(n:Nat) (c:aB) (l:List aB),bG c=true->n<=c.1.toNat->n<l.length->l.length<=100->l[n]?=some c ->
  (nQ n c=none/\oD l ((n:Int) - 1)=some (([],false,()),()))\/∃r l',nQ n c=some r/\oD l ((n:Int) - 1)=some ((l',true,()),())/\l'[0]?=some r
 | 0,c,l,hc,hn,hl,lj,hg=>by
  refine .inr ⟨c,l,rfl,?_,hg⟩;rw[Qc];rfl
 | n+1,c,l,hc,hn,hl,lj,hg=>by
  have h4:=(cB.1 hc).2.2.1;have e:(((n+1:Nat):Int) - 1)=(n:Int):=by omega
  have lg:decide ((n:Int)>=0)=true:=decide_eq_true (by omega);have B2:ab l ((n+1:Nat):Int)=some c:=by
   rw[aD hl];rw[List.getElem?_eq_getElem hl]at hg;exact hg
  have agM:=Rr hc (v:=n) (by omega);rw[e];have heq:oD l (n:Int)=bif !(dJ c n).2 then some (([],false,()),())else oD (l.set n (dJ c n).1) ((n:Int) - 1):=by
   rw[Qc,lg,cond_true,aO (by omega),B2];simp only[Option.bind_some];rw[agM];unfold gw;simp only[Option.bind_some];rw[aD (show n<l.length by omega)];simp only[Option.bind_some];rw[show IntKind.i64.wrap ((n:Int) - 1)=(n:Int) - 1 from cb (by omega) (by omega),Int.toNat_natCast]
  rw[heq];simp only[nQ];cases hd:(dJ c n).2 with
  | false=>exact .inl ⟨rfl,rfl⟩
  | true =>
   have k:=HE hc hd;simp only[Bool.not_true,cond_false,cond_true];exact Qb n _ _ k.1 (by rw[k.2];omega) (by rw[List.length_set];omega) (by rw[List.length_set];exact lj) (by rw[List.getElem?_set_self (by omega)])
theorem Rs(c:aB):yv c=nA (iF c):=by
 rw[acj,adg,oG c];simp only[Option.bind_some];unfold iF;cases hc:bG c with
 | false=>rfl
 | true =>
  obtain⟨h1,h2,h3,h4⟩:=cB.1 hc;obtain⟨n,hn⟩:∃n:Nat,c.1=n:=⟨c.1.toNat,by omega⟩;have w1:IntKind.i64.wrap (c.1+1)=c.1+1:=cb (by omega) (by omega);have w2:IntKind.i64.wrap (c.1 - 1)=((n:Nat):Int) - 1:=by rw[cb (by omega) (by omega)];omega
  have iL:(decide (0<=c.1+1)&&decide (c.1+1<=c.1+1)&&decide ((c.1+1)*((32:Nat):Int)<=140737488355328)&&decide (c.1+1<=9223372036854775807))=true:=by simp;omega
  have UH:(decide (0<=c.1+1)&&decide (c.1+1<=c.1+1)&&decide ((c.1+1)*32<=140737488355328)&&decide (c.1+1<=9223372036854775807))=true:=iL;have UG:(decide (0<=c.1+1)&&decide (c.1+1<=c.1+1)&&decide ((c.1+1)*((32:Nat):(Ty.int IntKind.i64).den)<=140737488355328)&&decide (c.1+1<=9223372036854775807))=true:=iL;simp only[Bool.not_true,cond_false,cond_true];rw[w1,w2,FC h2 (by omega) h1 (by omega)];simp only[Option.bind_some];have r8:(List.replicate (c.1+1).toNat ((0,[]):aB)).length=n+1:=by rw[List.length_replicate];omega
  have u5:ab (List.replicate (c.1+1).toNat ((0,[]):aB)) c.1=some (0,[]):=by
   rw[hn,aD (by rw[<-hn,r8];omega)];simp
  have key:=Qb n (cw c.1 c.2) ((List.replicate (c.1+1).toNat ((0,[]):aB)).set n (cw c.1 c.2)) (sw hc) (by rw[il];omega) (by rw[List.length_set,r8];omega) (by rw[List.length_set,r8];omega) (by rw[List.getElem?_set_self (by rw[r8];omega)]);have U8:Int.toNat c.1=n:=by omega
  rw[u5];simp only[Option.bind_some];rw[U8];unfold HG;rw[il,show c.1.toNat=n from U8];rcases key with⟨k1,k2⟩|⟨r,l',k1,k2,k3⟩
  ·rw[k1,k2]
   first|(rw[UH];rfl)|(rw[UG];rfl)|(rw[iL];rfl)
  ·rw[k1,k2];have jB:0<l'.length:=by
    rw[List.getElem?_eq_some_iff]at k3;exact k3.1
   have hgr:ab l' 0=some r:=by
    have:=aD (xs:=l') jB;rw[Int.natCast_zero]at this;rw[this];rw[List.getElem?_eq_getElem jB]at k3;exact k3
   first|rw[UH]|rw[UG]|rw[iL]
   simp only[cond_true,Option.bind_some,Bool.not_true,cond_false];rw[hgr];simp only[Option.bind_some];rw[WB];rfl
theorem ake(a:aa)(h:(ik a).2=true):(ik a).1.1.length=a.1.length:=by
 unfold ik at *
 cases ha:bJ a with
 | false=>rw[ha]at h;cases h
 | true=>simp
theorem adl(c:aB)(a:aa)(hl:c.2.length<=68719476736):FH c a=nA (jG c a):=by
 rw[adk,adC];unfold Br;simp only[Option.bind_some];rw[RT c _ hl (by simp)];unfold gw;simp only[Option.bind_some];unfold jG;cases h1:(ik a).2 with
 | false=>rfl
 | true =>
  simp only[Bool.not_true,cond_false,Bool.true_and];cases h2:(ek c ((a.1.length:Int),[(ik a).1])).2 with
  | false=>rfl
  | true =>
   have m:=WQ h2;have ml:=(cB.1 m.1).2.2.2;simp only[Bool.not_true,cond_false,cond_true];rw[RR _ (by omega)];rfl
theorem ace(c:aB)(a:aa):Fq c a=nA (jG c a):=by
 rw[acd,acz];unfold Br;simp only[Option.bind_some];unfold jG;cases h1:(ik a).2 with
 | false=>rfl
 | true =>
  simp only[Bool.not_true,cond_false,Bool.true_and];rw[ake a h1,Ru];unfold gw;simp only[Option.bind_some];cases h2:(ek c ((a.1.length:Int),[(ik a).1])).2 with
  | false=>rfl
  | true =>
   simp only[Bool.not_true,cond_false,cond_true];rw[Rs];rfl
theorem Hw(h:bG c=true):rb c=some ((c,()),())/\tT c=some ((c,()),()):=by
 obtain⟨h1,h2,h3,h4⟩:=cB.1 h;have pn:∀a∈c.2,a.1.length<=68719476736:=λa ha=>by have:=(eB (h1 a ha)).2.2;omega
 constructor
 ·rw[adW];have:=oU c.2 id (λo=>some (((c.1,o),()),())) (λo i=>xJ c (0,[]) (c.1,o) i) (λi hi o ho=>by
   have hd:decide ((o.length+1)*40<=140737488355328)=true:=iv (by omega) (by omega);rw[QG,aT hi,cond_true,aD hi];simp only[Option.bind_some];rw[R2 _ (pn _ (List.getElem_mem hi))];simp only[Option.bind_some];rw[hd,cond_true,aO (by omega)];rfl) (λo=>by rw[QG,aW];rfl)
  rw[this,List.map_id]
 ·rw[RC];have iL:(decide ((0:Int)<=0)&&decide (0<=(c.2.length:Int))&&decide ((c.2.length:Int)*((40:Nat):Int)<=140737488355328)&&decide ((c.2.length:Int)<=9223372036854775807))=true:=by simp;omega
  have this:=oU c.2 id (λo=>some (((c.1,o),()),())) (λo i=>qG c (0,[]) (c.1,o) c.2 (c.2.length:Int) i) (λi hi o ho=>by
   have hd:decide ((o.length+1)*40<=140737488355328)=true:=iv (by omega) (by omega);rw[xr,aT hi,cond_true,aD hi];simp only[Option.bind_some];rw[yG _ (pn _ (List.getElem_mem hi))];simp only[Option.bind_some];rw[hd,cond_true,aO (by omega)];rfl) (λo=>by rw[xr,aW];rfl)
  refine Eq.trans (b:=(bif (decide ((0:Int)<=0)&&decide (0<=(c.2.length:Int))&&decide ((c.2.length:Int)*((40:Nat):Int)<=140737488355328)&&decide ((c.2.length:Int)<=9223372036854775807))then qG c (0,[]) (c.1,[]) c.2 (c.2.length:Int) 0 else none)) rfl ?_;rw[iL,cond_true,this,List.map_id]
theorem afM(h:bG c=true):zC c<=80:=by
 obtain⟨h1,h2,h3,h4⟩:=cB.1 h;have:=Dh zA 4 c.2 (λa ha=>akr (h1 a ha));have h5:c.2.length*5<=16*5:=Nat.mul_le_mul_right _ h4;show zL zA c.2<=80;omega
theorem Tp(x:List α)(h:α->List β)(hh:∀a,(h a).length<=1)(E:List β->Option R)(f:List β->Int->Option R)
  (h1:∀(i:Nat) (hi:i<x.length) (o:List β),o.length<=i->f o (i:Int)=f (o++h x[i]) ((i+1:Nat):Int)) (h2:∀o,f o (x.length:Int)=E o) :
  ∀(n i:Nat) (o:List β),n+i=x.length->o.length<=i->f o (i:Int)=E (o++(x.drop i).flatMap h)
 | 0,i,o,hn,_=>by
  obtain rfl:i=x.length:=by omega
  rw[h2,List.drop_eq_nil_of_le (by omega)];simp
 | n+1,i,o,hn,ho=>by
  have hi:i<x.length:=by omega
  have:=hh x[i];rw[h1 i hi o ho,Tp x h hh E f h1 h2 n (i+1) _ (by omega) (by simp;omega),List.drop_eq_getElem_cons hi,List.flatMap_cons,List.append_assoc]
theorem af4(x:List α)(h:α->List β)(hh:∀a,(h a).length<=1)(E:List β->Option R)(f:List β->Int->Option R)
  (h1:∀(i:Nat) (hi:i<x.length) (o:List β),o.length<=i->f o (i:Int)=f (o++h x[i]) ((i+1:Nat):Int)) (h2:∀o,f o (x.length:Int)=E o):f [] 0=E (x.flatMap h):=by
 have:=Tp x h hh E f h1 h2 x.length 0 [] (by omega) (by simp);rw[Int.natCast_zero]at this;rw[this];simp
theorem af7(g:α->β)(x:List α):x.flatMap (λa=>[g a])=x.map g:=by
 induction x with
 | nil=>rfl
 | cons a l ih=>rw[List.flatMap_cons,ih];rfl
theorem JW(x:List α)(g:α->β)(E:List β->Option R)(f:List β->Int->Option R)
  (h1:∀(i:Nat) (hi:i<x.length) (o:List β),o.length<=i->f o (i:Int)=f (o++[g x[i]]) ((i+1:Nat):Int)) (h2:∀o,f o (x.length:Int)=E o):f [] 0=E (x.map g):=by
 have:=af4 x (λa=>[g a]) (λ_=>by simp) E f h1 h2;rw[this,af7]
theorem RE(a:List Int)(h:a.length<=68719476736):yH a=some ((a,()),()):=by
 rw[RD,C3 h];rfl
theorem Jp(x:List α):x.map (λa=>a)=x:=by induction x with
 | nil=>rfl
 | cons a l ih=>simp
theorem aj7(x:List α)(c:Int)(hl:x.length<=68719476736)(h0:0<=c)(hc:c<=1000):(decide ((0:Nat)<=0)&&decide ((0:Int)<=(x.length:Int))&&decide ((x.length:Int)*c<=140737488355328)&&decide ((x.length:Int)<=9223372036854775807))=true:=by
 have h1:(x.length:Int)*c<=(x.length:Int)*1000:=Int.mul_le_mul_of_nonneg_left hc (by omega);have h2:(x.length:Int)*c<=140737488355328:=by omega
 simp only[h2,decide_true,Bool.and_true,Bool.and_eq_true,decide_eq_true_eq];omega
theorem acM(c:aB)(h:zC c<=68719476736):tT c=some ((c,()),()):=by
 have hl:c.2.length<=68719476736:=Nat.le_trans (dA _ _) h;rw[RC,aj7 c.2 40 hl (by omega) (by omega),cond_true];have e:List.replicate (Int.toNat 0) (([],0,false):aa)=[]:=rfl;rw[e];rw[JW c.2 (λa=>a) (λo=>some (((c.1,o),()),())) (λo i=>qG c (0,[]) (c.1,o) c.2 (c.2.length:Int) i) (λi hi o ho=>by
  rw[xr,aT hi,aD hi,aO (by omega)];simp only[cond_true,Option.bind_some];rw[yG _ (Nat.le_trans (dG zA (List.getElem_mem hi)) h)];simp only[Option.bind_some];rw[iv (by omega) (by omega),cond_true]) (λo=>by rw[xr,aW];rfl),Jp]
theorem yY(l:List (List Int))(h:zL zI l<=68719476736):oN l=some ((l,()),()):=by
 have hl:l.length<=68719476736:=Nat.le_trans (dA _ _) h;rw[adK];rw[JW l (λa=>a) (λo=>some ((o,()),())) (λo i=>xE l o i) (λi hi o ho=>by
  rw[Qz,aT hi,aD hi,aO (by omega)];simp only[cond_true,Option.bind_some];have hz:l[i].length<=68719476736:=Nat.le_trans (dG zI (List.getElem_mem hi)) h;rw[C3 hz,cond_true,iv (by omega) (by omega),cond_true]) (λo=>by rw[Qz,aW];rfl),Jp]
theorem RG(l:List (List Int))(h:zL zI l<=68719476736):oJ [l]=some ((l,()),()):=by
 have hl:l.length<=68719476736:=Nat.le_trans (dA _ _) h;rw[RF,tB];have e1:decide ((0:Int)<(([l]:List (List (List Int))).length:Int))=true:=by simp
 have e2:ab [l] 0=some l:=rfl;rw[e1,e2,cond_true,Option.bind_some];rw[JW l (λa=>a) (λo=>some ((o,()),())) (λo i=>tC [l] o l [l] (([l]:List (List (List Int))).length:Int) 0 l (l.length:Int) i) (λi hi o ho=>by
  rw[xt,aT hi,aD hi,aO (by omega)];simp only[cond_true,Option.bind_some];rw[RE _ (Nat.le_trans (dG zI (List.getElem_mem hi)) h)];simp only[Option.bind_some];rw[iv (by omega) (by omega),cond_true]) (λo=>by
   rw[xt,aW,cond_false,tB];rfl),Jp]
theorem acP(s:ah)(h:zP s<=68719476736):Fu s=some ((s,()),()):=by
 have hz:zP s=zC s.1+zL zI s.2:=rfl;rw[acO,acM s.1 (by omega)];simp only[Option.bind_some];rw[RG s.2 (by omega)];rfl
theorem Jt(d:Int):∀(post pre r:List aa),kC d pre post=some r->(∀a∈r,a∈pre\/a∈post)/\r.length<=pre.length+post.length
 | [],pre,r,h=>by
  unfold kC at h;cases h;exact⟨λa ha=>.inl ha,by simp⟩
 | a::post,pre,r,h=>by
  unfold kC at h;cases h1:(jG (d,pre++post) a).2 with
  | false=>rw[h1]at h;cases h
  | true =>
   rw[h1,cond_true]at h;cases h2:(jG (d,pre++post) a).1 with
   | true =>
    rw[h2,cond_true]at h;obtain⟨k1,k2⟩:=Jt d post pre r h;exact⟨λb hb=>(k1 b hb).imp id (List.mem_cons_of_mem _),by rw[List.length_cons];omega⟩
   | false =>
    rw[h2,cond_false]at h;obtain⟨k1,k2⟩:=Jt d post (pre++[a]) r h;refine⟨λb hb=>?_,by rw[List.length_append,List.length_singleton]at k2;rw[List.length_cons];omega⟩;rcases k1 b hb with k|k
    ·rcases List.mem_append.1 k with k|k
     ·exact .inl k
     ·exact .inr (List.mem_cons.2 (.inl (List.mem_singleton.1 k)))
    ·exact .inr (List.mem_cons_of_mem _ k)
theorem akj(h0:0<=d)(h1:d<=4):bG (jM d)=true :=
 cB.2 ⟨λa ha=>by rw[List.mem_singleton.1 ha];exact Xk h0 h1,h0,h1,by simp[jM]⟩
theorem WS{m:aB}(hc:bG c=true)(h:oi c=some m):bG m=true/\m.1=c.1/\∀a∈m.2,a∈(jM c.1).2\/a∈c.2:=by
 obtain⟨k1,k2,k3,k4⟩:=cB.1 hc;unfold oi at h;cases h1:(iF c).2 with
 | false=>rw[h1]at h;cases h
 | true =>
  rw[h1,cond_true]at h;cases h2:(iF c).1 with
  | true=>rw[h2,cond_true]at h;cases h;exact⟨akj k2 k3,rfl,λa ha=>.inl ha⟩
  | false =>
   rw[h2,cond_false]at h;cases h3:kC c.1 [] c.2 with
   | none=>rw[h3]at h;cases h
   | some l =>
    rw[h3]at h;cases h;obtain⟨j1,j2⟩:=Jt _ _ _ _ h3;have j3:∀a∈l,a∈c.2:=λa ha=>(j1 a ha).resolve_left (by simp);exact⟨cB.2 ⟨λa ha=>k1 a (j3 a ha),k2,k3,by simpa using Nat.le_trans j2 (by simpa using k4)⟩,rfl,λa ha=>.inr (j3 a ha)⟩
theorem Cz{m:aB}(h:kB c=some m):bG c=true/\bG m=true/\m.1=c.1:=by
 unfold kB at h;cases hc:bG c with
 | false=>rw[hc]at h;cases h
 | true =>
  rw[hc,cond_true]at h;have:=WS (sw hc) h;exact⟨rfl,this.1,by rw[this.2.1,il]⟩
def rH(c:aB):Bool:=match c.2 with
 | [a] => !er a
 | _=>false
def BA(c:aB):Bool:=match c.2 with
 | [a] => !er a&&(a.2.1==1 && !a.2.2)
 | _=>false
theorem aj5{m:aB}(h:kB c=some m):BA m=rH m:=by
 obtain⟨hc,hm,_⟩:=Cz h;unfold kB at h;rw[hc,cond_true]at h;have hs:=(WS (sw hc) h).2.2;have hn:∀a∈m.2,er a=true\/a=(List.replicate c.1.toNat (0:Int),1,false):=by
  intro a ha;rcases hs a ha with k|k
  ·rw[il]at k;exact .inr (List.mem_singleton.1 k)
  ·unfold cw at k;cases hb:c.2.any fD with
   | true=>rw[hb,cond_true]at k;exact .inr (List.mem_singleton.1 k)
   | false =>
    rw[hb,cond_false]at k;rcases HQ _ _ _ k with k|k
    ·simp at k
    ·exact .inl (List.mem_filter.1 k).2
 unfold BA rH
 match gE:m.2 with
 | []=>rfl
 | [a] =>
  dsimp only;rcases hn a (by rw[gE];exact List.mem_singleton.2 rfl)with k|k
  ·rw[k];rfl
  ·rw[k];simp
 | a::b::l=>rfl
def fe(l:List ah)(c:aB)(f:List (List Int)):Option (List ah):=
 match kB c with
 | none=>none
 | some m=>bif decide (l.length>=24)then none else bif rH m then some l else some (l++[(m,f)])
def ie:Option aB->Option ((aB×Bool×PUnit)×PUnit)
 | some m=>some ((m,true,()),())
 | none=>some ((wU,false,()),())
theorem S0(pre:List α)(a:α)(post:List α):List.drop (Int.toNat 0) (List.take ((pre.length:Int)).toNat (pre++a::post))=pre:=by
 rw[Int.toNat_natCast,List.take_left];rfl
theorem SZ(pre:List α)(a:α)(post:List α)(h:pre.length<=1000):List.drop (IntKind.i64.wrap ((pre.length:Int)+1)).toNat (List.take (pre++a::post).length (pre++a::post))=post:=by
 rw[aO (by omega),Int.toNat_natCast,List.take_length,show pre++a::post=(pre++[a])++post by simp];exact List.drop_left' (by simp)
theorem Su(pre:List α)(a:α)(post:List α)(h:pre.length<=1000):
  (decide ((0:Nat)<=0)&&decide (0<=(pre.length:Int))&&decide ((pre.length:Int)<=((pre++a::post).length:Int)))=true /\
  (decide (0<=IntKind.i64.wrap ((pre.length:Int)+1))&&decide (IntKind.i64.wrap ((pre.length:Int)+1)<=((pre++a::post).length:Int))&&decide (((pre++a::post).length:Int)<=((pre++a::post).length:Int)))=true /\
  decide ((pre.length:Int)<((pre++a::post).length:Int))=true/\ab (pre++a::post) (pre.length:Int)=some a:=by
 rw[aO (by omega)];refine⟨by simp;omega,by simp;omega,by simp;omega,?_⟩;rw[aD (by simp)];simp
theorem DW(h0:0<=d)(h4:d<=4)(x z:aB)(hx:x.1=d):∀(post pre:List aa),(∀a∈pre++post,bm d.toNat a)->(pre++post).length<=16 ->
  tM x z (d,pre++post) (pre.length:Int)=ie ((kC d pre post).map λl=>(d,l))
 | [],pre,_,_=>by
  rw[QL,List.append_nil,aW,cond_false];rfl
 | a::post,pre,hk,hl=>by
  have hp:pre.length<=16:=by rw[List.length_append]at hl;omega
  have hq:(pre++post).length<=16:=by rw[List.length_append,List.length_cons]at hl;rw[List.length_append];omega
  have aI:∀b∈pre++post,bm d.toNat b:=λb hb=>hk b (by
   rcases List.mem_append.1 hb with h|h
   ·exact List.mem_append_left _ h
   ·exact List.mem_append_right _ (List.mem_cons_of_mem _ h))
  have pq:bG (d,pre++post)=true:=cB.2 ⟨aI,h0,h4,hq⟩;obtain⟨e1,e2,e3,e4⟩:=Su pre a post (by omega);rw[QL];dsimp only;rw[e3,cond_true,e1,cond_true,S0,SZ pre a post (by omega),e2,cond_true,e4,hx];have d1:decide ((0+pre.length)*40<=140737488355328)=true:=decide_eq_true (by omega);have d2:decide ((pre.length+post.length)*40<=140737488355328)=true:=decide_eq_true (by rw[List.length_append]at hq;omega);rw[d1,cond_true,d2,cond_true];simp only[Option.bind_some];rw[adl _ _ (by show (pre++post).length<=_;omega)];unfold kC nA;simp only[Option.bind_some];cases h1:(jG (d,pre++post) a).2 with
  | false=>rfl
  | true =>
   simp only[Bool.not_true,cond_false,cond_true];cases h2:(jG (d,pre++post) a).1 with
   | true =>
    simp only[cond_true];rw[(Hw pq).1];simp only[Option.bind_some];exact DW h0 h4 x z hx post pre aI hq
   | false =>
    simp only[cond_false];rw[aO (by omega)];have:=DW h0 h4 x z hx post (pre++[a]) (by simpa using hk) (by simpa using hl);rw[show (pre++[a])++post=pre++a::post by simp,show (pre++[a]).length=pre.length+1 by simp]at this;exact this
theorem adZ{x:aB}(h:bG x=true):y5 x=ie (oi x):=by
 obtain⟨k1,k2,k3,k4⟩:=cB.1 h;rw[adY,RR _ (by omega)];unfold oi nA;simp only[Option.bind_some];cases h1:(iF x).2 with
 | false=>rfl
 | true =>
  simp only[Bool.not_true,cond_false,cond_true];cases h2:(iF x).1 with
  | true =>
   simp only[cond_true];rw[FJ k2 (by omega)];rfl
  | false =>
   simp only[cond_false];rw[(Hw h).1];simp only[Option.bind_some];exact DW k2 k3 x (0,[]) rfl x.2 [] (by simpa using k1) (by simpa using k4)
theorem DM(h0:0<=d)(h4:d<=4)(x z:aB)(hx:x.1=d):∀(post pre:List aa),(∀a∈pre++post,bm d.toNat a)->(pre++post).length<=16 ->
  tq x z (d,pre++post) (pre.length:Int)=ie ((kC d pre post).map λl=>(d,l))
 | [],pre,_,_=>by
  rw[PL,List.append_nil,aW,cond_false];rfl
 | a::post,pre,hk,hl=>by
  have hp:pre.length<=16:=by rw[List.length_append]at hl;omega
  have hq:(pre++post).length<=16:=by rw[List.length_append,List.length_cons]at hl;rw[List.length_append];omega
  have hpo:post.length<=16:=by rw[List.length_append]at hq;omega
  have aI:∀b∈pre++post,bm d.toNat b:=λb hb=>hk b (by
   rcases List.mem_append.1 hb with h|h
   ·exact List.mem_append_left _ h
   ·exact List.mem_append_right _ (List.mem_cons_of_mem _ h))
  obtain⟨e1,e2,e3,e4⟩:=Su pre a post (by omega);rw[PL];dsimp only;rw[e3,cond_true,e1,cond_true,S0,SZ pre a post (by omega),e2,cond_true,e4,hx,KQ (by omega) (by omega)];simp only[Option.bind_some];rw[ace]
  conv=>rhs;unfold kC
  unfold nA;simp only[Option.bind_some];cases h1:(jG (d,pre++post) a).2 with
  | false=>rfl
  | true =>
   simp only[Bool.not_true,cond_false,cond_true];cases h2:(jG (d,pre++post) a).1 with
   | true =>
    simp only[cond_true];exact DM h0 h4 x z hx post pre aI hq
   | false =>
    simp only[cond_false];rw[aO (by omega)];have:=DM h0 h4 x z hx post (pre++[a]) (by simpa using hk) (by simpa using hl);rw[show (pre++[a])++post=pre++a::post by simp,show (pre++[a]).length=pre.length+1 by simp]at this;exact this
theorem acv(c:aB):yC c=ie (kB c):=by
 rw[acu,acA,oG];unfold kB;simp only[Option.bind_some];cases hc:bG c with
 | false=>rfl
 | true =>
  obtain⟨k1,k2,k3,k4⟩:=cB.1 hc;have hn:=sw hc;obtain⟨j1,j2,j3,j4⟩:=cB.1 hn;rw[il]at j1;simp only[Bool.not_true,cond_false,cond_true];rw[FC k2 (by omega) k1 (by omega)];simp only[Option.bind_some,Bool.not_true,cond_false];rw[Rs];unfold oi nA;simp only[Option.bind_some];cases h1:(iF (cw c.1 c.2)).2 with
  | false=>rfl
  | true =>
   simp only[Bool.not_true,cond_false,cond_true];cases h2:(iF (cw c.1 c.2)).1 with
   | true =>
    simp only[cond_true];rw[Fx k2 (by omega),il];rfl
   | false =>
    simp only[cond_false];have:=DM k2 k3 c (0,[]) rfl (cw c.1 c.2).2 [] (by simpa using j1) (by simpa using j4);rw[il];refine Eq.trans ?_ this;rw[List.nil_append];congr 1;exact Prod.ext (il _ _) rfl
theorem acZ(h:bG c=true):Fy c=some ((BA c,()),()):=by
 obtain⟨k1,k2,k3,k4⟩:=cB.1 h;rw[acY];unfold BA
 match hc:c.2 with
 | []=>rfl
 | [a] =>
  have ha:bJ a=true:=(k1 a (by rw[hc];exact List.mem_singleton.2 rfl)).1;have g0:ab [a] 0=some a:=rfl;rw[show (((([a]:List aa).length:Nat):Int)==1)=true from rfl,cond_true,g0];simp only[Option.bind_some];rw[RK ha];simp only[Option.bind_some];unfold er;cases (gl a.1 0 != 0)<;>simp only[Bool.not_true,Bool.not_false,cond_true,cond_false,Bool.false_and,Bool.true_and];cases a.2.1==1<;>rfl
 | a::b::l =>
  have:((((a::b::l:List aa).length:Nat):Int)==1)=false:=by
   rw[beq_eq_false_iff_ne];simp only[List.length_cons];omega
  rw[this];rfl
def gd:Option (List ah)->Option ((List ah×Bool×PUnit)×PUnit)
 | some r=>some ((r,true,()),())
 | none=>some (([],false,()),())
theorem TH(n:Nat):decide ((n:Int)>=24)=decide (n>=24):=by rw[Bool.eq_iff_iff];simp;omega
theorem yX{l:List ah}{f:List (List Int)}(hc:bG c=true)(hl:l.length<=24):oM l c f=gd (fe l c f):=by
 obtain⟨k1,k2,k3,k4⟩:=cB.1 hc;have hn:=sw hc;rw[adH,y7 k2 (by omega) k1 (by omega)];simp only[Option.bind_some];rw[adZ hn];unfold fe;have hm:kB c=oi (cw c.1 c.2):=by unfold kB;rw[hc];rfl
 rw[hm];cases h1:oi (cw c.1 c.2)with
 | none=>rfl
 | some m =>
  obtain⟨m1,m2,m3,m4⟩:=cB.1 (Cz (hm.trans h1)).2.1;unfold ie;simp only[Option.bind_some,Bool.not_true,cond_false];rw[TH];cases h2:decide (l.length>=24)with
  | true=>rfl
  | false =>
   simp only[cond_false];have d1:decide ((0+l.length)*56<=140737488355328)=true:=decide_eq_true (by omega);have d2:decide ((l.length+1)*56<=140737488355328)=true:=decide_eq_true (by omega);rw[d1,cond_true,d2,cond_true];unfold rH er
   match gE:m.2 with
   | []=>rfl
   | [a] =>
    have ha:=eB (m1 a (by rw[gE];exact List.mem_singleton.2 rfl));have g0:ab [a] 0=some a:=rfl;rw[show (((([a]:List aa).length:Nat):Int)==1)=true from rfl,cond_true,g0];simp only[Option.bind_some];rw[RY _ (by omega)];simp only[Option.bind_some];rw[show (!(gl a.1 0 != 0))=(gl a.1 0==0)by simp[bne]];cases gl a.1 0==0<;>rfl
   | a::b::t =>
    have:((((a::b::t:List aa).length:Nat):Int)==1)=false:=by
     rw[beq_eq_false_iff_ne];simp only[List.length_cons];omega
    rw[this];rfl
theorem yF{l:List ah}{f:List (List Int)}(hl:l.length<=24):oH l c f=gd (fe l c f):=by
 rw[acH,acv];unfold fe;cases h1:kB c with
 | none=>rfl
 | some m =>
  unfold ie;simp only[Option.bind_some,Bool.not_true,cond_false];rw[TH];cases h2:decide (l.length>=24)with
  | true=>rfl
  | false =>
   simp only[cond_false];rw[acZ (Cz h1).2.1,aj5 h1];have d2:decide ((l.length+1)*56<=140737488355328)=true:=decide_eq_true (by omega);simp only[Option.bind_some];rw[d2,cond_true];cases rH m<;>rfl
def jP(a:List Int):List Int->Nat->List Int->Option (List Int)
 | [],_,o=>some o
 | v::vs,i,o=>bif dP v then jP a vs (i+1) (o.set v.toNat (o.getD v.toNat 0+a.getD i 0))else none
def lL(vars:List Int):List aa->List aa->Option (List aa)
 | [],o=>some o
 | a::l,o=>match jP a.1 vars 0 (List.replicate (Int.toNat 4) (0:Int))with
  | none=>none
  | some x=>bif (ft x a.2.1 a.2.2).2 then lL vars l (o++[(ft x a.2.1 a.2.2).1])else none
def lK(c:aB)(vars:List Int):Option aB:=bif bG c&&((vars.length:Int)==c.1)then (lL vars c.2 []).map λl=>((4:Int),l)else none
theorem CS(a:List Int)(ha:∀y∈a,y.natAbs<=400000000):∀(vs:List Int) (i:Nat) (o r:List Int) (n:Nat),o.length=4->(∀y∈o,y.natAbs<=400000000*n)->jP a vs i o=some r->r.length=4/\∀y∈r,y.natAbs<=400000000*(n+vs.length)
 | [],i,o,r,n,h1,h2,h=>by
  unfold jP at h;cases h;exact⟨h1,by simpa using h2⟩
 | v::vs,i,o,r,n,h1,h2,h=>by
  unfold jP at h;cases hv:dP v with
  | false=>rw[hv]at h;cases h
  | true =>
   rw[hv,cond_true]at h;have key:∀y∈o.set v.toNat (o.getD v.toNat 0+a.getD i 0),y.natAbs<=400000000*(n+1):=by
    intro y hy;rcases List.mem_or_eq_of_mem_set hy with hy|rfl
    ·have:=h2 y hy;omega
    ·have e1:(o.getD v.toNat 0).natAbs<=400000000*n:=by
      rw[List.getD_eq_getElem?_getD];cases hg:o[v.toNat]? with
      | none=>simp
      | some z=>exact h2 z (List.mem_of_getElem? hg)
     have e2:(a.getD i 0).natAbs<=400000000:=by
      rw[List.getD_eq_getElem?_getD];cases hg:a[i]? with
      | none=>simp
      | some z=>exact ha z (List.mem_of_getElem? hg)
     omega
   have:=CS a ha vs (i+1) _ r (n+1) (by simpa using h1) key h;refine⟨this.1,λy hy=>?_⟩;have:=this.2 y hy;rw[List.length_cons];omega
theorem XD{a o:List Int}{v:Int}{i:Nat}(hv:dP v=true)(ho:o.length=4)(hi:i<a.length):
  ab o v=some (o.getD v.toNat 0)/\ab a (i:Int)=some (a.getD i 0):=by
 unfold dP at hv;simp only[Bool.and_eq_true,decide_eq_true_eq]at hv;have au:v.toNat<o.length:=by omega
 refine⟨?_,?_⟩
 ·have:=aD (xs:=o) (i:=v.toNat) au;rw[show ((v.toNat:Nat):Int)=v by omega]at this;rw[this,List.getD_eq_getElem?_getD,List.getElem?_eq_getElem au];rfl
 ·rw[aD hi,List.getD_eq_getElem?_getD,List.getElem?_eq_getElem hi];rfl
theorem XC(vars:List Int):∀(l o r:List aa),(∀a∈o,bm 4 a)->(∀a∈l,∀y∈a.1,y.natAbs<=400000000)->lL vars l o=some r->(∀a∈r,bm 4 a)/\r.length=o.length+l.length
 | [],o,r,h1,_,h=>by
  unfold lL at h;cases h;exact⟨h1,rfl⟩
 | a::l,o,r,h1,hn,h=>by
  unfold lL at h;cases hp:jP a.1 vars 0 (List.replicate (Int.toNat 4) (0:Int))with
  | none=>rw[hp]at h;cases h
  | some x =>
   rw[hp]at h;dsimp only at h;cases hm:(ft x a.2.1 a.2.2).2 with
   | false=>rw[hm]at h;cases h
   | true =>
    rw[hm,cond_true]at h;have hx:=CS a.1 (hn a (List.mem_cons_self ..)) vars 0 _ x 0 (by simp) (by simp[List.mem_replicate]) hp;have hk:=W1 hm;rw[hx.1]at hk;have:=XC vars l _ r (λb hb=>by
     rcases List.mem_append.1 hb with hb|hb
     ·exact h1 b hb
     ·rw[List.mem_singleton.1 hb];exact hk) (λb hb=>hn b (List.mem_cons_of_mem _ hb)) h
    refine⟨this.1,?_⟩;rw[this.2,List.length_append,List.length_singleton,List.length_cons];omega
theorem CR{r:aB}{vars:List Int}(h:lK c vars=some r):bG r=true/\r.1=4:=by
 unfold lK at h;cases hc:bG c&&((vars.length:Int)==c.1)with
 | false=>rw[hc]at h;cases h
 | true =>
  rw[hc,cond_true]at h;have hc:=(Bool.and_eq_true_iff.1 hc).1;obtain⟨k1,k2,k3,k4⟩:=cB.1 hc;cases hl:lL vars c.2 []with
  | none=>rw[hl]at h;cases h
  | some l =>
   rw[hl]at h;cases h;have:=XC vars c.2 [] l (by simp) (λa ha=>(eB (k1 a ha)).1) hl;exact⟨cB.2 ⟨this.1,by show (0:Int)<=4;omega,by show (4:Int)<=4;omega,by show l.length<=16;rw[this.2];simpa using k4⟩,rfl⟩
theorem QS(vars:List Int)(c z x6:aB)(hk:k<c.2.length)(ha:bm n (c.2[k]))(hv:vars.length=n):∀(m i:Nat) (o:List Int),m+i=vars.length->o.length=4->(∀y∈o,y.natAbs<=400000000*i) ->
  tH vars c z x6 (k:Int) o (i:Int)=match jP (c.2[k]).1 (vars.drop i) i o with
   | none=>ie none
   | some x=>tH vars c z x6 (k:Int) x (vars.length:Int)
 | 0,i,o,hm,ho,hb=>by
  obtain rfl:i=vars.length:=by omega
  rw[List.drop_length];rfl
 | m+1,i,o,hm,ho,hb=>by
  have hi:i<vars.length:=by omega
  have hn:vars.length<=4:=by have:=(eB ha).2.2;have h2:=ha.2;omega
  rw[drop_cons hi]
  conv=>rhs;unfold jP
  rw[Qw,aT hi,cond_true,aD hi];simp only[Option.bind_some];rw[kQ];simp only[Option.bind_some];show (bif !dP vars[i]then _ else _)=_;cases Cd:dP vars[i]with
  | false=>rfl
  | true =>
   obtain⟨s1,s2⟩:=XD (a:=(c.2[k]).1) (o:=o) (i:=i) Cd ho (by rw[ha.2];omega);simp only[Bool.not_true,cond_false,cond_true];rw[s1];simp only[Option.bind_some];rw[aD hk];simp only[Option.bind_some];rw[s2];simp only[Option.bind_some];have e1:(o.getD (vars[i]).toNat 0).natAbs<=400000000*i:=by
    rw[List.getD_eq_getElem?_getD];cases hg:o[(vars[i]).toNat]? with
    | none=>simp
    | some z=>exact hb z (List.mem_of_getElem? hg)
   have e2:((c.2[k]).1.getD i 0).natAbs<=400000000:=by
    rw[List.getD_eq_getElem?_getD];cases hg:(c.2[k]).1[i]? with
    | none=>simp
    | some z=>exact (eB ha).1 z (List.mem_of_getElem? hg)
   rw[cb (by omega) (by omega),aO (by omega)];refine QS vars c z x6 hk ha hv m (i+1) _ (by omega) (by simpa using ho) (λy hy=>?_);rcases List.mem_or_eq_of_mem_set hy with hy|rfl
   ·have:=hb y hy;omega
   ·omega
theorem QR(vars:List Int)(c z:aB)(hc:∀a∈c.2,bm n a)(hl:c.2.length<=16)(hv:vars.length=n):∀(m k:Nat) (o:List aa),m+k=c.2.length->o.length=k ->
  xB vars c z (4,o) (k:Int)=ie ((lL vars (c.2.drop k) o).map λl=>((4:Int),l))
 | 0,k,o,hm,ho=>by
  obtain rfl:k=c.2.length:=by omega
  rw[Qv,aW,cond_false,List.drop_length];rfl
 | m+1,k,o,hm,ho=>by
  have hk:k<c.2.length:=by omega
  have ha:=hc _ (List.getElem_mem hk);have hn:vars.length<=4:=by have:=(eB ha).2.2;have h2:=ha.2;omega
  rw[Qv,aT hk,cond_true,drop_cons hk];have h9:=QS vars c z (4,o) hk ha hv vars.length 0 (List.replicate (Int.toNat 4) (0:Int)) rfl (by simp) (by simp[List.mem_replicate]);rw[List.drop_zero,Int.natCast_zero]at h9;rw[h9];unfold lL;cases hp:jP (c.2[k]).1 vars 0 (List.replicate (Int.toNat 4) (0:Int))with
  | none=>rfl
  | some x =>
   have hx:=CS (c.2[k]).1 (eB ha).1 vars 0 _ x 0 (by simp) (by simp[List.mem_replicate]) hp;dsimp only;rw[Qw,aW,cond_false,aD hk];simp only[Option.bind_some];rw[RX (by rw[hx.1];omega) (λy hy=>by have:=hx.2 y hy;omega) (by have:=(eB ha).2.1;omega)];simp only[Option.bind_some];cases gE:(ft x (c.2[k]).2.1 (c.2[k]).2.2).2 with
   | false=>rfl
   | true =>
    simp only[Bool.not_true,cond_false,cond_true];have d:decide ((o.length+1)*40<=140737488355328)=true:=decide_eq_true (by omega);rw[d,cond_true,aO (by omega)];exact QR vars c z hc hl hv m (k+1) _ (by omega) (by simp[ho])
theorem adE(c:aB)(vars:List Int)(hl:c.2.length<=68719476736):tZ c vars=ie (lK c vars):=by
 rw[adD,tX _ hl];unfold lK;simp only[Option.bind_some];cases hc:bG c with
 | false=>rfl
 | true =>
  obtain⟨k1,k2,k3,k4⟩:=cB.1 hc;simp only[Bool.not_true,cond_false,Bool.true_and,bne];cases hv:((vars.length:Int)==c.1)with
  | false=>rfl
  | true =>
   simp only[Bool.not_true,cond_false,cond_true];have hv:=beq_iff_eq.1 hv;have:=QR vars c (0,[]) k1 k4 (by omega) c.2.length 0 [] rfl rfl
   rwa [List.drop_zero]at this
theorem Qa(vars:List Int)(c z x6:aB)(a:aa)(ha:bm n a)(hv:vars.length=n)(L:List aa)(b:Int)(k:Int):∀(m i:Nat) (o:List Int),m+i=vars.length->o.length=4->(∀y∈o,y.natAbs<=400000000*i) ->
  tu vars c z x6 a o L b k vars (vars.length:Int) (i:Int)=match jP a.1 (vars.drop i) i o with
   | none=>ie none
   | some x=>tu vars c z x6 a x L b k vars (vars.length:Int) (vars.length:Int)
 | 0,i,o,hm,ho,hb=>by
  obtain rfl:i=vars.length:=by omega
  rw[List.drop_length];rfl
 | m+1,i,o,hm,ho,hb=>by
  have hi:i<vars.length:=by omega
  have hn:vars.length<=4:=by have:=(eB ha).2.2;have h2:=ha.2;omega
  rw[drop_cons hi]
  conv=>rhs;unfold jP
  rw[PQ,aT hi,cond_true,aD hi];simp only[Option.bind_some];rw[FA];simp only[Option.bind_some];cases Cd:dP vars[i]with
  | false=>rfl
  | true =>
   obtain⟨s1,s2⟩:=XD (a:=a.1) (o:=o) (i:=i) Cd ho (by rw[ha.2];omega);simp only[Bool.not_true,cond_false,cond_true];rw[s1];simp only[Option.bind_some];rw[s2];simp only[Option.bind_some];have e1:(o.getD (vars[i]).toNat 0).natAbs<=400000000*i:=by
    rw[List.getD_eq_getElem?_getD];cases hg:o[(vars[i]).toNat]? with
    | none=>simp
    | some z=>exact hb z (List.mem_of_getElem? hg)
   have e2:(a.1.getD i 0).natAbs<=400000000:=by
    rw[List.getD_eq_getElem?_getD];cases hg:a.1[i]? with
    | none=>simp
    | some z=>exact (eB ha).1 z (List.mem_of_getElem? hg)
   rw[cb (by omega) (by omega),aO (by omega)];refine Qa vars c z x6 a ha hv L b k m (i+1) _ (by omega) (by simpa using ho) (λy hy=>?_);rcases List.mem_or_eq_of_mem_set hy with hy|rfl
   ·have:=hb y hy;omega
   ·omega
theorem P9(vars:List Int)(c z:aB)(hc:∀a∈c.2,bm n a)(hl:c.2.length<=16)(hv:vars.length=n):∀(m k:Nat) (o:List aa),m+k=c.2.length->o.length=k ->
  xm vars c z (4,o) c.2 (c.2.length:Int) (k:Int)=ie ((lL vars (c.2.drop k) o).map λl=>((4:Int),l))
 | 0,k,o,hm,ho=>by
  obtain rfl:k=c.2.length:=by omega
  rw[PO,aW,cond_false,List.drop_length];rfl
 | m+1,k,o,hm,ho=>by
  have hk:k<c.2.length:=by omega
  have ha:=hc _ (List.getElem_mem hk);have hn:vars.length<=4:=by have:=(eB ha).2.2;have h2:=ha.2;omega
  rw[PO,aT hk,cond_true,drop_cons hk,aD hk];simp only[Option.bind_some];have h9:=Qa vars c z (4,o) (c.2[k]) ha hv c.2 (c.2.length:Int) (k:Int) vars.length 0 (List.replicate (Int.toNat 4) (0:Int)) rfl (by simp) (by simp[List.mem_replicate]);rw[List.drop_zero,Int.natCast_zero]at h9;rw[h9];unfold lL;cases hp:jP (c.2[k]).1 vars 0 (List.replicate (Int.toNat 4) (0:Int))with
  | none=>rfl
  | some x =>
   have hx:=CS (c.2[k]).1 (eB ha).1 vars 0 _ x 0 (by simp) (by simp[List.mem_replicate]) hp;dsimp only;rw[PQ,aW,cond_false];rw[RO (by rw[hx.1];omega) (λy hy=>by have:=hx.2 y hy;omega) (by have:=(eB ha).2.1;omega)];simp only[Option.bind_some];cases gE:(ft x (c.2[k]).2.1 (c.2[k]).2.2).2 with
   | false=>rfl
   | true =>
    simp only[Bool.not_true,cond_false,cond_true];have d:decide ((o.length+1)*40<=140737488355328)=true:=decide_eq_true (by omega);rw[d,cond_true,aO (by omega)];exact P9 vars c z hc hl hv m (k+1) _ (by omega) (by simp[ho])
theorem acC(c:aB)(vars:List Int):tQ c vars=ie (lK c vars):=by
 rw[acB,oG];unfold lK;simp only[Option.bind_some];cases hc:bG c with
 | false=>rfl
 | true =>
  obtain⟨k1,k2,k3,k4⟩:=cB.1 hc;simp only[Bool.not_true,cond_false,Bool.true_and,bne];cases hv:((vars.length:Int)==c.1)with
  | false=>rfl
  | true =>
   simp only[Bool.not_true,cond_false,cond_true];have hv:=beq_iff_eq.1 hv;have:=P9 vars c (0,[]) k1 k4 (by omega) c.2.length 0 [] rfl rfl
   rwa [List.drop_zero]at this
def okF(k:Nat)(s:ah):Prop:=bG s.1=true/\s.1.1=4/\s.2.length<=k/\∀p∈s.2,p.length<=2
def bR(k:Nat)(l:List ah):Prop:=l.length<=24/\∀s∈l,okF k s
theorem okF.mono{s:ah}(h:okF k s)(hm:k<=m):okF m s:=⟨h.1,h.2.1,Nat.le_trans h.2.2.1 hm,h.2.2.2⟩
theorem bR.mono{l:List ah}(h:bR k l)(hm:k<=m):bR m l:=⟨h.1,λs hs=>(h.2 s hs).mono hm⟩
theorem p5{s:ah}(h:okF k s):zL zI s.2<=k*3/\zP s<=80+k*3:=by
 have h1:=Dh zI 2 s.2 h.2.2.2;have h2:s.2.length*3<=k*3:=Nat.mul_le_mul_right _ h.2.2.1;have h3:=afM h.1;rw[ape];omega
theorem FI{l:List ah}(h:bR k l)(hk:k<=1000000):q8 l=some ((l,()),()):=by
 rw[adI];have:=oU l id (λo=>some ((o,()),())) (λo i=>xD l o i) (λi hi o ho=>by
  have hs:=h.2 _ (List.getElem_mem hi);have hz:=(p5 hs).1;have hd:decide ((o.length+1)*56<=140737488355328)=true:=decide_eq_true (by have:=h.1;omega);rw[Qy,aT hi,cond_true,aD hi];simp only[Option.bind_some];rw[(Hw hs.1).1];simp only[Option.bind_some];rw[yY _ (by omega)];simp only[Option.bind_some];rw[hd,cond_true,aO (by have:=h.1;omega)];rfl) (λo=>by rw[Qy,aW];rfl)
 rw[this,List.map_id]
theorem Fv{l:List ah}(h:bR k l)(hk:k<=1000000):qX l=some ((l,()),()):=by
 rw[acQ];have:=oU l id (λo=>some ((o,()),())) (λo i=>xu l o l (l.length:Int) i) (λi hi o ho=>by
  have hs:=h.2 _ (List.getElem_mem hi);have hz:=(p5 hs).2;have hd:decide ((o.length+1)*56<=140737488355328)=true:=decide_eq_true (by have:=h.1;omega);rw[PY,aT hi,cond_true,aD hi];simp only[Option.bind_some];rw[acP _ (by omega)];simp only[Option.bind_some];rw[hd,cond_true,aO (by have:=h.1;omega)];rfl) (λo=>by rw[PY,aW];rfl)
 rw[this,List.map_id]
theorem DL(x0 x9:List (List (List Int)))(c L:List (List Int))(aY j:Int)(hL:∀p∈L,p.length<=1000):∀(m i:Nat) (o:List (List Int)),m+i=L.length->o.length+m<=10000000->i+m<=10000000 ->
  tC x0 o c x9 aY j L (L.length:Int) (i:Int)=tA x0 (o++L.drop i) x9 aY (IntKind.i64.wrap (j+1))
 | 0,i,o,hm,ho,ew=>by
  obtain rfl:i=L.length:=by omega
  rw[xt,aW,cond_false,List.drop_length,List.append_nil]
 | m+1,i,o,hm,ho,ew=>by
  have hi:i<L.length:=by omega
  have hd:decide ((o.length+1)*24<=140737488355328)=true:=decide_eq_true (by omega);rw[xt,aT hi,cond_true,aD hi];simp only[Option.bind_some];rw[RE _ (by have:=hL _ (List.getElem_mem hi);omega)];simp only[Option.bind_some];rw[hd,cond_true,aO (by omega),DL x0 x9 c L aY j hL m (i+1) _ (by omega) (by simp;omega) (by omega),drop_cons hi,List.append_assoc];rfl
theorem acN{l m:List (List Int)}(hl:l.length<=1000000)(hm:m.length<=1000000)(h1:∀p∈l,p.length<=2)(h2:∀p∈m,p.length<=2):oJ [l,m]=some ((l++m,()),()):=by
 have w1:IntKind.i64.wrap (0+1)=1:=by decide
 have w2:IntKind.i64.wrap (1+1)=2:=by decide
 rw[RF];show tA [l,m] [] [l,m] 2 0=_;rw[tB,show decide ((0:Int)<2)=true from rfl,cond_true,show ab [l,m] 0=some l from rfl];simp only[Option.bind_some];have e1:=DL [l,m] [l,m] l l 2 0 (λp hp=>by have:=h1 p hp;omega) l.length 0 [] (by omega) (by simp;omega) (by omega);rw[Int.natCast_zero]at e1;rw[e1,List.drop_zero,List.nil_append,w1,tB,show decide ((1:Int)<2)=true from rfl,cond_true,show ab [l,m] 1=some m from rfl];simp only[Option.bind_some];have e2:=DL [l,m] [l,m] m m 2 1 (λp hp=>by have:=h2 p hp;omega) m.length 0 l (by omega) (by omega) (by omega);rw[Int.natCast_zero]at e2;rw[e2,List.drop_zero,w2,tB,show decide ((2:Int)<2)=false from rfl,cond_false]
theorem lQ{l:List ah}{f:List (List Int)}(hl:bR k l)(hc:c.1=4)(hf:f.length<=k)(hf2:∀p∈f,p.length<=2)(h:fe l c f=some r):bR k r:=by
 unfold fe at h;cases hm:kB c with
 | none=>rw[hm]at h;cases h
 | some m =>
  rw[hm]at h;dsimp only at h;obtain⟨_,m1,m2⟩:=Cz hm;cases h1:decide (l.length>=24)with
  | true=>rw[h1]at h;cases h
  | false =>
   rw[h1,cond_false]at h;have h2:¬l.length>=24:=of_decide_eq_false h1;cases h3:rH m with
   | true=>rw[h3,cond_true]at h;cases h;exact hl
   | false =>
    rw[h3,cond_false]at h;cases h;refine⟨by rw[List.length_append,List.length_singleton];omega,λs hs=>?_⟩;rcases List.mem_append.1 hs with k|k
    ·exact hl.2 s k
    ·rw[List.mem_singleton.1 k];exact⟨m1,m2.trans hc,hf,hf2⟩
def nw(K:List (List ah)):Option (List ah)->Option ((List ah×Bool×PUnit)×List (List ah)×PUnit)
 | some r=>some ((r,true,()),K,())
 | none=>some (([],false,()),K,())
def sK(n:av)(r:Rw):Bool := !emp n.2.2.2.1 && !(r.1.toList==n.2.2.2.1.toList)
def lP(n:av)(k:Int):List Rw->Nat->List ah->Option (List ah)
 | [],_,o=>some o
 | r::l,i,o=>bif sK n r then lP n k l (i+1) o else match lK r.2 n.2.2.2.2.1 with
  | none=>none
  | some c=>match fe o c [[k,(i:Int)]]with
   | none=>none
   | some o=>lP n k l (i+1) o
theorem J4{n:av}{k:Int}{b:Nat}(hb:1<=b):∀(l:List Rw) (i:Nat) (o r:List ah),bR b o->lP n k l i o=some r->bR b r
 | [],i,o,r,ho,h=>by
  unfold lP at h;cases h;exact ho
 | x::l,i,o,r,ho,h=>by
  unfold lP at h;cases h1:sK n x with
  | true=>rw[h1,cond_true]at h;exact J4 hb l _ o r ho h
  | false =>
   rw[h1,cond_false]at h;cases h2:lK x.2 n.2.2.2.2.1 with
   | none=>rw[h2]at h;cases h
   | some c =>
    rw[h2]at h;dsimp only at h;cases h3:fe o c [[k,(i:Int)]]with
    | none=>rw[h3]at h;cases h
    | some o2 =>
     rw[h3]at h;exact J4 hb l _ o2 r (lQ ho (CR h2).2 (by simpa using hb) (by simp) h3) h
theorem X5(n:av)(r:Rw)(A B:R):(bif !ByteArray.toList n.2.2.2.1==(ByteArray.mk #[]).toList then (bif !ByteArray.toList r.1==ByteArray.toList n.2.2.2.1 then A else B)else B)=bif sK n r then A else B:=by
 unfold sK emp;cases (ByteArray.toList n.2.2.2.1==(ByteArray.mk #[]).toList)<;>rfl
theorem aa5(db:List Rel)(K:List (List ah))(n:av)(k:Int)(rl:Rel)(hk:ab db k=some rl)(i:Int):nG db K n [] false k i=nw K none:=by
 rw[DQ,hk];simp only[Option.bind_some,cond_false];cases decide (i<((rl.2.2.length:Nat):Int))<;>rfl
theorem DP{db:List Rel}{K:List (List ah)}{n:av}{k:Int}{rl:Rel}{b:Nat}(hb:1<=b)(hk:ab db k=some rl)(hz:rl.2.2.length<=68719476736)(hr:∀r∈rl.2.2,r.2.2.length<=68719476736):∀(m i:Nat) (o:List ah),m+i=rl.2.2.length->bR b o ->
  nG db K n o true k (i:Int)=nw K (lP n k (rl.2.2.drop i) i o)
 | 0,i,o,hm,ho=>by
  obtain rfl:i=rl.2.2.length:=by omega
  rw[DQ,hk];simp only[Option.bind_some];rw[aW,cond_false,List.drop_length];rfl
 | m+1,i,o,hm,ho=>by
  have hi:i<rl.2.2.length:=by omega
  rw[DQ,hk];simp only[Option.bind_some];rw[aT hi,cond_true,cond_true,aD hi,drop_cons hi];simp only[Option.bind_some];rw[X5];unfold lP;cases h1:sK n rl.2.2[i]with
  | true =>
   rw[cond_true,cond_true,aO (by omega)];exact DP hb hk hz hr m (i+1) o (by omega) ho
  | false =>
   rw[cond_false,cond_false,adE _ _ (hr _ (List.getElem_mem hi))];cases h2:lK rl.2.2[i].2 n.2.2.2.2.1 with
   | none=>rfl
   | some c =>
    unfold ie;simp only[Option.bind_some,Bool.not_true,cond_false];rw[yX (CR h2).1 ho.1];cases h3:fe o c [[k,(i:Int)]]with
    | none =>
     show nG db K n [] false k _=_;rw[aa5 db K n k rl hk]
    | some o2 =>
     unfold gd;simp only[Option.bind_some];rw[aO (by omega)];exact DP hb hk hz hr m (i+1) o2 (by omega) (lQ ho (CR h2).2 (by simpa using hb) (by simp) h3)
theorem DO{db:List Rel}{n:av}{k:Int}{L:List Rw}{b:Nat}(hb:1<=b)(hz:L.length<=68719476736):∀(m i:Nat) (o:List ah),m+i=L.length->bR b o ->
  qK db n o k db L (L.length:Int) (i:Int)=gd (lP n k (L.drop i) i o)
 | 0,i,o,hm,ho=>by
  obtain rfl:i=L.length:=by omega
  rw[Qd,aW,cond_false,List.drop_length];rfl
 | m+1,i,o,hm,ho=>by
  have hi:i<L.length:=by omega
  rw[Qd,aT hi,cond_true,aD hi,drop_cons hi];simp only[Option.bind_some];rw[X5];unfold lP;cases h1:sK n L[i]with
  | true =>
   rw[cond_true,cond_true,aO (by omega)];exact DO hb hz m (i+1) o (by omega) ho
  | false =>
   rw[cond_false,cond_false,acC];cases h2:lK L[i].2 n.2.2.2.2.1 with
   | none=>rfl
   | some c =>
    unfold ie;simp only[Option.bind_some,Bool.not_true,cond_false];rw[yF ho.1];cases h3:fe o c [[k,(i:Int)]]with
    | none=>rfl
    | some o2 =>
     unfold gd;simp only[Option.bind_some,Bool.not_true,cond_false];rw[aO (by omega)];exact DO hb hz m (i+1) o2 (by omega) (lQ ho (CR h2).2 (by simpa using hb) (by simp) h3)
def jo(x:ah):List ah->List ah->Option (List ah)
 | [],o=>some o
 | y::l,o=>bif (ek x.1 y.1).2 then (match fe o (ek x.1 y.1).1 (x.2++y.2)with
  | none=>none
  | some o=>jo x l o)else none
def ma(b:List ah):List ah->List ah->Option (List ah)
 | [],o=>some o
 | x::l,o=>match jo x b o with
  | none=>none
  | some o=>ma b l o
def mi(v:Nat):List ah->List ah->Option (List ah)
 | [],o=>some o
 | x::l,o=>bif (dJ x.1 v).2 then (match fe o (dJ x.1 v).1 x.2 with
  | none=>none
  | some o=>mi v l o)else none
theorem Cy{y:ah}(hx:x.1.1=4)(h:(ek x.1 y.1).2=true):bG (ek x.1 y.1).1=true/\(ek x.1 y.1).1.1=4:=by
 obtain⟨h1,h2,_⟩:=WQ h;refine⟨h1,?_⟩;rw[h2,il,hx]
theorem rB{y:ah}(hx:okF k x)(hy:okF k y):(x.2++y.2).length<=2*k/\∀p∈x.2++y.2,p.length<=2:=by
 have h1:=hx.2.2.1;have h2:=hy.2.2.1;refine⟨by rw[List.length_append];omega,λp hp=>?_⟩;rcases List.mem_append.1 hp with h|h
 ·exact hx.2.2.2 p h
 ·exact hy.2.2.2 p h
theorem Bp(hx:okF k x):∀(l o r:List ah),(∀y∈l,okF k y)->bR (2*k) o->jo x l o=some r->bR (2*k) r
 | [],o,r,_,ho,h=>by
  unfold jo at h;cases h;exact ho
 | y::l,o,r,hl,ho,h=>by
  unfold jo at h;cases h1:(ek x.1 y.1).2 with
  | false=>rw[h1]at h;cases h
  | true =>
   rw[h1,cond_true]at h;cases h2:fe o (ek x.1 y.1).1 (x.2++y.2)with
   | none=>rw[h2]at h;cases h
   | some o2 =>
    rw[h2]at h;have hy:=hl y (List.mem_cons_self ..);exact Bp hx l o2 r (λz hz=>hl z (List.mem_cons_of_mem _ hz)) (lQ ho (Cy hx.2.1 h1).2 (rB hx hy).1 (rB hx hy).2 h2) h
theorem Sl{b:List ah}(hb:∀y∈b,okF k y):∀(l o r:List ah),(∀y∈l,okF k y)->bR (2*k) o->ma b l o=some r->bR (2*k) r
 | [],o,r,_,ho,h=>by
  unfold ma at h;cases h;exact ho
 | x::l,o,r,hl,ho,h=>by
  unfold ma at h;cases h1:jo x b o with
  | none=>rw[h1]at h;cases h
  | some o2 =>
   rw[h1]at h;exact Sl hb l o2 r (λz hz=>hl z (List.mem_cons_of_mem _ hz)) (Bp (hl x (List.mem_cons_self ..)) b o o2 hb ho h1) h
theorem Bz(hx:bG x.1=true/\x.1.1=4)(h:(dJ x.1 v).2=true):bG (dJ x.1 v).1=true/\(dJ x.1 v).1.1=4:=by
 have:=HE hx.1 h;exact⟨this.1,this.2.trans hx.2⟩
theorem Tg:∀(l o r:List ah),(∀y∈l,okF k y)->bR k o->mi v l o=some r->bR k r
 | [],o,r,_,ho,h=>by
  unfold mi at h;cases h;exact ho
 | x::l,o,r,hl,ho,h=>by
  unfold mi at h;have hx:=hl x (List.mem_cons_self ..);cases h1:(dJ x.1 v).2 with
  | false=>rw[h1]at h;cases h
  | true =>
   rw[h1,cond_true]at h;cases h2:fe o (dJ x.1 v).1 x.2 with
   | none=>rw[h2]at h;cases h
   | some o2 =>
    rw[h2]at h;exact Tg l o2 r (λz hz=>hl z (List.mem_cons_of_mem _ hz)) (lQ ho (Bz ⟨hx.1,hx.2.1⟩ h1).2 hx.2.2.1 hx.2.2.2 h2) h
theorem aa6(K:List (List ah))(n:av)(a b:List ah)(i:Int):oE K n [] false a b i=nw K none:=by
 rw[DR];cases decide (i<((a.length:Nat):Int))<;>rfl
theorem aa7(K:List (List ah))(n:av)(a b:List ah)(i j:Int):tI K n [] false a b i j=nw K none:=by
 rw[DS,aa6];cases decide (j<((b.length:Nat):Int))<;>rfl
theorem Qg{K:List (List ah)}{n:av}{a b:List ah}(hk:k<=1000000)(hb:bR k b)(hi:i<a.length)(hx:okF k a[i]):∀(m j:Nat) (o:List ah),m+j=b.length->bR (2*k) o ->
  tI K n o true a b (i:Int) (j:Int)=match jo a[i] (b.drop j) o with
   | none=>nw K none
   | some o=>oE K n o true a b (IntKind.i64.wrap ((i:Int)+1))
 | 0,j,o,hm,ho=>by
  obtain rfl:j=b.length:=by omega
  rw[DS,aW,cond_false,List.drop_length];rfl
 | m+1,j,o,hm,ho=>by
  have hj:j<b.length:=by omega
  have vc:j<=24:=by have:=hb.1;omega
  have hy:=hb.2 _ (List.getElem_mem hj);have c1:=(cB.1 hx.1).2.2.2;have c2:=(cB.1 hy.1).2.2.2;rw[DS,aT hj,cond_true,cond_true,aD hi,aD hj,drop_cons hj];simp only[Option.bind_some];rw[RT _ _ (by omega) (by omega)];unfold jo gw;simp only[Option.bind_some];cases h1:(ek a[i].1 b[j].1).2 with
  | false=>rfl
  | true =>
   have z1:=(p5 hx).1;have z2:=(p5 hy).1;have l1:=hx.2.2.1;have l2:=hy.2.2.1;simp only[Bool.not_true,cond_false,cond_true];rw[yY _ (by omega)];simp only[Option.bind_some];rw[yY _ (by omega)];simp only[Option.bind_some];have hd:decide ((a[i].2.length+b[j].2.length)*24<=140737488355328)=true:=decide_eq_true (by omega);rw[hd,cond_true,yX (Cy hx.2.1 h1).1 ho.1];cases h2:fe o (ek a[i].1 b[j].1).1 (a[i].2++b[j].2)with
   | none=>exact aa7 K n a b _ _
   | some o2 =>
    unfold gd;simp only[Option.bind_some];rw[aO (by omega)];exact Qg hk hb hi hx m (j+1) o2 (by omega) (lQ ho (Cy hx.2.1 h1).2 (rB hx hy).1 (rB hx hy).2 h2)
theorem Qf{K:List (List ah)}{n:av}{a b:List ah}(hk:k<=1000000)(ha:bR k a)(hb:bR k b):∀(m i:Nat) (o:List ah),m+i=a.length->bR (2*k) o ->
  oE K n o true a b (i:Int)=nw K (ma b (a.drop i) o)
 | 0,i,o,hm,ho=>by
  obtain rfl:i=a.length:=by omega
  rw[DR,aW,cond_false,List.drop_length];rfl
 | m+1,i,o,hm,ho=>by
  have hi:i<a.length:=by omega
  have ew:i<=24:=by have:=ha.1;omega
  have hx:=ha.2 _ (List.getElem_mem hi);have TV:=Qg (K:=K) (n:=n) hk hb hi hx b.length 0 o rfl ho;rw[List.drop_zero,Int.natCast_zero]at TV;rw[DR,aT hi,cond_true,cond_true,TV,drop_cons hi];unfold ma;cases h1:jo a[i] b o with
  | none=>rfl
  | some o2 =>
   dsimp only;rw[aO (by omega)];exact Qf hk ha hb m (i+1) o2 (by omega) (Bp hx b o o2 hb.2 ho h1)
theorem PT{x0 b:List ah}{x14:List ah}{x15 x16:Int}(hk:k<=1000000)(hb:bR k b)(hx:okF k x):∀(m j:Nat) (o:List ah),m+j=b.length->bR (2*k) o ->
  xo x0 b o x x14 x15 x16 b (b.length:Int) (j:Int)=match jo x (b.drop j) o with
   | none=>gd none
   | some o=>tw x0 b o x14 x15 (IntKind.i64.wrap (x16+1))
 | 0,j,o,hm,ho=>by
  obtain rfl:j=b.length:=by omega
  rw[PV,aW,cond_false,List.drop_length];rfl
 | m+1,j,o,hm,ho=>by
  have hj:j<b.length:=by omega
  have vc:j<=24:=by have:=hb.1;omega
  have hy:=hb.2 _ (List.getElem_mem hj);rw[PV,aT hj,cond_true,aD hj,drop_cons hj];simp only[Option.bind_some];rw[Ru];unfold jo gw;simp only[Option.bind_some];cases h1:(ek x.1 b[j].1).2 with
  | false=>rfl
  | true =>
   have l1:=hx.2.2.1;have l2:=hy.2.2.1;simp only[Bool.not_true,cond_false,cond_true];rw[acN (by omega) (by omega) hx.2.2.2 hy.2.2.2];simp only[Option.bind_some];rw[yF ho.1];cases h2:fe o (ek x.1 b[j].1).1 (x.2++b[j].2)with
   | none=>rfl
   | some o2 =>
    unfold gd;simp only[Option.bind_some,Bool.not_true,cond_false];rw[aO (by omega)];exact PT hk hb hx m (j+1) o2 (by omega) (lQ ho (Cy hx.2.1 h1).2 (rB hx hy).1 (rB hx hy).2 h2)
theorem PS{a b:List ah}(hk:k<=1000000)(ha:bR k a)(hb:bR k b):∀(m i:Nat) (o:List ah),m+i=a.length->bR (2*k) o ->
  tw a b o a (a.length:Int) (i:Int)=gd (ma b (a.drop i) o)
 | 0,i,o,hm,ho=>by
  obtain rfl:i=a.length:=by omega
  rw[PU,aW,cond_false,List.drop_length];rfl
 | m+1,i,o,hm,ho=>by
  have hi:i<a.length:=by omega
  have ew:i<=24:=by have:=ha.1;omega
  have hx:=ha.2 _ (List.getElem_mem hi);have h6:=PT (x0:=a) (x14:=a) (x15:=(a.length:Int)) (x16:=(i:Int)) hk hb hx b.length 0 o rfl ho;rw[List.drop_zero,Int.natCast_zero]at h6;rw[PU,aT hi,cond_true,aD hi,drop_cons hi];simp only[Option.bind_some];rw[h6];unfold ma;cases h1:jo a[i] b o with
  | none=>rfl
  | some o2 =>
   dsimp only;rw[aO (by omega)];exact PS hk ha hb m (i+1) o2 (by omega) (Bp hx b o o2 hb.2 ho h1)
theorem aa8(K:List (List ah))(n:av)(a:List ah)(i:Int):tJ K n [] false a i=nw K none:=by
 rw[DT];cases decide (i<((a.length:Nat):Int))<;>rfl
theorem Qh{K:List (List ah)}{n:av}{a:List ah}{v:Nat}(hk:k<=1000000)(hv:n.2.2.2.2.2.1=(v:Int))(vC:v<4)(ha:bR k a):∀(m i:Nat) (o:List ah),m+i=a.length->bR k o ->
  tJ K n o true a (i:Int)=nw K (mi v (a.drop i) o)
 | 0,i,o,hm,ho=>by
  obtain rfl:i=a.length:=by omega
  rw[DT,aW,cond_false,List.drop_length];rfl
 | m+1,i,o,hm,ho=>by
  have hi:i<a.length:=by omega
  have ew:i<=24:=by have:=ha.1;omega
  have hx:=ha.2 _ (List.getElem_mem hi);rw[DT,aT hi,cond_true,cond_true,aD hi,drop_cons hi];simp only[Option.bind_some];rw[hv,R3 hx.1 (by rw[hx.2.1];exact vC)];unfold mi gw;simp only[Option.bind_some];cases h1:(dJ a[i].1 v).2 with
  | false=>rfl
  | true =>
   have z1:=(p5 hx).1;simp only[Bool.not_true,cond_false,cond_true];rw[yY _ (by omega)];simp only[Option.bind_some];rw[yX (Bz ⟨hx.1,hx.2.1⟩ h1).1 ho.1];cases h2:fe o (dJ a[i].1 v).1 a[i].2 with
   | none=>exact aa8 K n a _
   | some o2 =>
    unfold gd;simp only[Option.bind_some];rw[aO (by omega)];exact Qh hk hv vC ha m (i+1) o2 (by omega) (lQ ho (Bz ⟨hx.1,hx.2.1⟩ h1).2 hx.2.2.1 hx.2.2.2 h2)
theorem P1{a:List ah}{v:Nat}(hk:k<=1000000)(vC:v<4)(ha:bR k a):∀(m i:Nat) (o:List ah),m+i=a.length->bR k o ->
  xw a (v:Int) o a (a.length:Int) (i:Int)=gd (mi v (a.drop i) o)
 | 0,i,o,hm,ho=>by
  obtain rfl:i=a.length:=by omega
  rw[P2,aW,cond_false,List.drop_length];rfl
 | m+1,i,o,hm,ho=>by
  have hi:i<a.length:=by omega
  have ew:i<=24:=by have:=ha.1;omega
  have hx:=ha.2 _ (List.getElem_mem hi);rw[P2,aT hi,cond_true,aD hi,drop_cons hi];simp only[Option.bind_some];rw[Rr hx.1 (by rw[hx.2.1];exact vC)];unfold mi gw;simp only[Option.bind_some];cases h1:(dJ a[i].1 v).2 with
  | false=>rfl
  | true =>
   have z1:=(p5 hx).1;simp only[Bool.not_true,cond_false,cond_true];rw[RG _ (by omega)];simp only[Option.bind_some];rw[yF ho.1];cases h2:fe o (dJ a[i].1 v).1 a[i].2 with
   | none=>rfl
   | some o2 =>
    unfold gd;simp only[Option.bind_some,Bool.not_true,cond_false];rw[aO (by omega)];exact P1 hk vC ha m (i+1) o2 (by omega) (lQ ho (Bz ⟨hx.1,hx.2.1⟩ h1).2 hx.2.2.1 hx.2.2.2 h2)
def eM(K:List (List ah))(a:Int):List ah:=K.getD a.toNat []
theorem vL{a:Int}(h0:0<=a)(h1:a<K.length):ab K a=some (eM K a):=by
 have au:a.toNat<K.length:=by omega
 have:=aD (xs:=K) (i:=a.toNat) au;rw[show ((a.toNat:Nat):Int)=a by omega]at this;rw[this];unfold eM;rw[List.getD_eq_getElem?_getD,List.getElem?_eq_getElem au];rfl
theorem iS{K:List (List ah)}(hK:∀l∈K,bR k l)(a:Int):bR k (eM K a):=by
 unfold eM;rw[List.getD_eq_getElem?_getD];cases hg:K[a.toNat]? with
 | none=>exact⟨by simp,by simp⟩
 | some l=>exact hK l (List.mem_of_getElem? hg)
def nj(db:List Rel)(n:av)(K:List (List ah)):Option (List ah):=
 bif n.1==0 then fe [] (4,[n.2.1]) []
 else bif n.1==1 then (match ab db (cq (named n.2.2.1) db)with
  | some r=>lP n (cq (named n.2.2.1) db) r.2.2 0 []
  | none=>none)
 else bif n.1==3 then ma (eM K n.2.2.2.2.2.2.2) (eM K n.2.2.2.2.2.2.1) []
 else bif n.1==4 then (bif decide ((eM K n.2.2.2.2.2.2.1++eM K n.2.2.2.2.2.2.2).length<=24)then some (eM K n.2.2.2.2.2.2.1++eM K n.2.2.2.2.2.2.2)else none)
 else mi n.2.2.2.2.2.1.toNat (eM K n.2.2.2.2.2.2.1) []
theorem kinds{db:List Rel}{n:av}(h:fI db n=true)(hp:fJ n=true):n.1=0\/n.1=1\/n.1=3\/n.1=4\/n.1=5:=by
 rw[Xq]at h;unfold fJ at hp;simp only[Bool.and_eq_true,decide_eq_true_eq,Bool.not_eq_true',beq_eq_false_iff_ne]at h hp;omega
theorem ajR{db:List Rel}{n:av}(h:fI db n=true)(h0:n.1=0):bG (4,[n.2.1])=true/\n.2.1.1.length=4:=by
 unfold fI lE at h;simp only[Bool.and_eq_true]at h;have h5:=h.2.2.2.2;rw[h0]at h5;simp only[beq_self_eq_true,cond_true,Bool.and_eq_true,beq_iff_eq]at h5;have hl:n.2.1.1.length=4:=by omega
 exact⟨cB.2 ⟨λa ha=>by rw[List.mem_singleton.1 ha];exact⟨h5.1,hl⟩,by show (0:Int)<=4;omega,by show (4:Int)<=4;omega,by simp⟩,hl⟩
theorem ajQ{db:List Rel}{n:av}(h:fI db n=true)(h1:n.1=1):∃r,ab db (cq (named n.2.2.1) db)=some r:=by
 unfold fI lE at h;simp only[Bool.and_eq_true]at h;have h5:=h.2.2.2.2;rw[h1]at h5;simp only[show ((1:Int)==0)=false from rfl,beq_self_eq_true,cond_true,cond_false]at h5;unfold qb at h5;cases hg:ab db (cq (named n.2.2.1) db)with
 | some r=>exact⟨r,rfl⟩
 | none=>rw[hg]at h5;simp at h5
theorem ajP{db:List Rel}{n:av}(h:fI db n=true)(h1:n.1=5):0<=n.2.2.2.2.2.1/\n.2.2.2.2.2.1<=3:=by
 unfold fI lE at h;simp only[Bool.and_eq_true]at h;have h5:=h.2.2.2.2;rw[h1]at h5;simp only[show ((5:Int)==0)=false from rfl,show ((5:Int)==1)=false from rfl,cond_false,Bool.and_eq_true]at h5;unfold dP at h5;simpa using h5.2
theorem lI(k:Nat):bR k []:=⟨by simp,by simp⟩
theorem JG{db:List Rel}{n:av}(hk:1<=k)(hK:∀l∈K,bR k l)(h:nj db n K=some r):bR (2*k) r:=by
 unfold nj at h;cases h0:n.1==0 with
 | true =>
  rw[h0,cond_true]at h;exact lQ (lI _) rfl (by simp) (by simp) h
 | false =>
  rw[h0,cond_false]at h;cases h1:n.1==1 with
  | true =>
   rw[h1,cond_true]at h;cases hg:ab db (cq (named n.2.2.1) db)with
   | none=>rw[hg]at h;cases h
   | some rl=>rw[hg]at h;exact J4 (by omega) _ _ _ _ (lI _) h
  | false =>
   rw[h1,cond_false]at h;cases h3:n.1==3 with
   | true =>
    rw[h3,cond_true]at h;exact Sl (iS hK _).2 _ _ _ (iS hK _).2 (lI _) h
   | false =>
    rw[h3,cond_false]at h;cases h4:n.1==4 with
    | true =>
     rw[h4,cond_true]at h;cases h5:decide ((eM K n.2.2.2.2.2.2.1++eM K n.2.2.2.2.2.2.2).length<=24)with
     | false=>rw[h5]at h;cases h
     | true =>
      rw[h5,cond_true]at h;cases h;refine⟨of_decide_eq_true h5,λs hs=>?_⟩;rcases List.mem_append.1 hs with hs|hs
      ·exact ((iS hK _).2 s hs).mono (by omega)
      ·exact ((iS hK _).2 s hs).mono (by omega)
    | false =>
     rw[h4,cond_false]at h;exact (Tg _ _ _ (iS hK _).2 (lI _) h).mono (by omega)
def Out(K:List (List ah))(r:Option (List ah))(e:Option ((List ah×Bool×PUnit)×List (List ah)×PUnit)):Prop:=match r with
 | some r=>e=some ((r,true,()),K,())
 | none=>∃z,e=some ((z,false,()),K,())
theorem Fo(K:List (List ah))(r:Option (List ah)):Out K r (nw K r):=by
 cases r with
 | none=>exact⟨[],rfl⟩
 | some r=>rfl
theorem yr(K:List (List ah))(r:Option (List ah)):Out K r ((gd r).bind λy=>some ((y.1.1,y.1.2.1,()),K,())):=by
 cases r with
 | none=>exact⟨[],rfl⟩
 | some r=>rfl
theorem ajX(l:List ah):decide ((l.length:Int)<=24)=decide (l.length<=24):=by rw[Bool.eq_iff_iff];simp;omega
theorem Xh{db:List Rel}{n:av}{K:List (List ah)}{k:Nat}(hd:zL zQ db<=68719476736)(hN:fI db n=true)(hp:fJ n=true)(B7:1<=k)(hk:k<=100000)(hK:∀l∈K,bR k l)
  (hA:1<=ar n.1->0<=n.2.2.2.2.2.2.1/\n.2.2.2.2.2.2.1<K.length) (hB:ar n.1=2->0<=n.2.2.2.2.2.2.2/\n.2.2.2.2.2.2.2<K.length) :
  Out K (nj db n K) (ub db n K)/\Out K (nj db n K) (yN db n K):=by
 rw[adJ,ac9];unfold nj;rcases kinds hN hp with h|h|h|h|h
 ·obtain⟨hc,hl⟩:=ajR hN h;rw[h];simp only[beq_self_eq_true,cond_true];rw[yX hc (by simp),acI,yG _ (by omega)];simp only[Option.bind_some];rw[yF (by simp)];refine⟨yr K _,?_⟩;cases fe [] (4,[n.2.1]) []with
  | none=>exact⟨[],rfl⟩
  | some r=>rfl
 ·obtain⟨rl,hr⟩:=ajQ hN h;have hg:=TB hd;have r8:rl∈db:=by
   by_cases h0:0<=cq (named n.2.2.1) db
   ·by_cases au:(cq (named n.2.2.1) db).toNat<db.length
    ·have:=aD (xs:=db) au;rw[show (((cq (named n.2.2.1) db).toNat:Nat):Int)=cq (named n.2.2.1) db by omega,hr]at this;injection this with this;rw[this];exact List.getElem_mem au
    ·exfalso;have:ab db (cq (named n.2.2.1) db)=none:=by
      unfold ab
      first
      | rw[if_neg (by omega)]
      | (simp;omega)
     rw[hr]at this;cases this
   ·exfalso;rw[agk db (by omega)]at hr;cases hr
  have kh:=hg.2 rl r8;rw[h];simp only[show ((1:Int)==0)=false from rfl,beq_self_eq_true,cond_true,cond_false];rw[FG db _ hg.1,adh,Fp db _ hg.1,hr];simp only[Option.bind_some];rw[hr];simp only[Option.bind_some];have TR:=DP (K:=K) (n:=n) B7 hr kh.2.1 (λr hx=>(kh.2.2 r hx).2.1) rl.2.2.length 0 [] rfl (lI k);have h3:=DO (db:=db) (n:=n) (k:=cq (named n.2.2.1) db) (L:=rl.2.2) B7 kh.2.1 rl.2.2.length 0 [] rfl (lI k);rw[List.drop_zero,Int.natCast_zero]at TR h3;rw[TR,h3];exact⟨Fo K _,yr K _⟩
 ·obtain⟨a1,a2⟩:=hA (by rw[h];decide);obtain⟨b1,b2⟩:=hB (by rw[h];decide);rw[h];simp only[show ((3:Int)==0)=false from rfl,show ((3:Int)==1)=false from rfl,show ((3:Int)==4)=false from rfl,beq_self_eq_true,cond_true,cond_false];rw[vL a1 a2,vL b1 b2];simp only[Option.bind_some];rw[acJ];have TU:=Qf (K:=K) (n:=n) (by omega) (iS hK n.2.2.2.2.2.2.1) (iS hK n.2.2.2.2.2.2.2) (eM K n.2.2.2.2.2.2.1).length 0 [] rfl (lI (2*k));have h3:=PS (by omega) (iS hK n.2.2.2.2.2.2.1) (iS hK n.2.2.2.2.2.2.2) (eM K n.2.2.2.2.2.2.1).length 0 [] rfl (lI (2*k));rw[List.drop_zero,Int.natCast_zero]at TU h3;rw[TU,h3];exact⟨Fo K _,yr K _⟩
 ·obtain⟨a1,a2⟩:=hA (by rw[h];decide);obtain⟨b1,b2⟩:=hB (by rw[h];decide);have ka:=iS hK n.2.2.2.2.2.2.1;have kb:=iS hK n.2.2.2.2.2.2.2;rw[h];simp only[show ((4:Int)==0)=false from rfl,show ((4:Int)==1)=false from rfl,show ((4:Int)==3)=false from rfl,beq_self_eq_true,cond_true,cond_false];rw[vL a1 a2,vL b1 b2];simp only[Option.bind_some];rw[FI ka (by omega),FI kb (by omega),Fv ka (by omega),Fv kb (by omega)];simp only[Option.bind_some];have hz:decide (((eM K n.2.2.2.2.2.2.1).length+(eM K n.2.2.2.2.2.2.2).length)*56<=140737488355328)=true:=decide_eq_true (by have:=ka.1;have:=kb.1;omega);rw[hz,cond_true,ajX];cases decide ((eM K n.2.2.2.2.2.2.1++eM K n.2.2.2.2.2.2.2).length<=24)with
  | true=>exact⟨rfl,rfl⟩
  | false=>exact⟨⟨_,rfl⟩,⟨_,rfl⟩⟩
 ·obtain⟨a1,a2⟩:=hA (by rw[h];decide);obtain⟨v1,v2⟩:=ajP hN h;have hv:n.2.2.2.2.2.1=((n.2.2.2.2.2.1.toNat:Nat):Int):=by omega
  rw[h];simp only[show ((5:Int)==0)=false from rfl,show ((5:Int)==1)=false from rfl,show ((5:Int)==3)=false from rfl,show ((5:Int)==4)=false from rfl,cond_false];rw[vL a1 a2];simp only[Option.bind_some];have h6:=Qh (K:=K) (n:=n) (v:=n.2.2.2.2.2.1.toNat) (by omega) hv (by omega) (iS hK n.2.2.2.2.2.2.1) (eM K n.2.2.2.2.2.2.1).length 0 [] rfl (lI k);have h3:=P1 (v:=n.2.2.2.2.2.1.toNat) (by omega) (by omega) (iS hK n.2.2.2.2.2.2.1) (eM K n.2.2.2.2.2.2.1).length 0 [] rfl (lI k);rw[List.drop_zero,Int.natCast_zero]at h6 h3;rw[h6,acT,hv,h3];exact⟨Fo K _,yr K _⟩
theorem al5{n:av}{i:Int}{T T':List Int}(h:eR n i T=some T')(hi:0<=i)(hT:∀t∈T,0<=t/\t<i):
  (∀t∈T',0<=t/\t<i+1)/\(1<=ar n.1->0<=n.2.2.2.2.2.2.1/\n.2.2.2.2.2.2.1<i)/\(ar n.1=2->0<=n.2.2.2.2.2.2.2/\n.2.2.2.2.2.2.2<i):=by
 unfold eR at h;have up:∀(U:List Int),(∀t∈U,0<=t/\t<i)->∀t∈i::U,0<=t/\t<i+1:=λU hU t ht=>by
  rcases List.mem_cons.1 ht with rfl|ht
  ·omega
  ·have:=hU t ht;omega
 rcases Sn n.1 with e|e|e
 ·rw[e]at h;cases h;exact⟨up T hT,by omega,by omega⟩
 ·rw[e]at h;cases T with
  | nil=>cases h
  | cons r T =>
   cases hr:r==n.2.2.2.2.2.2.1 with
   | false=>simp only[hr,cond_false]at h;cases h
   | true =>
    simp only[hr,cond_true]at h;cases h;have hr:=beq_iff_eq.1 hr;have h1:=hT r (List.mem_cons_self ..);exact⟨up T λt ht=>hT t (List.mem_cons_of_mem _ ht),λ_=>hr▸h1,by omega⟩
 ·rw[e]at h;cases T with
  | nil=>cases h
  | cons r T =>
   cases T with
   | nil=>cases h
   | cons s T =>
    cases hr:r==n.2.2.2.2.2.2.2 with
    | false=>simp only[hr,cond_false]at h;cases h
    | true =>
     simp only[hr,cond_true]at h;cases hs:s==n.2.2.2.2.2.2.1 with
     | false=>simp only[hs,cond_false]at h;cases h
     | true =>
      simp only[hs,cond_true]at h;cases h;have hr:=beq_iff_eq.1 hr;have hs:=beq_iff_eq.1 hs;have h1:=hT r (List.mem_cons_self ..);have h2:=hT s (List.mem_cons_of_mem _ (List.mem_cons_self ..));exact⟨up T λt ht=>hT t (List.mem_cons_of_mem _ (List.mem_cons_of_mem _ ht)),λ_=>hs▸h2,λ_=>hr▸h1⟩
theorem Tv(db:List Rel):∀(l:List av) (i:Int) (T:List Int),kX db l i T=true->0<=i->(∀t∈T,0<=t/\t<i)->∀(j:Nat) (hj:j<l.length),
  fI db l[j]=true/\(1<=ar (l[j]).1->0<=(l[j]).2.2.2.2.2.2.1/\(l[j]).2.2.2.2.2.2.1<i+j)/\(ar (l[j]).1=2->0<=(l[j]).2.2.2.2.2.2.2/\(l[j]).2.2.2.2.2.2.2<i+j)
 | [],_,_,_,_,_,j,hj=>by simp at hj
 | n::l,i,T,h,hi,hT,j,hj=>by
  unfold kX at h;cases h1:fI db n with
  | false=>rw[h1]at h;cases h
  | true =>
   rw[h1,cond_true]at h;cases h2:eR n i T with
   | none=>rw[h2]at h;cases h
   | some T' =>
    rw[h2]at h;dsimp only at h;obtain⟨k1,k2,k3⟩:=al5 h2 hi hT;cases j with
    | zero =>
     refine⟨h1,λh=>?_,λh=>?_⟩
     ·have:=k2 h;simp only[List.getElem_cons_zero];omega
     ·have:=k3 h;simp only[List.getElem_cons_zero];omega
    | succ j =>
     have:=Tv db l (i+1) T' h (by omega) k1 j (by simpa using hj);simp only[List.getElem_cons_succ];refine⟨this.1,λh=>?_,λh=>?_⟩
     ·have:=this.2.1 h;omega
     ·have:=this.2.2 h;omega
def l9(db:List Rel):List av->List (List ah)->Option (List (List ah))
 | [],K=>some K
 | n::l,K=>match nj db n K with
  | none=>none
  | some r=>l9 db l (K++[r])
def pS(K:List (List ah)):List ah:=K.getD (K.length - 1) []
theorem Wy(h:K.length≠0)(h2:K.length<=1000):ab K (IntKind.i64.wrap ((K.length:Int) - 1))=some (pS K):=by
 rw[cb (by omega) (by omega)];have:=aD (xs:=K) (i:=K.length - 1) (by omega);rw[show ((K.length - 1:Nat):Int)=(K.length:Int) - 1 by omega]at this;rw[this];unfold pS;rw[List.getD_eq_getElem?_getD,List.getElem?_eq_getElem (by omega)];rfl
theorem Je(hK:∀l∈K,bR k l):bR k (pS K):=by
 unfold pS;rw[List.getD_eq_getElem?_getD];cases hg:K[K.length - 1]? with
 | none=>exact⟨by simp,by simp⟩
 | some l=>exact hK l (List.mem_of_getElem? hg)
theorem sB{i:Nat}(h:i<=12):1<=2 ^ i/\2 ^ i<=4096 :=
 ⟨Nat.one_le_two_pow,Nat.le_trans (Nat.pow_le_pow_right (by omega) h) (by decide)⟩
theorem Dy(hK:∀l∈K,bR (2 ^ i) l)(hr:bR (2*2 ^ i) r):∀l∈K++[r],bR (2 ^ (i+1)) l:=λl hl=>by
 have e:2 ^ (i+1)=2*2 ^ i:=by rw[Nat.pow_succ];omega
 rw[e];rcases List.mem_append.1 hl with h|h
 ·exact (hK l h).mono (by omega)
 ·rw[List.mem_singleton.1 h];exact hr
section
variable{db:List Rel}{f:List av}(hd:zL zQ db<=68719476736)(h0:f.length≠0)(hf:f.length<=12)(n3:∀(j:Nat) (hj:j<f.length),fI db f[j]=true/\fJ f[j]=true/\(1<=ar (f[j]).1->0<=(f[j]).2.2.2.2.2.2.1/\(f[j]).2.2.2.2.2.2.1<(j:Int))/\(ar (f[j]).1=2->0<=(f[j]).2.2.2.2.2.2.2/\(f[j]).2.2.2.2.2.2.2<(j:Int)))
include hd h0 hf n3
theorem QT:∀(m i:Nat) (K:List (List ah)),m+i=f.length->K.length=i->(∀l∈K,bR (2 ^ i) l)->xC db f K (i:Int)=gd ((l9 db (f.drop i) K).map pS)
 | 0,i,K,hm,hl,hK=>by
  obtain rfl:i=f.length:=by omega
  have hp:=sB hf;rw[Qx,aW,cond_false,List.drop_length,Wy (by omega) (by omega)];simp only[Option.bind_some];rw[FI (Je hK) (by omega)];rfl
 | m+1,i,K,hm,hl,hK=>by
  have hi:i<f.length:=by omega
  have hp:=sB (i:=i) (by omega);obtain⟨f1,f2,f3,f4⟩:=n3 i hi;have gF:=(Xh hd f1 f2 hp.1 (by omega) hK (by rw[hl];exact f3) (by rw[hl];exact f4)).1;rw[Qx,aT hi,cond_true,aD hi,drop_cons hi];simp only[Option.bind_some];unfold l9;cases hr:nj db f[i] K with
  | none =>
   rw[hr]at gF;obtain⟨z,hz⟩:=gF;rw[hz];rfl
  | some r =>
   rw[hr]at gF;have gF:ub db f[i] K=some ((r,true,()),K,()):=gF;rw[gF];simp only[Option.bind_some,Bool.not_true,cond_false];have kf:decide ((K.length+1)*24<=140737488355328)=true:=decide_eq_true (by omega);rw[kf,cond_true,aO (by omega)];exact QT m (i+1) (K++[r]) (by omega) (by simp[hl]) (Dy hK (JG hp.1 hK hr))
theorem Qe:∀(m i:Nat) (K:List (List ah)),m+i=f.length->K.length=i->(∀l∈K,bR (2 ^ i) l)->xn db f K f (f.length:Int) (i:Int)=gd ((l9 db (f.drop i) K).map pS)
 | 0,i,K,hm,hl,hK=>by
  obtain rfl:i=f.length:=by omega
  have hp:=sB hf;rw[PR,aW,cond_false,List.drop_length,Wy (by omega) (by omega)];simp only[Option.bind_some];rw[Fv (Je hK) (by omega)];rfl
 | m+1,i,K,hm,hl,hK=>by
  have hi:i<f.length:=by omega
  have hp:=sB (i:=i) (by omega);obtain⟨f1,f2,f3,f4⟩:=n3 i hi;have gF:=(Xh hd f1 f2 hp.1 (by omega) hK (by rw[hl];exact f3) (by rw[hl];exact f4)).2;rw[PR,aT hi,cond_true,aD hi,drop_cons hi];simp only[Option.bind_some];unfold l9;cases hr:nj db f[i] K with
  | none =>
   rw[hr]at gF;obtain⟨z,hz⟩:=gF;rw[hz];rfl
  | some r =>
   rw[hr]at gF;have gF:yN db f[i] K=some ((r,true,()),K,()):=gF;rw[gF];simp only[Option.bind_some,Bool.not_true,cond_false];have kf:decide ((K.length+1)*24<=140737488355328)=true:=decide_eq_true (by omega);rw[kf,cond_true,aO (by omega)];exact Qe m (i+1) (K++[r]) (by omega) (by simp[hl]) (Dy hK (JG hp.1 hK hr))
omit hd h0 n3 in
theorem Sj:∀(m i:Nat) (K:List (List ah)) {R:List (List ah)},m+i=f.length->(∀l∈K,bR (2 ^ i) l)->l9 db (f.drop i) K=some R->∀l∈R,bR (2 ^ f.length) l
 | 0,i,K,R,hm,hK,h=>by
  obtain rfl:i=f.length:=by omega
  rw[List.drop_length]at h;cases h;exact hK
 | m+1,i,K,R,hm,hK,h=>by
  have hi:i<f.length:=by omega
  have hp:=sB (i:=i) (by omega);rw[drop_cons hi]at h;unfold l9 at h;cases hr:nj db f[i] K with
  | none=>rw[hr]at h;cases h
  | some r =>
   rw[hr]at h;exact Sj m (i+1) (K++[r]) (by omega) (Dy hK (JG hp.1 hK hr)) h
end
def qj(db:List Rel)(f:List av):Option (List ah):=bif fG db f&&f.all fJ then (l9 db f []).map pS else none
theorem HR{db:List Rel}{f:List av}(h:(fG db f&&f.all fJ)=true):f.length≠0/\f.length<=12/\∀(j:Nat) (hj:j<f.length),fI db f[j]=true/\fJ f[j]=true/\(1<=ar (f[j]).1->0<=(f[j]).2.2.2.2.2.2.1/\(f[j]).2.2.2.2.2.2.1<(j:Int))/\(ar (f[j]).1=2->0<=(f[j]).2.2.2.2.2.2.2/\(f[j]).2.2.2.2.2.2.2<(j:Int)):=by
 rw[Bool.and_eq_true]at h;obtain⟨h1,h2⟩:=h;unfold fG at h1;simp only[Bool.and_eq_true,decide_eq_true_eq]at h1;obtain⟨_,⟨h3,h4⟩,h5⟩:=h1;refine⟨by omega,by omega,λj hj=>?_⟩;obtain⟨k1,k2,k3⟩:=Tv db f 0 [] h5 (by omega) (by simp) j hj;refine⟨k1,List.all_eq_true.1 h2 _ (List.getElem_mem hj),λh=>?_,λh=>?_⟩
 ·have:=k2 h;omega
 ·have:=k3 h;omega
theorem adG{db:List Rel}{f:List av}(hd:zL zQ db<=68719476736)(hf:zL zN f<=68719476736):ua db f=gd (qj db f):=by
 rw[adF,adv db f hd hf];unfold qj;simp only[Option.bind_some];cases h:fG db f&&f.all fJ with
 | false=>rfl
 | true =>
  obtain⟨a1,a2,a3⟩:=HR h;have:=QT hd a1 a2 a3 f.length 0 [] rfl rfl (by simp);rw[List.drop_zero,Int.natCast_zero]at this;simp only[Bool.not_true,cond_false,cond_true];exact this
theorem acE{db:List Rel}{f:List av}(hd:zL zQ db<=68719476736)(hf:zL zN f<=68719476736):qV db f=gd (qj db f):=by
 rw[acD,acp db f hf];unfold qj;simp only[Option.bind_some];cases h:fG db f&&f.all fJ with
 | false=>rfl
 | true =>
  obtain⟨a1,a2,a3⟩:=HR h;have:=Qe hd a1 a2 a3 f.length 0 [] rfl rfl (by simp);rw[List.drop_zero,Int.natCast_zero]at this;simp only[Bool.not_true,cond_false,cond_true];exact this
theorem al7{db:List Rel}{f:List av}(h:qj db f=some r):bR 4096 r:=by
 unfold qj at h;cases hb:fG db f&&f.all fJ with
 | false=>rw[hb]at h;cases h
 | true =>
  obtain⟨a1,a2,a3⟩:=HR hb;rw[hb,cond_true]at h;cases hr:l9 db f []with
  | none=>rw[hr]at h;cases h
  | some R =>
   rw[hr]at h;cases h;have:=Sj a2 f.length 0 [] rfl (by simp) (by rw[List.drop_zero];exact hr);exact (Je this).mono (sB a2).2
theorem al9{l:List ah}(h:bR k l):zL zP l<=24*(81+k*3):=by
 have:=Dh zP (80+k*3) l (λs hs=>(p5 (h.2 s hs)).2);have h2:l.length*(80+k*3+1)<=24*(80+k*3+1):=Nat.mul_le_mul_right _ h.1;omega
theorem al8{x:List Rel}{f:List av}(zx:zL zQ x<=68719476736)(zf:zL zN f<=68719476736):∃r ok,ua x f=some ((r,ok,()),())/\qV x f=some ((r,ok,()),())/\zL zP r<=1000000:=by
 rw[adG zx zf,acE zx zf];cases h:qj x f with
 | none=>exact⟨[],false,rfl,rfl,by decide⟩
 | some r =>
  have:=al9 (al7 h);exact⟨r,true,rfl,rfl,by omega⟩
theorem ajS(x:List Rel)(f:List av)(hx:dh (.slice 0 CO) x)(hf:dh (.slice 0 CN) f):FN x f=some ((true,()),()):=by
 rw[aeb,ae3 x 1048576 hx (by omega) (by omega)];simp only[Option.bind_some];rcases nv 1048576 (zL zQ x)with⟨e,_⟩|⟨k1,e,a1,d1⟩
 ·rw[e];rfl
 have c1:decide (k1<0)=false:=by simp;omega
 rw[e];simp only[c1,cond_false];rw[aeZ f k1 hf (by omega) (by omega)];simp only[Option.bind_some];rcases nv k1 (zL zN f)with⟨e,_⟩|⟨k2,e,a2,d2⟩
 ·rw[e];rfl
 have c2:decide (k2<0)=false:=by simp;omega
 rw[e];simp only[c2,cond_false];have zx:zL zQ x<=68719476736:=by omega
 have zf:zL zN f<=68719476736:=by omega
 obtain⟨r,ok,w1,w2,w3⟩:=al8 zx zf;have w3:zL zP r<=68719476736:=by omega
 have q1:=dW Js x 1;have q2:=dW Jr f (mL mQ x 1).2;have q3:=dW vS r 1;have n1:decide ((mL mN f (mL mQ x 1).2).2<0)=false:=decide_eq_false (by omega);have n2:decide ((mL mP r 1).2<0)=false:=decide_eq_false (by omega);have m1:=aeM x 1 (by omega) (by omega) zx;have m2:=aeK f (mL mQ x 1).2 (by omega) (by omega) zf;have m3:=aeQ r 1 (by omega) (by omega) w3;have m4:=aeE r 1 (by omega) (by omega) w3;rw[afl x zx,Option.bind_some,afh f zf,Option.bind_some];dsimp only;rw[w1,Option.bind_some,Option.bind_some,Option.bind_some,w2,Option.bind_some];dsimp only;rw[R7 r w3,Option.bind_some];simp only[Bool.not_true,cond_false,beq_self_eq_true,Option.bind_some,aeo x zx,aek f zf,m1,m2,n1,R7 r w3,m3,m4,n2,bne_self_eq_false,w2]
end Go.Proofs.YthfgcmoipebheaaGreat.P.It
