/- A part of the proof: Plainh. No conditions. -/
import Derived.Test.YtbhogmdpmkpinaaGreatPIt3h
import Derived.Test.YtbhogmdpmkpinaaGreatPG8
set_option linter.unusedVariables false
set_option linter.unusedSimpArgs false
namespace Go.Proofs.YtbhogmdpmkpinaaGreat.P.It
open Am
variable{n v:Nat}{a b:aa}{R α β:Type}{d k p q y:Int}{c m:ab}{x z:aU}{S l l':List aa}{r:List ab}{K:List (List ab)}
theorem cm{x:Int}(h1 : -9223372036854775808<=x)(h2:x<=9223372036854775807):IntKind.i64.wrap x=x:=by
 rw[IntKind.wrap_i64];omega
theorem aG{xs:List α}{i:Nat}(h:i<xs.length):ae xs (i:Int)=some xs[i]:=by
 unfold ae;rw[if_pos (by omega)];simp[h]
theorem aO{i:Nat}(h:i<=1000000000000):IntKind.i64.wrap ((i:Int)+1)=((i+1:Nat):Int):=by
 rw[cm]<;>omega
theorem aX{i:Nat}(h:i<n):decide ((i:Int)<(n:Int))=true:=by simp;omega
theorem aZ(n:Nat):decide ((n:Int)<(n:Int))=false:=by simp
theorem qv:decide ((-1:Int)<0)=true:=by decide
theorem nQ:maxLen=9223372036854775807:=by decide
theorem mz{R:Type}(x:List α)(c:Int)(hl:x.length<=68719476736)(h0:0<=c)(hc:c<=1000)(A B:R):(bif decide (0<=(x.length:Int))&&decide ((x.length:Int)<=(x.length:Int))&&decide ((x.length:Int)*c<=140737488355328)&&decide ((x.length:Int)<=9223372036854775807)then A else B)=A:=by
 have h1:(x.length:Int)*c<=68719476736*1000:=Int.mul_le_mul (by omega) hc h0 (by omega);have h2:(x.length:Int)*c<=140737488355328:=by omega
 have h3:(x.length:Int)<=9223372036854775807:=by omega
 simp[h2,h3]
theorem lM(x:List α)(p:α->Bool)(F E:Option R)(f:Int->Option R)(hl:x.length<=68719476736)
  (h1:∀(i:Nat) (h:i<x.length),f (i:Int)=bif p x[i]then f ((i+1:Nat):Int)else F) (h2:f (x.length:Int)=E) :
  ∀(n i:Nat),n+i=x.length->f (i:Int)=bif (x.drop i).all p then E else F
 | 0,i,hn=>by
  obtain rfl:i=x.length:=by omega
  rw[h2,List.drop_eq_nil_of_le (by omega)];rfl
 | n+1,i,hn=>by
  have hi:i<x.length:=by omega
  rw[h1 i hi,lM x p F E f hl h1 h2 n (i+1) (by omega),List.drop_eq_getElem_cons hi,List.all_cons];cases p x[i]<;>rfl
theorem BA(x:List α)(p:α->Bool)(F E:Option R)(f:Int->Option R)(hl:x.length<=68719476736)
  (h1:∀(i:Nat) (h:i<x.length),f (i:Int)=bif p x[i]then f ((i+1:Nat):Int)else F) (h2:f (x.length:Int)=E):f 0=bif x.all p then E else F:=by
 have:=lM x p F E f hl h1 h2 x.length 0 (by omega)
 rwa [List.drop_zero]at this
def dj{α:Type}(p:α->Bool)(x:List α):Int:=if x.findIdx p<x.length then (x.findIdx p:Int)else -1
theorem IA(x:List α)(p:α->Bool)(r:Int->Option R)(f:Int->Option R)
  (h1:∀(i:Nat) (h:i<x.length),f (i:Int)=bif p x[i]then r (i:Int)else f ((i+1:Nat):Int)) (h2:f (x.length:Int)=r (-1)) :
  ∀(n i:Nat),n+i=x.length->(∀j (h:j<x.length),j<i->p x[j]=false)->f (i:Int)=r (dj p x)
 | 0,i,hn,hp=>by
  obtain rfl:i=x.length:=by omega
  have:x.findIdx p=x.length:=List.findIdx_eq_length.2 (λy hy=>by
   obtain⟨j,hj,rfl⟩:=List.mem_iff_getElem.1 hy;exact hp j hj hj)
  rw[h2];unfold dj;rw[if_neg (by omega)]
 | n+1,i,hn,hp=>by
  have hi:i<x.length:=by omega
  rw[h1 i hi];cases hb:p x[i]with
  | true =>
   have:x.findIdx p=i:=(List.findIdx_eq hi).2 ⟨hb,λj hj=>hp j (by omega) hj⟩;unfold dj;rw[this,if_pos hi];rfl
  | false =>
   rw[cond_false];exact IA x p r f h1 h2 n (i+1) (by omega) (λj hj cO=>by
    by_cases he:j=i
    ·subst he;exact hb
    ·exact hp j hj (by omega))
def fM(k:Int)(n:Nat):Int:=if (n:Int)<=k then k - n else -1
theorem gv(h:¬(n:Int)<=k):fM k n = -1:=if_neg h
theorem o7(h:(n:Int)<=k):fM k n=k - n:=if_pos h
theorem n5(k:Int)(n:Nat):(fM k n = -1/\¬(n:Int)<=k)\/∃m,fM k n=m/\m=k - n/\0<=m:=by
 by_cases h:(n:Int)<=k
 ·exact .inr ⟨_,o7 h,rfl,by omega⟩
 ·exact .inl ⟨gv h,h⟩
theorem xt{a b:Nat}{u:R}(h:0<=k - (a:Int)):some ((fM (k - (a:Int)) b,u),u)=some ((fM k (a+b),u),u):=by
 congr 3;unfold fM;by_cases h1:(b:Int)<=k - a
 ·rw[if_pos h1,if_pos (by omega)];omega
 ·rw[if_neg h1,if_neg (by omega)]
def zB(x:ByteArray):Nat:=x.size
def zI(x:List Int):Nat:=x.length
def zL{α:Type}(f:α->Nat)(x:List α):Nat:=x.length+(x.map f).sum
theorem lH(f:α->Nat)(x:List α):x.length<=zL f x:=Nat.le_add_right _ _
theorem kL(f:α->Nat){x:List α}{y:α}(h:y∈x):f y<=zL f x:=by
 have:f y<=(x.map f).sum:=by
  induction x with
  | nil=>cases h
  | cons a l ih =>
   rw[List.map_cons,List.sum_cons];rcases List.mem_cons.1 h with rfl|h
   ·omega
   ·have:=ih h;omega
 unfold zL;omega
theorem xu(x:List α)(W:α->Prop)(g:α->Nat)(S:α->Int->Option ((Int×PUnit)×PUnit))(f:Int->Int->Option ((Int×PUnit)×PUnit))(hl:x.length<=1048576)(hW:∀y∈x,W y)
  (hS:∀y k,W y->0<=k->k<=1048576->S y k=some ((fM k (g y),()),()))
  (h1:∀(i:Nat) (h:i<x.length) k,f k (i:Int)=(S x[i] k).bind λy=>bif decide (y.1.1<0)then some ((-1,()),())else f y.1.1 ((i+1:Nat):Int)) (h2:∀k,f k (x.length:Int)=some ((k,()),())) :
  ∀(n i:Nat) (k:Int),n+i=x.length->0<=k->k<=1048576->f k (i:Int)=some ((fM k ((x.drop i).map g).sum,()),())
 | 0,i,k,hn,h0,hk=>by
  obtain rfl:i=x.length:=by omega
  rw[h2,List.drop_eq_nil_of_le (by omega),o7 (by simpa using h0)];simp
 | n+1,i,k,hn,h0,hk=>by
  have hi:i<x.length:=by omega
  rw[h1 i hi,hS x[i] k (hW _ (List.getElem_mem hi)) h0 hk,List.drop_eq_getElem_cons hi,List.map_cons,List.sum_cons];simp only[Option.bind_some];rcases n5 k (g x[i])with⟨e,a⟩|⟨m,e,a,d⟩
  ·rw[e,qv,cond_true,gv (by omega)]
  ·have c:decide (m<0)=false:=by simp;omega
   rw[e,c,cond_false,xu x W g S f hl hW hS h1 h2 n (i+1) m (by omega) d (by omega),a];exact xt (by omega)
theorem Up(x:List α)(S:α->Option ((α×PUnit)×PUnit))(f:List α->Int->Option ((List α×PUnit)×PUnit))(hl:x.length<=68719476736)(hS:∀y∈x,S y=some ((y,()),()))
  (h1:∀(i:Nat) (h:i<x.length) (v:List α),v.length=x.length->f v (i:Int)=(S x[i]).bind λy=>f (v.set i y.1.1) ((i+1:Nat):Int)) (h2:∀v:List α,f v (x.length:Int)=some ((v,()),())) :
  ∀(n i:Nat) (v:List α),n+i=x.length->v.length=x.length->f v (i:Int)=some ((v.take i++x.drop i,()),())
 | 0,i,v,hn,hv=>by
  obtain rfl:i=x.length:=by omega
  rw[h2,List.take_of_length_le (by omega),List.drop_eq_nil_of_le (by omega),List.append_nil]
 | n+1,i,v,hn,hv=>by
  have hi:i<x.length:=by omega
  rw[h1 i hi v hv,hS _ (List.getElem_mem hi)];simp only[Option.bind_some];rw[Up x S f hl hS h1 h2 n (i+1) _ (by omega) (by simpa using hv)];congr 3;have e1:(v.set i x[i]).take (i+1)=v.take i++[x[i]]:=by
   rw[List.take_add_one,List.take_set_of_le (by omega)];simp[hv,hi]
  rw[e1,List.append_assoc,List.singleton_append];congr 1;exact (List.drop_eq_getElem_cons hi).symm
theorem vr(x:List α)(S:α->Option ((α×PUnit)×PUnit))(f:List α->Int->Option ((List α×PUnit)×PUnit))(hl:x.length<=68719476736)(hS:∀y∈x,S y=some ((y,()),()))
  (h1:∀(i:Nat) (h:i<x.length) (v:List α),v.length=x.length->f v (i:Int)=(S x[i]).bind λy=>f (v.set i y.1.1) ((i+1:Nat):Int)) (h2:∀v:List α,f v (x.length:Int)=some ((v,()),())) (v:List α) (hv:v.length=x.length) :
  f v 0=some ((x,()),()):=by
 have:=Up x S f hl hS h1 h2 x.length 0 v (by omega) hv;rw[Int.natCast_zero]at this;rw[this];simp
theorem vy(x:List α)(E:Option R)(f:Int->Option R)(hl:x.length<=68719476736)
  (h1:∀(i:Nat) (h:i<x.length),f (i:Int)=f ((i+1:Nat):Int)) (h2:f (x.length:Int)=E):f 0=E:=by
 have:=BA x (λ_=>true) E E f hl (λi h=>by simpa using h1 i h) h2;rw[this];cases x.all _<;>rfl
def zA(x:aa):Nat:=zI x.1
abbrev xe:Ty:=.agg (.pair (.slice 0 (.int .i64)) (.pair (.int .i64) .bool))
def zC(x:ab):Nat:=zL zA x.2
abbrev YN:Ty:=.agg (.pair (.int .i64) (.slice 0 xe))
def zR(x:Rw):Nat:=zB x.1+zC x.2
abbrev C0:Ty:=.agg (.pair .str YN)
def zQ(x:Rel):Nat:=zB x.1+zL zR x.2.2
abbrev CZ:Ty:=.agg (.pair .str (.pair (.int .i64) (.slice 0 C0)))
def zN(x:al):Nat:=zA x.2.1+zB x.2.2.1+zB x.2.2.2.1+zI x.2.2.2.2.1
abbrev CY:Ty:=.agg (.pair (.int .i64) (.pair xe (.pair .str (.pair .str (.pair (.slice 0 (.int .i64)) (.pair (.int .i64) (.pair (.int .i64) (.int .i64))))))))
theorem Tz(x:List Int)(k:Int)(w:dz (.slice 0 (.int .i64)) x)(h0:0<=k)(hk:k<=1048576):zW x k=some ((fM k (zI x),()),()):=by
 have hl:x.length<=maxLen:=w.1;rw[nQ]at hl;rw[ag5,cm (by omega) (by omega)];by_cases h:k - (x.length:Int)<0
 ·simp only[h,decide_true,cond_true];rw[gv (by unfold zI;omega)]
 ·simp only[h,decide_false,cond_false];rw[o7 (by unfold zI;omega)];rfl
theorem Tx(x:aa)(k:Int)(w:dz xe x)(h0:0<=k)(hk:k<=1048576):va x k=some ((fM k (zA x),()),()):=by
 have hz:zA x=zI x.1:=rfl;rw[ag2];rw[Tz _ _ w.1 (by omega) (by omega)];simp only[Option.bind_some];rcases n5 k (zI x.1)with⟨e1,a1⟩|⟨k1,e1,a1,d1⟩
 ·rw[e1];simp only[qv,cond_true];rw[gv (by rw[hz];omega)]
 have c1:decide (k1<0)=false:=by simp;omega
 rw[e1];simp only[c1,cond_false];rw[o7 (by rw[hz];omega)];congr 3<;>(rw[hz];omega)
theorem ag1(x:List aa)(k:Int)(w:dz (.slice 0 xe) x)(h0:0<=k)(hk:k<=1048576):zV x k=some ((fM k (zL zA x),()),()):=by
 have hl:x.length<=maxLen:=w.1;rw[nQ]at hl;rw[ag0,cm (by omega) (by omega)];have hz:zL zA x=x.length+(x.map zA).sum:=rfl;by_cases h:k - (x.length:Int)<0
 ·simp only[h,decide_true,cond_true];rw[gv (by rw[hz];omega)]
 ·simp only[h,decide_false,cond_false];have:=xu x (dz xe) zA va (λk i=>yP x k i) (by omega) w.2 (λy k w h0 hk=>Tx y k w h0 hk) (λi hi k=>by
   rw[Sn,aG hi,aX hi,aO (by omega)];simp only[cond_true,Option.bind_some]) (λk=>by rw[Sn,aZ];rfl) x.length 0 (k - (x.length:Int)) (by omega) (by omega) (by omega)
  rw[Int.natCast_zero]at this;refine this.trans ?_;rw[List.drop_zero,hz,xt (by omega)]
theorem ag4(x:ab)(k:Int)(w:dz YN x)(h0:0<=k)(hk:k<=1048576):Gh x k=some ((fM k (zC x),()),()):=by
 have hz:zC x=zL zA x.2:=rfl;rw[ag3];rw[ag1 _ _ w.2 (by omega) (by omega)];simp only[Option.bind_some];rcases n5 k (zL zA x.2)with⟨e1,a1⟩|⟨k1,e1,a1,d1⟩
 ·rw[e1];simp only[qv,cond_true];rw[gv (by rw[hz];omega)]
 have c1:decide (k1<0)=false:=by simp;omega
 rw[e1];simp only[c1,cond_false];rw[o7 (by rw[hz];omega)];congr 3<;>(rw[hz];omega)
theorem ahh(x:Rw)(k:Int)(w:dz C0 x)(h0:0<=k)(hk:k<=1048576):z7 x k=some ((fM k (zR x),()),()):=by
 have hz:zR x=zB x.1+zC x.2:=rfl;rw[ahg];have b1:zB x.1<=maxLen:=w.1;rw[nQ]at b1;obtain⟨k1,e1,a1⟩:∃m,IntKind.i64.wrap (k - ((ByteArray.size x.1:Nat):Int))=m/\m=k - (zB x.1:Int):=⟨_,cm (by unfold zB at b1;omega) (by unfold zB at b1;omega),rfl⟩;simp only[e1];by_cases d1:k1<0
 ·simp only[d1,decide_true,cond_true];rw[gv (by rw[hz];omega)]
 simp only[d1,decide_false,cond_false];rw[ag4 _ _ w.2 (by omega) (by omega)];simp only[Option.bind_some];rcases n5 k1 (zC x.2)with⟨e2,a2⟩|⟨k2,e2,a2,d2⟩
 ·rw[e2];simp only[qv,cond_true];rw[gv (by rw[hz];omega)]
 have c2:decide (k2<0)=false:=by simp;omega
 rw[e2];simp only[c2,cond_false];rw[o7 (by rw[hz];omega)];congr 3<;>(rw[hz];omega)
theorem ahf(x:List Rw)(k:Int)(w:dz (.slice 0 C0) x)(h0:0<=k)(hk:k<=1048576):z8 x k=some ((fM k (zL zR x),()),()):=by
 have hl:x.length<=maxLen:=w.1;rw[nQ]at hl;rw[ahe,cm (by omega) (by omega)];have hz:zL zR x=x.length+(x.map zR).sum:=rfl;by_cases h:k - (x.length:Int)<0
 ·simp only[h,decide_true,cond_true];rw[gv (by rw[hz];omega)]
 ·simp only[h,decide_false,cond_false];have:=xu x (dz C0) zR z7 (λk i=>yS x k i) (by omega) w.2 (λy k w h0 hk=>ahh y k w h0 hk) (λi hi k=>by
   rw[Sr,aG hi,aX hi,aO (by omega)];simp only[cond_true,Option.bind_some]) (λk=>by rw[Sr,aZ];rfl) x.length 0 (k - (x.length:Int)) (by omega) (by omega) (by omega)
  rw[Int.natCast_zero]at this;refine this.trans ?_;rw[List.drop_zero,hz,xt (by omega)]
theorem ahd(x:Rel)(k:Int)(w:dz CZ x)(h0:0<=k)(hk:k<=1048576):zZ x k=some ((fM k (zQ x),()),()):=by
 have hz:zQ x=zB x.1+zL zR x.2.2:=rfl;rw[ahc];have b1:zB x.1<=maxLen:=w.1;rw[nQ]at b1;obtain⟨k1,e1,a1⟩:∃m,IntKind.i64.wrap (k - ((ByteArray.size x.1:Nat):Int))=m/\m=k - (zB x.1:Int):=⟨_,cm (by unfold zB at b1;omega) (by unfold zB at b1;omega),rfl⟩;simp only[e1];by_cases d1:k1<0
 ·simp only[d1,decide_true,cond_true];rw[gv (by rw[hz];omega)]
 simp only[d1,decide_false,cond_false];rw[ahf _ _ w.2.2 (by omega) (by omega)];simp only[Option.bind_some];rcases n5 k1 (zL zR x.2.2)with⟨e2,a2⟩|⟨k2,e2,a2,d2⟩
 ·rw[e2];simp only[qv,cond_true];rw[gv (by rw[hz];omega)]
 have c2:decide (k2<0)=false:=by simp;omega
 rw[e2];simp only[c2,cond_false];rw[o7 (by rw[hz];omega)];congr 3<;>(rw[hz];omega)
theorem ahb(x:List Rel)(k:Int)(w:dz (.slice 0 CZ) x)(h0:0<=k)(hk:k<=1048576):z6 x k=some ((fM k (zL zQ x),()),()):=by
 have hl:x.length<=maxLen:=w.1;rw[nQ]at hl;rw[aha,cm (by omega) (by omega)];have hz:zL zQ x=x.length+(x.map zQ).sum:=rfl;by_cases h:k - (x.length:Int)<0
 ·simp only[h,decide_true,cond_true];rw[gv (by rw[hz];omega)]
 ·simp only[h,decide_false,cond_false];have:=xu x (dz CZ) zQ zZ (λk i=>yR x k i) (by omega) w.2 (λy k w h0 hk=>ahd y k w h0 hk) (λi hi k=>by
   rw[Sq,aG hi,aX hi,aO (by omega)];simp only[cond_true,Option.bind_some]) (λk=>by rw[Sq,aZ];rfl) x.length 0 (k - (x.length:Int)) (by omega) (by omega) (by omega)
  rw[Int.natCast_zero]at this;refine this.trans ?_;rw[List.drop_zero,hz,xt (by omega)]
theorem ag9(x:al)(k:Int)(w:dz CY x)(h0:0<=k)(hk:k<=1048576):zX x k=some ((fM k (zN x),()),()):=by
 have hz:zN x=zA x.2.1+zB x.2.2.1+zB x.2.2.2.1+zI x.2.2.2.2.1:=rfl;rw[ag8];rw[Tx _ _ w.2.1 (by omega) (by omega)];simp only[Option.bind_some];rcases n5 k (zA x.2.1)with⟨e1,a1⟩|⟨k1,e1,a1,d1⟩
 ·rw[e1];simp only[qv,cond_true];rw[gv (by rw[hz];omega)]
 have c1:decide (k1<0)=false:=by simp;omega
 rw[e1];simp only[c1,cond_false];have b2:zB x.2.2.1<=maxLen:=w.2.2.1;rw[nQ]at b2;obtain⟨k2,e2,a2⟩:∃m,IntKind.i64.wrap (k1 - ((ByteArray.size x.2.2.1:Nat):Int))=m/\m=k1 - (zB x.2.2.1:Int):=⟨_,cm (by unfold zB at b2;omega) (by unfold zB at b2;omega),rfl⟩;simp only[e2];by_cases d2:k2<0
 ·simp only[d2,decide_true,cond_true];rw[gv (by rw[hz];omega)]
 simp only[d2,decide_false,cond_false];have b3:zB x.2.2.2.1<=maxLen:=w.2.2.2.1;rw[nQ]at b3;obtain⟨k3,e3,a3⟩:∃m,IntKind.i64.wrap (k2 - ((ByteArray.size x.2.2.2.1:Nat):Int))=m/\m=k2 - (zB x.2.2.2.1:Int):=⟨_,cm (by unfold zB at b3;omega) (by unfold zB at b3;omega),rfl⟩;simp only[e3];by_cases d3:k3<0
 ·simp only[d3,decide_true,cond_true];rw[gv (by rw[hz];omega)]
 simp only[d3,decide_false,cond_false];rw[Tz _ _ w.2.2.2.2.1 (by omega) (by omega)];simp only[Option.bind_some];rcases n5 k3 (zI x.2.2.2.2.1)with⟨e4,a4⟩|⟨k4,e4,a4,d4⟩
 ·rw[e4];simp only[qv,cond_true];rw[gv (by rw[hz];omega)]
 have c4:decide (k4<0)=false:=by simp;omega
 rw[e4];simp only[c4,cond_false];rw[o7 (by rw[hz];omega)];congr 3<;>(rw[hz];omega)
theorem ag7(x:List al)(k:Int)(w:dz (.slice 0 CY) x)(h0:0<=k)(hk:k<=1048576):zY x k=some ((fM k (zL zN x),()),()):=by
 have hl:x.length<=maxLen:=w.1;rw[nQ]at hl;rw[ag6,cm (by omega) (by omega)];have hz:zL zN x=x.length+(x.map zN).sum:=rfl;by_cases h:k - (x.length:Int)<0
 ·simp only[h,decide_true,cond_true];rw[gv (by rw[hz];omega)]
 ·simp only[h,decide_false,cond_false];have:=xu x (dz CY) zN zX (λk i=>yQ x k i) (by omega) w.2 (λy k w h0 hk=>ag9 y k w h0 hk) (λi hi k=>by
   rw[Sp,aG hi,aX hi,aO (by omega)];simp only[cond_true,Option.bind_some]) (λk=>by rw[Sp,aZ];rfl) x.length 0 (k - (x.length:Int)) (by omega) (by omega) (by omega)
  rw[Int.natCast_zero]at this;refine this.trans ?_;rw[List.drop_zero,hz,xt (by omega)]
theorem TB(x:List Int)(h:zI x<=68719476736):vc x=some ((x,()),()):=by
 have hl:x.length<=68719476736:=h;rw[ahn,mz x 8 hl (by omega) (by omega)];exact vr x (λy=>some ((y,()),())) (λv i=>yU x v i) hl (λy _=>rfl) (λi hi v hv=>by
  rw[Su,aX hi,aO (by omega)];simp only[aG hi,aG (show i<v.length by omega),cond_true,Option.bind_some,Int.toNat_natCast]) (λv=>by rw[Su,aZ];rfl) _ (by simp)
theorem TA(x:aa)(h:zA x<=68719476736):vb x=some ((x,()),()):=by
 have hz:zA x=zI x.1:=rfl;rw[ahk,TB _ (by omega)];rfl
theorem ahj(x:List aa)(h:zL zA x<=68719476736):Aa x=some ((x,()),()):=by
 have hl:x.length<=68719476736:=Nat.le_trans (lH _ x) h;rw[ahi,mz x 40 hl (by omega) (by omega)];exact vr x vb (λv i=>yT x v i) hl (λy hy=>TA y (Nat.le_trans (kL _ hy) h)) (λi hi v hv=>by
  rw[Ss,aX hi,aO (by omega)];simp only[aG hi,aG (show i<v.length by omega),cond_true,Option.bind_some,Int.toNat_natCast]) (λv=>by rw[Ss,aZ];rfl) _ (by simp)
theorem ahm(x:ab)(h:zC x<=68719476736):Gi x=some ((x,()),()):=by
 have hz:zC x=zL zA x.2:=rfl;rw[ahl,ahj _ (by omega)];rfl
theorem ahz(x:Rw)(h:zR x<=68719476736):Ad x=some ((x,()),()):=by
 have hz:zR x=zB x.1+zC x.2:=rfl;rw[ahy,ahm _ (by omega)];rfl
theorem ahx(x:List Rw)(h:zL zR x<=68719476736):Ae x=some ((x,()),()):=by
 have hl:x.length<=68719476736:=Nat.le_trans (lH _ x) h;rw[ahw,mz x 48 hl (by omega) (by omega)];exact vr x Ad (λv i=>yX x v i) hl (λy hy=>ahz y (Nat.le_trans (kL _ hy) h)) (λi hi v hv=>by
  rw[Sx,aX hi,aO (by omega)];simp only[aG hi,aG (show i<v.length by omega),cond_true,Option.bind_some,Int.toNat_natCast]) (λv=>by rw[Sx,aZ];rfl) _ (by simp)
theorem ahv(x:Rel)(h:zQ x<=68719476736):Ac x=some ((x,()),()):=by
 have hz:zQ x=zB x.1+zL zR x.2.2:=rfl;rw[ahu,ahx _ (by omega)];rfl
theorem aht(x:List Rel)(h:zL zQ x<=68719476736):rY x=some ((x,()),()):=by
 have hl:x.length<=68719476736:=Nat.le_trans (lH _ x) h;rw[ahs,mz x 48 hl (by omega) (by omega)];exact vr x Ac (λv i=>yW x v i) hl (λy hy=>ahv y (Nat.le_trans (kL _ hy) h)) (λi hi v hv=>by
  rw[Sw,aX hi,aO (by omega)];simp only[aG hi,aG (show i<v.length by omega),cond_true,Option.bind_some,Int.toNat_natCast]) (λv=>by rw[Sw,aZ];rfl) _ (by simp)
theorem ahr(x:al)(h:zN x<=68719476736):Ab x=some ((x,()),()):=by
 have hz:zN x=zA x.2.1+zB x.2.2.1+zB x.2.2.2.1+zI x.2.2.2.2.1:=rfl;rw[ahq,TA _ (by omega),TB _ (by omega)];rfl
theorem ahp(x:List al)(h:zL zN x<=68719476736):rX x=some ((x,()),()):=by
 have hl:x.length<=68719476736:=Nat.le_trans (lH _ x) h;rw[aho,mz x 128 hl (by omega) (by omega)];exact vr x Ab (λv i=>yV x v i) hl (λy hy=>ahr y (Nat.le_trans (kL _ hy) h)) (λi hi v hv=>by
  rw[Sv,aX hi,aO (by omega)];simp only[aG hi,aG (show i<v.length by omega),cond_true,Option.bind_some,Int.toNat_natCast]) (λv=>by rw[Sv,aZ];rfl) _ (by simp)
theorem Tw(x:List Int)(h:zI x<=68719476736):u9 x x=some ((true,()),()):=by
 have hl:x.length<=68719476736:=h;rw[agN];simp only[bne_self_eq_false,cond_false];refine vy x (some ((true,()),())) (λi=>yL x x i) hl (λi hi=>?_) ?_
 ·rw[Sj,aX hi,aO (by omega)];simp only[aG hi,cond_true,Option.bind_some,bne_self_eq_false,beq_self_eq_true,Bool.not_true,cond_false]
 ·rw[Sj,aZ];rfl
theorem Tv(x:aa)(h:zA x<=68719476736):zO x x=some ((true,()),()):=by
 have hz:zA x=zI x.1:=rfl;rw[agK];simp only[bne_self_eq_false,beq_self_eq_true,Bool.not_true,cond_false,Option.bind_some,Tw x.1 (by omega)]
theorem agJ(x:List aa)(h:zL zA x<=68719476736):zP x x=some ((true,()),()):=by
 have hl:x.length<=68719476736:=Nat.le_trans (lH _ x) h;rw[agI];simp only[bne_self_eq_false,cond_false];refine vy x (some ((true,()),())) (λi=>yK x x i) hl (λi hi=>?_) ?_
 ·rw[Si,aX hi,aO (by omega)];simp only[aG hi,cond_true,Option.bind_some,Tv _ (Nat.le_trans (kL _ (List.getElem_mem hi)) h),Bool.not_true,cond_false]
 ·rw[Si,aZ];rfl
theorem agM(x:ab)(h:zC x<=68719476736):Gd x x=some ((true,()),()):=by
 have hz:zC x=zL zA x.2:=rfl;rw[agL];simp only[bne_self_eq_false,beq_self_eq_true,Bool.not_true,cond_false,Option.bind_some,agJ x.2 (by omega)]
theorem agZ(x:Rw)(h:zR x<=68719476736):Gg x x=some ((true,()),()):=by
 have hz:zR x=zB x.1+zC x.2:=rfl;rw[agY];simp only[bne_self_eq_false,beq_self_eq_true,Bool.not_true,cond_false,Option.bind_some,agM x.2 (by omega)]
theorem agX(x:List Rw)(h:zL zR x<=68719476736):zU x x=some ((true,()),()):=by
 have hl:x.length<=68719476736:=Nat.le_trans (lH _ x) h;rw[agW];simp only[bne_self_eq_false,cond_false];refine vy x (some ((true,()),())) (λi=>yO x x i) hl (λi hi=>?_) ?_
 ·rw[Sm,aX hi,aO (by omega)];simp only[aG hi,cond_true,Option.bind_some,agZ _ (Nat.le_trans (kL _ (List.getElem_mem hi)) h),Bool.not_true,cond_false]
 ·rw[Sm,aZ];rfl
theorem agV(x:Rel)(h:zQ x<=68719476736):Gf x x=some ((true,()),()):=by
 have hz:zQ x=zB x.1+zL zR x.2.2:=rfl;rw[agU];simp only[bne_self_eq_false,beq_self_eq_true,Bool.not_true,cond_false,Option.bind_some,agX x.2.2 (by omega)]
theorem agT(x:List Rel)(h:zL zQ x<=68719476736):zT x x=some ((true,()),()):=by
 have hl:x.length<=68719476736:=Nat.le_trans (lH _ x) h;rw[agS];simp only[bne_self_eq_false,cond_false];refine vy x (some ((true,()),())) (λi=>yN x x i) hl (λi hi=>?_) ?_
 ·rw[Sl,aX hi,aO (by omega)];simp only[aG hi,cond_true,Option.bind_some,agV _ (Nat.le_trans (kL _ (List.getElem_mem hi)) h),Bool.not_true,cond_false]
 ·rw[Sl,aZ];rfl
theorem agR(x:al)(h:zN x<=68719476736):Ge x x=some ((true,()),()):=by
 have hz:zN x=zA x.2.1+zB x.2.2.1+zB x.2.2.2.1+zI x.2.2.2.2.1:=rfl;rw[agQ];simp only[bne_self_eq_false,beq_self_eq_true,Bool.not_true,cond_false,Option.bind_some,Tv x.2.1 (by omega),Tw x.2.2.2.2.1 (by omega)]
theorem agP(x:List al)(h:zL zN x<=68719476736):zS x x=some ((true,()),()):=by
 have hl:x.length<=68719476736:=Nat.le_trans (lH _ x) h;rw[agO];simp only[bne_self_eq_false,cond_false];refine vy x (some ((true,()),())) (λi=>yM x x i) hl (λi hi=>?_) ?_
 ·rw[Sk,aX hi,aO (by omega)];simp only[aG hi,cond_true,Option.bind_some,agR _ (Nat.le_trans (kL _ (List.getElem_mem hi)) h),Bool.not_true,cond_false]
 ·rw[Sk,aZ];rfl
def gA(a:aa):Prop:=a.1.length<=68719476736
def gC(c:ab):Prop:=c.2.length<=68719476736/\∀a∈c.2,gA a
def gR(r:Rw):Prop:=r.1.size<=68719476736/\gC r.2
def gL(r:Rel):Prop:=r.1.size<=68719476736/\r.2.2.length<=68719476736/\∀y∈r.2.2,gR y
theorem U9{x:ByteArray}{i:Nat}(h:i<x.data.toList.length):nr x (i:Int)=some ((x.data.toList[i].toNat:Nat):Int):=by
 unfold nr;rw[if_pos (by omega)];have h':i<x.size:=by simpa using h
 simp only[Int.toNat_natCast];rw[show x[i]?=some x[i]from getElem?_pos x i h'];simp only[Option.map_some];congr 3
def jc(x:ByteArray)(a b:Int):Bool:=x.data.toList.all (λc => !(decide (((c.toNat:Nat):Int)<a)) && !(decide (((c.toNat:Nat):Int)>b)))&&(decide (1<=(x.size:Int))&&decide ((x.size:Int)<=6))
theorem tE(x:ByteArray):x.size=x.data.toList.length:=by simp
theorem jf(a b c:Int):gT a b c=some ((decide (b<=a)&&decide (a<=c),()),()):=by
 rw[aga];by_cases h:a>=b
 ·simp[h]
 ·simp[h]
theorem Ga(x:ByteArray)(a b:Int)(hl:x.size<=68719476736):rV x a b=some ((jc x a b,()),()):=by
 rw[agE];have:=lM x.data.toList (λc => !(decide (((c.toNat:Nat):Int)<a)) && !(decide (((c.toNat:Nat):Int)>b))) (some ((false,()),())) (some ((decide (1<=(x.size:Int))&&decide ((x.size:Int)<=6),()),())) (λi=>uG x a b i) (by rw[<-tE];exact hl) (λi hi=>by
  have hb:i<x.size:=by rw[tE];exact hi
  rw[Se,U9 hi,aO (by omega)];simp only[aX hb,cond_true,Option.bind_some];cases decide (((x.data.toList[i].toNat:Nat):Int)<a)<;>cases decide (((x.data.toList[i].toNat:Nat):Int)>b)<;>rfl) (by rw[Se,<-tE,aZ,jf];rfl) x.data.toList.length 0 (by omega)
 simp only[List.drop_zero,Int.natCast_zero]at this;rw[show uG x a b 0=_ from this];unfold jc;cases x.data.toList.all _<;>rfl
theorem S0(x:ByteArray)(a b:Int):uT x a b=some ((jc x a b,()),()):=by
 rw[afg];unfold jc;by_cases h1:(x.size:Int)<1
 ·have:¬(1<=(x.size:Int)):=by omega
  simp[h1,this]
 ·by_cases h2:(x.size:Int)>6
  ·have:¬((x.size:Int)<=6):=by omega
   simp only[h1,h2,decide_false,decide_true,cond_false,cond_true,this,Bool.and_false]
  ·have e1:1<=(x.size:Int):=by omega
   have e2:(x.size:Int)<=6:=by omega
   simp only[h1,h2,decide_false,cond_false,e1,e2,decide_true,Bool.and_self,Bool.and_true];have:=lM x.data.toList (λc => !(decide (((c.toNat:Nat):Int)<a)) && !(decide (((c.toNat:Nat):Int)>b))) (some ((false,()),())) (some ((true,()),())) (λi=>uq x a b i) (by rw[<-tE];omega) (λi hi=>by
    have hb:i<x.size:=by rw[tE];exact hi
    rw[QX,U9 hi,aO (by omega)];simp only[aX hb,cond_true,Option.bind_some];cases decide (((x.data.toList[i].toNat:Nat):Int)<a)<;>cases decide (((x.data.toList[i].toNat:Nat):Int)>b)<;>rfl) (by rw[QX,<-tE,aZ];rfl) x.data.toList.length 0 (by omega)
   simp only[List.drop_zero,Int.natCast_zero]at this;rw[show uq x a b 0=_ from this];cases x.data.toList.all _<;>rfl
theorem afe(x:ByteArray):FM x=some ((jc x 65 90,()),()):=by
 rw[afd,S0];rfl
theorem SZ(x:ByteArray):zi x=some ((jc x 97 122,()),()):=by
 rw[afc,S0];rfl
def dn(a:Int):Bool:=decide (-400000000<=a)&&decide (a<=400000000)
theorem Te(a:Int):zt a=some ((dn a,()),()):=by
 rw[afT,jf,Option.bind_some];rfl
theorem SG(a:Int):za a=some ((dn a,()),()):=by
 rw[aeC];unfold dn;by_cases h:a >= -400000000
 ·simp[h]
 ·simp[h]
theorem aeX{a:Int}(h:dn a=true):rG a=some (((a.natAbs:Int),()),()):=by
 simp only[dn,Bool.and_eq_true,decide_eq_true_eq]at h;rw[FI];by_cases h0:a<0
 ·simp only[h0,decide_true,cond_true];rw[cm (by omega) (by omega)];congr 3;omega
 ·simp only[h0,decide_false,cond_false];congr 3;omega
theorem aeW(a:Nat):rG (a:Int)=some (((a:Int),()),()):=by
 rw[FI];have:decide ((a:Int)<0)=false:=by simp
 rw[this,cond_false]
theorem Tj{a:Int}(h:dn a=true):uZ a=some (((a.natAbs:Int),()),()):=by
 simp only[dn,Bool.and_eq_true,decide_eq_true_eq]at h;rw[Ti];rw[cm (by omega) (by omega)];simp only[cond_true];congr 3;split<;>omega
theorem D0:∀(n:Nat) (a b:Int),b.natAbs<=n->0<=a->0<=b->yi a b=some ((((Nat.gcd a.natAbs b.natAbs:Nat):Int),()),())
 | n,a,b,hn,ha,hb=>by
  rw[acV];by_cases h0:b=0
  ·subst h0;simp only[bne_self_eq_false,cond_false];simp;omega
  ·have:(b != 0)=true:=by simpa using h0
   rw[this,cond_true,cond_true];have ax:a.natAbs % b.natAbs<b.natAbs:=Nat.mod_lt _ (by omega);have hm:=Int.natAbs_tmod a b;cases n with
   | zero=>omega
   | succ n =>
    rw[D0 n b (Int.tmod a b) (by omega) hb (Int.tmod_nonneg _ ha),hm];congr 4;rw[Nat.gcd_comm a.natAbs,Nat.gcd_rec b.natAbs a.natAbs,Nat.gcd_comm]
 termination_by n=>n
theorem SP(a:Nat){b:Int}(hb:dn b=true):pv (a:Int) b=some ((((Nat.gcd a b.natAbs:Nat):Int),()),()):=by
 rw[SO,aeW,aeX hb];simp only[Option.bind_some];rw[D0 _ _ _ (Nat.le_refl _) (by omega) (by omega)];simp
def gl(x:List Int)(g:Nat):Nat:=x.foldl (λg y=>Nat.gcd g y.natAbs) g
theorem Vf:∀(x:List Int) (g h:Nat),gl x (Nat.gcd g h)=Nat.gcd (gl x g) h
 | [],_,_=>rfl
 | y::x,g,h=>by
  change gl x (Nat.gcd (Nat.gcd g h) y.natAbs)=Nat.gcd (gl x (Nat.gcd g y.natAbs)) h;rw[show Nat.gcd (Nat.gcd g h) y.natAbs=Nat.gcd (Nat.gcd g y.natAbs) h by rw[Nat.gcd_assoc,Nat.gcd_comm h,<-Nat.gcd_assoc],Vf x]
theorem II(x:List Int)(k:Nat):gl x k=Nat.gcd (gl x 0) k:=by
 rw[<-Vf,Nat.gcd_zero_left]
theorem D7(x:List Int)(i:Int):∀(n:Nat) (a b:Int),b.natAbs<=n->0<=a->0<=b->yC x a i b=rz x ((Nat.gcd a.natAbs b.natAbs:Nat):Int) (IntKind.i64.wrap (i+1))
 | n,a,b,hn,ha,hb=>by
  rw[acZ];by_cases h0:b=0
  ·subst h0;simp only[bne_self_eq_false,cond_false];congr 1;simp;omega
  ·have:(b != 0)=true:=by simpa using h0
   rw[this,cond_true,cond_true];have ax:a.natAbs % b.natAbs<b.natAbs:=Nat.mod_lt _ (by omega);have hm:=Int.natAbs_tmod a b;cases n with
   | zero=>omega
   | succ n =>
    rw[D7 x i n b (Int.tmod a b) (by omega) hb (Int.tmod_nonneg _ ha),hm];congr 2;rw[Nat.gcd_comm a.natAbs,Nat.gcd_rec b.natAbs a.natAbs,Nat.gcd_comm]
 termination_by n=>n
theorem RX(x:List Int)(hl:x.length<=68719476736)(hx:∀y∈x,dn y=true):∀(n i g:Nat),n+i=x.length->rz x (g:Int) (i:Int)=some ((((gl (x.drop i) g:Nat):Int),()),())
 | 0,i,g,hn=>by
  obtain rfl:i=x.length:=by omega
  rw[yB,aZ,List.drop_eq_nil_of_le (by omega)];rfl
 | n+1,i,g,hn=>by
  have hi:i<x.length:=by omega
  rw[yB,aX hi,aG hi,cond_true,Option.bind_some,Tj (hx _ (List.getElem_mem hi)),Option.bind_some,D7 x i _ _ _ (Nat.le_refl _) (Int.natCast_nonneg _) (Int.natCast_nonneg _),aO (by omega),RX x hl hx n (i+1) _ (by omega),List.drop_eq_getElem_cons hi];simp only[Int.natAbs_natCast];rfl
theorem Tn(x:List Int)(k:Int)(hl:x.length<=68719476736)(hx:∀y∈x,dn y=true)(hk:dn k=true):py x k=some ((((gl x k.natAbs:Nat):Int),()),()):=by
 rw[Tm,Tj hk,Option.bind_some];have:=RX x hl hx x.length 0 k.natAbs (by omega);simpa using this
theorem QS(x:List Int)(hl:x.length<=68719476736)(hx:∀y∈x,dn y=true):∀(n i g:Nat),n+i=x.length->um x (g:Int) x (x.length:Int) (i:Int)=some ((((gl (x.drop i) g:Nat):Int),()),())
 | 0,i,g,hn=>by
  obtain rfl:i=x.length:=by omega
  rw[yk,aZ,List.drop_eq_nil_of_le (by omega)];rfl
 | n+1,i,g,hn=>by
  have hi:i<x.length:=by omega
  rw[yk,aX hi,aG hi,cond_true,Option.bind_some,SP _ (hx _ (List.getElem_mem hi)),Option.bind_some,aO (by omega),QS x hl hx n (i+1) _ (by omega),List.drop_eq_getElem_cons hi];rfl
theorem SU(x:List Int)(hl:x.length<=68719476736)(hx:∀y∈x,dn y=true):mS x=some ((((gl x 0:Nat):Int),()),()):=by
 rw[SS];have:=QS x hl hx x.length 0 0 (by omega);simpa using this
def bK(a:aa):Bool := !(decide ((a.1.length:Int)>4))&&(dn a.2.1&&(a.1.all dn&&decide (((gl a.1 a.2.1.natAbs:Nat):Int)<=1)))
theorem rM(a:aa):mV a=some ((bK a,()),()):=by
 rw[afN,Te];unfold bK;cases h:decide ((a.1.length:Int)>4)with
 | true=>rfl
 | false =>
  have hl:a.1.length<=68719476736:=by simp at h;omega
  simp only[cond_false,Option.bind_some,Bool.not_false,Bool.true_and];cases hk:dn a.2.1 with
  | false=>rfl
  | true =>
   simp only[Bool.not_true,cond_false,Bool.true_and];have:=lM a.1 dn (some ((false,()),())) (rm a (a.1.length:Int)) (λi=>rm a i) hl (λi hi=>by
    rw[Rx,aG hi,aO (by omega)];simp only[aX hi,cond_true,Option.bind_some,Te];cases dn a.1[i]<;>rfl) rfl a.1.length 0 (by omega)
   simp only[List.drop_zero,Int.natCast_zero]at this;rw[show rm a 0=_ from this];cases ha:a.1.all dn with
   | false=>rfl
   | true =>
    rw[cond_true,Rx,aZ,cond_false,Tn a.1 _ hl (List.all_eq_true.1 ha) hk];rfl
theorem om(a:aa):kO a=some ((bK a,()),()):=by
 rw[aew,SG];unfold bK;cases h:decide ((a.1.length:Int)>4)with
 | true=>rfl
 | false =>
  have hl:a.1.length<=68719476736:=by simp at h;omega
  simp only[cond_false,Option.bind_some,Bool.not_false,Bool.true_and];cases hk:dn a.2.1 with
  | false=>rfl
  | true =>
   simp only[Bool.not_true,cond_false,Bool.true_and];have:=lM a.1 dn (some ((false,()),())) (q9 a a.1 (a.1.length:Int) (a.1.length:Int)) (λi=>q9 a a.1 (a.1.length:Int) i) hl (λi hi=>by
    rw[Qx,aG hi,aO (by omega)];simp only[aX hi,cond_true,Option.bind_some,SG];cases dn a.1[i]<;>rfl) rfl a.1.length 0 (by omega)
   simp only[List.drop_zero,Int.natCast_zero]at this;rw[show q9 a a.1 (a.1.length:Int) 0=_ from this];cases ha:a.1.all dn with
   | false=>rfl
   | true =>
    rw[cond_true,Qx,aZ,cond_false,SU a.1 hl (List.all_eq_true.1 ha),Option.bind_some,SP _ hk,Option.bind_some,<-II];rfl
def br(c:ab):Bool:=c.2.all (λa=>bK a && !((a.1.length:Int) != c.1))&&(decide (0<=c.1)&&decide (c.1<=4)&&decide ((c.2.length:Int)<=16))
theorem rN(c:ab)(hl:c.2.length<=68719476736):mW c=some ((br c,()),()):=by
 rw[afO];have:=lM c.2 (λa=>bK a && !((a.1.length:Int) != c.1)) (some ((false,()),())) (rq c (c.2.length:Int)) (λi=>rq c i) hl (λi hi=>by
  rw[Ry,aG hi,aO (by omega)];simp only[aX hi,cond_true,Option.bind_some,rM];cases bK c.2[i]<;>cases ((c.2[i].1.length:Int) != c.1)<;>rfl) rfl c.2.length 0 (by omega)
 simp only[List.drop_zero,Int.natCast_zero]at this;rw[show rq c 0=_ from this,Ry,aZ,jf];unfold br;cases c.2.all _<;>cases (decide (0<=c.1)&&decide (c.1<=4))<;>rfl
theorem mP(c:ab):kP c=some ((br c,()),()):=by
 rw[aex];unfold br;by_cases h1:c.1<0
 ·have:¬(0<=c.1):=by omega
  simp[h1,this]
 by_cases h2:c.1>4
 ·have:¬(c.1<=4):=by omega
  simp[h1,h2,this]
 by_cases h3:(c.2.length:Int)>16
 ·have:¬((c.2.length:Int)<=16):=by omega
  simp only[h1,h2,h3,this,decide_false,decide_true,cond_false,cond_true,Bool.and_false]
 ·have e1:0<=c.1:=by omega
  have e2:c.1<=4:=by omega
  have e3:(c.2.length:Int)<=16:=by omega
  simp only[h1,h2,h3,e1,e2,e3,decide_false,decide_true,cond_false,Bool.and_self,Bool.and_true];have:=lM c.2 (λa=>bK a && !((a.1.length:Int) != c.1)) (some ((false,()),())) (some ((true,()),())) (λi=>ub c c.2 (c.2.length:Int) i) (by omega) (λi hi=>by
   rw[Qy,aG hi,aO (by omega)];simp only[aX hi,cond_true,Option.bind_some,om];cases bK c.2[i]<;>cases ((c.2[i].1.length:Int) != c.1)<;>rfl) (by rw[Qy,aZ];rfl) c.2.length 0 (by omega)
  simp only[List.drop_zero,Int.natCast_zero]at this;rw[show ub c c.2 (c.2.length:Int) 0=_ from this];cases c.2.all _<;>rfl
def tu(d:Int)(r:Rw):Bool:=jc r.1 97 122&&(br r.2 && !(r.2.1 != d))
def iW(r:Rel):Bool:=jc r.1 65 90&&(decide (0<=r.2.1)&&decide (r.2.1<=4)&&(decide ((r.2.2.length:Int)<=8)&&r.2.2.all (tu r.2.1)))
theorem Tg(r:Rel)(h:gL r):uX r=some ((iW r,()),()):=by
 obtain⟨h0,hl,hg⟩:=h;rw[afU];have:=lM r.2.2 (tu r.2.1) (some ((false,()),())) (ry r (r.2.2.length:Int)) (λi=>ry r i) hl (λi hi=>by
  have Cf:=hg _ (List.getElem_mem hi);rw[RF,aG hi,aO (by omega)];simp only[aX hi,cond_true,Option.bind_some,Ga _ _ _ Cf.1,rN _ Cf.2.1];unfold tu;cases jc r.2.2[i].1 97 122<;>cases br r.2.2[i].2<;>cases (r.2.2[i].2.1 != r.2.1)<;>rfl) rfl r.2.2.length 0 (by omega)
 simp only[List.drop_zero,Int.natCast_zero]at this;rw[show ry r 0=_ from this,RF,aZ,jf,Ga _ _ _ h0];unfold iW;cases r.2.2.all _<;>cases jc r.1 65 90<;>cases (decide (0<=r.2.1)&&decide (r.2.1<=4))<;>cases decide ((r.2.2.length:Int)<=8)<;>rfl
theorem SH(r:Rel):uK r=some ((iW r,()),()):=by
 rw[aeE,afe];unfold iW;cases jc r.1 65 90 with
 | false=>rfl
 | true =>
  simp only[Option.bind_some,Bool.not_true,cond_false,Bool.true_and];by_cases h1:r.2.1<0
  ·have:¬(0<=r.2.1):=by omega
   simp[h1,this]
  by_cases h2:r.2.1>4
  ·have:¬(r.2.1<=4):=by omega
   simp[h1,h2,this]
  by_cases h3:(r.2.2.length:Int)>8
  ·have:¬((r.2.2.length:Int)<=8):=by omega
   simp only[h1,h2,h3,this,decide_false,decide_true,cond_false,cond_true,Bool.and_false,Bool.false_and]
  ·have e1:0<=r.2.1:=by omega
   have e2:r.2.1<=4:=by omega
   have e3:(r.2.2.length:Int)<=8:=by omega
   simp only[h1,h2,h3,e1,e2,e3,decide_false,decide_true,cond_false,Bool.and_self,Bool.true_and];have:=lM r.2.2 (tu r.2.1) (some ((false,()),())) (some ((true,()),())) (λi=>uf r r.2.2 (r.2.2.length:Int) i) (by omega) (λi hi=>by
    rw[QE,aG hi,aO (by omega)];simp only[aX hi,cond_true,Option.bind_some,SZ,mP];unfold tu;cases jc r.2.2[i].1 97 122<;>cases br r.2.2[i].2<;>cases (r.2.2[i].2.1 != r.2.1)<;>rfl) (by rw[QE,aZ];rfl) r.2.2.length 0 (by omega)
   simp only[List.drop_zero,Int.natCast_zero]at this;rw[show uf r r.2.2 (r.2.2.length:Int) 0=_ from this];cases r.2.2.all _<;>rfl
def named(n:ByteArray)(r:Rel):Bool:=r.1.toList==n.toList
theorem FZ(x:List Rel)(n:ByteArray)(hl:x.length<=68719476736):px x n=some ((dj (named n) x,()),()):=by
 rw[afI];exact IA x (named n) (λi=>some ((i,()),())) (λi=>yq x n i) (λi hi=>by
  rw[Ro,aG hi,aO (by omega)];simp only[aX hi,cond_true,Option.bind_some];rfl) (by rw[Ro,aZ];rfl) x.length 0 (by omega) (λj _ h=>by omega)
theorem FA(x:List Rel)(n:ByteArray)(hl:x.length<=68719476736):rE x n=some ((dj (named n) x,()),()):=by
 rw[aer];exact IA x (named n) (λi=>some ((i,()),())) (λi=>yd x n x (x.length:Int) i) (λi hi=>by
  rw[Qv,aG hi,aO (by omega)];simp only[aX hi,cond_true,Option.bind_some];rfl) (by rw[Qv,aZ];rfl) x.length 0 (by omega) (λj _ h=>by omega)
theorem ah8(p:α->Bool)(x:List α)(i:Nat)(hi:i<x.length)(hp:p x[i]=true):decide (dj p (x.take i)>=0)=(dj p x != (i:Int)):=by
 have h1:x.findIdx p<=i:=Nat.le_of_not_lt λh=>by
  have:=List.not_of_lt_findIdx h;rw[hp]at this;cases this
 have h2:(x.take i).findIdx p=min i (x.findIdx p):=List.findIdx_take;have h3:(x.take i).length=i:=by simp;omega
 unfold dj;rw[h2,h3,if_pos (by omega:x.findIdx p<x.length)];by_cases h:x.findIdx p=i
 ·rw[if_neg (by omega),h];simp
 ·rw[if_pos (by omega)];have e1:((x.findIdx p:Nat):Int)≠(i:Int):=by omega
  have e2:((min i (x.findIdx p):Nat):Int)>=0:=by omega
  simp[e1,e2]
def oo(p:Nat->Bool):Nat->Nat->Bool
 | 0,_=>true
 | n+1,i=>p i&&oo p n (i+1)
theorem JG(l:Nat)(p:Nat->Bool)(F E:Option R)(f:Int->Option R)
  (h1:∀(i:Nat),i<l->f (i:Int)=bif p i then f ((i+1:Nat):Int)else F) (h2:f (l:Int)=E) :
  ∀(n i:Nat),n+i=l->f (i:Int)=bif oo p n i then E else F
 | 0,i,hn=>by
  obtain rfl:i=l:=by omega
  rw[h2];rfl
 | n+1,i,hn=>by
  rw[h1 i (by omega),JG l p F E f h1 h2 n (i+1) (by omega)];cases h:p i<;>simp[oo,h]
def oy(x:List Rel)(i:Nat):Bool:=match x[i]? with
 | some r=>iW r && !(decide (dj (named r.1) (x.take i)>=0))
 | none=>true
def iC(x:List Rel):Bool:=oo (oy x) x.length 0&&decide ((x.length:Int)<=6)
theorem afQ(x:List Rel)(h:x.length<=68719476736/\∀a∈x,gL a):zr x=some ((iC x,()),()):=by
 obtain⟨hl,hg⟩:=h;rw[afP];have:=JG x.length (oy x) (some ((false,()),())) (rr x (x.length:Int)) (λi=>rr x i) (λi hi=>by
  rw[Rz,aG hi,aO (by omega)];have e:(decide ((0:Int)<=(i:Int))&&decide ((i:Int)<=(x.length:Int)))=true:=by simp;omega
  have e2:px (List.drop (Int.toNat 0) (List.take ((i:Int)).toNat x)) x[i].1=some ((dj (named x[i].1) (x.take i),()),()):=by
   have:List.drop (Int.toNat 0) (List.take ((i:Int)).toNat x)=x.take i:=by simp
   rw[this];exact FZ _ _ (by simp;omega)
  have e0:(decide (0<=0)&&decide ((0:Int)<=(i:Int))&&decide ((i:Int)<=(x.length:Int)))=true:=by simp;omega
  simp only[aX hi,cond_true,Option.bind_some,Tg _ (hg _ (List.getElem_mem hi)),e2];rw[e0];unfold oy;rw[List.getElem?_eq_getElem hi];simp only[];cases iW x[i]<;>cases decide (dj (named x[i].1) (x.take i)>=0)<;>rfl) rfl x.length 0 (by omega)
 simp only[Int.natCast_zero]at this;rw[show rr x 0=_ from this,Rz,aZ];unfold iC;cases oo (oy x) x.length 0<;>rfl
theorem aez(x:List Rel):y7 x=some ((iC x,()),()):=by
 rw[aey];unfold iC;by_cases h:(x.length:Int)>6
 ·have:¬((x.length:Int)<=6):=by omega
  simp only[h,this,decide_true,decide_false,cond_true,Bool.and_false]
 ·have e:(x.length:Int)<=6:=by omega
  simp only[h,e,decide_true,decide_false,cond_false,Bool.and_true];have:=JG x.length (oy x) (some ((false,()),())) (some ((true,()),())) (λi=>uc x x (x.length:Int) i) (λi hi=>by
   rw[Qz,aG hi,aO (by omega)];simp only[aX hi,cond_true,Option.bind_some,SH,FA _ _ (show x.length<=68719476736 by omega)];unfold oy;rw[List.getElem?_eq_getElem hi];simp only[];rw[ah8 _ x i hi (by simp[named])];cases iW x[i]<;>cases (dj (named x[i].1) x != (i:Int))<;>rfl) (by rw[Qz,aZ];rfl) x.length 0 (by omega)
  simp only[Int.natCast_zero]at this;rw[show uc x x (x.length:Int) 0=_ from this];cases oo (oy x) x.length 0<;>rfl
theorem UH(p:α->Bool)(x:List α):(decide (dj p x<0)=true)\/(decide (dj p x<0)=false/\∃y,ae x (dj p x)=some y):=by
 unfold dj;by_cases h:x.findIdx p<x.length
 ·right;rw[if_pos h];refine⟨by simp,x[x.findIdx p],aG h⟩
 ·left;rw[if_neg h];decide
def emp(x:ByteArray):Bool:=x.toList==(ByteArray.mk #[]).toList
def pf(a:aa):Bool:=((a.1.length:Int)==0)&&((a.2.1==0) && !a.2.2)
def c8(v:Int):Bool:=decide (0<=v)&&decide (v<=3)
def CS(n:al):Bool:=emp n.2.2.1&&(emp n.2.2.2.1 && !decide ((n.2.2.2.2.1.length:Int)>0))
def JY(x:ByteArray):Bool:=emp x||jc x 97 122
def o3(db:List Rel)(n:al):Bool:=(n.2.2.2.2.1.all c8)&&(!decide (dj (named n.2.2.1) db<0)&&(match ae db (dj (named n.2.2.1) db)with
 | some r=>(r.2.1==(n.2.2.2.2.1.length:Int))&&JY n.2.2.2.1
 | none=>false))
theorem agy(a:aa):F7 a=some ((pf a,()),()):=by
 rw[agx];unfold pf;generalize ((a.1.length:Int)==0)=b1;generalize (a.2.1==0)=b2;cases b1<;>cases b2<;>rfl
theorem afi(a:aa):FO a=some ((pf a,()),()):=by
 rw[afh];unfold pf;generalize ((a.1.length:Int)==0)=b1;generalize (a.2.1==0)=b2;cases b1<;>cases b2<;>rfl
theorem FN(v:Int):uS v=some ((c8 v,()),()):=by
 rw[aff];unfold c8;by_cases h:v>=0
 ·have:(v<4)=(v<=3):=by apply propext;omega
  simp[h,this]
 ·have:¬0<=v:=by omega
  simp[h]
theorem ac0(db:List Rel)(n:al)(hb:zN n<=68719476736):rD db n (dj (named n.2.2.1) db) 0=some ((o3 db n,()),()):=by
 have hz:zN n=zA n.2.1+zB n.2.2.1+zB n.2.2.2.1+zI n.2.2.2.2.1:=rfl;have:=BA n.2.2.2.2.1 c8 (some ((false,()),())) (rD db n (dj (named n.2.2.1) db) (n.2.2.2.2.1.length:Int)) (λi=>rD db n (dj (named n.2.2.1) db) i) (by unfold zI at hz;omega) (λi hi=>by
  rw[Sb,aG hi,aX hi,aO (by unfold zI at hz;omega)];simp only[cond_true,Option.bind_some,jf];change (bif !c8 _ then _ else _)=_;cases c8 n.2.2.2.2.1[i]<;>rfl) rfl
 rw[this,Sb,aZ,cond_false];unfold o3;have hd:decide (dj (named n.2.2.1) db>=0) = !decide (dj (named n.2.2.1) db<0):=by
  by_cases h:dj (named n.2.2.1) db<0
  ·have:¬dj (named n.2.2.1) db>=0:=by omega
   simp[h]
  ·have:dj (named n.2.2.1) db>=0:=by omega
   simp[h,this]
 rw[hd,Ga _ _ _ (by unfold zB at hz;omega)];cases n.2.2.2.2.1.all c8 with
 | false=>rfl
 | true =>
  rcases UH (named n.2.2.1) db with h|⟨h,r,hr⟩
  ·rw[h];rfl
  ·rw[h,hr];simp only[Bool.not_false,cond_true,Option.bind_some,Bool.true_and];unfold JY emp;generalize (r.2.1==(n.2.2.2.2.1.length:Int))=b1;generalize (ByteArray.toList n.2.2.2.1==(ByteArray.mk #[]).toList)=b2;cases b1<;>cases b2<;>rfl
def iR(db:List Rel)(n:al):Bool:=bif n.1==0 then bK n.2.1&&((n.2.1.1.length:Int)==4)else bif n.1==1 then o3 db n else (decide (2<=n.1)&&decide (n.1<=6))&&c8 n.2.2.2.2.2.1
theorem acL(db:List Rel)(n:al)(hd:db.length<=68719476736)(hb:zN n<=68719476736):fu db n=some ((iR db n,()),()):=by
 rw[acK,rM,FZ _ _ hd];simp only[Option.bind_some,ac0 db n hb,jf];unfold iR c8;generalize (n.1==0)=b0;generalize (n.1==1)=b1;generalize (bK n.2.1)=b2;generalize (decide (2<=n.1)&&decide (n.1<=6))=b3;cases b0<;>cases b1<;>cases b2<;>cases b3<;>rfl
def gV(n:al):Bool:=((n.1==3||n.1==4)||n.2.2.2.2.2.2.2==0)&&(!decide (n.1<=1)||n.2.2.2.2.2.2.1==0)
def qP(n:al):Bool:=(n.1==5||n.1==6)||n.2.2.2.2.2.1==0
theorem acJ(db:List Rel)(n:al)(hd:db.length<=68719476736)(hb:zN n<=68719476736):q5 db n=some ((qP n&&(gV n&&iR db n),()),()):=by
 rw[acI,acL db n hd hb];unfold qP gV;simp only[bne];generalize (n.1==5)=b5;generalize (n.1==6)=b6;generalize (n.1==3)=b3;generalize (n.1==4)=b4;generalize (decide (n.1<=1))=b1;generalize (n.2.2.2.2.2.1==0)=c1;generalize (n.2.2.2.2.2.2.1==0)=c2;generalize (n.2.2.2.2.2.2.2==0)=c3;cases b5<;>cases b6<;>cases b3<;>cases b4<;>cases b1<;>cases c1<;>cases c2<;>cases c3<;>rfl
def dS(db:List Rel)(n:al):Bool:=(n.1==0||pf n.2.1)&&((n.1==1||CS n)&&(qP n&&(gV n&&iR db n)))
theorem agA(db:List Rel)(n:al)(hd:db.length<=68719476736)(hb:zN n<=68719476736):zK db n=some ((dS db n,()),()):=by
 rw[agz,acJ db n hd hb,agy];unfold dS CS emp;simp only[bne,Option.bind_some];generalize (n.1==0)=b0;generalize (n.1==1)=b1;generalize pf n.2.1=b2;generalize (ByteArray.toList n.2.2.1==(ByteArray.mk #[]).toList)=b3;generalize (ByteArray.toList n.2.2.2.1==(ByteArray.mk #[]).toList)=b4;generalize (decide ((n.2.2.2.2.1.length:Int)>0))=b5;generalize (qP n&&(gV n&&iR db n))=b6;cases b0<;>cases b1<;>cases b2<;>cases b3<;>cases b4<;>cases b5<;>rfl
theorem acB(n:al)(hb:n.2.2.2.2.1.length<=68719476736):xV n=some ((n.2.2.2.2.1.all c8,()),()):=by
 rw[acA];have:=BA n.2.2.2.2.1 c8 (some ((false,()),())) (some ((true,()),())) (λi=>yl n n.2.2.2.2.1 (n.2.2.2.2.1.length:Int) i) hb (λi hi=>by
  rw[QT,aG hi,aX hi,aO (by omega)];simp only[cond_true,Option.bind_some,FN];cases c8 n.2.2.2.2.1[i]<;>rfl) (by rw[QT,aZ];rfl)
 rw[this];cases n.2.2.2.2.1.all c8<;>rfl
def sW(db:List Rel)(n:al):Bool:=bif n.1==0 then (n.2.2.2.2.2.1==0)&&(bK n.2.1&&((n.2.1.1.length:Int)==4))else bif n.1==1 then (n.2.2.2.2.2.1==0)&&o3 db n else bif n.1==5||n.1==6 then c8 n.2.2.2.2.2.1 else n.2.2.2.2.2.1==0
theorem acE(db:List Rel)(n:al)(hd:db.length<=68719476736)(hb:zN n<=68719476736):xW db n=some ((sW db n,()),()):=by
 have hz:zN n=zA n.2.1+zB n.2.2.1+zB n.2.2.2.1+zI n.2.2.2.2.1:=rfl;rw[acD,om,FA _ _ hd,SZ,acB n (by unfold zI at hz;omega),Pk,Pk,FN];simp only[Option.bind_some,bne];unfold sW o3 JY emp;rcases UH (named n.2.2.1) db with h|⟨h,r,hr⟩
 ·rw[h];generalize (n.1==0)=b0;generalize (n.1==1)=b1;generalize (n.1==5)=b5;generalize (n.1==6)=b6;generalize (n.2.2.2.2.2.1==0)=c1;generalize (bK n.2.1)=b2;generalize (n.2.2.2.2.1.all c8)=b3;cases b0<;>cases b1<;>cases b5<;>cases b6<;>cases c1<;>cases b2<;>cases b3<;>rfl
 ·rw[h,hr];simp only[Option.bind_some];generalize (n.1==0)=b0;generalize (n.1==1)=b1;generalize (n.1==5)=b5;generalize (n.1==6)=b6;generalize (n.2.2.2.2.2.1==0)=c1;generalize (bK n.2.1)=b2;generalize (n.2.2.2.2.1.all c8)=b3;generalize (r.2.1==(n.2.2.2.2.1.length:Int))=c2;generalize (ByteArray.toList n.2.2.2.1==(ByteArray.mk #[]).toList)=c3;generalize jc n.2.2.2.1 97 122=c4;cases b0<;>cases b1<;>cases b5<;>cases b6<;>cases c1<;>cases b2<;>cases b3<;>cases c2<;>cases c3<;>cases c4<;>rfl
def vC(db:List Rel)(n:al):Bool:=(n.1==0||pf n.2.1)&&((n.1==1||CS n)&&sW db n)
theorem ae7(db:List Rel)(n:al)(hd:db.length<=68719476736)(hb:zN n<=68719476736):zg db n=some ((vC db n,()),()):=by
 rw[ae6,acC,acE db n hd hb,afi];unfold vC CS emp;simp only[bne,Option.bind_some];generalize (n.1==0)=b0;generalize (n.1==1)=b1;generalize pf n.2.1=b2;generalize (ByteArray.toList n.2.2.1==(ByteArray.mk #[]).toList)=b3;generalize (ByteArray.toList n.2.2.2.1==(ByteArray.mk #[]).toList)=b4;generalize (decide ((n.2.2.2.2.1.length:Int)>0))=b5;generalize sW db n=b6;cases b0<;>cases b1<;>cases b2<;>cases b3<;>cases b4<;>cases b5<;>rfl
theorem Kt(db:List Rel)(n:al):dS db n=(vC db n&&(gV n&&(decide (0<=n.1)&&decide (n.1<=6)))):=by
 unfold dS vC;have key:(qP n&&(gV n&&iR db n))=(sW db n&&(gV n&&(decide (0<=n.1)&&decide (n.1<=6)))):=by
  unfold qP iR sW;by_cases h0:n.1=0
  ·rw[h0];cases (n.2.2.2.2.2.1==0)<;>cases gV n<;>cases (bK n.2.1&&((n.2.1.1.length:Int)==4))<;>rfl
  by_cases h1:n.1=1
  ·rw[h1];cases (n.2.2.2.2.2.1==0)<;>cases gV n<;>cases o3 db n<;>rfl
  by_cases h2:2<=n.1/\n.1<=6
  ·have e0:(n.1==0)=false:=by simpa using h0
   have e1:(n.1==1)=false:=by simpa using h1
   have e2:decide (2<=n.1)=true:=by simp[h2.1]
   have e3:decide (n.1<=6)=true:=by simp[h2.2]
   have e4:decide (0<=n.1)=true:=by simp;omega
   rw[e0,e1,e2,e3,e4];by_cases h5:n.2.2.2.2.2.1=0
   ·rw[h5];cases (n.1==5)<;>cases (n.1==6)<;>cases gV n<;>rfl
   ·have e5:(n.2.2.2.2.2.1==0)=false:=by simpa using h5
    rw[e5];cases (n.1==5)<;>cases (n.1==6)<;>cases gV n<;>cases c8 n.2.2.2.2.2.1<;>rfl
  ·have e0:(n.1==0)=false:=by simpa using h0
   have e1:(n.1==1)=false:=by simpa using h1
   have e2:(decide (2<=n.1)&&decide (n.1<=6))=false:=by
    rw[Bool.and_eq_false_iff];by_cases h:2<=n.1
    ·right;simp;omega
    ·left;simp;omega
   have e3:(decide (0<=n.1)&&decide (n.1<=6))=false:=by
    rw[Bool.and_eq_false_iff];by_cases h:0<=n.1
    ·right;simp;omega
    ·left;simp;omega
   rw[e0,e1,e2,e3];simp
 rw[key];simp only[Bool.and_assoc]
def ar(k:Int):Nat:=bif k==3||k==4 then 2 else bif decide (k>1)then 1 else 0
def eA(n:al)(i:Int)(T:List Int):Option (List Int):=match ar n.1,T with
 | 0,T=>some (i::T)
 | 1,r::T=>bif r==n.2.2.2.2.2.2.1 then some (i::T)else none
 | 2,r::s::T=>bif r==n.2.2.2.2.2.2.2 then bif s==n.2.2.2.2.2.2.1 then some (i::T)else none else none
 | _,_=>none
def jT(db:List Rel):List al->Int->List Int->Bool
 | [],_,T=>(T.length:Int)==1
 | n::l,i,T=>bif dS db n then (match eA n i T with
  | some T'=>jT db l (i+1) T'
  | none=>false)else false
theorem TK(k:Int):ar k=0\/ar k=1\/ar k=2:=by
 unfold ar;cases (k==3||k==4)<;>cases decide (k>1)<;>simp
theorem aiu(x:List α){i:Int}(h:i<0):ae x i=none:=by
 unfold ae;rw[if_neg (by omega)]
theorem ns(x:List α){i:Int}(j:Nat)(h:i=(j:Int))(hj:j<x.length):ae x i=some x[j]:=by
 subst h;exact aG hj
theorem Vd(T:List α)(r:α):ae (r::T).reverse (((r::T).reverse.length:Int) - 1)=some r:=by
 rw[ns _ T.length (by simp) (by simp)];simp
theorem ais(T:List α)(r s:α):ae (r::s::T).reverse (((r::s::T).reverse.length:Int) - 2)=some s:=by
 rw[ns _ T.length (by simp<;>omega) (by simp<;>omega)];simp[List.getElem_append]
theorem DP(db:List Rel)(f:List al)(T U:List Int)(i:Nat)(m:Nat)(hi:i<=1000000)(hT:(U.reverse++T.reverse).length<=1000000)(hm:U.length=m):
  oi db f (T.reverse++U.reverse) (i:Int) (m:Int) ((T.reverse++U.reverse).length:Int)=ru db f ((i:Int)::T).reverse ((i+1:Nat):Int):=by
 have hl:(T.reverse++U.reverse).length=T.length+m:=by simp[hm]
 have hle:T.length+m<=1000000:=by simp at hT;omega
 rw[acH,hl,cm (by omega) (by omega)];have e1:((T.length+m:Nat):Int) - (m:Int)=(T.length:Int):=by omega
 rw[e1,aO (by omega)];have e2:(List.drop (Int.toNat 0) (List.take (Int.toNat (T.length:Int)) (T.reverse++U.reverse)))=T.reverse:=by
  rw[Int.toNat_natCast];simp
 rw[e2];have d1:decide ((0:Int)<=(T.length:Int))=true:=by simp
 have d2:decide ((T.length:Int)<=((T.length+m:Nat):Int))=true:=decide_eq_true (by omega);have d3:decide ((0+T.reverse.length)*8<=140737488355328)=true:=by simp;omega
 have d4:decide ((T.reverse.length+1)*8<=140737488355328)=true:=by simp;omega
 rw[d1,d2,d3,d4];simp
theorem acG(db:List Rel)(f:List al)(T:List Int)(i:Nat)(h:i<f.length)(hl:f.length<=1000000)(hT:T.length<=i):
  kM db f T.reverse (i:Int) ((ar f[i].1:Nat):Int)=match eA f[i] i T with
   | some T'=>ru db f T'.reverse ((i+1:Nat):Int)
   | none=>some ((false,()),()):=by
 rw[acF];unfold eA;rcases TK f[i].1 with hm|hm|hm
 ·rw[hm];have d:decide ((T.reverse.length:Int)<((0:Nat):Int))=false:=by simp
  have:=DP db f T [] i 0 (by omega) (by simp;omega) rfl;simp only[List.reverse_nil,List.append_nil]at this;rw[d];exact this
 ·rw[hm];cases T with
  | nil=>rfl
  | cons r T =>
   have d:decide (((r::T).reverse.length:Int)<((1:Nat):Int))=false:=decide_eq_false (by simp only[List.length_reverse,List.length_cons];omega);have hw:IntKind.i64.wrap (((r::T).reverse.length:Int) - 1)=((r::T).reverse.length:Int) - 1:=cm (by simp only[List.length_reverse,List.length_cons];omega) (by simp only[List.length_reverse,List.length_cons]at hT ⊢;omega);have:=DP db f T [r] i 1 (by omega) (by simp only[List.length_append,List.length_reverse,List.length_cons,List.length_nil]at hT ⊢;omega) rfl;rw[show T.reverse++[r].reverse=(r::T).reverse by simp]at this;rw[d,hw,Vd,aG h];simp only[cond_false,Option.bind_some];change (bif r != f[i].2.2.2.2.2.2.1 then _ else oi db f (r::T).reverse (i:Int) ((1:Nat):Int) ((r::T).reverse.length:Int))=_;rw[this];simp only[bne];cases (r==f[i].2.2.2.2.2.2.1)<;>rfl
 ·rw[hm]
  match T,hT with
  | [],_=>rfl
  | [r],_=>rfl
  | r::s::T,hT =>
   have d:decide (((r::s::T).reverse.length:Int)<((2:Nat):Int))=false:=decide_eq_false (by simp only[List.length_reverse,List.length_cons];omega);have hw:IntKind.i64.wrap (((r::s::T).reverse.length:Int) - 1)=((r::s::T).reverse.length:Int) - 1:=cm (by simp only[List.length_reverse,List.length_cons];omega) (by simp only[List.length_reverse,List.length_cons]at hT ⊢;omega);have hw2:IntKind.i64.wrap (((r::s::T).reverse.length:Int) - 2)=((r::s::T).reverse.length:Int) - 2:=cm (by simp only[List.length_reverse,List.length_cons];omega) (by simp only[List.length_reverse,List.length_cons]at hT ⊢;omega);have:=DP db f T [r,s] i 2 (by omega) (by simp only[List.length_append,List.length_reverse,List.length_cons,List.length_nil]at hT ⊢;omega) rfl;rw[show T.reverse++[r,s].reverse=(r::s::T).reverse by simp]at this;rw[d,hw,hw2,Vd,ais,aG h];simp only[cond_false,Option.bind_some];change (bif r != f[i].2.2.2.2.2.2.2 then _ else bif s != f[i].2.2.2.2.2.2.1 then _ else oi db f (r::s::T).reverse (i:Int) ((2:Nat):Int) ((r::s::T).reverse.length:Int))=_;rw[this];simp only[bne];cases (r==f[i].2.2.2.2.2.2.2)<;>cases (s==f[i].2.2.2.2.2.2.1)<;>rfl
theorem aoe{n:al}{i:Int}{T T':List Int}(h:eA n i T=some T'):T'.length<=T.length+1:=by
 unfold eA at h;split at h
 ·injection h with h;subst h;simp
 ·rename_i r T0 _;cases hc:(r==n.2.2.2.2.2.2.1)with
  | true=>rw[hc]at h;injection h with h;subst h;simp
  | false=>rw[hc]at h;cases h
 ·rename_i r s T0 _;cases hc:(r==n.2.2.2.2.2.2.2)with
  | true =>
   rw[hc]at h;cases hs:(s==n.2.2.2.2.2.2.1)with
   | true=>rw[hs]at h;injection h with h;subst h;simp
   | false=>rw[hs]at h;cases h
  | false=>rw[hc]at h;cases h
 ·cases h
theorem RD(db:List Rel)(f:List al)(hd:db.length<=68719476736)(hf:∀n∈f,zN n<=68719476736)(hl:f.length<=1000000):
  ∀(n i:Nat) (T:List Int),n+i=f.length->T.length<=i->ru db f T.reverse (i:Int)=some ((jT db (f.drop i) i T,()),())
 | 0,i,T,hn,hT=>by
  obtain rfl:i=f.length:=by omega
  rw[RC,aZ,List.drop_eq_nil_of_le (by omega),List.length_reverse];rfl
 | n+1,i,T,hn,hT=>by
  have hi:i<f.length:=by omega
  rw[RC,aX hi,aG hi,List.drop_eq_getElem_cons hi];simp only[cond_true,Option.bind_some,agA db _ hd (hf _ (List.getElem_mem hi))];unfold jT;cases dS db f[i]with
  | false=>rfl
  | true =>
   simp only[Bool.not_true,cond_false,cond_true];have e:(bif f[i].1==3 then kM db f T.reverse (i:Int) 2 else bif f[i].1==4 then kM db f T.reverse (i:Int) 2 else bif decide (f[i].1>1)then kM db f T.reverse (i:Int) 1 else kM db f T.reverse (i:Int) 0)=kM db f T.reverse (i:Int) ((ar f[i].1:Nat):Int):=by
    unfold ar;cases (f[i].1==3)<;>cases (f[i].1==4)<;>cases decide (f[i].1>1)<;>rfl
   rw[e,acG db f T i hi hl hT];cases hs:eA f[i] (i:Int) T with
   | none=>rfl
   | some T' =>
    have:=aoe hs;simp only[];rw[RD db f hd hf hl n (i+1) T' (by omega) (by omega)];simp
def ft(st:List Int):List Int->Int->Prop
 | [],nx=>nx = -1
 | r::T,nx=>r=nx/\∃(j:Nat) (v:Int),r=(j:Int)/\st[j]?=some v/\0<=v/\v<=r/\ft st T (v - 1)
theorem ft.set{st:List Int}{i:Nat}{v:Int}:∀{T:List Int} {nx:Int},ft st T nx->nx<i->ft (st.set i v) T nx
 | [],nx,h,_=>h
 | r::T,nx,h,hi=>by
  simp only[ft]at h ⊢;obtain⟨h1,j,w,h2,h3,h4,h5,h6⟩:=h;refine⟨h1,j,w,h2,?_,h4,h5,ft.set h6 (by omega)⟩;rw[List.getElem?_set_ne (by omega)];exact h3
theorem aft(k:Int):FU k=some ((bif k==0||k==1 then 0 else bif k==2||(k==5||k==6)then 1 else bif k==3||k==4 then 2 else -1,()),()):=by
 rw[afs];cases (k==0)<;>cases (k==1)<;>cases (k==2)<;>cases (k==5)<;>cases (k==6)<;>cases (k==3)<;>cases (k==4)<;>rfl
theorem anv(x:α)(k:α->Option β):(some x).bind k=k x:=rfl
theorem QB(db:List Rel)(f:List al)(hd:db.length<=68719476736)(hf:∀n∈f,zN n<=68719476736)(hl:f.length<=1000000)(h0:f.length≠0):
  ∀(n i:Nat) (st T:List Int),n+i=f.length->st.length=f.length->ft st T ((i:Int) - 1)->ud db f st f (f.length:Int) (i:Int)=some ((jT db (f.drop i) i T,()),())
 | 0,i,st,T,hn,a7,hT=>by
  obtain rfl:i=f.length:=by omega
  rw[QA,aZ,List.drop_eq_nil_of_le (by omega),cm (by omega) (by omega)];cases T with
  | nil=>simp only[ft]at hT;omega
  | cons r T =>
   simp only[ft]at hT;obtain⟨h1,j,v,h2,h3,h4,h5,h6⟩:=hT;obtain⟨hj,h3⟩:=List.getElem?_eq_some_iff.1 h3;rw[ns (i:=(f.length:Int) - 1) st j (by omega) hj,h3];simp only[cond_false,Option.bind_some,jT];congr 3;cases T with
   | nil =>
    simp only[ft]at h6;have:v=0:=by omega
    simp[this]
   | cons s T =>
    simp only[ft]at h6;have:v≠0:=by omega
    have e1:(v==0)=false:=by simpa using this
    have e2:(((r::s::T).length:Int)==1)=false:=by simp;omega
    rw[e1,e2]
 | n+1,i,st,T,hn,a7,hT=>by
  have hi:i<f.length:=by omega
  have oP:i<st.length:=by omega
  have hw:IntKind.i64.wrap ((i:Int) - 1)=(i:Int) - 1:=cm (by omega) (by omega);rw[QA,aX hi,aG hi,List.drop_eq_getElem_cons hi,aG oP,hw];simp only[cond_true,Option.bind_some,ae7 db _ hd (hf _ (List.getElem_mem hi)),aft,acz,aO (show i<=1000000000000 by omega),anv,Int.toNat_natCast];unfold jT;rw[Kt];generalize hN:f[i]=N;cases vC db N with
  | false=>rfl
  | true =>
   simp only[Bool.not_true,cond_false,Bool.true_and];have pX:∀(v:Int) (T':List Int),0<=v->v<=(i:Int)->ft st T' (v - 1)->v - 1<(i:Int)->ud db f (st.set i v) f (f.length:Int) ((i+1:Nat):Int)=some ((jT db (f.drop (i+1)) ((i+1:Nat):Int) ((i:Int)::T'),()),()):=by
    intro v T' Jw hv hc ax;refine QB db f hd hf hl h0 n (i+1) _ _ (by omega) (by simpa using a7) ?_;simp only[ft];refine⟨by omega,i,v,rfl,by simp[oP],Jw,hv,hc.set ax⟩
   have aiP:((i:Int)+1)=((i+1:Nat):Int):=by omega
   rw[aiP];by_cases sZ:N.1=0\/N.1=1
   ·have e1:(N.1==0||N.1==1)=true:=by simpa using sZ
    have e2:ar N.1=0:=by rcases sZ with h|h<;>rw[h]<;>rfl
    have e3:((N.1==3||N.1==4)||N.2.2.2.2.2.2.2==0)=(N.2.2.2.2.2.2.2==0):=by rcases sZ with h|h<;>rw[h]<;>rfl
    have e4:decide (N.1<=1)=true:=by rcases sZ with h|h<;>rw[h]<;>rfl
    have e5:(decide (0<=N.1)&&decide (N.1<=6))=true:=by rcases sZ with h|h<;>rw[h]<;>rfl
    have e6:eA N (i:Int) T=some ((i:Int)::T):=by unfold eA;rw[e2];rfl
    unfold gV;rw[e1,e3,e4,e5,e6,pX (i:Int) T (by omega) (by omega) hT (by omega)];simp only[bne];cases (N.2.2.2.2.2.2.1==0)<;>cases (N.2.2.2.2.2.2.2==0)<;>rfl
   ·by_cases k1:N.1=2\/N.1=5\/N.1=6
    ·have e0:(N.1==0||N.1==1)=false:=by rcases k1 with h|h|h<;>rw[h]<;>rfl
     have e1:(N.1==2||(N.1==5||N.1==6))=true:=by rcases k1 with h|h|h<;>rw[h]<;>rfl
     have e2:ar N.1=1:=by rcases k1 with h|h|h<;>rw[h]<;>rfl
     have e3:((N.1==3||N.1==4)||N.2.2.2.2.2.2.2==0)=(N.2.2.2.2.2.2.2==0):=by rcases k1 with h|h|h<;>rw[h]<;>rfl
     have e4:decide (N.1<=1)=false:=by rcases k1 with h|h|h<;>rw[h]<;>rfl
     have e5:(decide (0<=N.1)&&decide (N.1<=6))=true:=by rcases k1 with h|h|h<;>rw[h]<;>rfl
     unfold gV;rw[e0,e1,e3,e4,e5];cases T with
     | nil =>
      simp only[ft]at hT;have ei:((i:Int)==0)=true:=by simp;omega
      have e6:eA N (i:Int) []=none:=by unfold eA;rw[e2];rfl
      rw[ei,e6];cases (N.2.2.2.2.2.2.2==0)<;>rfl
     | cons r T =>
      simp only[ft]at hT;obtain⟨h1,j,v,h2,h3,h4,h5,h6⟩:=hT;obtain⟨hj,h3⟩:=List.getElem?_eq_some_iff.1 h3;have ei:((i:Int)==0)=false:=by simp;omega
      have e6:eA N (i:Int) (r::T)=bif r==N.2.2.2.2.2.2.1 then some ((i:Int)::T)else none:=by unfold eA;rw[e2];rfl
      have e7:(N.2.2.2.2.2.2.1==(i:Int) - 1)=(r==N.2.2.2.2.2.2.1):=by rw[<-h1,Bool.eq_iff_iff];simp only[beq_iff_eq];exact eq_comm
      rw[ei,e6,ns (i:=(i:Int) - 1) st j (by omega) hj,h3];simp only[bne,e7,Option.bind_some];rw[pX v T h4 (by omega) h6 (by omega)];cases (N.2.2.2.2.2.2.2==0)<;>cases (r==N.2.2.2.2.2.2.1)<;>rfl
    ·by_cases k2:N.1=3\/N.1=4
     ·have e0:(N.1==0||N.1==1)=false:=by rcases k2 with h|h<;>rw[h]<;>rfl
      have e1:(N.1==2||(N.1==5||N.1==6))=false:=by rcases k2 with h|h<;>rw[h]<;>rfl
      have e2:ar N.1=2:=by rcases k2 with h|h<;>rw[h]<;>rfl
      have e3:(N.1==3||N.1==4)=true:=by rcases k2 with h|h<;>rw[h]<;>rfl
      have e4:decide (N.1<=1)=false:=by rcases k2 with h|h<;>rw[h]<;>rfl
      have e5:(decide (0<=N.1)&&decide (N.1<=6))=true:=by rcases k2 with h|h<;>rw[h]<;>rfl
      unfold gV;rw[e0,e1,e3,e4,e5];cases T with
      | nil =>
       simp only[ft]at hT;have ei:((i:Int)==0)=true:=by simp;omega
       have e6:eA N (i:Int) []=none:=by unfold eA;rw[e2];rfl
       rw[ei,e6];rfl
      | cons r T =>
       simp only[ft]at hT;obtain⟨h1,j,v,h2,h3,h4,h5,h6⟩:=hT;obtain⟨hj,h3⟩:=List.getElem?_eq_some_iff.1 h3;have ei:((i:Int)==0)=false:=by simp;omega
       have e7:(N.2.2.2.2.2.2.2==(i:Int) - 1)=(r==N.2.2.2.2.2.2.2):=by rw[<-h1,Bool.eq_iff_iff];simp only[beq_iff_eq];exact eq_comm
       rw[ei,ns (i:=(i:Int) - 1) st j (by omega) hj,h3];simp only[bne,e7,Option.bind_some];cases T with
       | nil =>
        simp only[ft]at h6;have ev:(v==0)=true:=by simp;omega
        have e6:eA N (i:Int) [r]=none:=by unfold eA;rw[e2];rfl
        rw[ev,e6];cases (r==N.2.2.2.2.2.2.2)<;>rfl
       | cons s T =>
        have B0:=h6;simp only[ft]at B0;obtain⟨g1,j2,v2,g2,g3,g4,g5,g6⟩:=B0;obtain⟨v8,g3⟩:=List.getElem?_eq_some_iff.1 g3;have ev:(v==0)=false:=by simp;omega
        have e6:eA N (i:Int) (r::s::T)=bif r==N.2.2.2.2.2.2.2 then bif s==N.2.2.2.2.2.2.1 then some ((i:Int)::T)else none else none:=by unfold eA;rw[e2];rfl
        rw[ev,e6,cm (x:=v - 1) (by omega) (by omega)];have e8:(N.2.2.2.2.2.2.1==v - 1)=(s==N.2.2.2.2.2.2.1):=by rw[<-g1,Bool.eq_iff_iff];simp only[beq_iff_eq];exact eq_comm
        simp only[e8];cases hs:(s==N.2.2.2.2.2.2.1)with
        | false=>cases (r==N.2.2.2.2.2.2.2)<;>rfl
        | true =>
         rw[beq_iff_eq]at hs;rw[<-hs,ns st j2 g2 v8,g3];simp only[Option.bind_some];rw[pX v2 T g4 (by omega) g6 (by omega)];cases (r==N.2.2.2.2.2.2.2)<;>rfl
     ·have e0:(N.1==0||N.1==1)=false:=by simpa using sZ
      have e1:(N.1==2||(N.1==5||N.1==6))=false:=by simpa using k1
      have e2:(N.1==3||N.1==4)=false:=by simpa using k2
      have e5:(decide (0<=N.1)&&decide (N.1<=6))=false:=by
       rw[Bool.and_eq_false_iff];by_cases h:0<=N.1
       ·right;simp;omega
       ·left;simp;omega
      rw[e0,e1,e2,e5];simp
def fV(db:List Rel)(f:List al):Bool:=iC db&&((decide (1<=(f.length:Int))&&decide ((f.length:Int)<=12))&&jT db f 0 [])
theorem ahX{db:List Rel}(h:iC db=true):db.length<=6:=by
 unfold iC at h;simp only[Bool.and_eq_true,decide_eq_true_eq]at h;omega
theorem Td(db:List Rel)(f:List al)(hd:db.length<=68719476736/\∀a∈db,gL a)(hf:∀n∈f,zN n<=68719476736):uW db f=some ((fV db f,()),()):=by
 rw[afS,afQ db hd,jf];simp only[Option.bind_some];unfold fV;cases hb:iC db with
 | false=>rfl
 | true =>
  cases hc:(decide (1<=(f.length:Int))&&decide ((f.length:Int)<=12))with
  | false=>rfl
  | true =>
   simp only[Bool.and_eq_true,decide_eq_true_eq]at hc;have:=RD db f hd.1 hf (by omega) f.length 0 [] (by omega) (by simp);simp only[List.drop_zero,Int.natCast_zero,List.reverse_nil]at this;simp only[Bool.not_true,cond_false,Bool.true_and];exact this
theorem SF(db:List Rel)(f:List al)(hf:∀n∈f,zN n<=68719476736):uJ db f=some ((fV db f,()),()):=by
 rw[aeB,aez db];simp only[Option.bind_some];unfold fV;cases hb:iC db with
 | false=>rfl
 | true =>
  have B9:=ahX hb;by_cases h1:(f.length:Int)<1
  ·have:decide (1<=(f.length:Int))=false:=by simp;omega
   simp[h1,this]
  ·by_cases h2:(f.length:Int)>12
   ·have:decide ((f.length:Int)<=12)=false:=by simp;omega
    simp[h1,h2,this]
   ·have e1:decide (1<=(f.length:Int))=true:=by simp;omega
    have e2:decide ((f.length:Int)<=12)=true:=by simp;omega
    rw[mz f 8 (by omega) (by omega) (by omega)];have:=QB db f (by omega) hf (by omega) (by omega) f.length 0 (List.replicate f.length 0) [] (by omega) (by simp) (by simp[ft]);simp only[List.drop_zero,Int.natCast_zero]at this;simp only[h1,h2,decide_false,e1,e2,Bool.not_true,cond_false,Bool.true_and];exact this
theorem aik(h:zA a<=68719476736):gA a:=h
theorem ail(h:zC c<=68719476736):gC c:=⟨Nat.le_trans (lH _ _) h,λa ha=>aik (Nat.le_trans (kL _ ha) h)⟩
theorem ain{r:Rw}(h:zR r<=68719476736):gR r:=by
 have hz:zR r=zB r.1+zC r.2:=rfl;exact⟨by unfold zB at hz;omega,ail (by omega)⟩
theorem aim{r:Rel}(h:zQ r<=68719476736):gL r:=by
 have hz:zQ r=zB r.1+zL zR r.2.2:=rfl;exact⟨by unfold zB at hz;omega,Nat.le_trans (lH _ _) (Nat.le_trans (Nat.le_add_left _ _) (hz▸h)),λa ha=>ain (Nat.le_trans (kL _ ha) (by omega))⟩
theorem vF{x:List Rel}(h:zL zQ x<=68719476736):x.length<=68719476736/\∀a∈x,gL a:=⟨Nat.le_trans (lH _ _) h,λa ha=>aim (Nat.le_trans (kL _ ha) h)⟩
theorem sj{f:List al}(h:zL zN f<=68719476736):∀n∈f,zN n<=68719476736:=λn hn=>Nat.le_trans (kL _ hn) h
theorem TG{a:Int}(h:a.natAbs<=4000000000000000000):rG a=some (((a.natAbs:Int),()),()):=by
 rw[FI];by_cases h0:a<0
 ·simp only[h0,decide_true,cond_true];rw[cm (by omega) (by omega)];congr 3;omega
 ·simp only[h0,decide_false,cond_false];congr 3;omega
theorem TF{a:Int}(h:a.natAbs<=4000000000000000000):uZ a=some (((a.natAbs:Int),()),()):=by
 rw[Ti];rw[cm (by omega) (by omega)];simp only[cond_true];congr 3;split<;>omega
theorem tdiv_le(a b:Int):(a.tdiv b).natAbs<=a.natAbs:=by
 rw[Int.natAbs_tdiv];exact Nat.div_le_self _ _
theorem SN{a b:Int}(ha:a.natAbs<=4000000000000000000)(hb:b.natAbs<=4000000000000000000):pv a b=some ((((Nat.gcd a.natAbs b.natAbs:Nat):Int),()),()):=by
 rw[SO,TG ha,TG hb];simp only[Option.bind_some];rw[D0 _ _ _ (Nat.le_refl _) (by omega) (by omega)];simp
theorem KD{a b:Int}(ha:a.natAbs<=400000000)(hb:b.natAbs<=400000000):(a*b).natAbs<=160000000000000000:=by
 rw[Int.natAbs_mul];exact Nat.mul_le_mul ha hb
theorem Lw{a b:Int}(ha:a.natAbs<=400000000)(hb:b.natAbs<=400000000):IntKind.i64.wrap (a*b)=a*b:=by
 have:=KD ha hb;exact cm (by omega) (by omega)
def dF:List Int->List Int->Int
 | x::xs,y::ys=>if x=y then dF xs ys else if x<y then -1 else 1
 | _,_=>0
theorem nP:∀x:List Int,dF x x=0
 | []=>rfl
 | x::xs=>by simp[dF,nP xs]
theorem XU:∀{x y:List Int},x.length=y.length->dF x y=0->x=y
 | [],[],_,_=>rfl
 | x::xs,y::ys,hl,h=>by
  simp only[dF]at h;split at h
  ·rename_i e;rw[e,XU (by simpa using hl) h]
  ·split at h<;>omega
theorem mv:∀x y:List Int,dF y x = -dF x y
 | [],[]=>rfl
 | [],_::_=>rfl
 | _::_,[]=>rfl
 | x::xs,y::ys=>by
  simp only[dF];by_cases h:x=y
  ·rw[if_pos h,if_pos h.symm,mv xs ys]
  ·rw[if_neg h,if_neg (Ne.symm h)];by_cases h2:x<y
   ·rw[if_pos h2,if_neg (by omega)];rfl
   ·rw[if_neg h2,if_pos (by omega)]
theorem XW(x y:List Int):dF x y = -1\/dF x y=0\/dF x y=1:=by
 induction x generalizing y with
 | nil=>cases y<;>simp[dF]
 | cons a x ih =>
  cases y with
  | nil=>simp[dF]
  | cons b y =>
   simp only[dF];split
   ·exact ih y
   ·split<;>simp
theorem wR:∀{x y z:List Int},dF x y<0->dF y z<0->dF x z<0
 | [],_,_,h,_=>by simp[dF]at h
 | _::_,[],_,h,_=>by simp[dF]at h
 | _::_,_::_,[],_,h=>by simp[dF]at h
 | x::xs,y::ys,z::zs,h1,h2=>by
  simp only[dF]at h1 h2 ⊢;by_cases e1:x=y
  ·subst e1;rw[if_pos rfl]at h1;by_cases e2:x=z
   ·rw[if_pos e2]at h2 ⊢;exact wR h1 h2
   ·rw[if_neg e2]at h2 ⊢;exact h2
  ·rw[if_neg e1]at h1;have h1:x<y:=by
    by_cases h:x<y
    ·exact h
    ·rw[if_neg h]at h1;omega
   by_cases e2:y=z
   ·subst e2;rw[if_neg e1,if_pos h1];omega
   ·rw[if_neg e2]at h2;have h2:y<z:=by
     by_cases h:y<z
     ·exact h
     ·rw[if_neg h]at h2;omega
    rw[if_neg (by omega),if_pos (by omega)];omega
def kF(a b:Int):Int:=if a<b then -1 else if b<a then 1 else 0
theorem am7{a1 a2 b1 b2 c1 c2:Int}(h1:0<a2)(h2:0<b2)(h3:0<c2)(x:a1*b2<b1*a2)(y:b1*c2<c1*b2):a1*c2<c1*a2:=by
 have p:=Int.mul_lt_mul_of_pos_right x h3;have q:=Int.mul_lt_mul_of_pos_right y h1;have:a1*c2*b2<c1*a2*b2:=by
  have e1:a1*c2*b2=a1*b2*c2:=by rw[Int.mul_assoc,Int.mul_comm c2,<-Int.mul_assoc]
  have e2:c1*a2*b2=c1*b2*a2:=by rw[Int.mul_assoc,Int.mul_comm a2,<-Int.mul_assoc]
  have e3:b1*a2*c2=b1*c2*a2:=by rw[Int.mul_assoc,Int.mul_comm a2,<-Int.mul_assoc]
  omega
 exact Int.lt_of_mul_lt_mul_right this (Int.le_of_lt h2)
theorem qA{a1 a2 b1 b2 c1 c2:Int}(h1:0<a2)(h2:0<b2)(h3:0<c2)(x:a1*b2<=b1*a2)(y:b1*c2<=c1*b2):a1*c2<=c1*a2:=by
 have p:=Int.mul_le_mul_of_nonneg_right x (Int.le_of_lt h3);have q:=Int.mul_le_mul_of_nonneg_right y (Int.le_of_lt h1);have:a1*c2*b2<=c1*a2*b2:=by
  have e1:a1*c2*b2=a1*b2*c2:=by rw[Int.mul_assoc,Int.mul_comm c2,<-Int.mul_assoc]
  have e2:c1*a2*b2=c1*b2*a2:=by rw[Int.mul_assoc,Int.mul_comm a2,<-Int.mul_assoc]
  have e3:b1*a2*c2=b1*c2*a2:=by rw[Int.mul_assoc,Int.mul_comm a2,<-Int.mul_assoc]
  omega
 exact Int.le_of_mul_le_mul_right this h2
def dD(a:aa):Int:=if gl a.1 0=0 then 1 else (gl a.1 0:Nat)
def dv(a:aa):List Int:=a.1.map (λx=>x.tdiv (dD a))
def bf(a b:aa):Int:=dF (dv a) (dv b)
def dt(a b:aa):Int:=if kF (a.2.1*dD b) (b.2.1*dD a)≠0 then kF (a.2.1*dD b) (b.2.1*dD a)else if a.2.2=b.2.2 then 0 else if a.2.2=true then 1 else -1
def eQ(a b:aa):Int:=if bf a b≠0 then bf a b else dt a b
def cY(n:Nat)(a:aa):Prop:=bK a=true/\a.1.length=n/\gl a.1 0≠0
theorem ox(a:aa):0<dD a:=by
 unfold dD;split
 ·omega
 ·have:0<gl a.1 0:=Nat.pos_of_ne_zero (by assumption);exact Int.natCast_pos.2 this
theorem jS(a:aa):(dv a).length=a.1.length:=by simp[dv]
theorem kJ(ha:a.1.length=n)(hb:b.1.length=n):bf a b=0↔dv a=dv b:=by
 constructor
 ·intro h;exact XU (by rw[jS,jS,ha,hb]) h
 ·intro h;unfold bf;rw[h,nP]
theorem anA{a b:Int}:kF a b<0↔a<b:=by
 unfold kF;split
 ·simp;assumption
 ·split<;>simp<;>omega
theorem KS{a b:Int}:kF a b=0↔a=b:=by
 unfold kF;split
 ·simp;omega
 ·split<;>simp<;>omega
theorem xr{a b:aa}:dt a b<0↔a.2.1*dD b<b.2.1*dD a\/(a.2.1*dD b=b.2.1*dD a/\a.2.2=false/\b.2.2=true):=by
 unfold dt;by_cases h:kF (a.2.1*dD b) (b.2.1*dD a)=0
 ·rw[if_neg (by simpa using h)];have e:=KS.1 h;rw[e];cases a.2.2<;>cases b.2.2<;>simp
 ·rw[if_pos h,anA];have e:a.2.1*dD b≠b.2.1*dD a:=λe=>h (KS.2 e);constructor
  ·exact .inl
  ·rintro (h|h)
   ·exact h
   ·exact absurd h.1 e
theorem ng:eQ a b<0↔bf a b<0\/(bf a b=0/\dt a b<0):=by
 unfold eQ;split
 ·rename_i h;constructor
  ·exact .inl
  ·rintro (h2|h2)
   ·exact h2
   ·exact absurd h2.1 h
 ·rename_i h;have h:bf a b=0:=by simpa using h
  rw[h];simp
theorem IH:∀(x:List Int) (g:Nat),(gl x g) ∣ g/\∀y∈x,gl x g ∣ y.natAbs
 | [],g=>⟨Nat.dvd_refl _,by simp⟩
 | a::x,g=>by
  obtain⟨h1,h2⟩:=IH x (Nat.gcd g a.natAbs);have e:gl (a::x) g=gl x (Nat.gcd g a.natAbs):=rfl;rw[e];refine⟨Nat.dvd_trans h1 (Nat.gcd_dvd_left _ _),λy hy=>?_⟩;rcases List.mem_cons.1 hy with rfl|hy
  ·exact Nat.dvd_trans h1 (Nat.gcd_dvd_right _ _)
  ·exact h2 y hy
theorem Ui(a:aa):a.1=(dv a).map (· * dD a):=by
 unfold dv;rw[List.map_map];have:∀y∈a.1,((· * dD a) ∘ λx=>x.tdiv (dD a)) y=y:=by
  intro y hy;simp only[Function.comp];unfold dD;split
  ·simp
  ·exact Int.tdiv_mul_cancel (Int.natAbs_dvd_natAbs.1 (by simpa using (IH a.1 0).2 y hy))
 conv=>lhs;rw[<-List.map_id a.1]
 exact (List.map_congr_left λy hy=>(this y hy).symm)
theorem ahK(ha:cY n a)(hb:cY n b)(h1:dv a=dv b)(h2:a.2.1*dD b=b.2.1*dD a)(h3:a.2.2=b.2.2):a=b:=by
 have Uo:∀{a:aa},cY n a->∃g:Nat,dD a=(g:Int)/\Nat.Coprime g a.2.1.natAbs/\0<g:=by
  intro a h;refine⟨gl a.1 0,by unfold dD;rw[if_neg h.2.2],?_,Nat.pos_of_ne_zero h.2.2⟩;have:=h.1;unfold bK at this;simp only[Bool.and_eq_true,decide_eq_true_eq]at this;have h4:=this.2.2.2;rw[II]at h4;have h5:Nat.gcd (gl a.1 0) a.2.1.natAbs<=1:=by omega
  have h6:0<Nat.gcd (gl a.1 0) a.2.1.natAbs:=Nat.gcd_pos_of_pos_left _ (Nat.pos_of_ne_zero h.2.2);unfold Nat.Coprime;omega
 obtain⟨g,e1,c1,p1⟩:=Uo ha;obtain⟨k,e2,c2,p2⟩:=Uo hb;rw[e1,e2]at h2;have h4:a.2.1.natAbs*k=b.2.1.natAbs*g:=by
  have:=congrArg Int.natAbs h2;simpa[Int.natAbs_mul]using this
 have d1:g ∣ k:=c1.dvd_of_dvd_mul_left (by rw[h4];exact Nat.dvd_mul_left _ _);have d2:k ∣ g:=c2.dvd_of_dvd_mul_left (by rw[<-h4];exact Nat.dvd_mul_left _ _);have e:g=k:=Nat.dvd_antisymm d1 d2;subst e;have h5:a.2.1=b.2.1:=Int.eq_of_mul_eq_mul_right (by omega) h2;have h6:a.1=b.1:=by rw[Ui a,Ui b,h1,e1,e2]
 obtain⟨a1,a2,a3⟩:=a;obtain⟨b1,b2,b3⟩:=b;simp only at h3 h5 h6;rw[h3,h5,h6]
theorem Zy{c:aa}(h1:dt a b<0)(h2:dt b c<0):dt a c<0:=by
 rw[xr]at *
 have pa:=ox a;have pb:=ox b;have pc:=ox c;rcases h1 with h1|⟨h1,h3,h4⟩
 ·rcases h2 with h2|⟨h2,h5,h6⟩
  ·exact .inl (am7 pa pb pc h1 h2)
  ·left;have:=qA pa pb pc (Int.le_of_lt h1) (Int.le_of_eq h2);rcases Int.lt_or_eq_of_le this with h|h
   ·exact h
   ·exfalso;have:=qA (a1:=b.2.1) (a2:=dD b) (b1:=c.2.1) (b2:=dD c) (c1:=a.2.1) (c2:=dD a) pb pc pa (Int.le_of_eq h2) (Int.le_of_eq h.symm);omega
 ·rcases h2 with h2|⟨h2,h5,h6⟩
  ·left;have:=qA pa pb pc (Int.le_of_eq h1) (Int.le_of_lt h2);rcases Int.lt_or_eq_of_le this with h|h
   ·exact h
   ·exfalso;have:=qA (a1:=c.2.1) (a2:=dD c) (b1:=a.2.1) (b2:=dD a) (c1:=b.2.1) (c2:=dD b) pc pa pb (Int.le_of_eq h.symm) (Int.le_of_eq h1);omega
  ·rw[h4]at h5;cases h5
theorem La{c:aa}(h1:¬dt a b<0)(h2:¬dt b c<0):¬dt a c<0:=by
 rw[xr]at *
 have pa:=ox a;have pb:=ox b;have pc:=ox c;have Vl:b.2.1*dD a<=a.2.1*dD b:=by have:=not_or.1 h1;omega
 have Vm:c.2.1*dD b<=b.2.1*dD c:=by have:=not_or.1 h2;omega
 have h3:=qA (a1:=c.2.1) (a2:=dD c) (b1:=b.2.1) (b2:=dD b) (c1:=a.2.1) (c2:=dD a) pc pb pa Vm Vl
 rintro (h|⟨h,h4,h5⟩)
 ·omega
 ·have e1:a.2.1*dD b=b.2.1*dD a:=by
   have:=qA (a1:=a.2.1) (a2:=dD a) (b1:=c.2.1) (b2:=dD c) (c1:=b.2.1) (c2:=dD b) pa pc pb (Int.le_of_eq h) Vm;omega
  have e2:b.2.1*dD c=c.2.1*dD b:=by
   have:=qA (a1:=b.2.1) (a2:=dD b) (b1:=a.2.1) (b2:=dD a) (c1:=c.2.1) (c2:=dD c) pb pa pc Vl (Int.le_of_eq h);omega
  cases hb:b.2.2
  ·exact h2 (.inr ⟨e2,hb,h5⟩)
  ·exact h1 (.inr ⟨e1,h4,hb⟩)
theorem tH(a:aa):¬dt a a<0:=by
 rw[xr]
 rintro (h|⟨_,h1,h2⟩)
 ·omega
 ·rw[h1]at h2;cases h2
theorem CX{n:Nat}:pt (cY n) eQ:=by
 have key:∀{x y:aa},cY n x->cY n y->bf x y=0->dv x=dv y:=λhx hy h=>(kJ hx.2.1 hy.2.1).1 h;refine⟨λx hx h=>?_,λx y z hx hy hz h1 h2=>?_,λx y z hx hy hz h1 h2 h=>?_,λx y hx hy h1 h2=>?_⟩
 ·rw[ng]at h;have e:bf x x=0:=nP _;rw[e]at h;rcases h with h|h
  ·omega
  ·exact tH x h.2
 ·rw[ng]at *
  rcases h1 with h1|⟨h1,h3⟩
  ·rcases h2 with h2|⟨h2,h4⟩
   ·exact .inl (wR h1 h2)
   ·left;have:=key hy hz h2;unfold bf at *
    rw[<-this];exact h1
  ·have e1:=key hx hy h1;rcases h2 with h2|⟨h2,h4⟩
   ·left;unfold bf at *
    rw[e1];exact h2
   ·right;refine⟨?_,Zy h3 h4⟩;unfold bf at *
    rw[e1];exact h2
 ·rw[ng]at *
  have h1:=not_or.1 h1;have h2:=not_or.1 h2;have f1:=mv (dv x) (dv y);have f2:=mv (dv y) (dv z);have f3:=mv (dv x) (dv z);have v1:=XW (dv x) (dv y);have v2:=XW (dv y) (dv z);have u1:=h1.1;have u2:=h2.1;unfold bf at u1 u2;by_cases w1:bf x y=0
  ·have e1:=key hx hy w1;have s1:¬dt x y<0:=λh=>h1.2 ⟨w1,h⟩;by_cases w2:bf y z=0
   ·have e2:=key hy hz w2;have s2:¬dt y z<0:=λh=>h2.2 ⟨w2,h⟩;rcases h with h|h
    ·unfold bf at h;rw[e1,e2,nP]at h;omega
    ·exact La s1 s2 h.2
   ·have:bf x z=bf y z:=by unfold bf;rw[e1]
    rw[this]at h;rcases h with h|h
    ·exact h2.1 h
    ·exact w2 h.1
  ·have g1:dF (dv y) (dv x)<0:=by unfold bf at w1;omega
   by_cases w2:bf y z=0
   ·have e2:=key hy hz w2;have:bf x z=bf x y:=by unfold bf;rw[e2]
    rw[this]at h;rcases h with h|h
    ·exact h1.1 h
    ·exact w1 h.1
   ·have g2:dF (dv z) (dv y)<0:=by unfold bf at w2;omega
    have g3:=wR g2 g1;unfold bf at h;omega
 ·rw[ng]at *
  have h1:=not_or.1 h1;have h2:=not_or.1 h2;have f1:=mv (dv x) (dv y);have w:bf x y=0:=by
   have a1:=h1.1;have a2:=h2.1;unfold bf at *
   omega
  have w':bf y x=0:=by unfold bf at *;omega
  have s1:¬dt x y<0:=λh=>h1.2 ⟨w,h⟩;have s2:¬dt y x<0:=λh=>h2.2 ⟨w',h⟩;rw[xr]at s1 s2;have s1:=not_or.1 s1;have s2:=not_or.1 s2;have e:x.2.1*dD y=y.2.1*dD x:=by omega
  refine ahK hx hy (key hx hy w) e ?_;have t1:¬(x.2.2=false/\y.2.2=true):=λh=>s1.2 ⟨e,h⟩;have t2:¬(y.2.2=false/\x.2.2=true):=λh=>s2.2 ⟨e.symm,h⟩;cases lh:x.2.2<;>cases sU:y.2.2<;>simp_all
structure jJ (n:Nat) (S l:List aa):Prop where
 sorted:S.Pairwise λx y=>bf x y<0
 sub:∀s∈S,s∈l
 se:∀a∈l,∃s∈S,bf s a=0/\¬dt s a<0
theorem Lu(h:bf a b=0):bf b a=0:=by
 have:=mv (dv a) (dv b);unfold bf at *;omega
theorem TV{S':List aa}(hV:∀a∈l,cY n a)(hm:∀a,a∈l↔a∈l')(h:jJ n S l)(h':jJ n S' l'):∀s∈S,s∈S':=by
 intro s hs;have bb:=h.sub s hs;obtain⟨t,ht,w1,s1⟩:=h'.se s ((hm s).1 bb);have Wu:=(hm t).2 (h'.sub t ht);obtain⟨u,hu,w2,s2⟩:=h.se t Wu;have ks:=hV s bb;have kt:=hV t Wu;have ku:=hV u (h.sub u hu);have e1:dv t=dv s:=(kJ kt.2.1 ks.2.1).1 w1;have e2:dv u=dv t:=(kJ ku.2.1 kt.2.1).1 w2;have w3:bf u s=0:=(kJ ku.2.1 ks.2.1).2 (e2.trans e1);have hus:u=s:=by
  apply Classical.byContradiction;intro bn;have key:∀{a b:aa},a∈S->b∈S->a≠b->bf a b<0\/bf b a<0:=by
   intro a b ha hb bn;obtain⟨i,hi,rfl⟩:=List.getElem_of_mem ha;obtain⟨j,hj,rfl⟩:=List.getElem_of_mem hb;rcases Nat.lt_trichotomy i j with nB|nB|nB
   ·exact .inl (List.pairwise_iff_getElem.1 h.sorted i j hi hj nB)
   ·subst nB;exact absurd rfl bn
   ·exact .inr (List.pairwise_iff_getElem.1 h.sorted j i hj hi nB)
  rcases key hu hs bn with h1|h1
  ·omega
  ·have:=Lu w3;omega
 subst hus;have o:=@CX n;have:t=u:=o.Hy t u kt ku (λhc=>by
  rw[ng]at hc;rcases hc with hc|hc
  ·omega
  ·exact s1 hc.2) (λhc=>by
  rw[ng]at hc;rcases hc with hc|hc
  ·omega
  ·exact s2 hc.2)
 rw[<-this];exact ht
theorem ahO{S':List aa}(hV:∀a∈l,cY n a)(hm:∀a,a∈l↔a∈l')(h:jJ n S l)(h':jJ n S' l'):S=S':=by
 have nd:∀{S l:List aa},jJ n S l->S.Nodup:=by
  intro S l h;refine h.sorted.imp λ{a b} jn he=>?_;subst he;have:bf a a=0:=nP _;omega
 have hp:S.Perm S':=(List.perm_ext_iff_of_nodup (nd h) (nd h')).2 λa=>⟨TV hV hm h h' a,TV (λa ha=>hV a ((hm a).2 ha)) (λa=>(hm a).symm) h' h a⟩;refine List.Perm.eq_of_pairwise (le:=λx y=>bf x y<0) (λa b _ _ h1 h2=>?_) h.sorted h'.sorted hp;have:=mv (dv a) (dv b);unfold bf at *;omega
def fA:List aa->List aa
 | []=>[]
 | [a]=>[a]
 | a::b::l=>if bf a b=0 then fA (b::l)else a::fA (b::l)
theorem XQ:∀(l:List aa),(∀a∈l,cY n a)->l.Pairwise (λx y=>¬eQ y x<0)->jJ n (fA l) l
 | [],_,_=>⟨List.Pairwise.nil,λs h=>h,by simp⟩
 | [a],_,_=>⟨by simp[fA],λs h=>h,λx hx=>⟨a,by simp[fA],by
   rw[List.mem_singleton.1 hx];exact⟨nP _,tH a⟩⟩⟩
 | a::b::l,hV,hP=>by
  have lV:=List.pairwise_cons.1 hP;have ih:=XQ (b::l) (λx hx=>hV x (List.mem_cons_of_mem _ hx)) lV.2;have ka:=hV a (by simp);have kb:=hV b (by simp);have up:∀x∈b::l,¬bf x a<0:=λx hx h=>lV.1 x hx (ng.2 (.inl h));by_cases hw:bf a b=0
  ·have e:fA (a::b::l)=fA (b::l):=by simp[fA,hw]
   rw[e];refine⟨ih.sorted,λs hs=>List.mem_cons_of_mem _ (ih.sub s hs),λx hx=>?_⟩;rcases List.mem_cons.1 hx with rfl|hx
   ·obtain⟨s,hs,w1,s1⟩:=ih.se b (by simp);have ks:=hV s (List.mem_cons_of_mem _ (ih.sub s hs));have e1:dv s=dv b:=(kJ ks.2.1 kb.2.1).1 w1;have e2:dv x=dv b:=(kJ ka.2.1 kb.2.1).1 hw;refine⟨s,hs,(kJ ks.2.1 ka.2.1).2 (e1.trans e2.symm),?_⟩;have s2:¬dt b x<0:=λh=>lV.1 b (by simp) (ng.2 (.inr ⟨Lu hw,h⟩));exact La s1 s2
   ·exact ih.se x hx
  ·have e:fA (a::b::l)=a::fA (b::l):=by simp[fA,hw]
   rw[e];have jn:bf a b<0:=by
    have h1:=up b (by simp);have:=mv (dv a) (dv b);unfold bf at *;omega
   refine⟨List.pairwise_cons.2 ⟨λx hx=>?_,ih.sorted⟩,λs hs=>?_,λx hx=>?_⟩
   ·have km:=ih.sub x hx;rcases List.mem_cons.1 km with rfl|km
    ·exact jn
    ·have sE:¬bf x b<0:=λh=>(List.pairwise_cons.1 lV.2).1 x km (ng.2 (.inl h));have kx:=hV x (by simp[km]);have f:=mv (dv x) (dv b);by_cases h0:bf b x=0
     ·have e3:dv b=dv x:=(kJ kb.2.1 kx.2.1).1 h0;unfold bf at jn ⊢;rw[<-e3];exact jn
     ·have h2:bf b x<0:=by unfold bf at *;omega
      exact wR jn h2
   ·rcases List.mem_cons.1 hs with rfl|hs
    ·simp
    ·exact List.mem_cons_of_mem _ (ih.sub s hs)
   ·rcases List.mem_cons.1 hx with rfl|hx
    ·exact⟨x,by simp,nP _,tH x⟩
    ·obtain⟨s,hs,h⟩:=ih.se x hx;exact⟨s,List.mem_cons_of_mem _ hs,h⟩
def cZ:List aa->aa->List aa
 | [],a=>[a]
 | s::S,a=>if bf s a<0 then s::cZ S a else if bf s a=0 then (if dt s a<0 then a::S else s::S)else a::s::S
theorem tq(a:aa):∀(S:List aa),∀s∈cZ S a,s∈S\/s=a
 | [],s,h=>by simp[cZ]at h;exact .inr h
 | t::S,s,h=>by
  simp only[cZ]at h;split at h
  ·rcases List.mem_cons.1 h with rfl|h
   ·simp
   ·rcases tq a S s h with h|h
    ·exact .inl (List.mem_cons_of_mem _ h)
    ·exact .inr h
  ·split at h
   ·split at h
    ·rcases List.mem_cons.1 h with rfl|h
     ·exact .inr rfl
     ·exact .inl (List.mem_cons_of_mem _ h)
    ·exact .inl h
   ·rcases List.mem_cons.1 h with rfl|h
    ·exact .inr rfl
    ·exact .inl h
theorem YZ(ka:cY n a):∀(S:List aa),(∀s∈S,cY n s)->(∃s∈cZ S a,bf s a=0/\¬dt s a<0)/\∀t∈S,∃s∈cZ S a,bf s t=0/\¬dt s t<0
 | [],_=>⟨⟨a,by simp[cZ],nP _,tH a⟩,by simp⟩
 | t::S,hV=>by
  obtain⟨h1,h2⟩:=YZ ka S (λs hs=>hV s (List.mem_cons_of_mem _ hs));have kt:=hV t (by simp);have self:∀x:aa,bf x x=0/\¬dt x x<0:=λx=>⟨nP _,tH x⟩;simp only[cZ];split
  ·obtain⟨s,hs,hh⟩:=h1;refine⟨⟨s,List.mem_cons_of_mem _ hs,hh⟩,λu hu=>?_⟩;rcases List.mem_cons.1 hu with rfl|hu
   ·exact⟨u,by simp,self u⟩
   ·obtain⟨s,hs,hh⟩:=h2 u hu;exact⟨s,List.mem_cons_of_mem _ hs,hh⟩
  ·split
   ·rename_i hw;split
    ·rename_i a7;refine⟨⟨a,by simp,self a⟩,λu hu=>?_⟩;rcases List.mem_cons.1 hu with rfl|hu
     ·refine⟨a,by simp,Lu hw,λh=>?_⟩;exact tH a (Zy h a7)
     ·exact⟨u,List.mem_cons_of_mem _ hu,self u⟩
    ·rename_i a7;exact⟨⟨t,by simp,hw,a7⟩,λu hu=>⟨u,hu,self u⟩⟩
   ·exact⟨⟨a,by simp,self a⟩,λu hu=>⟨u,List.mem_cons_of_mem _ hu,self u⟩⟩
theorem Y0(ka:cY n a):∀(S:List aa),(∀s∈S,cY n s)->S.Pairwise (λx y=>bf x y<0)->(cZ S a).Pairwise λx y=>bf x y<0
 | [],_,_=>by simp[cZ]
 | t::S,hV,hP=>by
  have lV:=List.pairwise_cons.1 hP;have kt:=hV t (by simp);simp only[cZ];split
  ·rename_i hw;refine List.pairwise_cons.2 ⟨λx hx=>?_,Y0 ka S (λs hs=>hV s (List.mem_cons_of_mem _ hs)) lV.2⟩;rcases tq a S x hx with hx|rfl
   ·exact lV.1 x hx
   ·exact hw
  ·rename_i hw;split
   ·rename_i Ww;have e:dv t=dv a:=(kJ kt.2.1 ka.2.1).1 Ww;split
    ·refine List.pairwise_cons.2 ⟨λx hx=>?_,lV.2⟩;have:=lV.1 x hx;unfold bf at this ⊢;rw[<-e];exact this
    ·exact hP
   ·rename_i Ww;have h1:bf a t<0:=by
     have:=mv (dv t) (dv a);unfold bf at *;omega
    refine List.pairwise_cons.2 ⟨λx hx=>?_,hP⟩;rcases List.mem_cons.1 hx with rfl|hx
    ·exact h1
    ·exact wR h1 (lV.1 x hx)
theorem am5(ka:cY n a)(hV:∀a∈l,cY n a)(h:jJ n S l):jJ n (cZ S a) (l++[a]):=by
 have hS:∀s∈S,cY n s:=λs hs=>hV s (h.sub s hs);obtain⟨d1,d2⟩:=YZ ka S hS;refine⟨Y0 ka S hS h.sorted,λs hs=>?_,λx hx=>?_⟩
 ·rcases tq a S s hs with hs|rfl
  ·exact List.mem_append_left _ (h.sub s hs)
  ·simp
 ·rcases List.mem_append.1 hx with hx|hx
  ·obtain⟨s,hs,w1,s1⟩:=h.se x hx;obtain⟨t,ht,w2,s2⟩:=d2 s hs;have kx:=hV x hx;have ks:=hS s hs;have kt:cY n t:=by
    rcases tq a S t ht with h|rfl
    ·exact hS t h
    ·exact ka
   have e1:=(kJ ks.2.1 kx.2.1).1 w1;have e2:=(kJ kt.2.1 ks.2.1).1 w2;exact⟨t,ht,(kJ kt.2.1 kx.2.1).2 (e2.trans e1),La s2 s1⟩
  ·rw[List.mem_singleton.1 hx];exact d1
theorem UL:∀(l m S:List aa),(∀a∈l,cY n a)->(∀a∈m,cY n a)->jJ n S m->jJ n (l.foldl cZ S) (m++l)
 | [],m,S,_,_,h=>by simpa using h
 | a::l,m,S,hl,hm,h=>by
  have ka:=hl a (by simp);have:=UL l (m++[a]) (cZ S a) (λx hx=>hl x (List.mem_cons_of_mem _ hx)) (λx hx=>by
   rcases List.mem_append.1 hx with hx|hx
   ·exact hm x hx
   ·rw[List.mem_singleton.1 hx];exact ka) (am5 ka hm h)
  simpa using this
theorem ams{n:Nat}(hV:∀a∈l,cY n a)(hm:∀a,a∈l↔a∈l'):fA (fk eQ l)=l'.foldl cZ []:=by
 have hp:=qG eQ l;have h1:jJ n (fA (fk eQ l)) (fk eQ l):=XQ _ (λa ha=>hV a (hp.mem_iff.1 ha)) (KV CX hV);have h2:jJ n (l'.foldl cZ []) ([]++l'):=UL l' [] [] (λa ha=>hV a ((hm a).2 ha)) (by simp) ⟨List.Pairwise.nil,by simp,by simp⟩;rw[List.nil_append]at h2;exact ahO (λa ha=>hV a (hp.mem_iff.1 ha)) (λa=>(hp.mem_iff).trans (hm a)) h1 h2
theorem gW(h:bK a=true):a.1.length<=4/\dn a.2.1=true/\∀y∈a.1,dn y=true:=by
 unfold bK at h;simp only[Bool.and_eq_true,Bool.not_eq_true',decide_eq_false_iff_not,List.all_eq_true]at h;exact⟨by omega,h.2.1,h.2.2.1⟩
theorem CU(h:dn y=true):-400000000<=y/\y<=400000000:=by
 unfold dn at h;simpa using h
theorem Vg:∀(x:List Int) (g:Nat),(∀y∈x,dn y=true)->g<=400000000->gl x g<=400000000
 | [],g,_,hg=>hg
 | a::x,g,h,hg=>by
  have e:gl (a::x) g=gl x (Nat.gcd g a.natAbs):=rfl;rw[e];refine Vg x _ (λy hy=>h y (List.mem_cons_of_mem _ hy)) ?_;have hb:=CU (h a (by simp));by_cases h0:g=0
  ·subst h0;rw[Nat.gcd_zero_left];omega
  ·exact Nat.le_trans (Nat.gcd_le_left _ (Nat.pos_of_ne_zero h0)) hg
theorem ahW(h:bK a=true):dD a<=400000000:=by
 have:=Vg a.1 0 (gW h).2.2 (by omega);unfold dD;split<;>omega
theorem CK(a:aa):(bif true then if 1<((gl a.1 0:Nat):Int)then ((gl a.1 0:Nat):Int)else 1 else if ((gl a.1 0:Nat):Int)<1 then ((gl a.1 0:Nat):Int)else 1)=dD a:=by
 simp only[cond_true];unfold dD;by_cases h:gl a.1 0=0
 ·rw[if_pos h,h];rfl
 ·rw[if_neg h];by_cases h2:1<((gl a.1 0:Nat):Int)
  ·rw[if_pos h2]
  ·rw[if_neg h2];omega
theorem SV(h:bK a=true):mS a.1=some ((((gl a.1 0:Nat):Int),()),()):=SU a.1 (by have:=(gW h).1;omega) (gW h).2.2
theorem SY(h:bK a=true):zh a=some ((gl a.1 0 != 0,()),()):=by
 rw[ae9,SV h];simp only[Option.bind_some];congr 3;cases hg:gl a.1 0 with
 | zero=>rfl
 | succ n=>simp;omega
theorem ze(h:bK a=true):rI a=some ((dD a,()),()):=by
 rw[ae3,SV h];simp only[Option.bind_some];unfold dD;cases hg:gl a.1 0 with
 | zero=>rfl
 | succ n =>
  have:(((n+1:Nat):Int)==0)=false:=by simp;omega
  rw[this];rfl
theorem zy(h:bK a=true):rR a=some ((((gl a.1 0:Nat):Int),()),()):=by
 rw[age,Tn a.1 0 (by have:=(gW h).1;omega) (gW h).2.2 (by decide)];rfl
theorem aiv:∀(x:List Int),gl x 0=0↔∀y∈x,y=0:=by
 intro x;constructor
 ·intro h y hy;have:=(IH x 0).2 y hy;rw[h]at this;have:=Nat.eq_zero_of_zero_dvd this;omega
 ·intro h;induction x with
  | nil=>rfl
  | cons a x ih =>
   have e:gl (a::x) 0=gl x (Nat.gcd 0 a.natAbs):=rfl;rw[e,h a (by simp)];exact ih λy hy=>h y (List.mem_cons_of_mem _ hy)
theorem Tl(a:aa)(hl:a.1.length<=68719476736):u4 a=some ((gl a.1 0==0,()),()):=by
 rw[agc];rw[BA a.1 (λy=>y==0) (some ((false,()),())) (some ((true,()),())) (λi=>yA a i) hl (λi hi=>by
  rw[RU,aX hi,aG hi,aO (by omega)];simp only[cond_true,Option.bind_some,bne];cases a.1[i]==0<;>rfl) (by rw[RU,aZ];rfl)]
 have e:a.1.all (λy=>y==0)=(gl a.1 0==0):=by
  rw[Bool.eq_iff_iff,List.all_eq_true,beq_iff_eq,aiv];simp
 rw[e];cases gl a.1 0==0<;>rfl
theorem Dg{D:Int}(h:dn y=true):IntKind.i64.wrap (y.tdiv D)=y.tdiv D:=by
 have:=CU h;have h2:(y.tdiv D).natAbs<=y.natAbs:=tdiv_le y D;exact cm (by omega) (by omega)
theorem S7(a b:Int):zm a b=some ((kF a b,()),()):=by
 rw[afy];unfold kF;by_cases h1:a<b
 ·rw[if_pos h1,decide_eq_true h1];rfl
 ·rw[if_neg h1,decide_eq_false h1];by_cases h2:b<a
  ·have:a>b:=h2;rw[if_pos h2,decide_eq_true this];rfl
  ·have:¬a>b:=h2;rw[if_neg h2,decide_eq_false this];rfl
theorem XV{x y:List Int}{i:Nat}(hx:i<x.length)(hy:i<y.length):dF (x.drop i) (y.drop i)=if x[i]=y[i]then dF (x.drop (i+1)) (y.drop (i+1))else if x[i]<y[i]then -1 else 1:=by
 rw[List.drop_eq_getElem_cons hx,List.drop_eq_getElem_cons hy];rfl
theorem BJ(a:aa):(dD a != 0)=true:=by
 have:=ox a;simp;omega
theorem QP(ha:bK a=true)(hb:bK b=true)(hl:a.1.length=b.1.length):∀(n i:Nat),n+i=a.1.length ->
  yj a b (dD a) (dD b) (a.1.length:Int) (i:Int)=some ((dF ((dv a).drop i) ((dv b).drop i),()),())
 | 0,i,hn=>by
  obtain rfl:i=a.1.length:=by omega
  rw[QO,aZ];have e1:(dv a).drop a.1.length=[]:=List.drop_eq_nil_of_le (by rw[jS];omega);rw[e1];rfl
 | n+1,i,hn=>by
  have hi:i<a.1.length:=by omega
  have dm:i<b.1.length:=by omega
  have na:=(gW ha).2.2 _ (List.getElem_mem hi);have nb:=(gW hb).2.2 _ (List.getElem_mem dm);rw[QO,aX hi,aG hi,aG dm,BJ,BJ,aO (by have:=(gW ha).1;omega)];simp only[cond_true,Option.bind_some];rw[Dg na,Dg nb,S7];simp only[Option.bind_some];rw[QP ha hb hl n (i+1) (by omega),XV (i:=i) (by rw[jS];exact hi) (by rw[jS];exact dm)];have e1:(dv a)[i]'(by rw[jS];exact hi)=a.1[i].tdiv (dD a):=by simp[dv]
  have e2:(dv b)[i]'(by rw[jS];exact dm)=b.1[i].tdiv (dD b):=by simp[dv]
  rw[e1,e2];generalize a.1[i].tdiv (dD a)=x;generalize b.1[i].tdiv (dD b)=y;by_cases h:x=y
  ·rw[if_pos h,KS.2 h];rfl
  ·rw[if_neg h];unfold kF;by_cases h1:x<y
   ·rw[if_pos h1,if_pos h1];rfl
   ·rw[if_neg h1,if_neg h1,if_pos (by omega)];rfl
theorem SQ(ha:bK a=true)(hb:bK b=true)(hl:a.1.length=b.1.length):uO a b=some ((bf a b,()),()):=by
 rw[aeZ,ze ha,ze hb];simp only[Option.bind_some];have:=QP ha hb hl a.1.length 0 (by omega);rw[Int.natCast_zero]at this;rw[this];rfl
theorem RZ(ha:bK a=true)(hb:bK b=true)(hl:a.1.length=b.1.length):∀(n i:Nat),n+i=a.1.length ->
  yD a b (dD a) (dD b) (i:Int)=some ((dF ((dv a).drop i) ((dv b).drop i),()),())
 | 0,i,hn=>by
  obtain rfl:i=a.1.length:=by omega
  rw[RY,aZ];have e1:(dv a).drop a.1.length=[]:=List.drop_eq_nil_of_le (by rw[jS];omega);rw[e1];rfl
 | n+1,i,hn=>by
  have hi:i<a.1.length:=by omega
  have dm:i<b.1.length:=by omega
  have na:=(gW ha).2.2 _ (List.getElem_mem hi);have nb:=(gW hb).2.2 _ (List.getElem_mem dm);rw[RY,aX hi,aX dm,aG hi,aG dm,BJ,BJ,aO (by have:=(gW ha).1;omega)];simp only[cond_true,Option.bind_some];rw[Dg na,Dg nb,RZ ha hb hl n (i+1) (by omega),XV (i:=i) (by rw[jS];exact hi) (by rw[jS];exact dm)];have e1:(dv a)[i]'(by rw[jS];exact hi)=a.1[i].tdiv (dD a):=by simp[dv]
  have e2:(dv b)[i]'(by rw[jS];exact dm)=b.1[i].tdiv (dD b):=by simp[dv]
  rw[e1,e2];generalize a.1[i].tdiv (dD a)=x;generalize b.1[i].tdiv (dD b)=y;by_cases h:x=y
  ·rw[if_pos h,h];simp
  ·rw[if_neg h];have e:(x != y)=true:=by simpa using h
   rw[e,cond_true];by_cases h1:x<y
   ·rw[if_pos h1,decide_eq_true h1];rfl
   ·rw[if_neg h1,decide_eq_false h1];rfl
theorem agk(ha:bK a=true)(hb:bK b=true)(hl:a.1.length=b.1.length):rS a b=some ((bf a b,()),()):=by
 rw[agj,zy ha,zy hb];simp only[Option.bind_some];rw[CK,CK];have:=RZ ha hb hl a.1.length 0 (by omega);rw[Int.natCast_zero]at this;rw[this];rfl
theorem CQ(ha:bK a=true)(hb:bK b=true):IntKind.i64.wrap (a.2.1*dD b)=a.2.1*dD b:=by
 have h1:=CU (gW ha).2.1;have h2:=ox b;have h3:=ahW hb;exact Lw (by omega) (by omega)
theorem agh(ha:bK a=true)(hb:bK b=true):zD a b=some ((!decide (dt a b<0),()),()):=by
 rw[agf,zy ha,zy hb];simp only[Option.bind_some];rw[CK,CK,CQ ha hb,CQ hb ha];have hs:=@xr a b;generalize a.2.1*dD b=x at *
 generalize b.2.1*dD a=y at *
 by_cases h1:x>y
 ·have:¬dt a b<0:=λh=>by
   rcases hs.1 h with h|h<;>omega
  rw[decide_eq_true h1,decide_eq_false this];rfl
 ·rw[decide_eq_false h1];by_cases h2:x=y
  ·subst h2;simp only[cond_false,beq_self_eq_true,cond_true];cases h3:a.2.2
   ·cases h4:b.2.2
    ·have:¬dt a b<0:=λh=>by
      rcases hs.1 h with h|h
      ·omega
      ·rw[h4]at h;exact absurd h.2.2 (by simp)
     rw[decide_eq_false this];rfl
    ·have:dt a b<0:=hs.2 (.inr ⟨rfl,h3,h4⟩);rw[decide_eq_true this];rfl
   ·have:¬dt a b<0:=λh=>by
     rcases hs.1 h with h|h
     ·omega
     ·rw[h3]at h;exact absurd h.2.1 (by simp)
    rw[decide_eq_false this];rfl
  ·have e:(x==y)=false:=by simpa using h2
   have:dt a b<0:=hs.2 (.inl (by omega));rw[e,decide_eq_true this];rfl
theorem aeh(ha:bK a=true)(hb:bK b=true)(hl:a.1.length=b.1.length):SB a b=some ((eQ a b,()),()):=by
 have e0:((a.1.length:Int) != (b.1.length:Int))=false:=by rw[hl];simp
 rw[aeg,om,om,ha,hb,e0,SQ ha hb hl,ze ha,ze hb];simp only[Option.bind_some,Bool.not_true,cond_false];rw[CQ ha hb,CQ hb ha,S7];simp only[Option.bind_some];unfold eQ dt;by_cases h:bf a b=0
 ·rw[h];simp only[bne_self_eq_false,cond_false,ne_eq,not_true_eq_false,if_false];by_cases h2:kF (a.2.1*dD b) (b.2.1*dD a)=0
  ·rw[h2];simp only[bne_self_eq_false,cond_false,not_true_eq_false,if_false];cases a.2.2<;>cases b.2.2<;>rfl
  ·have e:(kF (a.2.1*dD b) (b.2.1*dD a) != 0)=true:=by simpa using h2
   rw[e,if_pos h2];rfl
 ·have e:(bf a b != 0)=true:=by simpa using h
  rw[e,if_pos h];rfl
theorem ZA(h:n<=68719476736):decide ((0+n)*8<=140737488355328)=true:=by simp;omega
theorem lB{c:Nat}(h:n<=68719476736)(hc:c<=1000):decide ((n+1)*c<=140737488355328)=true:=by
 have:=Nat.mul_le_mul (show n+1<=68719476737 by omega) hc;simp;omega
theorem Tp(a:aa)(h:a.1.length<=68719476736):zF a=some ((a,()),()):=by
 rw[agl,ZA h];rfl
theorem FJ(a:aa)(h:a.1.length<=68719476736):uP a=some ((a,()),()):=by
 rw[ae0,ae2,ZA h];rfl
theorem Im(l:List α):l.drop (Int.toNat 0)=l:=rfl
theorem YD{m:Nat}(h1:n<=m)(h2:m<=1000000):(decide ((0:Nat)<=0)&&decide (0<=(n:Int))&&decide ((n:Int)<=(m:Int)))=true:=by simp;omega
theorem YE{m:Nat}(h1:n<=m):(decide (0<=(n:Int))&&decide ((n:Int)<=(m:Int))&&decide ((m:Int)<=(m:Int)))=true:=by simp;omega
theorem anx{S:List α}{i:Nat}(hi:i<S.length)(a:α):S.set i a=S.take i++a::S.drop (i+1):=by
 rw[List.set_eq_take_append_cons_drop,if_pos hi]
theorem XS(hS:S.length<=1000000)(i:Nat):decide ((0+(List.drop (Int.toNat 0) (S.take i)).length)*40<=140737488355328)=true/\decide (((List.drop (Int.toNat 0) (S.take i)).length+1)*40<=140737488355328)=true /\
  ∀a:aa,decide (((List.drop (Int.toNat 0) (S.take i)++[a]).length+(S.drop i).length)*40<=140737488355328)=true:=by
 rw[Im];refine⟨?_,?_,λa=>?_⟩<;>simp only[List.length_append,List.length_take,List.length_drop,List.length_singleton,decide_eq_true_eq]<;>omega
theorem R8(ka:cY n a)(hV:∀s∈S,cY n s)(hS:S.length<=1000000):∀(m i:Nat),m+i=S.length ->
  yG S a (i:Int)=some ((S.take i++cZ (S.drop i) a,()),())
 | 0,i,hm=>by
  obtain rfl:i=S.length:=by omega
  obtain⟨l1,l2,l3⟩:=XS hS S.length;have l3:=l3 a;rw[R7,aZ,Int.toNat_natCast];have et:S.take S.length=S:=List.take_of_length_le (Nat.le_refl _);simp only[cond_false,YD (Nat.le_refl _) hS,YE (Nat.le_refl S.length),et,cond_true]at l1 l2 l3 ⊢;rw[l1,l2,l3,Im];simp[cZ]
 | m+1,i,hm=>by
  have hi:i<S.length:=by omega
  have ks:=hV _ (List.getElem_mem hi);have hl:S[i].1.length=a.1.length:=ks.2.1.trans ka.2.1.symm;have aj6:=agk ks.1 ka.1 hl;have ajZ:=agh ks.1 ka.1;obtain⟨l1,l2,l3⟩:=XS hS i;have l3:=l3 a;have et:S.take S.length=S:=List.take_of_length_le (Nat.le_refl _);have l4:decide ((0+S.length)*40<=140737488355328)=true:=by simp;omega
  rw[R7,aX hi,aG hi,aO (by omega),Int.toNat_natCast];simp only[cond_true,Option.bind_some,aj6,ajZ,YD (Nat.le_of_lt hi) hS,YE (Nat.le_of_lt hi),et,l1,l2,l3,l4];rw[List.drop_eq_getElem_cons hi];simp only[cZ];by_cases w:bf S[i] a<0
  ·rw[decide_eq_true w,if_pos w,cond_true,R8 ka hV hS m (i+1) (by omega)];have e:S.take (i+1)=S.take i++[S[i]]:=by rw[List.take_add_one,List.getElem?_eq_getElem hi];rfl
   rw[e,List.append_assoc];rfl
  ·rw[decide_eq_false w,if_neg w,cond_false];by_cases w0:bf S[i] a=0
   ·have e:(bf S[i] a==0)=true:=by simpa using w0
    rw[e,if_pos w0,cond_true];by_cases st:dt S[i] a<0
    ·rw[decide_eq_true st,if_pos st];simp only[Bool.not_true,cond_false];rw[anx hi]
    ·rw[decide_eq_false st,if_neg st];simp only[Bool.not_false,cond_true];rw[<-List.drop_eq_getElem_cons hi,List.take_append_drop]
   ·have e:(bf S[i] a==0)=false:=by simpa using w0
    rw[e,if_neg w0,cond_false,Im];simp
theorem ags(ka:cY n a)(hV:∀s∈S,cY n s)(hS:S.length<=1000000):zH S a=some ((cZ S a,()),()):=by
 rw[agr];have:=R8 ka hV hS S.length 0 (by omega);rw[Int.natCast_zero]at this;rw[this];simp
theorem KG(a:aa):∀S:List aa,(cZ S a).length<=S.length+1
 | []=>by simp[cZ]
 | s::S=>by
  have:=KG a S;simp only[cZ];split
  ·simp;omega
  ·split
   ·split<;>simp
   ·simp
theorem am6(ka:cY n a)(hV:∀s∈S,cY n s):∀s∈cZ S a,cY n s:=λs hs=>by
 rcases tq a S s hs with h|rfl
 ·exact hV s h
 ·exact ka
def fR(a:aa):Bool:=gl a.1 0==0&&(decide (a.2.1>0)||(a.2.1==0&&a.2.2))
def eO(a:aa):Bool:=gl a.1 0 != 0
def kz(d:Int):ab:=(d,[(List.replicate d.toNat (0:Int),1,false)])
def bQ(d:Int)(l:List aa):ab:=bif l.any fR then kz d else (d,(l.filter eO).foldl cZ [])
def bd(n:Nat)(a:aa):Prop:=bK a=true/\a.1.length=n
theorem Kq{n:Nat}(h:bd n a)(hv:eO a=true):cY n a:=⟨h.1,h.2,by unfold eO at hv;simpa using hv⟩
theorem Yg(h0:0<=d)(h1:d<=1000):(decide (0<=d)&&decide (d<=d)&&decide (d*8<=140737488355328)&&decide (d<=9223372036854775807))=true:=by simp;omega
theorem F6(h0:0<=d)(h1:d<=1000):zG d=some ((kz d,()),()):=by
 rw[agp,Yg h0 h1];rfl
theorem FK(h0:0<=d)(h1:d<=1000):uR d=some ((kz d,()),()):=by
 rw[ae5,Yg h0 h1];rfl
theorem yF(h0:0<=d)(h1:d<=1000){l:List aa}(hV:∀a∈l,bd n a)(hl:l.length<=1000)(z:ab):∀(m i:Nat) (S:List aa),m+i=l.length->(∀s∈S,cY n s)->S.length<=i ->
  uD d l z (d,S) (i:Int)=some ((bif (l.drop i).any fR then kz d else (d,((l.drop i).filter eO).foldl cZ S),()),())
 | 0,i,S,hm,_,_=>by
  obtain rfl:i=l.length:=by omega
  rw[R6,aZ,List.drop_eq_nil_of_le (Nat.le_refl _)];rfl
 | m+1,i,S,hm,hS,hSl=>by
  have hi:i<l.length:=by omega
  have kv:=hV _ (List.getElem_mem hi);have h4:=(gW kv.1).1;rw[R6,aX hi,aG hi,aO (by omega)];simp only[cond_true,Option.bind_some];rw[Tl _ (by omega),List.drop_eq_getElem_cons hi,List.any_cons,List.filter_cons];simp only[Option.bind_some];have ih:=λS h1 h2=>yF h0 h1 hV hl z m (i+1) S (by omega);cases hg:gl l[i].1 0==0
  ·have hv:eO l[i]=true:=by unfold eO bne;rw[hg];rfl
   have hb:fR l[i]=false:=by unfold fR;rw[hg];rfl
   have ka:=Kq kv hv;rw[hv,hb,cond_false,Tp _ (by omega)];simp only[Option.bind_some];rw[ags ka hS (by omega)];simp only[Option.bind_some];have:=yF h0 h1 hV hl z m (i+1) (cZ S l[i]) (by omega) (am6 ka hS) (by have:=KG l[i] S;omega);rw[this];rfl
  ·have hv:eO l[i]=false:=by unfold eO bne;rw[hg];rfl
   rw[hv,cond_true,agi];have e1:fR l[i]=(decide (l[i].2.1>0)||(l[i].2.1==0&&l[i].2.2)):=by unfold fR;rw[hg];rfl
   rw[e1];have:=yF h0 h1 hV hl z m (i+1) S (by omega) hS (by omega);by_cases c1:l[i].2.1<0
   ·have c2:¬l[i].2.1>0:=by omega
    have c3:(l[i].2.1==0)=false:=by simp;omega
    rw[decide_eq_true c1,decide_eq_false c2,c3];simp only[cond_true,Option.bind_some,Bool.not_true,cond_false,Bool.false_and,Bool.or_self,Bool.false_or];rw[this];rfl
   ·rw[decide_eq_false c1];by_cases c3:l[i].2.1=0
    ·have c4:(l[i].2.1==0)=true:=by simpa using c3
     have c2:¬l[i].2.1>0:=by omega
     rw[decide_eq_false c2,c4];cases l[i].2.2
     ·simp only[cond_false,cond_true,Option.bind_some,Bool.not_true,Bool.not_false,Bool.and_false,Bool.or_self,Bool.false_or];rw[this];rfl
     ·simp only[cond_false,cond_true,Option.bind_some,Bool.not_true,Bool.not_false,Bool.and_true,Bool.or_true,Bool.true_or];rw[F6 h0 h1];rfl
    ·have c4:(l[i].2.1==0)=false:=by simpa using c3
     have c2:l[i].2.1>0:=by omega
     rw[decide_eq_true c2,c4];simp only[cond_false,cond_true,Option.bind_some,Bool.not_false,Bool.true_or];rw[F6 h0 h1];rfl
theorem rT{n:Nat}{d:Int}(h0:0<=d)(h1:d<=1000){l:List aa}(hV:∀a∈l,bd n a)(hl:l.length<=1000):mZ d l=some ((bQ d l,()),()):=by
 rw[agq];have:=yF h0 h1 hV hl (0,[]) l.length 0 [] (by omega) (by simp) (by simp);rw[Int.natCast_zero]at this;rw[this];rfl
abbrev tP:Ty:=.pair (.slice 3 ak) (.pair ak aw)
theorem H8(ha:bd n a)(hb:bd n b):nZ (a,(b,()))=some ((fT tP nZ a b,()),()) /\
  fT tP nZ a b=eQ a b:=by
 have h:nZ (a,(b,()))=some ((eQ a b,()),()):=aeh ha.1 hb.1 (ha.2.trans hb.2.symm);have e:fT tP nZ a b=eQ a b:=by
  unfold fT;rw[h]
 exact⟨by rw[e];exact h,e⟩
theorem amB{V:α->Prop}{cf cg:α->α->Int}(h:pt V cf){W:α->Prop}(hW:∀x,W x->V x)(he:∀x y,W x->W y->cg x y=cf x y):pt W cg:=by
 refine⟨λx hx=>?_,λx y z hx hy hz h1 h2=>?_,λx y z hx hy hz h1 h2=>?_,λx y hx hy h1 h2=>?_⟩
 ·rw[he x x hx hx];exact h.irrefl x (hW x hx)
 ·rw[he _ _ hx hy]at h1;rw[he _ _ hy hz]at h2;rw[he _ _ hx hz];exact h.trans x y z (hW _ hx) (hW _ hy) (hW _ hz) h1 h2
 ·rw[he _ _ hx hy]at h1;rw[he _ _ hy hz]at h2;rw[he _ _ hx hz];exact h.ntrans x y z (hW _ hx) (hW _ hy) (hW _ hz) h1 h2
 ·rw[he _ _ hx hy]at h1;rw[he _ _ hy hx]at h2;exact h.Hy x y (hW _ hx) (hW _ hy) h1 h2
theorem anF{K:List aa}(hV:∀a∈K,cY n a)(hl:K.length<=1000000):
  Tu K (Value.func (Fn.func 356) #[] #[])=some ((),fk eQ K,()):=by
 have hv:∀a∈K,bd n a:=λa ha=>⟨(hV a ha).1,(hV a ha).2.1⟩;have hO:pt (λa=>a∈K) (fT tP nZ):=
  amB (@CX n) (λa ha=>hV a ha) (λx y hx hy=>(H8 (hv x hx) (hv y hy)).2)
 have hs:fk eQ K=fk (fT tP nZ) K:=by
  have hp:=qG eQ K;refine Zn hO (λa ha=>ha) hp ?_;have:=KV (@CX n) hV;refine List.Pairwise.imp_of_mem (λ{a b} ha hb h=>?_) this;rw[(H8 (hv b (hp.mem_iff.1 hb)) (hv a (hp.mem_iff.1 ha))).2];exact h
 show tG 153 tP 2 356 _ (K,(Value.func (Fn.func 356) #[] #[],()))=_;unfold tG;rw[if_pos ⟨rfl,⟨λa ha b hb=>(H8 (hv a ha) (hv b hb)).1,hO⟩,Nat.lt_of_le_of_lt hl (by decide)⟩];rw[hs];rfl
theorem Q6{d:Int}{K:List aa}(hV:∀a∈K,cY n a)(hl:K.length<=1000)(z:ab):∀(m i:Nat) (out:List aa),m+i=K.length->out.length<=i ->
  rb z ((i:Int),K) (d,out) (K.length:Int) (i:Int)=some (((d,out++fA (K.drop i)),()),())
 | 0,i,out,hm,_=>by
  obtain rfl:i=K.length:=by omega
  rw[Q5];dsimp only;rw[aZ,List.drop_eq_nil_of_le (Nat.le_refl _),cond_false];simp[fA]
 | m+1,i,out,hm,ho=>by
  have hi:i<K.length:=by omega
  have k1:=hV _ (List.getElem_mem hi);have ei:((i:Int)+1)=((i+1:Nat):Int):=by omega
  have dd:(V.dead.idle&&decide ((i:Int)<=(i:Int)))=true:=by simp[V.idle,V.aL]
  have sz:decide ((out.length+1)*40<=140737488355328)=true:=lB (by omega) (by omega);rw[Q5];dsimp only;rw[aX hi,aG hi,dd,aO (by omega),sz,ei];simp only[cond_true,Option.bind_some];have ih:=λout h=>Q6 (d:=d) hV hl z m (i+1) out (by omega) h;by_cases h2:i+1<K.length
  ·have k2:=hV _ (List.getElem_mem h2);have e2:decide (((i+1:Nat):Int)<=((i+1:Nat):Int))=true:=by simp
   rw[aX h2,aG h2,e2];simp only[cond_true,Option.bind_some];rw[SQ k1.1 k2.1 (k1.2.1.trans k2.2.1.symm)];simp only[Option.bind_some];rw[List.drop_eq_getElem_cons hi,List.drop_eq_getElem_cons h2];simp only[fA];rw[<-List.drop_eq_getElem_cons h2];by_cases w:bf K[i] K[i+1]=0
   ·have e:(bf K[i] K[i+1]==0)=true:=by simpa using w
    rw[e,if_pos w,cond_true,ih out (by omega)]
   ·have e:(bf K[i] K[i+1]==0)=false:=by simpa using w
    rw[e,if_neg w,cond_false,ih (out++[K[i]]) (by simp;omega),List.append_assoc];rfl
  ·have hz:i+1=K.length:=by omega
   have e2:decide (((i+1:Nat):Int)<(K.length:Int))=false:=by simp;omega
   rw[e2,cond_false,ih (out++[K[i]]) (by simp;omega),List.drop_eq_getElem_cons hi,List.drop_eq_nil_of_le (by omega)];simp[fA]
def Ko(d:Int)(l:List aa):ab:=bif l.any fR then kz d else (d,fA (fk eQ (l.filter eO)))
theorem D4{d:Int}(h0:0<=d)(h1:d<=1000)(hV:∀a∈l,bd n a)(hl:l.length<=1000)(z:ab):∀(m i:Nat) (K:List aa),m+i=l.length->(∀s∈K,cY n s)->K.length<=i ->
  re d l z K l (l.length:Int) (i:Int)=some ((bif (l.drop i).any fR then kz d else (d,fA (fk eQ (K++(l.drop i).filter eO))),()),())
 | 0,i,K,hm,hK,hKl=>by
  obtain rfl:i=l.length:=by omega
  rw[Q7,aZ,List.drop_eq_nil_of_le (Nat.le_refl _),cond_false,anF hK (by omega)];simp only[Option.bind_some,List.any_nil,cond_false,List.filter_nil,List.append_nil];have hp:=qG eQ K;have:=Q6 (d:=d) (K:=fk eQ K) (λa ha=>hK a (hp.mem_iff.1 ha)) (by rw[hp.length_eq];omega) z (fk eQ K).length 0 [] (by omega) (by simp);rw[Int.natCast_zero]at this;rw[this];simp
 | m+1,i,K,hm,hK,hKl=>by
  have hi:i<l.length:=by omega
  have kv:=hV _ (List.getElem_mem hi);have h4:=(gW kv.1).1;rw[Q7,aX hi,aG hi,aO (by omega)];simp only[cond_true,Option.bind_some];rw[SY kv.1,List.drop_eq_getElem_cons hi,List.any_cons,List.filter_cons];simp only[Option.bind_some];cases hg:gl l[i].1 0==0
  ·have hv:eO l[i]=true:=by unfold eO bne;rw[hg];rfl
   have cP:(gl l[i].1 0 != 0)=true:=hv;have hb:fR l[i]=false:=by unfold fR;rw[hg];rfl
   have ka:=Kq kv hv;rw[hv,cP,hb,Bool.not_true,cond_false,FJ _ (by omega)];simp only[Option.bind_some];rw[lB (by omega) (by omega),cond_true];have:=D4 h0 h1 hV hl z m (i+1) (K++[l[i]]) (by omega) (λs hs=>by
    rcases List.mem_append.1 hs with h|h
    ·exact hK s h
    ·rw[List.mem_singleton.1 h];exact ka) (by simp;omega)
   rw[this];simp
  ·have hv:eO l[i]=false:=by unfold eO bne;rw[hg];rfl
   have cP:(gl l[i].1 0 != 0)=false:=hv;rw[hv,cP,Bool.not_false,cond_true];have e1:fR l[i]=(decide (l[i].2.1>0)||(l[i].2.1==0&&l[i].2.2)):=by unfold fR;rw[hg];rfl
   rw[e1];have:=D4 h0 h1 hV hl z m (i+1) K (by omega) hK (by omega);cases c1:decide (l[i].2.1>0)
   ·cases c2:l[i].2.1==0
    ·simp only[cond_false,Bool.false_and,Bool.or_self,Bool.false_or];rw[this];rfl
    ·cases c3:l[i].2.2
     ·simp only[cond_false,cond_true,Bool.and_false,Bool.or_self,Bool.false_or];rw[this];rfl
     ·simp only[cond_false,cond_true,Bool.and_true,Bool.or_true,Bool.true_or];rw[FK h0 h1];rfl
   ·simp only[cond_true,Bool.true_or];rw[FK h0 h1];rfl
theorem afq(h0:0<=d)(h1:d<=1000)(hV:∀a∈l,bd n a)(hl:l.length<=1000):pw d l=some ((Ko d l,()),()):=by
 rw[afp];have:=D4 h0 h1 hV hl (0,[]) l.length 0 [] (by omega) (by simp) (by simp);rw[Int.natCast_zero]at this;rw[this];rfl
theorem norm_eq{n:Nat}(hV:∀a∈l,bd n a)(hm:∀a,a∈l↔a∈l'):Ko d l=bQ d l':=by
 have e1:l.any fR=l'.any fR:=by
  rw[Bool.eq_iff_iff,List.any_eq_true,List.any_eq_true];exact⟨λ⟨x,hx,h⟩=>⟨x,(hm x).1 hx,h⟩,λ⟨x,hx,h⟩=>⟨x,(hm x).2 hx,h⟩⟩
 have e2:fA (fk eQ (l.filter eO))=(l'.filter eO).foldl cZ []:=ams (n:=n) (λa ha=>Kq (hV a (List.mem_filter.1 ha).1) (List.mem_filter.1 ha).2) (λa=>by
  rw[List.mem_filter,List.mem_filter,hm a])
 unfold Ko bQ;rw[e1,e2]
theorem U6{g:Nat}(hg:g<=4000000000000000000)(hy:y.natAbs<=4000000000000000000):Nat.gcd g y.natAbs<=4000000000000000000:=by
 by_cases h0:g=0
 ·subst h0;rw[Nat.gcd_zero_left];exact hy
 ·exact Nat.le_trans (Nat.gcd_le_left _ (Nat.pos_of_ne_zero h0)) hg
theorem Ve:∀(x:List Int) (g:Nat),(∀y∈x,y.natAbs<=4000000000000000000)->g<=4000000000000000000->gl x g<=4000000000000000000
 | [],g,_,hg=>hg
 | a::x,g,h,hg=>Ve x (Nat.gcd g a.natAbs) (λy hy=>h y (List.mem_cons_of_mem _ hy)) (U6 hg (h a (by simp)))
theorem RW(x:List Int)(hl:x.length<=68719476736)(hx:∀y∈x,y.natAbs<=4000000000000000000):∀(n i g:Nat),n+i=x.length->rz x (g:Int) (i:Int)=some ((((gl (x.drop i) g:Nat):Int),()),())
 | 0,i,g,hn=>by
  obtain rfl:i=x.length:=by omega
  rw[yB,aZ,List.drop_eq_nil_of_le (by omega)];rfl
 | n+1,i,g,hn=>by
  have hi:i<x.length:=by omega
  rw[yB,aX hi,aG hi,cond_true,Option.bind_some,TF (hx _ (List.getElem_mem hi)),Option.bind_some,D7 x i _ _ _ (Nat.le_refl _) (Int.natCast_nonneg _) (Int.natCast_nonneg _),aO (by omega),RW x hl hx n (i+1) _ (by omega),List.drop_eq_getElem_cons hi];simp only[Int.natAbs_natCast];rfl
theorem agd(x:List Int)(k:Int)(hl:x.length<=68719476736)(hx:∀y∈x,y.natAbs<=4000000000000000000)(hk:k.natAbs<=4000000000000000000):py x k=some ((((gl x k.natAbs:Nat):Int),()),()):=by
 rw[Tm,TF hk,Option.bind_some];have:=RW x hl hx x.length 0 k.natAbs (by omega);simpa using this
theorem QR(x:List Int)(hl:x.length<=68719476736)(hx:∀y∈x,y.natAbs<=4000000000000000000):∀(n i g:Nat),n+i=x.length->g<=4000000000000000000->um x (g:Int) x (x.length:Int) (i:Int)=some ((((gl (x.drop i) g:Nat):Int),()),())
 | 0,i,g,hn,_=>by
  obtain rfl:i=x.length:=by omega
  rw[yk,aZ,List.drop_eq_nil_of_le (by omega)];rfl
 | n+1,i,g,hn,hg=>by
  have hi:i<x.length:=by omega
  have hy:=hx _ (List.getElem_mem hi);rw[yk,aX hi,aG hi,cond_true,Option.bind_some,SN (by simpa using hg) hy,Option.bind_some,aO (by omega)];simp only[Int.natAbs_natCast];rw[QR x hl hx n (i+1) _ (by omega) (U6 hg hy),List.drop_eq_getElem_cons hi];rfl
theorem ae4(x:List Int)(hl:x.length<=68719476736)(hx:∀y∈x,y.natAbs<=4000000000000000000):mS x=some ((((gl x 0:Nat):Int),()),()):=by
 rw[SS];have:=QR x hl hx x.length 0 0 (by omega) (by omega);simpa using this
def iV(g:Nat):Int:=if g=0 then 1 else (g:Int)
def fL(x:List Int)(k:Int)(st:Bool):aa×Bool :=
 bif bK (x.map (λy=>y.tdiv (iV (gl x k.natAbs))),k.tdiv (iV (gl x k.natAbs)),st)then ((x.map (λy=>y.tdiv (iV (gl x k.natAbs))),k.tdiv (iV (gl x k.natAbs)),st),true)else (([],0,false),false)
theorem YH(g:Nat):(iV g != 0)=true:=by
 unfold iV;split
 ·rfl
 ·simp;omega
theorem amc(g:Nat):(bif true then if 1<(g:Int)then (g:Int)else 1 else if (g:Int)<1 then (g:Int)else 1)=iV g:=by
 simp only[cond_true];unfold iV;by_cases h:g=0
 ·rw[if_pos h,h];rfl
 ·rw[if_neg h];by_cases h2:1<(g:Int)
  ·rw[if_pos h2]
  ·rw[if_neg h2];omega
theorem xw{D:Int}(h:y.natAbs<=4000000000000000000):IntKind.i64.wrap (y.tdiv D)=y.tdiv D:=by
 have h2:(y.tdiv D).natAbs<=y.natAbs:=tdiv_le y D;exact cm (by omega) (by omega)
theorem UG(x:List α)(g:α->β)(E:List β->Option R)(f:List β->Int->Option R)
  (h1:∀(i:Nat) (hi:i<x.length) (v:List β),v.length=x.length->f v (i:Int)=f (v.set i (g x[i])) ((i+1:Nat):Int)) (h2:∀v,v.length=x.length->f v (x.length:Int)=E v) :
  ∀(n i:Nat) (v:List β),n+i=x.length->v.length=x.length->f v (i:Int)=E (v.take i++(x.drop i).map g)
 | 0,i,v,hn,hv=>by
  obtain rfl:i=x.length:=by omega
  rw[h2 v hv,List.take_of_length_le (by omega),List.drop_eq_nil_of_le (by omega)];simp
 | n+1,i,v,hn,hv=>by
  have hi:i<x.length:=by omega
  rw[h1 i hi v hv,UG x g E f h1 h2 n (i+1) _ (by omega) (by simpa using hv)];congr 1;have e1:(v.set i (g x[i])).take (i+1)=v.take i++[g x[i]]:=by
   rw[List.take_add_one,List.take_set_of_le (by omega)];simp[hv,hi]
  rw[e1,List.append_assoc,List.drop_eq_getElem_cons hi,List.map_cons];rfl
theorem Ix(x:List α)(g:α->β)(E:List β->Option R)(f:List β->Int->Option R)
  (h1:∀(i:Nat) (hi:i<x.length) (v:List β),v.length=x.length->f v (i:Int)=f (v.set i (g x[i])) ((i+1:Nat):Int)) (h2:∀v,v.length=x.length->f v (x.length:Int)=E v) (v:List β) (hv:v.length=x.length):f v 0=E (x.map g):=by
 have:=UG x g E f h1 h2 x.length 0 v (by omega) hv;rw[Int.natCast_zero]at this;rw[this];simp
theorem vh(x:List α)(g:α->β)(E:List β->Option R)(f:List β->Int->Option R)
  (h1:∀(i:Nat) (hi:i<x.length) (o:List β),o.length=i->f o (i:Int)=f (o++[g x[i]]) ((i+1:Nat):Int)) (h2:∀o,f o (x.length:Int)=E o):f [] 0=E (x.map g):=by
 have key:∀(n i:Nat) (o:List β),n+i=x.length->o.length=i->f o (i:Int)=E (o++(x.drop i).map g):=by
  intro n;induction n with
  | zero =>
   intro i o hn ho;obtain rfl:i=x.length:=by omega
   rw[h2,List.drop_eq_nil_of_le (by omega)];simp
  | succ n ih =>
   intro i o hn ho;have hi:i<x.length:=by omega
   rw[h1 i hi o ho,ih (i+1) _ (by omega) (by simp;omega),List.drop_eq_getElem_cons hi,List.map_cons,List.append_assoc];rfl
 have:=key x.length 0 [] (by omega) rfl;rw[Int.natCast_zero]at this;rw[this];simp
theorem S3{x:List Int}{st:Bool}(hl:x.length<=1000)(hx:∀y∈x,y.natAbs<=4000000000000000000)(hk:k.natAbs<=4000000000000000000):mU x k st=some (((fL x k st).1,(fL x k st).2,()),()):=by
 have hg:=Ve x 0 hx (by omega);have jr:=mz (R:=Option ((aa×Bool×PUnit)×PUnit)) x 8 (by omega) (by omega) (by omega);have loop:∀D:Int,(D != 0)=true->ra x ([],0,false) D (List.replicate x.length (0:Int),k.tdiv D,st) x (x.length:Int) 0=(bif bK (x.map (λy=>y.tdiv D),k.tdiv D,st)then some (((x.map (λy=>y.tdiv D),k.tdiv D,st),true,()),())else some ((([],0,false),false,()),())):=by
  intro D hD;refine Ix x (λy=>y.tdiv D) (λv=>(bif bK (v,k.tdiv D,st)then some (((v,k.tdiv D,st),true,()),())else some ((([],0,false),false,()),()))) (λv i=>ra x ([],0,false) D (v,k.tdiv D,st) x (x.length:Int) i) (λi hi v hv=>?_) (λv hv=>?_) _ (by simp)
  ·rw[QY,aX hi,aG hi,aO (by omega),hD];simp only[cond_true,Option.bind_some];rw[aG (by omega),xw (hx _ (List.getElem_mem hi)),Int.toNat_natCast];simp only[Option.bind_some]
  ·rw[QY,aZ,cond_false,om];simp only[Option.bind_some];cases bK (v,k.tdiv D,st)<;>rfl
 rw[afk,ae4 x (by omega) hx];simp only[Option.bind_some];rw[SN (by simpa using hg) hk];simp only[Option.bind_some,Int.natAbs_natCast];rw[<-II];unfold fL;by_cases h0:gl x k.natAbs=0
 ·have e:iV (gl x k.natAbs)=1:=by unfold iV;rw[if_pos h0]
  rw[e,h0];have e2:(((0:Nat):Int)==0)=true:=rfl;rw[e2,cond_true,jr,xw hk,loop 1 rfl];cases bK (x.map (λy=>y.tdiv 1),k.tdiv 1,st)<;>rfl
 ·have e:iV (gl x k.natAbs)=((gl x k.natAbs:Nat):Int):=by unfold iV;rw[if_neg h0]
  have e2:(((gl x k.natAbs:Nat):Int)==0)=false:=by simpa using h0
  have e3:(((gl x k.natAbs:Nat):Int) != 0)=true:=by simpa using h0
  rw[e,e2,cond_false,jr,e3,cond_true,xw hk,loop _ e3];cases bK (x.map (λy=>y.tdiv ((gl x k.natAbs:Nat):Int)),k.tdiv ((gl x k.natAbs:Nat):Int),st)<;>rfl
theorem Tk{x:List Int}{st:Bool}(hl:x.length<=1000)(hx:∀y∈x,y.natAbs<=4000000000000000000)(hk:k.natAbs<=4000000000000000000):mY x k st=some (((fL x k st).1,(fL x k st).2,()),()):=by
 have loop:∀D:Int,(D != 0)=true->uA x ([],0,false) D ([],k.tdiv D,st) 0=(bif bK (x.map (λy=>y.tdiv D),k.tdiv D,st)then some (((x.map (λy=>y.tdiv D),k.tdiv D,st),true,()),())else some ((([],0,false),false,()),())):=by
  intro D hD;refine vh x (λy=>y.tdiv D) (λv=>(bif bK (v,k.tdiv D,st)then some (((v,k.tdiv D,st),true,()),())else some ((([],0,false),false,()),()))) (λv i=>uA x ([],0,false) D (v,k.tdiv D,st) i) (λi hi v hv=>?_) (λv=>?_)
  ·have hs:decide ((v.length+1)*8<=140737488355328)=true:=lB (by omega) (by omega);rw[RT,aX hi,aG hi,aO (by omega),hD];simp only[cond_true,Option.bind_some];rw[hs,cond_true,xw (hx _ (List.getElem_mem hi))]
  ·rw[RT,aZ,cond_false,rM];simp only[Option.bind_some];cases bK (v,k.tdiv D,st)<;>rfl
 rw[agb,agd x k (by omega) hx hk];simp only[Option.bind_some];rw[amc,YH,cond_true,xw hk,loop _ (YH _)];unfold fL;cases bK _<;>rfl
theorem Yh{x:List Int}{st:Bool}(h:(fL x k st).2=true):bd x.length (fL x k st).1:=by
 unfold fL at *
 cases ha:bK (x.map (λy=>y.tdiv (iV (gl x k.natAbs))),k.tdiv (iV (gl x k.natAbs)),st)
 ·rw[ha]at h;cases h
 ·exact⟨ha,by simp⟩
theorem UN:∀(l S:List aa),(l.foldl cZ S).length<=S.length+l.length
 | [],S=>by simp
 | a::l,S=>by
  have:=UN l (cZ S a);have h2:=KG a S;simp only[List.foldl_cons,List.length_cons];omega
theorem ID:∀(l S:List aa),∀s∈l.foldl cZ S,s∈S\/s∈l
 | [],S,s,h=>.inl h
 | a::l,S,s,h=>by
  rcases ID l (cZ S a) s h with h|h
  ·rcases tq a S s h with h|rfl
   ·exact .inl h
   ·exact .inr (by simp)
  ·exact .inr (by simp[h])
def xK:ab:=(0,[])
def bA(a:aa)(v:Nat):Int:=a.1.getD v 0
def iS(a:aa)(p:Int)(b:aa)(q:Int):aa×Bool:=fL (List.zipWith (λx y=>p*x+q*y) a.1 b.1) (p*a.2.1+q*b.2.1) (a.2.2&&p != 0||b.2.2&&q != 0)
def kr(d:Int)(l:List aa):ab×Bool:=bif decide ((bQ d l).2.length>16)then (xK,false)else (bQ d l,true)
def gr(v:Nat)(a:aa):List aa->List aa->Option (List aa)
 | [],o=>some o
 | b::l,o=>bif decide (bA b v>=0)then gr v a l o else bif (iS a (0 - bA b v) b (bA a v)).2 then gr v a l (o++[(iS a (0 - bA b v) b (bA a v)).1])else none
def jB(v:Nat)(L:List aa):List aa->List aa->Option (List aa)
 | [],o=>some o
 | a::l,o=>bif decide (bA a v<=0)then jB v L l o else match gr v a L o with
  | some o=>jB v L l o
  | none=>none
def vw(v:Nat)(L:List aa):Option (List aa):=jB v L L (L.filter λa=>bA a v==0)
def dI(c:ab)(v:Nat):ab×Bool:=match vw v c.2 with
 | some l=>kr c.1 l
 | none=>(xK,false)
def oB:Nat->ab->Option ab
 | 0,c=>some c
 | n+1,c=>bif (dI c n).2 then oB n (dI c n).1 else none
def Is(c:ab):Bool×Bool:=match oB c.1.toNat c with
 | some r=>(decide (r.2.length>0),true)
 | none=>(false,false)
def jl(c:ab):Bool×Bool:=bif br c then Is (bQ c.1 c.2)else (false,false)
def dM(a:aa):aa×Bool:=bif bK a then ((a.1.map (λx=>0 - x),0 - a.2.1,!a.2.2),true)else (([],0,false),false)
def cR(a b:ab):ab×Bool:=bif br a&&(br b&&a.1==b.1)then kr a.1 (a.2++b.2)else (xK,false)
def kn(c:ab)(a:aa):Bool×Bool:=bif (dM a).2&&(cR c ((a.1.length:Int),[(dM a).1])).2 then jl (cR c ((a.1.length:Int),[(dM a).1])).1 else (false,false)
def lk(d:Int):List aa->List aa->Option (List aa)
 | pre,[]=>some pre
 | pre,a::post=>bif (kn (d,pre++post) a).2 then (bif (kn (d,pre++post) a).1 then lk d pre post else lk d (pre++[a]) post)else none
def my(c:ab):Option ab:=bif (jl c).2 then (bif (jl c).1 then some (kz c.1)else (lk c.1 [] c.2).map λl=>(c.1,l))else none
def gq(c:ab):Option ab:=bif br c then my (bQ c.1 c.2)else none
theorem cc:br c=true↔(∀a∈c.2,bd c.1.toNat a)/\0<=c.1/\c.1<=4/\c.2.length<=16:=by
 unfold br bd;simp only[Bool.and_eq_true,List.all_eq_true,decide_eq_true_eq,Bool.not_eq_true',bne_eq_false_iff_eq];constructor
 ·rintro⟨h1,⟨h2,h3⟩,h4⟩
  exact⟨λa ha=>⟨(h1 a ha).1,by have:=(h1 a ha).2;omega⟩,h2,h3,by omega⟩
 ·rintro⟨h1,h2,h3,h4⟩
  exact⟨λa ha=>⟨(h1 a ha).1,by have:=(h1 a ha).2;omega⟩,⟨h2,h3⟩,by omega⟩
theorem amr(d:Int)(l:List aa):(bQ d l).2.length<=max 1 l.length:=by
 unfold bQ;cases l.any fR with
 | true=>simp[kz];omega
 | false =>
  have h1:=UN (l.filter eO) [];have h2:=List.length_filter_le eO l;simp only[cond_false,List.length_nil]at h1 ⊢;omega
theorem Yz{d:Int}(h0:0<=d)(h1:d<=4):bd d.toNat ((List.replicate d.toNat (0:Int),1,false):aa):=by
 obtain⟨n,rfl⟩:∃n:Nat,d=n:=⟨d.toNat,by omega⟩;have:n=0\/n=1\/n=2\/n=3\/n=4:=by omega
 refine⟨?_,by simp⟩;rcases this with rfl|rfl|rfl|rfl|rfl<;>decide
theorem YA{d:Int}(hd:d=n)(h1:d<=4)(h:∀a∈l,bd n a):∀a∈(bQ d l).2,bd n a:=by
 intro a ha;unfold bQ at ha;cases hb:l.any fR with
 | true =>
  rw[hb]at ha;simp only[cond_true,kz,List.mem_singleton]at ha;subst ha;have:=Yz (d:=d) (by omega) h1
  rwa [show d.toNat=n by omega]at this ⊢
 | false =>
  rw[hb]at ha;rcases ID _ _ a ha with h2|h2
  ·cases h2
  ·exact h a (List.mem_filter.1 h2).1
theorem gu(d:Int)(l:List aa):(bQ d l).1=d:=by
 unfold bQ;cases l.any fR<;>rfl
theorem mA(h:br c=true):br (bQ c.1 c.2)=true:=by
 obtain⟨h1,h2,h3,h4⟩:=cc.1 h;rw[cc,gu];exact⟨YA (by omega) h3 h1,h2,h3,by have:=amr c.1 c.2;omega⟩
theorem XX{l:List aa}(h0:0<=d)(h1:d<=4)(h:∀a∈l,bd d.toNat a)(hk:(kr d l).2=true):br (kr d l).1=true/\(kr d l).1=bQ d l:=by
 unfold kr at *
 cases hc:decide ((bQ d l).2.length>16)with
 | true=>rw[hc]at hk;cases hk
 | false =>
  refine⟨?_,rfl⟩;rw[cond_false,cc,gu];exact⟨YA (by omega) h1 h,h0,h1,Nat.le_of_not_lt (of_decide_eq_false hc)⟩
theorem X5{a b:ab}(h:(cR a b).2=true):br (cR a b).1=true/\(cR a b).1=bQ a.1 (a.2++b.2)/\br a=true/\br b=true/\a.1=b.1:=by
 unfold cR at *
 cases hc:br a&&(br b&&a.1==b.1)with
 | false=>rw[hc]at h;cases h
 | true =>
  rw[hc]at h;simp only[Bool.and_eq_true,beq_iff_eq]at hc;obtain⟨ha,hb,hd⟩:=hc;have a1:=cc.1 ha;have b1:=cc.1 hb;have:=XX (l:=a.2++b.2) a1.2.1 a1.2.2.1 (λx hx=>by
   rcases List.mem_append.1 hx with hx|hx
   ·exact a1.1 x hx
   ·rw[hd];exact b1.1 x hx) h
  exact⟨this.1,this.2,ha,hb,hd⟩
theorem ame(ha:bd n a)(hb:bd n b)(h:(iS a p b q).2=true):bd n (iS a p b q).1:=by
 have:=Yh h
 rwa [List.length_zipWith,ha.2,hb.2,Nat.min_self]at this
theorem wZ(ha:bd n a):∀(l o r:List aa),(∀x∈l,bd n x)->(∀x∈o,bd n x)->gr v a l o=some r->∀x∈r,bd n x
 | [],o,r,_,ho,h=>by simp only[gr,Option.some.injEq]at h;subst h;exact ho
 | b::l,o,r,hl,ho,h=>by
  simp only[gr]at h;have dR:∀x∈l,bd n x:=λx hx=>hl x (by simp[hx]);cases hc:decide (bA b v>=0)with
  | true=>rw[hc]at h;exact wZ ha l o r dR ho h
  | false =>
   rw[hc]at h;cases hm:(iS a (0 - bA b v) b (bA a v)).2 with
   | false=>rw[hm]at h;cases h
   | true =>
    rw[hm]at h;refine wZ ha l _ r dR (λx hx=>?_) h;rcases List.mem_append.1 hx with hx|hx
    ·exact ho x hx
    ·rw[List.mem_singleton.1 hx];exact ame ha (hl b (by simp)) hm
theorem Kb{L:List aa}(hL:∀x∈L,bd n x):∀(l o r:List aa),(∀x∈l,bd n x)->(∀x∈o,bd n x)->jB v L l o=some r->∀x∈r,bd n x
 | [],o,r,_,ho,h=>by simp only[jB,Option.some.injEq]at h;subst h;exact ho
 | a::l,o,r,hl,ho,h=>by
  simp only[jB]at h;have dR:∀x∈l,bd n x:=λx hx=>hl x (by simp[hx]);cases hc:decide (bA a v<=0)with
  | true=>rw[hc]at h;exact Kb hL l o r dR ho h
  | false =>
   rw[hc,cond_false]at h;cases hm:gr v a L o with
   | none=>rw[hm]at h;cases h
   | some o2 =>
    rw[hm]at h;exact Kb hL l o2 r dR (wZ (hl a (by simp)) L o o2 hL ho hm) h
theorem ah0{L r:List aa}(hL:∀x∈L,bd n x)(h:vw v L=some r):∀x∈r,bd n x :=
 Kb hL L _ r hL (λx hx=>hL x (List.mem_filter.1 hx).1) h
theorem Io(hc:br c=true)(h:(dI c v).2=true):br (dI c v).1=true/\(dI c v).1.1=c.1:=by
 obtain⟨h1,h2,h3,h4⟩:=cc.1 hc;unfold dI at *
 cases hd:vw v c.2 with
 | none=>rw[hd]at h;cases h
 | some l =>
  rw[hd]at h;have:=XX h2 h3 (ah0 h1 hd) h;exact⟨this.1,by rw[this.2,gu]⟩
abbrev Qt:=_root_.Rat
def dot:List Int->List Qt->Qt
 | c::cs,x::xs=>(c:Qt)*x+dot cs xs
 | _,_=>0
def lhs(a:aa)(x:List Qt):Qt:=dot a.1 x+(a.2.1:Qt)
theorem YB(h:dn y=true):y.natAbs<=400000000:=by
 have:=CU h;omega
theorem eT(h:bd n a):(∀y∈a.1,y.natAbs<=400000000)/\a.2.1.natAbs<=400000000/\a.1.length<=4:=by
 obtain⟨h1,h2,h3⟩:=gW h.1;exact⟨λy hy=>YB (h3 y hy),YB h2,h1⟩
def nR(a:aa)(p:Int)(b:aa)(q:Int):List Int:=List.zipWith (λx y=>p*x+q*y) a.1 b.1
theorem Ka(a:aa)(p:Int)(b:aa)(q:Int):(List.zip a.1 b.1).map (λz=>p*z.1+q*z.2)=nR a p b q:=by
 unfold nR List.zip;rw[List.map_zipWith]
theorem td{x:Int}(hp:p.natAbs<=400000000)(hq:q.natAbs<=400000000)(hx:x.natAbs<=400000000)(hy:y.natAbs<=400000000):
  (p*x+q*y).natAbs<=400000000000000000/\IntKind.i64.wrap (IntKind.i64.wrap (p*x)+IntKind.i64.wrap (q*y))=p*x+q*y:=by
 have h1:=KD hp hx;have h2:=KD hq hy;rw[Lw hp hx,Lw hq hy];exact⟨by omega,cm (by omega) (by omega)⟩
theorem Yd(ha:bd n a)(hb:bd n b)(hp:p.natAbs<=400000000)(hq:q.natAbs<=400000000):
  (nR a p b q).length<=1000/\(∀y∈nR a p b q,y.natAbs<=4000000000000000000)/\(p*a.2.1+q*b.2.1).natAbs<=4000000000000000000:=by
 obtain⟨a1,a2,a3⟩:=eT ha;obtain⟨b1,b2,b3⟩:=eT hb;refine⟨by unfold nR;rw[List.length_zipWith];omega,λy hy=>?_,?_⟩
 ·rw[<-Ka]at hy;obtain⟨⟨u,v⟩,hz,rfl⟩:=List.mem_map.1 hy;have hm:=List.of_mem_zip hz;have:=(td hp hq (a1 u hm.1) (b1 v hm.2)).1;dsimp only;omega
 ·have:=(td hp hq a2 b2).1;omega
theorem Z3(ha:bd n a)(hb:bd n b){i:Nat}(hi:i<(List.zip a.1 b.1).length):∃(h1:i<a.1.length) (h2:i<b.1.length),(List.zip a.1 b.1)[i]=(a.1[i],b.1[i]):=by
 rw[List.length_zip]at hi;exact⟨by omega,by omega,by simp⟩
theorem Dv(ha:bd n a)(hb:bd n b):(List.zip a.1 b.1).length=a.1.length:=by
 rw[List.length_zip,ha.2,hb.2,Nat.min_self]
theorem af1(ha:bd n a)(hb:bd n b)(hp:0<=p)(Cm:p<=400000000)(hq:0<=q)(hq2:q<=400000000):zv a p b q=some (((iS a p b q).1,(iS a p b q).2,()),()):=by
 obtain⟨a1,a2,a3⟩:=eT ha;obtain⟨b1,b2,b3⟩:=eT hb;have p5:p.natAbs<=400000000:=by omega
 have p7:q.natAbs<=400000000:=by omega
 obtain⟨m1,m2,m3⟩:=Yd ha hb p5 p7;have hlen:(((a.1.length:Nat):Int) != ((b.1.length:Nat):Int))=false:=by rw[ha.2,hb.2];simp
 have sR:(decide (0<=p)&&decide (p<=400000000))=true:=by simp;omega
 have ajT:(decide (0<=q)&&decide (q<=400000000))=true:=by simp;omega
 rw[af0,rM,rM,jf,jf,ha.1,hb.1,hlen,sR,ajT];simp only[Option.bind_some,Bool.not_true,cond_false];have loop:=vh (List.zip a.1 b.1) (λz=>p*z.1+q*z.2) (λo=>uy p q a b ([],0,false) o (((List.zip a.1 b.1).length:Nat):Int)) (λo i=>uy p q a b ([],0,false) o i) (λi hi o ho=>by
  obtain⟨h1,h2,hz⟩:=Z3 ha hb hi;have hd:decide ((o.length+1)*8<=140737488355328)=true:=lB (by omega) (by omega);rw[RM,aX h1,cond_true,aG h1,aG h2];simp only[Option.bind_some];rw[hd,cond_true,(td p5 p7 (a1 _ (List.getElem_mem h1)) (b1 _ (List.getElem_mem h2))).2,aO (by omega),hz]) (λo=>rfl)
 rw[loop,Ka,Dv ha hb,RM,aZ,cond_false,(td p5 p7 a2 b2).2];have hm:=λst=>Tk (st:=st) m1 m2 m3;have e1:decide (p>0)=(p != 0):=by rw[Bool.eq_iff_iff];simp;omega
 have e2:decide (q>0)=(q != 0):=by rw[Bool.eq_iff_iff];simp;omega
 rw[hm,hm,hm,e1,e2];unfold iS;show _=some (((fL (nR a p b q) (p*a.2.1+q*b.2.1) (a.2.2&&p != 0||b.2.2&&q != 0)).1,(fL (nR a p b q) (p*a.2.1+q*b.2.1) (a.2.2&&p != 0||b.2.2&&q != 0)).2,()),());cases a.2.2<;>cases b.2.2<;>cases hp0:(p != 0)<;>cases hq0:(q != 0)<;>rfl
theorem aeM(ha:bd n a)(hb:bd n b)(hp:0<=p)(Cm:p<=400000000)(hq:0<=q)(hq2:q<=400000000):zc a p b q=some (((iS a p b q).1,(iS a p b q).2,()),()):=by
 obtain⟨a1,a2,a3⟩:=eT ha;obtain⟨b1,b2,b3⟩:=eT hb;have p5:p.natAbs<=400000000:=by omega
 have p7:q.natAbs<=400000000:=by omega
 obtain⟨m1,m2,m3⟩:=Yd ha hb p5 p7;have hlen:(((a.1.length:Nat):Int) != ((b.1.length:Nat):Int))=false:=by rw[ha.2,hb.2];simp
 have c1:decide (p<0)=false:=by simp;omega
 have c2:decide (p>400000000)=false:=by simp;omega
 have c3:decide (q<0)=false:=by simp;omega
 have c4:decide (q>400000000)=false:=by simp;omega
 rw[aeL,om,om,ha.1,hb.1,hlen,c1,c2,c3,c4];simp only[Option.bind_some,Bool.not_true,cond_false];have jr:=mz (R:=Option ((aa×Bool×PUnit)×PUnit)) a.1 8 (by omega) (by omega) (by omega);rw[jr,List.length_replicate];have loop:=Ix (List.zip a.1 b.1) (λz=>p*z.1+q*z.2) (λo=>ui p q a b ([],0,false) o (a.1.length:Int) (((List.zip a.1 b.1).length:Nat):Int)) (λo i=>ui p q a b ([],0,false) o (a.1.length:Int) i) (λi hi o ho=>by
  obtain⟨h1,h2,hz⟩:=Z3 ha hb hi;rw[Dv ha hb]at ho;rw[QK,aX h1,cond_true,aG h1,aG h2,aG (show i<o.length by omega)];simp only[Option.bind_some];rw[(td p5 p7 (a1 _ (List.getElem_mem h1)) (b1 _ (List.getElem_mem h2))).2,aO (by omega),hz,Int.toNat_natCast]) (λo _=>rfl) (List.replicate a.1.length (0:Int)) (by rw[List.length_replicate,Dv ha hb])
 rw[loop,Ka,Dv ha hb,QK,aZ,cond_false,(td p5 p7 a2 b2).2];have hm:=λst=>S3 (st:=st) m1 m2 m3;rw[hm,hm,hm];unfold iS;show _=some (((fL (nR a p b q) (p*a.2.1+q*b.2.1) (a.2.2&&p != 0||b.2.2&&q != 0)).1,(fL (nR a p b q) (p*a.2.1+q*b.2.1) (a.2.2&&p != 0||b.2.2&&q != 0)).2,()),());cases a.2.2<;>cases b.2.2<;>cases hp0:(p != 0)<;>cases hq0:(q != 0)<;>rfl
def fS(r:ab×Bool):Option ((ab×Bool×PUnit)×PUnit):=some ((r.1,r.2,()),())
theorem zl(h0:0<=d)(h1:d<=1000)(hV:∀a∈l,bd n a)(hl:l.length<=1000):pw d l=some ((bQ d l,()),()):=by
 rw[afq h0 h1 hV hl,norm_eq hV (λa=>Iff.rfl)]
theorem S1{n:Nat}(h0:0<=d)(h1:d<=1000)(hV:∀a∈l,bd n a)(hl:l.length<=1000):zj d l=fS (kr d l):=by
 rw[afj,zl h0 h1 hV hl];simp only[Option.bind_some];unfold kr;have e:decide ((((bQ d l).2.length:Nat):Int)>16)=decide ((bQ d l).2.length>16):=by rw[Bool.eq_iff_iff];simp;omega
 rw[e];cases decide ((bQ d l).2.length>16)<;>rfl
theorem acy(h0:0<=k)(h1:k<=1000000):Gb none k=some (([],()),()):=by
 have w0:IntKind.i64.wrap (k - IntKind.i64.wrap (0 - 0))=k:=by
  have:IntKind.i64.wrap (0 - 0)=0:=by decide
  rw[this,Int.sub_zero,cm (by omega) (by omega)]
 rw[agG,w0];have c1:decide (k<0)=false:=by simp;omega
 rw[c1,cond_false];by_cases hk:k>0
 ·have c2:decide (k>0)=true:=by simpa using hk
  have c3:decide (0<k)=true:=by simpa using hk
  have c4:decide (aJ.sz≠0)=true:=by decide
  have c5:decide (k*((40:Nat):Int)<=140737488355328)=true:=by simp;omega
  have c6:decide (k<=140737488355328)=true:=by simp;omega
  rw[c2,c4,c6,cond_true];show (bif (true&&true&&decide (k*((40:Nat):Int)<=140737488355328)&&true)then some (([],()),())else none)=some (([],()),());rw[c5];rfl
 ·have c2:decide (k>0)=false:=by simpa using hk
  rw[c2,cond_false]
theorem LH{x y:List aa}(hx:x.length<=1000)(hy:y.length<=1000):u7 [x,y]=some ((x++y,()),()):=by
 have g0:ae [x,y] 0=some x:=rfl;have g1:ae [x,y] 1=some y:=rfl;have w1:IntKind.i64.wrap (0+1)=1:=by decide
 have w2:IntKind.i64.wrap (1+1)=2:=by decide
 have s1:IntKind.i64.wrap (0+(x.length:Int))=x.length:=by rw[Int.zero_add];exact cm (by omega) (by omega)
 have s2:IntKind.i64.wrap ((x.length:Int)+(y.length:Int))=((x.length+y.length:Nat):Int):=cm (by omega) (by omega);have n1:decide ((x.length:Int)<0)=false:=decide_eq_false (by omega);have n2:decide (((x.length+y.length:Nat):Int)<0)=false:=decide_eq_false (by omega);rw[agF];show yJ [x,y] 0 [x,y] 2 0=_;rw[Eb,show decide ((0:Int)<2)=true from rfl,cond_true,g0];simp only[Option.bind_some];rw[s1,n1,cond_false,w1,Eb,show decide ((1:Int)<2)=true from rfl,cond_true,g1];simp only[Option.bind_some];rw[s2,n2,cond_false,w2,Eb,show decide ((2:Int)<2)=false from rfl,cond_false,acy (by omega) (by omega)];simp only[Option.bind_some];show yI [x,y] [] [x,y] 2 0=_;have d1:decide ((([]:List aa).length+x.length)*40<=140737488355328)=true:=by simp;omega
 have d2:decide ((x.length+y.length)*40<=140737488355328)=true:=by simp;omega
 rw[Ea,show decide ((0:Int)<2)=true from rfl,cond_true,g0];simp only[Option.bind_some];rw[d1,cond_true,w1,List.nil_append,Ea,show decide ((1:Int)<2)=true from rfl,cond_true,g1];simp only[Option.bind_some];rw[d2,cond_true,w2,Ea,show decide ((2:Int)<2)=false from rfl,cond_false]
theorem U1(a b:ab):(a.1 != b.1) = !(a.1==b.1):=rfl
theorem F2(a b:ab)(ha:a.2.length<=68719476736)(hb:b.2.length<=68719476736):rP a b=fS (cR a b):=by
 rw[afX,rN a ha,rN b hb];simp only[Option.bind_some];unfold cR;cases h1:br a with
 | false=>rfl
 | true =>
  cases h2:br b with
  | false=>rfl
  | true =>
   rw[U1];cases h3:a.1==b.1 with
   | false=>rfl
   | true =>
    obtain⟨a1,a2,a3,a4⟩:=cc.1 h1;obtain⟨b1,b2,b3,b4⟩:=cc.1 h2;have hd:a.1=b.1:=by simpa using h3
    have c1:decide ((0+a.2.length)*40<=140737488355328)=true:=by simp;omega
    have c2:decide ((a.2.length+b.2.length)*40<=140737488355328)=true:=by simp;omega
    have hn:=rT (n:=a.1.toNat) (d:=a.1) a2 (by omega) (l:=a.2++b.2) (λx hx=>by
     rcases List.mem_append.1 hx with hx|hx
     ·exact a1 x hx
     ·rw[hd];exact b1 x hx) (by rw[List.length_append];omega)
    simp only[Bool.not_true,cond_false,Bool.and_self,cond_true];rw[c1,cond_true,c2,cond_true,hn];simp only[Option.bind_some];unfold kr;have e:decide ((((bQ a.1 (a.2++b.2)).2.length:Nat):Int)>16)=decide ((bQ a.1 (a.2++b.2)).2.length>16):=by rw[Bool.eq_iff_iff];simp;omega
    rw[e];cases decide ((bQ a.1 (a.2++b.2)).2.length>16)<;>rfl
theorem FD(a b:ab):rF a b=fS (cR a b):=by
 rw[aeH,mP a,mP b];simp only[Option.bind_some];unfold cR;cases h1:br a with
 | false=>rfl
 | true =>
  cases h2:br b with
  | false=>rfl
  | true =>
   rw[U1];cases h3:a.1==b.1 with
   | false=>rfl
   | true =>
    obtain⟨a1,a2,a3,a4⟩:=cc.1 h1;obtain⟨b1,b2,b3,b4⟩:=cc.1 h2;have hd:a.1=b.1:=by simpa using h3
    simp only[Bool.not_true,cond_false,Bool.and_self,cond_true];rw[LH (by omega) (by omega)];simp only[Option.bind_some];rw[S1 (n:=a.1.toNat) a2 (by omega) (λx hx=>by
     rcases List.mem_append.1 hx with hx|hx
     ·exact a1 x hx
     ·rw[hd];exact b1 x hx) (by rw[List.length_append];omega)]
    rfl
theorem w6(h:y.natAbs<=400000000):IntKind.i64.wrap (0 - y)=0 - y:=cm (by omega) (by omega)
def r7(r:aa×Bool):Option ((aa×Bool×PUnit)×PUnit):=some ((r.1,r.2,()),())
theorem Th(a:aa):uY a=r7 (dM a):=by
 rw[af3,rM];simp only[Option.bind_some];unfold dM;cases h:bK a with
 | false=>rfl
 | true =>
  obtain⟨a1,a2,a3⟩:=eT ⟨h,rfl⟩;simp only[Bool.not_true,cond_false,cond_true];rw[w6 a2];refine (vh a.1 (λy=>0 - y) (λo=>some (((o,0 - a.2.1,!a.2.2),true,()),())) (λo i=>yx a ([],0,false) (o,0 - a.2.1,!a.2.2) i) (λi hi o ho=>?_) (λo=>?_))
  ·have hd:decide ((o.length+1)*8<=140737488355328)=true:=lB (by omega) (by omega);rw[RP,aX hi,cond_true,aG hi];simp only[Option.bind_some];rw[hd,cond_true,w6 (a1 _ (List.getElem_mem hi)),aO (by omega)]
  ·rw[RP,aZ];rfl
theorem SK(a:aa):uN a=r7 (dM a):=by
 rw[aeP,om];simp only[Option.bind_some];unfold dM;cases h:bK a with
 | false=>rfl
 | true =>
  obtain⟨a1,a2,a3⟩:=eT ⟨h,rfl⟩;have jr:=mz (R:=Option ((aa×Bool×PUnit)×PUnit)) a.1 8 (by omega) (by omega) (by omega);simp only[Bool.not_true,cond_false,cond_true];rw[jr,w6 a2];refine Ix a.1 (λy=>0 - y) (λo=>some (((o,0 - a.2.1,!a.2.2),true,()),())) (λo i=>yg a ([],0,false) (o,0 - a.2.1,!a.2.2) a.1 (a.1.length:Int) i) (λi hi o ho=>?_) (λo _=>?_) _ (by simp)
  ·rw[QL,aX hi,cond_true,aG hi];simp only[Option.bind_some];rw[aG (show i<o.length by omega)];simp only[Option.bind_some];rw[w6 (a1 _ (List.getElem_mem hi)),aO (by omega),Int.toNat_natCast]
  ·rw[QL,aZ];rfl
theorem drop_cons{x:List α}{i:Nat}(h:i<x.length):x.drop i=x[i]::x.drop (i+1):=List.drop_eq_getElem_cons h
theorem pD(h:bd n a)(hv:v<n):ae a.1 (v:Int)=some (bA a v):=by
 have hl:v<a.1.length:=by rw[h.2];exact hv
 rw[aG hl];unfold bA;rw[List.getD_eq_getElem?_getD,List.getElem?_eq_getElem hl];rfl
theorem TT{v:Nat}(h:bd n a):(bA a v).natAbs<=400000000:=by
 unfold bA;rw[List.getD_eq_getElem?_getD];cases hg:a.1[v]? with
 | none=>simp
 | some y=>exact (eT h).1 y (List.mem_of_getElem? hg)
theorem CM:∀(l o r:List aa),gr v a l o=some r->r.length<=o.length+l.length
 | [],o,r,h=>by simp only[gr,Option.some.injEq]at h;subst h;simp
 | b::l,o,r,h=>by
  simp only[gr]at h;cases hc:decide (bA b v>=0)with
  | true =>
   rw[hc]at h;have:=CM l o r h;simp only[List.length_cons];omega
  | false =>
   rw[hc]at h;cases hm:(iS a (0 - bA b v) b (bA a v)).2 with
   | false=>rw[hm]at h;cases h
   | true =>
    rw[hm]at h;have:=CM l _ r h;simp only[List.length_append,List.length_cons,List.length_nil]at this ⊢;omega
def BM:Option ((ab×Bool×PUnit)×PUnit):=some ((xK,false,()),())
theorem Yf{v:Nat}(ha:bd n a)(hb:bd n b)(h1:0<bA a v)(h2:bA b v<0):
  IntKind.i64.wrap (0 - bA b v)=0 - bA b v/\0<=0 - bA b v/\0 - bA b v<=400000000/\0<=bA a v/\bA a v<=400000000:=by
 have n1:=TT (v:=v) ha;have n2:=TT (v:=v) hb;exact⟨w6 n2,by omega,by omega,by omega,by omega⟩
theorem R2{v:Nat}(hv:v<n)(c z:ab)(hL:∀a∈c.2,bd n a)(hl:c.2.length<=16){i:Nat}(hi:i<c.2.length):∀(m k:Nat) (o:List aa),m+k=c.2.length->o.length+m<=10000 ->
  rA (v:Int) c z o (i:Int) (k:Int)=match (bif decide (bA (c.2[i]) v<=0)then some o else gr v (c.2[i]) (c.2.drop k) o)with
   | some r=>rB (v:Int) c z r ((i+1:Nat):Int)
   | none=>BM
 | 0,k,o,hm,ho=>by
  have e:(bif decide (bA (c.2[i]) v<=0)then some o else gr v (c.2[i]) (c.2.drop k) o)=some o:=by
   rw[List.drop_eq_nil_of_le (by omega)];cases decide (bA (c.2[i]) v<=0)<;>rfl
  have ax:decide ((k:Int)<(c.2.length:Int))=false:=decide_eq_false (by omega);rw[e,R1,ax,cond_false,aO (by omega)]
 | m+1,k,o,hm,ho=>by
  have hk:k<c.2.length:=by omega
  have ki:=hL _ (List.getElem_mem hi);have kk:=hL _ (List.getElem_mem hk);have ih:=λo ho=>R2 hv c z hL hl hi m (k+1) o (by omega) ho;rw[R1,aX hk,cond_true,aG hi,aG hk];simp only[Option.bind_some];rw[pD ki hv,pD kk hv];simp only[Option.bind_some];rw[aO (by omega)];cases h1:decide (bA (c.2[i]) v<=0)with
  | true =>
   rw[cond_true,ih o (by omega),h1];rfl
  | false =>
   have p1:=of_decide_eq_false h1;rw[cond_false,drop_cons hk];simp only[gr];cases h2:decide (bA (c.2[k]) v>=0)with
   | true =>
    rw[cond_true,ih o (by omega),h1];rfl
   | false =>
    have p2:=of_decide_eq_false h2;obtain⟨e1,e2,e3,e4,e5⟩:=Yf (v:=v) ki kk (by omega) (by omega);rw[cond_false,e1,af1 ki kk e2 e3 e4 e5];simp only[Option.bind_some];cases hmx:(iS (c.2[i]) (0 - bA (c.2[k]) v) (c.2[k]) (bA (c.2[i]) v)).2 with
    | false=>rfl
    | true =>
     have hd:decide ((o.length+1)*40<=140737488355328)=true:=lB (by omega) (by omega);simp only[Bool.not_true,cond_false,cond_true];rw[hd,cond_true,ih _ (by simp;omega),h1];rfl
theorem D8(hv:v<n)(c z:ab)(h0:0<=c.1)(h4:c.1<=4)(hL:∀a∈c.2,bd n a)(hl:c.2.length<=16):∀(m i:Nat) (o:List aa),m+i=c.2.length->o.length<=16+i*16->(∀a∈o,bd n a) ->
  rB (v:Int) c z o (i:Int)=match jB v c.2 (c.2.drop i) o with
   | some r=>fS (kr c.1 r)
   | none=>BM
 | 0,i,o,hm,ho,hV=>by
  have ax:decide ((i:Int)<(c.2.length:Int))=false:=decide_eq_false (by omega);rw[R4,ax,cond_false,List.drop_eq_nil_of_le (by omega),rT h0 (by omega) hV (by omega)];simp only[Option.bind_some,jB];unfold kr;have e:decide ((((bQ c.1 o).2.length:Nat):Int)>16)=decide ((bQ c.1 o).2.length>16):=by rw[Bool.eq_iff_iff];simp;omega
  rw[e];cases decide ((bQ c.1 o).2.length>16)<;>rfl
 | m+1,i,o,hm,ho,hV=>by
  have hi:i<c.2.length:=by omega
  have:=R2 hv c z hL hl hi c.2.length 0 o (by omega) (by omega);rw[Int.natCast_zero]at this;rw[R4,aX hi,cond_true,this,List.drop_zero,drop_cons hi];simp only[jB];cases h1:decide (bA (c.2[i]) v<=0)with
  | true =>
   simp only[cond_true];exact D8 hv c z h0 h4 hL hl m (i+1) o (by omega) (by omega) hV
  | false =>
   simp only[cond_false];cases hx:gr v (c.2[i]) c.2 o with
   | none=>rfl
   | some r =>
    have hr:=CM _ _ _ hx;exact D8 hv c z h0 h4 hL hl m (i+1) r (by omega) (by omega) (wZ (hL _ (List.getElem_mem hi)) _ _ _ hL hV hx)
theorem Tq(hc:br c=true)(hv:v<c.1.toNat):u5 c (v:Int)=fS (dI c v):=by
 obtain⟨hL,h0,h4,hl⟩:=cc.1 hc;have key:∀(m i:Nat) (o:List aa),m+i=c.2.length->o.length<=i->uB (v:Int) c (0,[]) o (i:Int)=rB (v:Int) c (0,[]) (o++(c.2.drop i).filter λa=>bA a v==0) 0:=by
  intro m;induction m with
  | zero =>
   intro i o hm ho;have ax:decide ((i:Int)<(c.2.length:Int))=false:=decide_eq_false (by omega);rw[R3,ax,cond_false,List.drop_eq_nil_of_le (by omega)];simp
  | succ m ih =>
   intro i o hm ho;have hi:i<c.2.length:=by omega
   have ki:=hL _ (List.getElem_mem hi);have hd:decide ((o.length+1)*40<=140737488355328)=true:=lB (by omega) (by omega);rw[R3,aX hi,cond_true,aG hi];simp only[Option.bind_some];rw[pD ki hv];simp only[Option.bind_some];rw[hd,aO (by omega),drop_cons hi];cases hz:bA (c.2[i]) v==0 with
   | true =>
    rw[cond_true,cond_true,ih (i+1) _ (by omega) (by simp;omega),List.filter_cons_of_pos (p:=λa=>bA a v==0) hz,List.append_assoc];rfl
   | false =>
    rw[cond_false,ih (i+1) _ (by omega) (by omega),List.filter_cons_of_neg (p:=λa=>bA a v==0) (by rw[hz];simp)]
 have k0:=key c.2.length 0 [] (by omega) (by simp);rw[Int.natCast_zero,List.nil_append,List.drop_zero]at k0;have hf:=List.length_filter_le (λa=>bA a v==0) c.2;have k1:=D8 hv c (0,[]) h0 h4 hL hl c.2.length 0 (c.2.filter λa=>bA a v==0) (by omega) (by omega) (λa ha=>hL a (List.mem_filter.1 ha).1);rw[Int.natCast_zero,List.drop_zero]at k1;rw[agn,k0,k1];unfold dI vw;cases jB v c.2 c.2 (c.2.filter λa=>bA a v==0)<;>rfl
theorem Qu{v:Nat}(hv:v<n)(c z:ab){L:List aa}(hL:∀a∈L,bd n a)(hl:L.length<=16)(ha:bd n a)(hp:0<bA a v){i:Nat}(hi:i<=1000):∀(m k:Nat) (o:List aa),m+k=L.length->o.length+m<=10000 ->
  tZ (v:Int) c z o a L (L.length:Int) (i:Int) L (L.length:Int) (k:Int)=match gr v a (L.drop k) o with
   | some r=>pk (v:Int) c z r L (L.length:Int) ((i+1:Nat):Int)
   | none=>BM
 | 0,k,o,hm,ho=>by
  have ax:decide ((k:Int)<(L.length:Int))=false:=decide_eq_false (by omega);rw[Qr,ax,cond_false,List.drop_eq_nil_of_le (by omega),aO (by omega)];rfl
 | m+1,k,o,hm,ho=>by
  have hk:k<L.length:=by omega
  have kk:=hL _ (List.getElem_mem hk);have ih:=λo ho=>Qu hv c z hL hl ha hp hi m (k+1) o (by omega) ho;rw[Qr,aX hk,cond_true,aG hk];simp only[Option.bind_some];rw[pD kk hv,pD ha hv];simp only[Option.bind_some];rw[aO (by omega),drop_cons hk];simp only[gr];cases h2:decide (bA (L[k]) v>=0)with
  | true =>
   rw[cond_true,ih o (by omega)];rfl
  | false =>
   have p2:=of_decide_eq_false h2;obtain⟨e1,e2,e3,e4,e5⟩:=Yf (v:=v) ha kk hp (by omega);rw[cond_false,e1,aeM ha kk e2 e3 e4 e5];simp only[Option.bind_some];cases hmx:(iS a (0 - bA (L[k]) v) (L[k]) (bA a v)).2 with
   | false=>rfl
   | true =>
    have hd:decide ((o.length+1)*40<=140737488355328)=true:=lB (by omega) (by omega);simp only[Bool.not_true,cond_false,cond_true];rw[hd,cond_true,ih _ (by simp;omega)]
theorem D2(hv:v<n)(c z:ab)(h0:0<=c.1)(h4:c.1<=4)(hL:∀a∈c.2,bd n a)(hl:c.2.length<=16):∀(m i:Nat) (o:List aa),m+i=c.2.length->o.length<=16+i*16->(∀a∈o,bd n a) ->
  pk (v:Int) c z o c.2 (c.2.length:Int) (i:Int)=match jB v c.2 (c.2.drop i) o with
   | some r=>fS (kr c.1 r)
   | none=>BM
 | 0,i,o,hm,ho,hV=>by
  have ax:decide ((i:Int)<(c.2.length:Int))=false:=decide_eq_false (by omega);rw[Qq,ax,cond_false,List.drop_eq_nil_of_le (by omega),S1 h0 (by omega) hV (by omega)];rfl
 | m+1,i,o,hm,ho,hV=>by
  have hi:i<c.2.length:=by omega
  have ki:=hL _ (List.getElem_mem hi);rw[Qq,aX hi,cond_true,aG hi];simp only[Option.bind_some];rw[pD ki hv];simp only[Option.bind_some];rw[aO (by omega),drop_cons hi];simp only[jB];cases h1:decide (bA (c.2[i]) v<=0)with
  | true =>
   simp only[cond_true];exact D2 hv c z h0 h4 hL hl m (i+1) o (by omega) (by omega) hV
  | false =>
   have p1:=of_decide_eq_false h1;have:=Qu hv c z hL hl ki (by omega) (i:=i) (by omega) c.2.length 0 o (by omega) (by omega);rw[Int.natCast_zero,List.drop_zero]at this;simp only[cond_false];rw[this];cases hx:gr v (c.2[i]) c.2 o with
   | none=>rfl
   | some r =>
    have hr:=CM _ _ _ hx;exact D2 hv c z h0 h4 hL hl m (i+1) r (by omega) (by omega) (wZ ki _ _ _ hL hV hx)
theorem SD(hc:br c=true){v:Nat}(hv:v<c.1.toNat):uI c (v:Int)=fS (dI c v):=by
 obtain⟨hL,h0,h4,hl⟩:=cc.1 hc;have key:∀(m i:Nat) (o:List aa),m+i=c.2.length->o.length<=i->ua (v:Int) c (0,[]) o c.2 (c.2.length:Int) (i:Int)=pk (v:Int) c (0,[]) (o++(c.2.drop i).filter λa=>bA a v==0) c.2 (c.2.length:Int) 0:=by
  intro m;induction m with
  | zero =>
   intro i o hm ho;have ax:decide ((i:Int)<(c.2.length:Int))=false:=decide_eq_false (by omega);rw[Qs,ax,cond_false,List.drop_eq_nil_of_le (by omega)];simp
  | succ m ih =>
   intro i o hm ho;have hi:i<c.2.length:=by omega
   have ki:=hL _ (List.getElem_mem hi);have hd:decide ((o.length+1)*40<=140737488355328)=true:=lB (by omega) (by omega);rw[Qs,aX hi,cond_true,aG hi];simp only[Option.bind_some];rw[pD ki hv];simp only[Option.bind_some];rw[hd,aO (by omega),drop_cons hi];cases hz:bA (c.2[i]) v==0 with
   | true =>
    rw[cond_true,cond_true,ih (i+1) _ (by omega) (by simp;omega),List.filter_cons_of_pos (p:=λa=>bA a v==0) hz,List.append_assoc];rfl
   | false =>
    rw[cond_false,ih (i+1) _ (by omega) (by omega),List.filter_cons_of_neg (p:=λa=>bA a v==0) (by rw[hz];simp)]
 have k0:=key c.2.length 0 [] (by omega) (by simp);rw[Int.natCast_zero,List.nil_append,List.drop_zero]at k0;have hf:=List.length_filter_le (λa=>bA a v==0) c.2;have k1:=D2 hv c (0,[]) h0 h4 hL hl c.2.length 0 (c.2.filter λa=>bA a v==0) (by omega) (by omega) (λa ha=>hL a (List.mem_filter.1 ha).1);rw[Int.natCast_zero,List.drop_zero]at k1;have c1:decide ((v:Int)<0)=false:=decide_eq_false (by omega);have c2:decide ((v:Int)>=c.1)=false:=decide_eq_false (by omega);rw[aeo,mP,hc];simp only[Option.bind_some,Bool.not_true,cond_false];rw[c1,c2,cond_false,cond_false,k0,k1];unfold dI vw;cases jB v c.2 c.2 (c.2.filter λa=>bA a v==0)<;>rfl
def iw(r:Bool×Bool):Option ((Bool×Bool×PUnit)×PUnit):=some ((r.1,r.2,()),())
theorem XT(l:List aa):decide (((l.length:Nat):Int)>0)=decide (l.length>0):=by rw[Bool.eq_iff_iff];simp
theorem RB:∀(n:Nat) (c:ab),br c=true->n<=c.1.toNat->yt c ((n:Int) - 1)=iw (match oB n c with
   | some r=>(decide (r.2.length>0),true)
   | none=>(false,false))
 | 0,c,hc,hn=>by
  rw[RA,show decide ((((0:Nat):Int) - 1)>=0)=false from rfl,cond_false,XT];rfl
 | n+1,c,hc,hn=>by
  have h4:=(cc.1 hc).2.2.1;have e:(((n+1:Nat):Int) - 1)=(n:Int):=by omega
  have lY:decide ((n:Int)>=0)=true:=decide_eq_true (by omega);rw[e,RA,lY,cond_true,Tq hc (by omega)];unfold fS;simp only[Option.bind_some,oB];cases hd:(dI c n).2 with
  | false=>rfl
  | true =>
   have k:=Io hc hd;simp only[Bool.not_true,cond_false,cond_true];rw[show IntKind.i64.wrap ((n:Int) - 1)=(n:Int) - 1 from cm (by omega) (by omega)];exact RB n _ k.1 (by rw[k.2];omega)
theorem Tc(c:ab)(hl:c.2.length<=68719476736):uV c=iw (jl c):=by
 rw[afR,rN c hl];simp only[Option.bind_some];unfold jl;cases hc:br c with
 | false=>rfl
 | true =>
  obtain⟨h1,h2,h3,h4⟩:=cc.1 hc;simp only[Bool.not_true,cond_false,cond_true];rw[rT h2 (by omega) h1 (by omega)];simp only[Option.bind_some];have:=RB c.1.toNat (bQ c.1 c.2) (mA hc) (by rw[gu];omega);rw[show IntKind.i64.wrap (c.1 - 1)=((c.1.toNat:Nat):Int) - 1 by rw[cm (by omega) (by omega)];omega,this];unfold Is;rw[gu]
  all_goals (cases oB c.1.toNat (bQ c.1 c.2)<;>rfl)
theorem Ra:∀(n:Nat) (c:ab) (l:List ab),br c=true->n<=c.1.toNat->n<l.length->l.length<=100->l[n]?=some c ->
  (oB n c=none/\pq l ((n:Int) - 1)=some (([],false,()),()))\/∃r l',oB n c=some r/\pq l ((n:Int) - 1)=some ((l',true,()),())/\l'[0]?=some r
 | 0,c,l,hc,hn,hl,l9,hg=>by
  refine .inr ⟨c,l,rfl,?_,hg⟩;rw[Rb];rfl
 | n+1,c,l,hc,hn,hl,l9,hg=>by
  have h4:=(cc.1 hc).2.2.1;have e:(((n+1:Nat):Int) - 1)=(n:Int):=by omega
  have lY:decide ((n:Int)>=0)=true:=decide_eq_true (by omega);have Cf:ae l ((n+1:Nat):Int)=some c:=by
   rw[aG hl];rw[List.getElem?_eq_getElem hl]at hg;exact hg
  have aiX:=SD hc (v:=n) (by omega);rw[e];have heq:pq l (n:Int)=bif !(dI c n).2 then some (([],false,()),())else pq (l.set n (dI c n).1) ((n:Int) - 1):=by
   rw[Rb,lY,cond_true,aO (by omega),Cf];simp only[Option.bind_some];rw[aiX];unfold fS;simp only[Option.bind_some];rw[aG (show n<l.length by omega)];simp only[Option.bind_some];rw[show IntKind.i64.wrap ((n:Int) - 1)=(n:Int) - 1 from cm (by omega) (by omega),Int.toNat_natCast]
  rw[heq];simp only[oB];cases hd:(dI c n).2 with
  | false=>exact .inl ⟨rfl,rfl⟩
  | true =>
   have k:=Io hc hd;simp only[Bool.not_true,cond_false,cond_true];exact Ra n _ _ k.1 (by rw[k.2];omega) (by rw[List.length_set];omega) (by rw[List.length_set];exact l9) (by rw[List.getElem?_set_self (by omega)])
theorem SE(c:ab):y8 c=iw (jl c):=by
 rw[aeA,afu,mP c];simp only[Option.bind_some];unfold jl;cases hc:br c with
 | false=>rfl
 | true =>
  obtain⟨h1,h2,h3,h4⟩:=cc.1 hc;obtain⟨n,hn⟩:∃n:Nat,c.1=n:=⟨c.1.toNat,by omega⟩;have w1:IntKind.i64.wrap (c.1+1)=c.1+1:=cm (by omega) (by omega);have w2:IntKind.i64.wrap (c.1 - 1)=((n:Nat):Int) - 1:=by rw[cm (by omega) (by omega)];omega
  have jr:(decide (0<=c.1+1)&&decide (c.1+1<=c.1+1)&&decide ((c.1+1)*((32:Nat):Int)<=140737488355328)&&decide (c.1+1<=9223372036854775807))=true:=by simp;omega
  have V3:(decide (0<=c.1+1)&&decide (c.1+1<=c.1+1)&&decide ((c.1+1)*32<=140737488355328)&&decide (c.1+1<=9223372036854775807))=true:=jr;have V2:(decide (0<=c.1+1)&&decide (c.1+1<=c.1+1)&&decide ((c.1+1)*((32:Nat):(Ty.int IntKind.i64).den)<=140737488355328)&&decide (c.1+1<=9223372036854775807))=true:=jr;simp only[Bool.not_true,cond_false,cond_true];rw[w1,w2,zl h2 (by omega) h1 (by omega)];simp only[Option.bind_some];have p8:(List.replicate (c.1+1).toNat ((0,[]):ab)).length=n+1:=by rw[List.length_replicate];omega
  have vV:ae (List.replicate (c.1+1).toNat ((0,[]):ab)) c.1=some (0,[]):=by
   rw[hn,aG (by rw[<-hn,p8];omega)];simp
  have key:=Ra n (bQ c.1 c.2) ((List.replicate (c.1+1).toNat ((0,[]):ab)).set n (bQ c.1 c.2)) (mA hc) (by rw[gu];omega) (by rw[List.length_set,p8];omega) (by rw[List.length_set,p8];omega) (by rw[List.getElem?_set_self (by rw[p8];omega)]);have Wv:Int.toNat c.1=n:=by omega
  rw[vV];simp only[Option.bind_some];rw[Wv];unfold Is;rw[gu,show c.1.toNat=n from Wv];rcases key with⟨k1,k2⟩|⟨r,l',k1,k2,k3⟩
  ·rw[k1,k2]
   first|(rw[V3];rfl)|(rw[V2];rfl)|(rw[jr];rfl)
  ·rw[k1,k2];have ke:0<l'.length:=by
    rw[List.getElem?_eq_some_iff]at k3;exact k3.1
   have hgr:ae l' 0=some r:=by
    have:=aG (xs:=l') ke;rw[Int.natCast_zero]at this;rw[this];rw[List.getElem?_eq_getElem ke]at k3;exact k3
   first|rw[V3]|rw[V2]|rw[jr]
   simp only[cond_true,Option.bind_some,Bool.not_true,cond_false];rw[hgr];simp only[Option.bind_some];rw[XT];rfl
theorem amk(a:aa)(h:(dM a).2=true):(dM a).1.1.length=a.1.length:=by
 unfold dM at *
 cases ha:bK a with
 | false=>rw[ha]at h;cases h
 | true=>simp
theorem afM(c:ab)(a:aa)(hl:c.2.length<=68719476736):F0 c a=iw (kn c a):=by
 rw[afL,Th];unfold r7;simp only[Option.bind_some];rw[F2 c _ hl (by simp)];unfold fS;simp only[Option.bind_some];unfold kn;cases h1:(dM a).2 with
 | false=>rfl
 | true =>
  simp only[Bool.not_true,cond_false,Bool.true_and];cases h2:(cR c ((a.1.length:Int),[(dM a).1])).2 with
  | false=>rfl
  | true =>
   have m:=X5 h2;have ml:=(cc.1 m.1).2.2.2;simp only[Bool.not_true,cond_false,cond_true];rw[Tc _ (by omega)];rfl
theorem aev(c:ab)(a:aa):FB c a=iw (kn c a):=by
 rw[aeu,SK];unfold r7;simp only[Option.bind_some];unfold kn;cases h1:(dM a).2 with
 | false=>rfl
 | true =>
  simp only[Bool.not_true,cond_false,Bool.true_and];rw[amk a h1,FD];unfold fS;simp only[Option.bind_some];cases h2:(cR c ((a.1.length:Int),[(dM a).1])).2 with
  | false=>rfl
  | true =>
   simp only[Bool.not_true,cond_false,cond_true];rw[SE];rfl
theorem BG(h:br c=true):pz c=some ((c,()),())/\uQ c=some ((c,()),()):=by
 obtain⟨h1,h2,h3,h4⟩:=cc.1 h;have pS:∀a∈c.2,a.1.length<=68719476736:=λa ha=>by have:=(eT (h1 a ha)).2.2;omega
 constructor
 ·rw[agm];have:=vh c.2 id (λo=>some (((c.1,o),()),())) (λo i=>yE c (0,[]) (c.1,o) i) (λi hi o ho=>by
   have hd:decide ((o.length+1)*40<=140737488355328)=true:=lB (by omega) (by omega);rw[R0,aX hi,cond_true,aG hi];simp only[Option.bind_some];rw[Tp _ (pS _ (List.getElem_mem hi))];simp only[Option.bind_some];rw[hd,cond_true,aO (by omega)];rfl) (λo=>by rw[R0,aZ];rfl)
  rw[this,List.map_id]
 ·rw[ae1];have jr:(decide ((0:Int)<=0)&&decide (0<=(c.2.length:Int))&&decide ((c.2.length:Int)*((40:Nat):Int)<=140737488355328)&&decide ((c.2.length:Int)<=9223372036854775807))=true:=by simp;omega
  have this:=vh c.2 id (λo=>some (((c.1,o),()),())) (λo i=>uk c (0,[]) (c.1,o) c.2 (c.2.length:Int) i) (λi hi o ho=>by
   have hd:decide ((o.length+1)*40<=140737488355328)=true:=lB (by omega) (by omega);rw[QQ,aX hi,cond_true,aG hi];simp only[Option.bind_some];rw[FJ _ (pS _ (List.getElem_mem hi))];simp only[Option.bind_some];rw[hd,cond_true,aO (by omega)];rfl) (λo=>by rw[QQ,aZ];rfl)
  refine Eq.trans (b:=(bif (decide ((0:Int)<=0)&&decide (0<=(c.2.length:Int))&&decide ((c.2.length:Int)*((40:Nat):Int)<=140737488355328)&&decide ((c.2.length:Int)<=9223372036854775807))then uk c (0,[]) (c.1,[]) c.2 (c.2.length:Int) 0 else none)) rfl ?_;rw[jr,cond_true,this,List.map_id]
def bZ(d:Int):Option (List ab)->Option ((aU×Bool×PUnit)×PUnit)
 | some l=>some (((d,l),true,()),())
 | none=>some (((0,[]),false,()),())
theorem BN(g:List Bool->Int->R)(p:Nat->Bool)(h:∀(k:Nat),k<4->∀a b c d:Bool,(∀j,j<k->([a,b,c,d]:List Bool)[j]?=some (p j))->g [a,b,c,d] (k:Int)=g ([a,b,c,d].set k (p k)) ((k+1:Nat):Int))(a b c d:Bool):
  g [a,b,c,d] 0=g [p 0,p 1,p 2,p 3] 4:=by
 have h0:=h 0 (by omega) a b c d (λj hj=>absurd hj (by omega));have h1:=h 1 (by omega) (p 0) b c d (λj hj=>by { obtain rfl:j=0:=(by omega);rfl });have h2:=h 2 (by omega) (p 0) (p 1) c d (λj hj=>by
  rcases (show j=0\/j=1 by omega)with rfl|rfl<;>rfl)
 have h3:=h 3 (by omega) (p 0) (p 1) (p 2) d (λj hj=>by
  rcases (show j=0\/j=1\/j=2 by omega)with rfl|rfl|rfl<;>rfl)
 exact h0.trans (h1.trans (h2.trans h3))
def gB(v:List Bool)(k:Nat):Bool:=v.getD k false
def fH(n:al)(fr:List (List Bool)):List Bool :=
 bif n.1==0 then [n.2.1.1.getD 0 0 != 0,n.2.1.1.getD 1 0 != 0,n.2.1.1.getD 2 0 != 0,n.2.1.1.getD 3 0 != 0]
 else bif n.1==1 then n.2.2.2.2.1.foldl (λv y=>v.set y.toNat true) [false,false,false,false]
 else bif n.1==3||n.1==4 then
  (let a:=fr.getD n.2.2.2.2.2.2.1.toNat [];let b:=fr.getD n.2.2.2.2.2.2.2.toNat [];[gB a 0||gB b 0,gB a 1||gB b 1,gB a 2||gB b 2,gB a 3||gB b 3])
 else
  (let a:=fr.getD n.2.2.2.2.2.2.1.toNat [];let p:=λ(k:Int)=>(n.1==2)||(k != n.2.2.2.2.2.1);[gB a 0&&p 0,gB a 1&&p 1,gB a 2&&p 2,gB a 3&&p 3])
def iD:List al->List (List Bool)->List (List Bool)
 | [],fr=>fr
 | n::l,fr=>iD l (fr++[fH n fr])
def tk(db:List Rel)(n:al)(i:Int):Prop:=dS db n=true/\(ar n.1≠0->0<=n.2.2.2.2.2.2.1/\n.2.2.2.2.2.2.1<i)/\(ar n.1=2->0<=n.2.2.2.2.2.2.2/\n.2.2.2.2.2.2.2<i)
theorem UX(db:List Rel):∀(l:List al) (i:Int) (T:List Int),jT db l i T=true->0<=i->(∀r∈T,0<=r/\r<i)->∀(k:Nat) (hk:k<l.length),tk db l[k] (i+k)
 | [],_,_,_,_,_,k,hk=>absurd hk (by simp)
 | n::l,i,T,h,hi,hT,k,hk=>by
  unfold jT at h;cases az:dS db n with
  | false=>rw[az]at h;cases h
  | true =>
   rw[az,cond_true]at h;split at h
   ·rename_i T' hs;have hM:∀r∈T',0<=r/\r<i+1:=by
     intro r hr;unfold eA at hs;split at hs
     ·injection hs with hs;subst hs;rcases List.mem_cons.1 hr with rfl|hr
      ·omega
      ·have:=hT r hr;omega
     ·rename_i a T0 _;cases hc:(a==n.2.2.2.2.2.2.1)with
      | false=>rw[hc]at hs;cases hs
      | true =>
       rw[hc]at hs;injection hs with hs;subst hs;rcases List.mem_cons.1 hr with rfl|hr
       ·omega
       ·have:=hT r (List.mem_cons_of_mem _ hr);omega
     ·rename_i a b T0 _;cases hc:(a==n.2.2.2.2.2.2.2)with
      | false=>rw[hc]at hs;cases hs
      | true =>
       rw[hc]at hs;cases dJ:(b==n.2.2.2.2.2.2.1)with
       | false=>rw[dJ]at hs;cases hs
       | true =>
        rw[dJ]at hs;injection hs with hs;subst hs;rcases List.mem_cons.1 hr with rfl|hr
        ·omega
        ·have:=hT r (List.mem_cons_of_mem _ (List.mem_cons_of_mem _ hr));omega
     ·cases hs
    cases k with
    | zero =>
     rw[Int.natCast_zero,Int.add_zero];refine⟨az,λha=>?_,λha=>?_⟩
     ·unfold eA at hs;split at hs
      ·rename_i h0;exact absurd h0 ha
      ·rename_i a T0 _;cases hc:(a==n.2.2.2.2.2.2.1)with
       | false=>rw[hc]at hs;cases hs
       | true =>
        rw[beq_iff_eq]at hc;rw[List.getElem_cons_zero,<-hc];exact hT a (by simp)
      ·rename_i a b T0 _;cases hc:(a==n.2.2.2.2.2.2.2)with
       | false=>rw[hc]at hs;cases hs
       | true =>
        rw[hc]at hs;cases dJ:(b==n.2.2.2.2.2.2.1)with
        | false=>rw[dJ]at hs;cases hs
        | true =>
         rw[beq_iff_eq]at dJ;rw[List.getElem_cons_zero,<-dJ];exact hT b (by simp)
      ·cases hs
     ·unfold eA at hs;rw[List.getElem_cons_zero]at ha;rw[ha]at hs;split at hs
      ·rename_i h0;cases h0
      ·rename_i h0;cases h0
      ·rename_i a b T0 _;cases hc:(a==n.2.2.2.2.2.2.2)with
       | false=>rw[hc]at hs;cases hs
       | true =>
        rw[beq_iff_eq]at hc;rw[List.getElem_cons_zero,<-hc];exact hT a (by simp)
      ·cases hs
    | succ k =>
     have:=UX db l (i+1) T' h (by omega) hM k (by simpa using hk);rw[List.getElem_cons_succ];rw[show i+((k+1:Nat):Int)=i+1+(k:Int)by omega];exact this
   ·cases h
theorem gy{a b:Bool}(h:(a&&b)=true):a=true/\b=true:=by simpa using h
theorem Ku{db:List Rel}{n:al}(h:dS db n=true):qP n=true/\gV n=true/\iR db n=true:=by
 unfold dS at h;obtain⟨_,h⟩:=gy h;obtain⟨_,h⟩:=gy h;obtain⟨h1,h⟩:=gy h;obtain⟨h2,h3⟩:=gy h;exact⟨h1,h2,h3⟩
theorem YF{db:List Rel}{n:al}(h:dS db n=true)(hk:n.1=0):∃a b c d,n.2.1.1=[a,b,c,d]:=by
 obtain⟨_,_,h⟩:=Ku h;unfold iR at h;have e:(n.1==0)=true:=by simp[hk]
 rw[e,cond_true]at h;obtain⟨_,h⟩:=gy h;rw[beq_iff_eq]at h
 match hc:n.2.1.1,h with
 | [a,b,c,d],_=>exact⟨a,b,c,d,rfl⟩
 | [],h=>simp at h
 | [_],h=>simp at h
 | [_,_],h=>simp at h
 | [_,_,_],h=>simp at h
 | _::_::_::_::_::l,h=>simp at h;omega
theorem YG{db:List Rel}{n:al}(h:dS db n=true)(hk:n.1=1):n.2.2.2.2.1.all c8=true:=by
 obtain⟨_,_,h⟩:=Ku h;unfold iR at h;have e:(n.1==0)=false:=by simp[hk]
 have e1:(n.1==1)=true:=by simp[hk]
 rw[e,e1,cond_false,cond_true]at h;unfold o3 at h;exact (gy h).1
theorem Kv{db:List Rel}{n:al}(h:dS db n=true):0<=n.1/\n.1<=6:=by
 rw[Kt]at h;obtain⟨_,h⟩:=gy h;obtain⟨_,h⟩:=gy h;obtain⟨h1,h2⟩:=gy h;exact⟨of_decide_eq_true h1,of_decide_eq_true h2⟩
theorem amz{db:List Rel}{n:al}(h:dS db n=true)(hk:2<=n.1):0<=n.2.2.2.2.2.1/\n.2.2.2.2.2.1<=3:=by
 obtain⟨_,_,h⟩:=Ku h;unfold iR at h;have e:(n.1==0)=false:=by simp;omega
 have e1:(n.1==1)=false:=by simp;omega
 rw[e,e1,cond_false,cond_false]at h;obtain⟨_,h⟩:=gy h;unfold c8 at h;obtain⟨h1,h2⟩:=gy h;exact⟨of_decide_eq_true h1,of_decide_eq_true h2⟩
theorem aic(l:List Int):∀(v:List Bool),v.length=4->(l.foldl (λv y=>v.set y.toNat true) v).length=4:=by
 induction l with
 | nil=>intro v h;exact h
 | cons y l ih=>intro v h;exact ih _ (by simpa using h)
theorem aif(n:al)(fr:List (List Bool)):(fH n fr).length=4:=by
 unfold fH;cases (n.1==0)with
 | true=>rfl
 | false =>
  cases (n.1==1)with
  | true=>exact aic _ _ rfl
  | false=>cases (n.1==3||n.1==4)<;>rfl
theorem UW:∀(l:List al) (fr:List (List Bool)),(iD l fr).length=fr.length+l.length
 | [],fr=>by simp[iD]
 | n::l,fr=>by rw[iD,UW l];simp;omega
theorem IE:∀(l:List al) (fr:List (List Bool)),(iD l fr).take fr.length=fr
 | [],fr=>by simp[iD]
 | n::l,fr=>by
  rw[iD];have:=congrArg (List.take fr.length) (IE l (fr++[fH n fr]));rw[List.take_take]at this;simpa using this
theorem UU:∀(l:List al) (fr:List (List Bool)) (k:Nat) (hk:k<l.length),(iD l fr)[fr.length+k]?=some (fH l[k] ((iD l fr).take (fr.length+k)))
 | n::l,fr,0,_=>by
  have h:=IE l (fr++[fH n fr]);have h2:(iD (n::l) fr).take fr.length=fr:=IE (n::l) fr;rw[Nat.add_zero,h2,List.getElem_cons_zero];rw[iD];have:((iD l (fr++[fH n fr])).take (fr++[fH n fr]).length)[fr.length]?=some (fH n fr):=by rw[h];simp
  rw[List.getElem?_take,if_pos (by simp)]at this;exact this
 | n::l,fr,k+1,hk=>by
  have:=UU l (fr++[fH n fr]) k (by simpa using hk);rw[List.length_append,List.length_singleton,show fr.length+1+k=fr.length+(k+1)by omega]at this;rw[iD,List.getElem_cons_succ];exact this
def dB(f:List al):List (List Bool):=iD f []
theorem sh(f:List al):(dB f).length=f.length:=by unfold dB;rw[UW];simp
theorem UT(f:List al)(k:Nat)(hk:k<f.length):(dB f)[k]'(by rw[sh];exact hk)=fH f[k] ((dB f).take k):=by
 have:=UU f [] k hk;simp only[List.length_nil,Nat.zero_add]at this;exact (List.getElem?_eq_some_iff.1 this).2
theorem US(f:List al)(k:Nat)(hk:k<f.length):((dB f)[k]'(by rw[sh];exact hk)).length=4:=by rw[UT f k hk];exact aif _ _
theorem four{v:List Bool}(h:v.length=4):∃a b c d,v=[a,b,c,d]:=by
 match v,h with
 | [a,b,c,d],_=>exact⟨a,b,c,d,rfl⟩
theorem oF{v:List Bool}(h:v.length=4){k:Nat}(hk:k<4):ae v (k:Int)=some (gB v k):=by
 obtain⟨a,b,c,d,rfl⟩:=four h;rcases (show k=0\/k=1\/k=2\/k=3 by omega)with rfl|rfl|rfl|rfl<;>rfl
theorem wV{k:Nat}(h:k<4):decide ((k:Int)<4)=true:=by simp;omega
section
variable{f:List al}{fr:List (List Bool)}{i:Nat}(hi:i<f.length)(hl:f.length<=1000000)(fX:fr.length=f.length)
include hi hl fX
theorem acP(v:List Bool):pr f fr i v 4=gx f (fr.set i v) ((i+1:Nat):Int):=by
 rw[Rq,aG (show i<fr.length by omega),aO (by omega)];rfl
theorem acR(v:List Bool):rk f fr i v (f[i].2.2.2.2.1.length:Int)=gx f (fr.set i v) ((i+1:Nat):Int):=by
 rw[Rr,aG hi,aG (show i<fr.length by omega),aO (i:=i) (by omega)];simp only[Option.bind_some,aZ];rfl
theorem acS(v:List Bool):jd f fr i v 4=gx f (fr.set i v) ((i+1:Nat):Int):=by
 rw[Rs,aG (show i<fr.length by omega),aO (by omega)];rfl
theorem acN(v:List Bool):lJ f fr i v 4=gx f (fr.set i v) ((i+1:Nat):Int):=by
 rw[Rp,aG (show i<fr.length by omega),aO (by omega)];rfl
theorem acQ{a b c:Int}(hc:f[i].2.1.1=[a,b,c,d]):pr f fr i [false,false,false,false] 0=gx f (fr.set i [a != 0,b != 0,c != 0,d != 0]) ((i+1:Nat):Int):=by
 rw[BN (λv k=>pr f fr i v k) (λk=>([a,b,c,d]:List Int).getD k 0 != 0) (λk hk x y z u _=>by
  rw[Rq,wV hk,aG hi,oF rfl hk,aO (by omega)];simp only[cond_true,Option.bind_some,hc,Int.toNat_natCast];rw[aG (show k<([a,b,c,d]:List Int).length from hk)];simp[List.getD,List.getElem?_eq_getElem,hk]),acP hi hl fX]
 rfl
theorem Qm(hv:f[i].2.2.2.2.1.all c8=true)(hlv:f[i].2.2.2.2.1.length<=68719476736):∀(n j:Nat) (v:List Bool),n+j=f[i].2.2.2.2.1.length->v.length=4->rk f fr i v (j:Int)=gx f (fr.set i ((f[i].2.2.2.2.1.drop j).foldl (λv y=>v.set y.toNat true) v)) ((i+1:Nat):Int)
 | 0,j,v,hn,h4=>by
  obtain rfl:j=f[i].2.2.2.2.1.length:=by omega
  rw[acR hi hl fX,List.drop_eq_nil_of_le (by omega)];rfl
 | n+1,j,v,hn,h4=>by
  have hj:j<f[i].2.2.2.2.1.length:=by omega
  have hy:=List.all_eq_true.1 hv _ (List.getElem_mem hj);unfold c8 at hy;obtain⟨y0,y3⟩:=gy hy;have y0:=of_decide_eq_true y0;have y3:=of_decide_eq_true y3;rw[Rr,aG hi];simp only[Option.bind_some,aX hj,cond_true,aG hj];rw[ns v f[i].2.2.2.2.1[j].toNat (by omega) (by omega),aO (by omega)];simp only[Option.bind_some];rw[Qm hv hlv n (j+1) _ (by omega) (by simpa using h4),List.drop_eq_getElem_cons hj];rfl
theorem acT{a b:List Bool}(ha:ae fr f[i].2.2.2.2.2.2.1=some a)(hb:ae fr f[i].2.2.2.2.2.2.2=some b)(a4:a.length=4)(b4:b.length=4):
  jd f fr i [false,false,false,false] 0=gx f (fr.set i [gB a 0||gB b 0,gB a 1||gB b 1,gB a 2||gB b 2,gB a 3||gB b 3]) ((i+1:Nat):Int):=by
 rw[BN (λv k=>jd f fr i v k) (λk=>gB a k||gB b k) (λk hk x y z u _=>by
  rw[Rs,wV hk,aG hi,oF rfl hk,aO (by omega)];simp only[cond_true,Option.bind_some,ha,hb,oF a4 hk,oF b4 hk,Int.toNat_natCast];cases gB a k<;>rfl),acS hi hl fX]
theorem acO{a:List Bool}(ha:ae fr f[i].2.2.2.2.2.2.1=some a)(a4:a.length=4):
  lJ f fr i [false,false,false,false] 0=gx f (fr.set i (let p:=λ(k:Int)=>(f[i].1==2)||(k != f[i].2.2.2.2.2.1);[gB a 0&&p 0,gB a 1&&p 1,gB a 2&&p 2,gB a 3&&p 3])) ((i+1:Nat):Int):=by
 rw[BN (λv k=>lJ f fr i v k) (λk=>gB a k&&((f[i].1==2)||((k:Int) != f[i].2.2.2.2.2.1))) (λk hk x y z u _=>by
  rw[Rp,wV hk,aG hi,oF rfl hk,aO (by omega)];simp only[cond_true,Option.bind_some,ha,oF a4 hk,Int.toNat_natCast];cases gB a k<;>cases (f[i].1==2)<;>rfl),acN hi hl fX]
 rfl
end
theorem Df{F G:List α}{i:Nat}(h:F.take i=G.take i){a:Int}(h0:0<=a)(h1:a<i)(d:α):F.getD a.toNat d=G.getD a.toNat d:=by
 have:(F.take i)[a.toNat]?=(G.take i)[a.toNat]?:=by rw[h]
 rw[List.getElem?_take,List.getElem?_take,if_pos (by omega),if_pos (by omega)]at this;simp only[List.getD,this]
theorem aie{db:List Rel}{n:al}{F G:List (List Bool)}{i:Nat}(hn:tk db n (i:Int))(h:F.take i=G.take i):fH n F=fH n G:=by
 obtain⟨az,h1,h2⟩:=hn;have hk:=Kv az;unfold fH;by_cases k0:n.1=0
 ·have e:(n.1==0)=true:=by simp[k0]
  rw[e];rfl
 have e0:(n.1==0)=false:=by simpa using k0
 by_cases k1:n.1=1
 ·have e:(n.1==1)=true:=by simp[k1]
  rw[e0,e];rfl
 have e1:(n.1==1)=false:=by simpa using k1
 rw[e0,e1];have ha:ar n.1≠0:=by
  unfold ar;have:decide (n.1>1)=true:=by simp;omega
  rw[this];cases (n.1==3||n.1==4)<;>simp
 obtain⟨a0,a1⟩:=h1 ha;cases fW:(n.1==3||n.1==4)with
 | false =>
  simp only[cond_false];rw[Df h a0 a1]
 | true =>
  have vJ:ar n.1=2:=by unfold ar;rw[fW];rfl
  obtain⟨b0,b1⟩:=h2 vJ;simp only[cond_false,cond_true];rw[Df h a0 a1,Df h b0 b1]
theorem UR{db:List Rel}{f:List al}{i:Nat}(hi:i<f.length)(hn:tk db f[i] (i:Int)):(dB f)[i]?=some (fH f[i] (dB f)):=by
 rw[List.getElem?_eq_getElem (by rw[sh];exact hi),UT f i hi];congr 1;exact aie hn (by rw[List.take_take,Nat.min_self])
theorem Vc{f:List al}{fr:List (List Bool)}{i:Nat}(fX:fr.length=f.length)(Wt:fr.take i=(dB f).take i){a:Int}(h0:0<=a)(h1:a<i)(hi:i<=f.length):
  ∃v,ae fr a=some v/\(dB f).getD a.toNat []=v/\v.length=4:=by
 have ax:a.toNat<f.length:=by omega
 refine⟨fr[a.toNat]'(by omega),ns fr a.toNat (by omega) (by omega),?_,?_⟩
 ·rw[<-Df Wt h0 h1];simp[List.getD,List.getElem?_eq_getElem,show a.toNat<fr.length by omega]
 ·have e:(fr.take i)[a.toNat]?=((dB f).take i)[a.toNat]?:=by rw[Wt]
  rw[List.getElem?_take,List.getElem?_take,if_pos (by omega),if_pos (by omega),List.getElem?_eq_getElem (show a.toNat<fr.length by omega),List.getElem?_eq_getElem (show a.toNat<(dB f).length by rw[sh];omega)]at e;injection e with e;rw[e];exact US f a.toNat ax
theorem Rv(db:List Rel)(f:List al)(hl:f.length<=1000000)(hf:∀n∈f,zN n<=68719476736)(az:∀(k:Nat) (hk:k<f.length),tk db f[k] (k:Int)):
  ∀(n i:Nat) (fr:List (List Bool)),n+i=f.length->fr.length=f.length->fr.take i=(dB f).take i->gx f fr (i:Int)=mO f (dB f) [] 0
 | 0,i,fr,hn,fX,ht=>by
  obtain rfl:i=f.length:=by omega
  rw[Ru,aZ,cond_false];rw[List.take_of_length_le (by omega),List.take_of_length_le (by rw[sh];omega)]at ht;rw[ht]
 | n+1,i,fr,hn,fX,ht=>by
  have hi:i<f.length:=by omega
  have cE:=az i hi;obtain⟨hN,h1,h2⟩:=cE;have hk:=Kv hN;have next:∀v,v=fH f[i] (dB f)->gx f (fr.set i v) ((i+1:Nat):Int)=mO f (dB f) [] 0:=by
   intro v hv;refine Rv db f hl hf az n (i+1) _ (by omega) (by simpa using fX) ?_;have e1:(fr.set i v).take (i+1)=fr.take i++[v]:=by
    rw[List.take_add_one,List.take_set_of_le (by omega)];simp[fX,hi]
   rw[e1,ht,List.take_add_one,UR hi (az i hi),hv];rfl
  rw[Ru,aX hi,aG hi];simp only[cond_true,Option.bind_some];change (bif f[i].1==0 then pr f fr i [false,false,false,false] 0 else bif f[i].1==1 then rk f fr i [false,false,false,false] 0 else bif f[i].1==3 then jd f fr i [false,false,false,false] 0 else bif f[i].1==4 then jd f fr i [false,false,false,false] 0 else lJ f fr i [false,false,false,false] 0)=_;unfold fH at next
  by_cases k0:f[i].1=0
  ·have e:(f[i].1==0)=true:=by simp[k0]
   obtain⟨a,b,c,d,hc⟩:=YF hN k0;rw[e,cond_true,acQ hi hl fX hc];refine next _ ?_
   rw[e,hc];rfl
  have e0:(f[i].1==0)=false:=by simpa using k0
  rw[e0]at next ⊢
  by_cases k1:f[i].1=1
  ·have e:(f[i].1==1)=true:=by simp[k1]
   have hz:=hf _ (List.getElem_mem hi);have ff:zN f[i]=zA f[i].2.1+zB f[i].2.2.1+zB f[i].2.2.2.1+zI f[i].2.2.2.2.1:=rfl;have:=Qm hi hl fX (YG hN k1) (by unfold zI at ff;omega) f[i].2.2.2.2.1.length 0 [false,false,false,false] (by omega) rfl;rw[Int.natCast_zero,List.drop_zero]at this;rw[e,cond_false,cond_true,this];refine next _ ?_
   rw[e];rfl
  have e1:(f[i].1==1)=false:=by simpa using k1
  rw[e1]at next ⊢
  have ha:ar f[i].1≠0:=by
   unfold ar;have:decide (f[i].1>1)=true:=by simp;omega
   rw[this];cases (f[i].1==3||f[i].1==4)<;>simp
  obtain⟨a0,a1⟩:=h1 ha;obtain⟨v,g1,g2,g3⟩:=Vc fX ht a0 a1 (by omega);cases fW:(f[i].1==3||f[i].1==4)with
  | false =>
   rw[Bool.or_eq_false_iff]at fW;rw[fW.1,fW.2];simp only[cond_false];rw[acO hi hl fX g1 g3];refine next _ ?_
   rw[fW.1,fW.2];simp only[Bool.or_self,cond_false,g2]
  | true =>
   have vJ:ar f[i].1=2:=by unfold ar;rw[fW];rfl
   obtain⟨b0,b1⟩:=h2 vJ;obtain⟨u,u1,u2,u3⟩:=Vc fX ht b0 b1 (by omega);have e:(bif f[i].1==3 then jd f fr i [false,false,false,false] 0 else bif f[i].1==4 then jd f fr i [false,false,false,false] 0 else lJ f fr i [false,false,false,false] 0)=jd f fr i [false,false,false,false] 0:=by
    cases h3:(f[i].1==3)with
    | true=>rfl
    | false =>
     rw[h3,Bool.false_or]at fW;rw[fW];rfl
   simp only[cond_false];rw[e,acT hi hl fX g1 u1 g3 u3];refine next _ ?_
   rw[fW];simp only[cond_true,cond_false,g2,u2]
def wU(v:List Bool):List Int:=(bif gB v 0 then [0]else [])++((bif gB v 1 then [1]else [])++((bif gB v 2 then [2]else [])++(bif gB v 3 then [3]else [])))
theorem yr(f:List al)(F:List (List Bool))(v:List Bool)(acc:List Int)(k:Nat)(hk:k<4)(hv:ae F (IntKind.i64.wrap ((f.length:Int) - 1))=some v)(v4:v.length=4)(ha:acc.length<=4):
  mO f F acc (k:Int)=mO f F (acc++(bif gB v k then [(k:Int)]else [])) ((k+1:Nat):Int):=by
 rw[Rt,wV hk,hv];simp only[cond_true,Option.bind_some,oF v4 hk];rw[aO (by omega)];have:decide ((acc.length+1)*8<=140737488355328)=true:=by simp;omega
 rw[this];cases gB v k with
 | true=>rfl
 | false=>simp
theorem acY(f:List al)(F:List (List Bool))(v:List Bool)(hv:ae F (IntKind.i64.wrap ((f.length:Int) - 1))=some v)(v4:v.length=4):
  mO f F [] 0=some ((wU v,true,()),()):=by
 have s0:=yr f F v [] 0 (by omega) hv v4 (by simp);have s1:=yr f F v (bif gB v 0 then [0]else []) 1 (by omega) hv v4 (by cases gB v 0<;>simp);have s2:=yr f F v ((bif gB v 0 then [0]else [])++(bif gB v 1 then [1]else [])) 2 (by omega) hv v4 (by cases gB v 0<;>cases gB v 1<;>simp);have s3:=yr f F v ((bif gB v 0 then [0]else [])++(bif gB v 1 then [1]else [])++(bif gB v 2 then [2]else [])) 3 (by omega) hv v4 (by cases gB v 0<;>cases gB v 1<;>cases gB v 2<;>simp);refine s0.trans (s1.trans (s2.trans (s3.trans ?_)));rw[Rt];unfold wU;simp only[List.append_assoc];rfl
theorem ye(w:PUnit×Bool×Bool×Bool×Bool)(acc:List Int)(k:Nat)(hk:k<4)(ha:acc.length<=4):
  pn acc w (k:Int)=pn (acc++(bif gB [w.2.1,w.2.2.1,w.2.2.2.1,w.2.2.2.2] k then [(k:Int)]else [])) w ((k+1:Nat):Int):=by
 rw[Qw,wV hk];simp only[cond_true,Option.bind_some,oF (v:=[w.2.1,w.2.2.1,w.2.2.2.1,w.2.2.2.2]) rfl hk];rw[aO (by omega)];have:decide ((acc.length+1)*8<=140737488355328)=true:=by simp;omega
 rw[this];cases gB [w.2.1,w.2.2.1,w.2.2.2.1,w.2.2.2.2] k with
 | true=>rfl
 | false=>simp
def dW(v:List Bool):PUnit×Bool×Bool×Bool×Bool:=((),gB v 0,gB v 1,gB v 2,gB v 3)
theorem acU(v:List Bool):pn [] (dW v) 0=some ((wU v,true,()),()):=by
 have s0:=ye (dW v) [] 0 (by omega) (by simp);have s1:=ye (dW v) (bif gB v 0 then [0]else []) 1 (by omega) (by cases gB v 0<;>simp);have s2:=ye (dW v) ((bif gB v 0 then [0]else [])++(bif gB v 1 then [1]else [])) 2 (by omega) (by cases gB v 0<;>cases gB v 1<;>simp);have s3:=ye (dW v) ((bif gB v 0 then [0]else [])++(bif gB v 1 then [1]else [])++(bif gB v 2 then [2]else [])) 3 (by omega) (by cases gB v 0<;>cases gB v 1<;>cases gB v 2<;>simp);refine s0.trans (s1.trans (s2.trans (s3.trans ?_)));rw[Qw];unfold wU;simp only[List.append_assoc];rfl
theorem acX(d:Nat)(x4:PUnit×Bool×Bool×Bool×Bool)(x5:al)(a b c e:Int):oj (d+1) x4 x5 (dW [false,false,false,false]) [a,b,c,e] 4 0=some ((dW [a != 0,b != 0,c != 0,e != 0],()),()):=by
 rw[BN (λv k=>oj (d+1) x4 x5 (dW v) [a,b,c,e] 4 k) (λk=>([a,b,c,e]:List Int).getD k 0 != 0) (λk hk x y z u _=>by
  rcases (show k=0\/k=1\/k=2\/k=3 by omega)with rfl|rfl|rfl|rfl<;>(rw[QW];rfl))]
 rw[QW,xX];rfl
theorem QV(d:Nat)(x4:PUnit×Bool×Bool×Bool×Bool)(x5:al)(l:List Int)(hv:l.all c8=true)(hl:l.length<=68719476736):∀(n j:Nat) (v:List Bool),n+j=l.length->v.length=4->po (d+1) x4 x5 (dW v) l (l.length:Int) (j:Int)=some ((dW ((l.drop j).foldl (λv y=>v.set y.toNat true) v),()),())
 | 0,j,v,hn,h4=>by
  obtain rfl:j=l.length:=by omega
  rw[QU,aZ,List.drop_eq_nil_of_le (by omega),xX];rfl
 | n+1,j,v,hn,h4=>by
  have hj:j<l.length:=by omega
  have hy:=List.all_eq_true.1 hv _ (List.getElem_mem hj);unfold c8 at hy;obtain⟨y0,y3⟩:=gy hy;have y0:=of_decide_eq_true y0;have y3:=of_decide_eq_true y3;obtain⟨a,b,c,e,rfl⟩:=four h4;rw[QU,aX hj,aG hj,aO (by omega),List.drop_eq_getElem_cons hj];simp only[cond_true,Option.bind_some,List.foldl_cons];rw[<-QV d x4 x5 l hv hl n (j+1) ([a,b,c,e].set l[j].toNat true) (by omega) (by simp)];rcases (show l[j]=0\/l[j]=1\/l[j]=2\/l[j]=3 by omega)with h|h|h|h<;>(rw[h];rfl)
theorem acW(d:Nat)(x4:PUnit×Bool×Bool×Bool×Bool)(a b:List Bool):b8 (d+1) x4 (dW a) (dW b) 0=some ((dW [gB a 0||gB b 0,gB a 1||gB b 1,gB a 2||gB b 2,gB a 3||gB b 3],()),()):=by
 have s0:∀(p q r s:Bool),b8 (d+1) x4 ((),p,q,r,s) (dW b) 0=b8 (d+1) x4 ((),p||gB b 0,q,r,s) (dW b) 1:=by
  intro p q r s;rw[uo];cases p<;>rfl
 have s1:∀(p q r s:Bool),b8 (d+1) x4 ((),p,q,r,s) (dW b) 1=b8 (d+1) x4 ((),p,q||gB b 1,r,s) (dW b) 2:=by
  intro p q r s;rw[uo];cases q<;>rfl
 have s2:∀(p q r s:Bool),b8 (d+1) x4 ((),p,q,r,s) (dW b) 2=b8 (d+1) x4 ((),p,q,r||gB b 2,s) (dW b) 3:=by
  intro p q r s;rw[uo];cases r<;>rfl
 have s3:∀(p q r s:Bool),b8 (d+1) x4 ((),p,q,r,s) (dW b) 3=b8 (d+1) x4 ((),p,q,r,s||gB b 3) (dW b) 4:=by
  intro p q r s;rw[uo];cases s<;>rfl
 have e:∀(p q r s:Bool),b8 (d+1) x4 ((),p,q,r,s) (dW b) 4=some ((((),p,q,r,s),()),()):=by
  intro p q r s;rw[uo,xX];rfl
 exact (s0 _ _ _ _).trans ((s1 _ _ _ _).trans ((s2 _ _ _ _).trans ((s3 _ _ _ _).trans (e _ _ _ _))))
theorem SX(db:List Rel)(f:List al)(hf:∀n∈f,zN n<=68719476736)(az:∀(k:Nat) (hk:k<f.length),tk db f[k] (k:Int)):
  ∀(d i:Nat),i<d->i<f.length->mT d f (i:Int)=some ((dW ((dB f).getD i []),()),())
 | 0,i,h,_=>absurd h (by omega)
 | d+1,i,h,hi=>by
  have cE:=az i hi;obtain⟨hN,h1,h2⟩:=cE;have hk:=Kv hN;have hF:(dB f).getD i []=fH f[i] (dB f):=by simp only[List.getD,UR hi (az i hi),Option.getD_some]
  have hA:∀a:Int,0<=a->a<i->mT d f a=some ((dW ((dB f).getD a.toNat []),()),()):=by
   intro a a0 a1;have:=SX db f hf az d a.toNat (by omega) (by omega);rw[Int.toNat_of_nonneg a0]at this;exact this
  rw[hF,ae8,aG hi];simp only[Option.bind_some];unfold fH;by_cases k0:f[i].1=0
  ·have e:(f[i].1==0)=true:=by simp[k0]
   obtain⟨a,b,c,d',hc⟩:=YF hN k0;rw[e,hc];exact acX d _ _ a b c d'
  have e0:(f[i].1==0)=false:=by simpa using k0
  rw[e0];by_cases k1:f[i].1=1
  ·have e:(f[i].1==1)=true:=by simp[k1]
   have hz:=hf _ (List.getElem_mem hi);have ff:zN f[i]=zA f[i].2.1+zB f[i].2.2.1+zB f[i].2.2.2.1+zI f[i].2.2.2.2.1:=rfl;rw[e];have:=QV d ((),false,false,false,false) f[i] f[i].2.2.2.2.1 (YG hN k1) (by unfold zI at ff;omega) f[i].2.2.2.2.1.length 0 [false,false,false,false] (by omega) rfl;rw[List.drop_zero]at this;exact this
  have e1:(f[i].1==1)=false:=by simpa using k1
  rw[e1];have ha:ar f[i].1≠0:=by
   unfold ar;have:decide (f[i].1>1)=true:=by simp;omega
   rw[this];cases (f[i].1==3||f[i].1==4)<;>simp
  obtain⟨a0,a1⟩:=h1 ha;simp only[cond_false];cases fW:(f[i].1==3||f[i].1==4)with
  | true =>
   have vJ:ar f[i].1=2:=by unfold ar;rw[fW];rfl
   obtain⟨b0,b1⟩:=h2 vJ;have e:∀(p q:PUnit×Bool×Bool×Bool×Bool) (m:Int),(bif f[i].1==3 then qZ (d+1) f p f[i] q m true else qZ (d+1) f p f[i] q m (f[i].1==4))=qZ (d+1) f p f[i] q m true:=by
    intro p q m;cases h3:(f[i].1==3)with
    | true=>rfl
    | false=>rw[h3,Bool.false_or]at fW;rw[fW];rfl
   rw[e,Pl,hA _ a0 a1,hA _ b0 b1];simp only[cond_true,Option.bind_some];exact acW d _ _ _
  | false =>
   rw[Bool.or_eq_false_iff]at fW;rw[fW.1,fW.2];simp only[cond_false];rw[Pl,hA _ a0 a1];simp only[cond_false,Option.bind_some,xX];cases BY:(f[i].1==2)with
   | true=>simp only[cond_true,Bool.true_or,Bool.and_true];rfl
   | false =>
    have hv:=amz hN (by have:=k0;have:=k1;omega);rcases (show f[i].2.2.2.2.2.1=0\/f[i].2.2.2.2.2.1=1\/f[i].2.2.2.2.2.1=2\/f[i].2.2.2.2.2.1=3 by omega)with h|h|h|h<;>
     (rw[h];generalize (dB f).getD f[i].2.2.2.2.2.2.1.toNat []=v;unfold dW;generalize gB v 0=v0;generalize gB v 1=v1;generalize gB v 2=v2;generalize gB v 3=v3;cases v0<;>cases v1<;>cases v2<;>cases v3<;>rfl)
def lQ(db:List Rel)(f:List al):List Int×Bool:=bif fV db f then (wU ((dB f).getD (f.length - 1) []),true)else ([],false)
theorem UQ{db:List Rel}{f:List al}(h:fV db f=true):(1<=f.length/\f.length<=12)/\∀(k:Nat) (hk:k<f.length),tk db f[k] (k:Int):=by
 unfold fV at h;obtain⟨_,h⟩:=gy h;obtain⟨h1,h⟩:=gy h;obtain⟨h1,h2⟩:=gy h1;have h1:=of_decide_eq_true h1;have h2:=of_decide_eq_true h2;refine⟨by omega,λk hk=>?_⟩;have:=UX db f 0 [] h (by omega) (by simp) k hk
 rwa [Int.zero_add]at this
theorem al0{f:List al}(h:1<=f.length):((dB f).getD (f.length - 1) []).length=4/\ae (dB f) (IntKind.i64.wrap ((f.length:Int) - 1))=some ((dB f).getD (f.length - 1) [])\/f.length>1000000:=by
 by_cases hb:f.length>1000000
 ·exact .inr hb
 left;have ax:f.length - 1<(dB f).length:=by rw[sh];omega
 have e:(dB f).getD (f.length - 1) []=(dB f)[f.length - 1]:=by simp[List.getD,List.getElem?_eq_getElem,ax]
 rw[e];refine⟨US f _ (by omega),?_⟩;rw[cm (by omega) (by omega)];exact ns _ (f.length - 1) (by omega) ax
theorem afK(db:List Rel)(f:List al)(hd:zL zQ db<=68719476736)(hf:zL zN f<=68719476736):zq db f=some (((lQ db f).1,(lQ db f).2,()),()):=by
 rw[afJ,Td db f (vF hd) (sj hf)];simp only[Option.bind_some];unfold lQ;cases hb:fV db f with
 | false=>rfl
 | true =>
  obtain⟨⟨n1,n2⟩,az⟩:=UQ hb;rw[mz f 24 (by omega) (by omega) (by omega)];have:=Rv db f (by omega) (sj hf) az f.length 0 (List.replicate f.length []) (by omega) (by simp) (by simp);rw[Int.natCast_zero]at this;obtain⟨l4,hg⟩:=(al0 n1).resolve_right (by omega);simp only[Bool.not_true,cond_false,cond_true];rw[this,acY f (dB f) _ hg l4]
theorem aet(db:List Rel)(f:List al)(hf:zL zN f<=68719476736):y6 db f=some (((lQ db f).1,(lQ db f).2,()),()):=by
 rw[aes,SF db f (sj hf)];simp only[Option.bind_some];unfold lQ;cases hb:fV db f with
 | false=>rfl
 | true =>
  obtain⟨⟨n1,n2⟩,az⟩:=UQ hb;simp only[Bool.not_true,cond_false,cond_true];rw[cm (by omega) (by omega),show (f.length:Int) - 1=((f.length - 1:Nat):Int)by omega,SX db f (sj hf) az fuel (f.length - 1) (by rw[aij];omega) (by omega)];simp only[Option.bind_some];exact acU _
def qC(db:List Rel)(f:List al):Bool:=(lQ db f).2&&(((lQ db f).1.length:Int)==0)
theorem afW(db:List Rel)(f:List al)(hd:zL zQ db<=68719476736)(hf:zL zN f<=68719476736):F1 db f=some ((qC db f,()),()):=by
 rw[afV,afK db f hd hf];unfold qC;simp only[Option.bind_some];cases (lQ db f).2<;>rfl
theorem aeG(db:List Rel)(f:List al)(hf:zL zN f<=68719476736):FC db f=some ((qC db f,()),()):=by
 rw[aeF,aet db f hf];unfold qC;simp only[Option.bind_some];cases (lQ db f).2<;>rfl
theorem J8(d:Int):∀(post pre r:List aa),lk d pre post=some r->(∀a∈r,a∈pre\/a∈post)/\r.length<=pre.length+post.length
 | [],pre,r,h=>by
  unfold lk at h;cases h;exact⟨λa ha=>.inl ha,by simp⟩
 | a::post,pre,r,h=>by
  unfold lk at h;cases h1:(kn (d,pre++post) a).2 with
  | false=>rw[h1]at h;cases h
  | true =>
   rw[h1,cond_true]at h;cases h2:(kn (d,pre++post) a).1 with
   | true =>
    rw[h2,cond_true]at h;obtain⟨k1,k2⟩:=J8 d post pre r h;exact⟨λb hb=>(k1 b hb).imp id (List.mem_cons_of_mem _),by rw[List.length_cons];omega⟩
   | false =>
    rw[h2,cond_false]at h;obtain⟨k1,k2⟩:=J8 d post (pre++[a]) r h;refine⟨λb hb=>?_,by rw[List.length_append,List.length_singleton]at k2;rw[List.length_cons];omega⟩;rcases k1 b hb with k|k
    ·rcases List.mem_append.1 k with k|k
     ·exact .inl k
     ·exact .inr (List.mem_cons.2 (.inl (List.mem_singleton.1 k)))
    ·exact .inr (List.mem_cons_of_mem _ k)
theorem amq(h0:0<=d)(h1:d<=4):br (kz d)=true :=
 cc.2 ⟨λa ha=>by rw[List.mem_singleton.1 ha];exact Yz h0 h1,h0,h1,by simp[kz]⟩
theorem X7(hc:br c=true)(h:my c=some m):br m=true/\m.1=c.1/\∀a∈m.2,a∈(kz c.1).2\/a∈c.2:=by
 obtain⟨k1,k2,k3,k4⟩:=cc.1 hc;unfold my at h;cases h1:(jl c).2 with
 | false=>rw[h1]at h;cases h
 | true =>
  rw[h1,cond_true]at h;cases h2:(jl c).1 with
  | true=>rw[h2,cond_true]at h;cases h;exact⟨amq k2 k3,rfl,λa ha=>.inl ha⟩
  | false =>
   rw[h2,cond_false]at h;cases h3:lk c.1 [] c.2 with
   | none=>rw[h3]at h;cases h
   | some l =>
    rw[h3]at h;cases h;obtain⟨j1,j2⟩:=J8 _ _ _ _ h3;have j3:∀a∈l,a∈c.2:=λa ha=>(j1 a ha).resolve_left (by simp);exact⟨cc.2 ⟨λa ha=>k1 a (j3 a ha),k2,k3,by simpa using Nat.le_trans j2 (by simpa using k4)⟩,rfl,λa ha=>.inr (j3 a ha)⟩
theorem wY(h:gq c=some m):br c=true/\br m=true/\m.1=c.1:=by
 unfold gq at h;cases hc:br c with
 | false=>rw[hc]at h;cases h
 | true =>
  rw[hc,cond_true]at h;have:=X7 (mA hc) h;exact⟨rfl,this.1,by rw[this.2.1,gu]⟩
def sg(c:ab):Bool:=match c.2 with
 | [a] => !eO a
 | _=>false
def BL(c:ab):Bool:=match c.2 with
 | [a] => !eO a&&(a.2.1==1 && !a.2.2)
 | _=>false
theorem amd(h:gq c=some m):BL m=sg m:=by
 obtain⟨hc,hm,_⟩:=wY h;unfold gq at h;rw[hc,cond_true]at h;have hs:=(X7 (mA hc) h).2.2;have hn:∀a∈m.2,eO a=true\/a=(List.replicate c.1.toNat (0:Int),1,false):=by
  intro a ha;rcases hs a ha with k|k
  ·rw[gu]at k;exact .inr (List.mem_singleton.1 k)
  ·unfold bQ at k;cases hb:c.2.any fR with
   | true=>rw[hb,cond_true]at k;exact .inr (List.mem_singleton.1 k)
   | false =>
    rw[hb,cond_false]at k;rcases ID _ _ _ k with k|k
    ·simp at k
    ·exact .inl (List.mem_filter.1 k).2
 unfold BL sg
 match ig:m.2 with
 | []=>rfl
 | [a] =>
  dsimp only;rcases hn a (by rw[ig];exact List.mem_singleton.2 rfl)with k|k
  ·rw[k];rfl
  ·rw[k];simp
 | a::b::l=>rfl
def gK:Option ab->Option ((ab×Bool×PUnit)×PUnit)
 | some m=>some ((m,true,()),())
 | none=>some ((xK,false,()),())
theorem BI(pre:List α)(a:α)(post:List α):List.drop (Int.toNat 0) (List.take ((pre.length:Int)).toNat (pre++a::post))=pre:=by
 rw[Int.toNat_natCast,List.take_left];rfl
theorem Uq(pre:List α)(a:α)(post:List α)(h:pre.length<=1000):List.drop (IntKind.i64.wrap ((pre.length:Int)+1)).toNat (List.take (pre++a::post).length (pre++a::post))=post:=by
 rw[aO (by omega),Int.toNat_natCast,List.take_length,show pre++a::post=(pre++[a])++post by simp];exact List.drop_left' (by simp)
theorem TP(pre:List α)(a:α)(post:List α)(h:pre.length<=1000):
  (decide ((0:Nat)<=0)&&decide (0<=(pre.length:Int))&&decide ((pre.length:Int)<=((pre++a::post).length:Int)))=true /\
  (decide (0<=IntKind.i64.wrap ((pre.length:Int)+1))&&decide (IntKind.i64.wrap ((pre.length:Int)+1)<=((pre++a::post).length:Int))&&decide (((pre++a::post).length:Int)<=((pre++a::post).length:Int)))=true /\
  decide ((pre.length:Int)<((pre++a::post).length:Int))=true/\ae (pre++a::post) (pre.length:Int)=some a:=by
 rw[aO (by omega)];refine⟨by simp;omega,by simp;omega,by simp;omega,?_⟩;rw[aG (by simp)];simp
theorem D9(h0:0<=d)(h4:d<=4)(x z:ab)(hx:x.1=d):∀(post pre:List aa),(∀a∈pre++post,bd d.toNat a)->(pre++post).length<=16 ->
  uC x z (d,pre++post) (pre.length:Int)=gK ((lk d pre post).map λl=>(d,l))
 | [],pre,_,_=>by
  rw[R5,List.append_nil,aZ,cond_false];rfl
 | a::post,pre,hk,hl=>by
  have hp:pre.length<=16:=by rw[List.length_append]at hl;omega
  have hq:(pre++post).length<=16:=by rw[List.length_append,List.length_cons]at hl;rw[List.length_append];omega
  have az:∀b∈pre++post,bd d.toNat b:=λb hb=>hk b (by
   rcases List.mem_append.1 hb with h|h
   ·exact List.mem_append_left _ h
   ·exact List.mem_append_right _ (List.mem_cons_of_mem _ h))
  have pU:br (d,pre++post)=true:=cc.2 ⟨az,h0,h4,hq⟩;obtain⟨e1,e2,e3,e4⟩:=TP pre a post (by omega);rw[R5];dsimp only;rw[e3,cond_true,e1,cond_true,BI,Uq pre a post (by omega),e2,cond_true,e4,hx];have d1:decide ((0+pre.length)*40<=140737488355328)=true:=decide_eq_true (by omega);have d2:decide ((pre.length+post.length)*40<=140737488355328)=true:=decide_eq_true (by rw[List.length_append]at hq;omega);rw[d1,cond_true,d2,cond_true];simp only[Option.bind_some];rw[afM _ _ (by show (pre++post).length<=_;omega)];unfold lk iw;simp only[Option.bind_some];cases h1:(kn (d,pre++post) a).2 with
  | false=>rfl
  | true =>
   simp only[Bool.not_true,cond_false,cond_true];cases h2:(kn (d,pre++post) a).1 with
   | true =>
    simp only[cond_true];rw[(BG pU).1];simp only[Option.bind_some];exact D9 h0 h4 x z hx post pre az hq
   | false =>
    simp only[cond_false];rw[aO (by omega)];have:=D9 h0 h4 x z hx post (pre++[a]) (by simpa using hk) (by simpa using hl);rw[show (pre++[a])++post=pre++a::post by simp,show (pre++[a]).length=pre.length+1 by simp]at this;exact this
theorem Tr{x:ab}(h:br x=true):u6 x=gK (my x):=by
 obtain⟨k1,k2,k3,k4⟩:=cc.1 h;rw[ago,Tc _ (by omega)];unfold my iw;simp only[Option.bind_some];cases h1:(jl x).2 with
 | false=>rfl
 | true =>
  simp only[Bool.not_true,cond_false,cond_true];cases h2:(jl x).1 with
  | true =>
   simp only[cond_true];rw[F6 k2 (by omega)];rfl
  | false =>
   simp only[cond_false];rw[(BG h).1];simp only[Option.bind_some];exact D9 k2 k3 x (0,[]) rfl x.2 [] (by simpa using k1) (by simpa using k4)
theorem D3(h0:0<=d)(h4:d<=4)(x z:ab)(hx:x.1=d):∀(post pre:List aa),(∀a∈pre++post,bd d.toNat a)->(pre++post).length<=16 ->
  uh x z (d,pre++post) (pre.length:Int)=gK ((lk d pre post).map λl=>(d,l))
 | [],pre,_,_=>by
  rw[QJ,List.append_nil,aZ,cond_false];rfl
 | a::post,pre,hk,hl=>by
  have hp:pre.length<=16:=by rw[List.length_append]at hl;omega
  have hq:(pre++post).length<=16:=by rw[List.length_append,List.length_cons]at hl;rw[List.length_append];omega
  have hpo:post.length<=16:=by rw[List.length_append]at hq;omega
  have az:∀b∈pre++post,bd d.toNat b:=λb hb=>hk b (by
   rcases List.mem_append.1 hb with h|h
   ·exact List.mem_append_left _ h
   ·exact List.mem_append_right _ (List.mem_cons_of_mem _ h))
  obtain⟨e1,e2,e3,e4⟩:=TP pre a post (by omega);rw[QJ];dsimp only;rw[e3,cond_true,e1,cond_true,BI,Uq pre a post (by omega),e2,cond_true,e4,hx,LH (by omega) (by omega)];simp only[Option.bind_some];rw[aev]
  conv=>rhs;unfold lk
  unfold iw;simp only[Option.bind_some];cases h1:(kn (d,pre++post) a).2 with
  | false=>rfl
  | true =>
   simp only[Bool.not_true,cond_false,cond_true];cases h2:(kn (d,pre++post) a).1 with
   | true =>
    simp only[cond_true];exact D3 h0 h4 x z hx post pre az hq
   | false =>
    simp only[cond_false];rw[aO (by omega)];have:=D3 h0 h4 x z hx post (pre++[a]) (by simpa using hk) (by simpa using hl);rw[show (pre++[a])++post=pre++a::post by simp,show (pre++[a]).length=pre.length+1 by simp]at this;exact this
theorem SI(c:ab):uL c=gK (gq c):=by
 rw[aeK,SM,mP];unfold gq;simp only[Option.bind_some];cases hc:br c with
 | false=>rfl
 | true =>
  obtain⟨k1,k2,k3,k4⟩:=cc.1 hc;have hn:=mA hc;obtain⟨j1,j2,j3,j4⟩:=cc.1 hn;rw[gu]at j1;simp only[Bool.not_true,cond_false,cond_true];rw[zl k2 (by omega) k1 (by omega)];simp only[Option.bind_some,Bool.not_true,cond_false];rw[SE];unfold my iw;simp only[Option.bind_some];cases h1:(jl (bQ c.1 c.2)).2 with
  | false=>rfl
  | true =>
   simp only[Bool.not_true,cond_false,cond_true];cases h2:(jl (bQ c.1 c.2)).1 with
   | true =>
    simp only[cond_true];rw[FK k2 (by omega),gu];rfl
   | false =>
    simp only[cond_false];have:=D3 k2 k3 c (0,[]) rfl (bQ c.1 c.2).2 [] (by simpa using j1) (by simpa using j4);rw[gu];refine Eq.trans ?_ this;rw[List.nil_append];congr 1;exact Prod.ext (gu _ _) rfl
theorem afb(h:br c=true):FL c=some ((BL c,()),()):=by
 obtain⟨k1,k2,k3,k4⟩:=cc.1 h;rw[afa];unfold BL
 match hc:c.2 with
 | []=>rfl
 | [a] =>
  have ha:bK a=true:=(k1 a (by rw[hc];exact List.mem_singleton.2 rfl)).1;have g0:ae [a] 0=some a:=rfl;rw[show (((([a]:List aa).length:Nat):Int)==1)=true from rfl,cond_true,g0];simp only[Option.bind_some];rw[SY ha];simp only[Option.bind_some];unfold eO;cases (gl a.1 0 != 0)<;>simp only[Bool.not_true,Bool.not_false,cond_true,cond_false,Bool.false_and,Bool.true_and];cases a.2.1==1<;>rfl
 | a::b::l =>
  have:((((a::b::l:List aa).length:Nat):Int)==1)=false:=by
   rw[beq_eq_false_iff_ne];simp only[List.length_cons];omega
  rw[this];rfl
def kC(a:List Int):List Int->Nat->List Int->Option (List Int)
 | [],_,o=>some o
 | v::vs,i,o=>bif c8 v then kC a vs (i+1) (o.set v.toNat (o.getD v.toNat 0+a.getD i 0))else none
def mD(vars:List Int):List aa->List aa->Option (List aa)
 | [],o=>some o
 | a::l,o=>match kC a.1 vars 0 (List.replicate (Int.toNat 4) (0:Int))with
  | none=>none
  | some x=>bif (fL x a.2.1 a.2.2).2 then mD vars l (o++[(fL x a.2.1 a.2.2).1])else none
def mC(c:ab)(vars:List Int):Option ab:=bif br c&&((vars.length:Int)==c.1)then (mD vars c.2 []).map λl=>((4:Int),l)else none
theorem C2(a:List Int)(ha:∀y∈a,y.natAbs<=400000000):∀(vs:List Int) (i:Nat) (o r:List Int) (n:Nat),o.length=4->(∀y∈o,y.natAbs<=400000000*n)->kC a vs i o=some r->r.length=4/\∀y∈r,y.natAbs<=400000000*(n+vs.length)
 | [],i,o,r,n,h1,h2,h=>by
  unfold kC at h;cases h;exact⟨h1,by simpa using h2⟩
 | v::vs,i,o,r,n,h1,h2,h=>by
  unfold kC at h;cases hv:c8 v with
  | false=>rw[hv]at h;cases h
  | true =>
   rw[hv,cond_true]at h;have key:∀y∈o.set v.toNat (o.getD v.toNat 0+a.getD i 0),y.natAbs<=400000000*(n+1):=by
    intro y hy;rcases List.mem_or_eq_of_mem_set hy with hy|rfl
    ·have:=h2 y hy;omega
    ·have e1:(o.getD v.toNat 0).natAbs<=400000000*n:=by
      rw[List.getD_eq_getElem?_getD];cases hg:o[v.toNat]? with
      | none=>simp
      | some z=>exact h2 z (List.mem_of_getElem? hg)
     have e2:(a.getD i 0).natAbs<=400000000:=by
      rw[List.getD_eq_getElem?_getD];cases hg:a[i]? with
      | none=>simp
      | some z=>exact ha z (List.mem_of_getElem? hg)
     omega
   have:=C2 a ha vs (i+1) _ r (n+1) (by simpa using h1) key h;refine⟨this.1,λy hy=>?_⟩;have:=this.2 y hy;rw[List.length_cons];omega
theorem YS{a o:List Int}{v:Int}{i:Nat}(hv:c8 v=true)(ho:o.length=4)(hi:i<a.length):
  ae o v=some (o.getD v.toNat 0)/\ae a (i:Int)=some (a.getD i 0):=by
 unfold c8 at hv;simp only[Bool.and_eq_true,decide_eq_true_eq]at hv;have ax:v.toNat<o.length:=by omega
 refine⟨?_,?_⟩
 ·have:=aG (xs:=o) (i:=v.toNat) ax;rw[show ((v.toNat:Nat):Int)=v by omega]at this;rw[this,List.getD_eq_getElem?_getD,List.getElem?_eq_getElem ax];rfl
 ·rw[aG hi,List.getD_eq_getElem?_getD,List.getElem?_eq_getElem hi];rfl
theorem YR(vars:List Int):∀(l o r:List aa),(∀a∈o,bd 4 a)->(∀a∈l,∀y∈a.1,y.natAbs<=400000000)->mD vars l o=some r->(∀a∈r,bd 4 a)/\r.length=o.length+l.length
 | [],o,r,h1,_,h=>by
  unfold mD at h;cases h;exact⟨h1,rfl⟩
 | a::l,o,r,h1,hn,h=>by
  unfold mD at h;cases hp:kC a.1 vars 0 (List.replicate (Int.toNat 4) (0:Int))with
  | none=>rw[hp]at h;cases h
  | some x =>
   rw[hp]at h;dsimp only at h;cases hm:(fL x a.2.1 a.2.2).2 with
   | false=>rw[hm]at h;cases h
   | true =>
    rw[hm,cond_true]at h;have hx:=C2 a.1 (hn a (List.mem_cons_self ..)) vars 0 _ x 0 (by simp) (by simp[List.mem_replicate]) hp;have hk:=Yh hm;rw[hx.1]at hk;have:=YR vars l _ r (λb hb=>by
     rcases List.mem_append.1 hb with hb|hb
     ·exact h1 b hb
     ·rw[List.mem_singleton.1 hb];exact hk) (λb hb=>hn b (List.mem_cons_of_mem _ hb)) h
    refine⟨this.1,?_⟩;rw[this.2,List.length_append,List.length_singleton,List.length_cons];omega
theorem KB{r:ab}{vars:List Int}(h:mC c vars=some r):br r=true/\r.1=4:=by
 unfold mC at h;cases hc:br c&&((vars.length:Int)==c.1)with
 | false=>rw[hc]at h;cases h
 | true =>
  rw[hc,cond_true]at h;have hc:=(Bool.and_eq_true_iff.1 hc).1;obtain⟨k1,k2,k3,k4⟩:=cc.1 hc;cases hl:mD vars c.2 []with
  | none=>rw[hl]at h;cases h
  | some l =>
   rw[hl]at h;cases h;have:=YR vars c.2 [] l (by simp) (λa ha=>(eT (k1 a ha)).1) hl;exact⟨cc.2 ⟨this.1,by show (0:Int)<=4;omega,by show (4:Int)<=4;omega,by show l.length<=16;rw[this.2];simpa using k4⟩,rfl⟩
theorem Sg(vars:List Int)(c z x6:ab){k:Nat}(hk:k<c.2.length)(ha:bd n (c.2[k]))(hv:vars.length=n):∀(m i:Nat) (o:List Int),m+i=vars.length->o.length=4->(∀y∈o,y.natAbs<=400000000*i) ->
  uz vars c z x6 (k:Int) o (i:Int)=match kC (c.2[k]).1 (vars.drop i) i o with
   | none=>gK none
   | some x=>uz vars c z x6 (k:Int) x (vars.length:Int)
 | 0,i,o,hm,ho,hb=>by
  obtain rfl:i=vars.length:=by omega
  rw[List.drop_length];rfl
 | m+1,i,o,hm,ho,hb=>by
  have hi:i<vars.length:=by omega
  have hn:vars.length<=4:=by have:=(eT ha).2.2;have h2:=ha.2;omega
  rw[drop_cons hi]
  conv=>rhs;unfold kC
  rw[RR,aX hi,cond_true,aG hi];simp only[Option.bind_some];rw[jf];simp only[Option.bind_some];show (bif !c8 vars[i]then _ else _)=_;cases Cq:c8 vars[i]with
  | false=>rfl
  | true =>
   obtain⟨s1,s2⟩:=YS (a:=(c.2[k]).1) (o:=o) (i:=i) Cq ho (by rw[ha.2];omega);simp only[Bool.not_true,cond_false,cond_true];rw[s1];simp only[Option.bind_some];rw[aG hk];simp only[Option.bind_some];rw[s2];simp only[Option.bind_some];have e1:(o.getD (vars[i]).toNat 0).natAbs<=400000000*i:=by
    rw[List.getD_eq_getElem?_getD];cases hg:o[(vars[i]).toNat]? with
    | none=>simp
    | some z=>exact hb z (List.mem_of_getElem? hg)
   have e2:((c.2[k]).1.getD i 0).natAbs<=400000000:=by
    rw[List.getD_eq_getElem?_getD];cases hg:(c.2[k]).1[i]? with
    | none=>simp
    | some z=>exact (eT ha).1 z (List.mem_of_getElem? hg)
   rw[cm (by omega) (by omega),aO (by omega)];refine Sg vars c z x6 hk ha hv m (i+1) _ (by omega) (by simpa using ho) (λy hy=>?_);rcases List.mem_or_eq_of_mem_set hy with hy|rfl
   ·have:=hb y hy;omega
   ·omega
theorem Sf(vars:List Int)(c z:ab)(hc:∀a∈c.2,bd n a)(hl:c.2.length<=16)(hv:vars.length=n):∀(m k:Nat) (o:List aa),m+k=c.2.length->o.length=k ->
  yy vars c z (4,o) (k:Int)=gK ((mD vars (c.2.drop k) o).map λl=>((4:Int),l))
 | 0,k,o,hm,ho=>by
  obtain rfl:k=c.2.length:=by omega
  rw[RQ,aZ,cond_false,List.drop_length];rfl
 | m+1,k,o,hm,ho=>by
  have hk:k<c.2.length:=by omega
  have ha:=hc _ (List.getElem_mem hk);have hn:vars.length<=4:=by have:=(eT ha).2.2;have h2:=ha.2;omega
  rw[RQ,aX hk,cond_true,drop_cons hk];have h9:=Sg vars c z (4,o) hk ha hv vars.length 0 (List.replicate (Int.toNat 4) (0:Int)) rfl (by simp) (by simp[List.mem_replicate]);rw[List.drop_zero,Int.natCast_zero]at h9;rw[h9];unfold mD;cases hp:kC (c.2[k]).1 vars 0 (List.replicate (Int.toNat 4) (0:Int))with
  | none=>rfl
  | some x =>
   have hx:=C2 (c.2[k]).1 (eT ha).1 vars 0 _ x 0 (by simp) (by simp[List.mem_replicate]) hp;dsimp only;rw[RR,aZ,cond_false,aG hk];simp only[Option.bind_some];rw[Tk (by rw[hx.1];omega) (λy hy=>by have:=hx.2 y hy;omega) (by have:=(eT ha).2.1;omega)];simp only[Option.bind_some];cases ig:(fL x (c.2[k]).2.1 (c.2[k]).2.2).2 with
   | false=>rfl
   | true =>
    simp only[Bool.not_true,cond_false,cond_true];have d:decide ((o.length+1)*40<=140737488355328)=true:=decide_eq_true (by omega);rw[d,cond_true,aO (by omega)];exact Sf vars c z hc hl hv m (k+1) _ (by omega) (by simp[ho])
theorem af5(c:ab)(vars:List Int)(hl:c.2.length<=68719476736):zw c vars=gK (mC c vars):=by
 rw[af4,rN _ hl];unfold mC;simp only[Option.bind_some];cases hc:br c with
 | false=>rfl
 | true =>
  obtain⟨k1,k2,k3,k4⟩:=cc.1 hc;simp only[Bool.not_true,cond_false,Bool.true_and,bne];cases hv:((vars.length:Int)==c.1)with
  | false=>rfl
  | true =>
   simp only[Bool.not_true,cond_false,cond_true];have hv:=beq_iff_eq.1 hv;have:=Sf vars c (0,[]) k1 k4 (by omega) c.2.length 0 [] rfl rfl
   rwa [List.drop_zero]at this
theorem Q9(vars:List Int)(c z x6:ab)(a:aa)(ha:bd n a)(hv:vars.length=n)(L:List aa)(b:Int)(k:Int):∀(m i:Nat) (o:List Int),m+i=vars.length->o.length=4->(∀y∈o,y.natAbs<=400000000*i) ->
  uj vars c z x6 a o L b k vars (vars.length:Int) (i:Int)=match kC a.1 (vars.drop i) i o with
   | none=>gK none
   | some x=>uj vars c z x6 a x L b k vars (vars.length:Int) (vars.length:Int)
 | 0,i,o,hm,ho,hb=>by
  obtain rfl:i=vars.length:=by omega
  rw[List.drop_length];rfl
 | m+1,i,o,hm,ho,hb=>by
  have hi:i<vars.length:=by omega
  have hn:vars.length<=4:=by have:=(eT ha).2.2;have h2:=ha.2;omega
  rw[drop_cons hi]
  conv=>rhs;unfold kC
  rw[QN,aX hi,cond_true,aG hi];simp only[Option.bind_some];rw[FN];simp only[Option.bind_some];cases Cq:c8 vars[i]with
  | false=>rfl
  | true =>
   obtain⟨s1,s2⟩:=YS (a:=a.1) (o:=o) (i:=i) Cq ho (by rw[ha.2];omega);simp only[Bool.not_true,cond_false,cond_true];rw[s1];simp only[Option.bind_some];rw[s2];simp only[Option.bind_some];have e1:(o.getD (vars[i]).toNat 0).natAbs<=400000000*i:=by
    rw[List.getD_eq_getElem?_getD];cases hg:o[(vars[i]).toNat]? with
    | none=>simp
    | some z=>exact hb z (List.mem_of_getElem? hg)
   have e2:(a.1.getD i 0).natAbs<=400000000:=by
    rw[List.getD_eq_getElem?_getD];cases hg:a.1[i]? with
    | none=>simp
    | some z=>exact (eT ha).1 z (List.mem_of_getElem? hg)
   rw[cm (by omega) (by omega),aO (by omega)];refine Q9 vars c z x6 a ha hv L b k m (i+1) _ (by omega) (by simpa using ho) (λy hy=>?_);rcases List.mem_or_eq_of_mem_set hy with hy|rfl
   ·have:=hb y hy;omega
   ·omega
theorem Q8(vars:List Int)(c z:ab)(hc:∀a∈c.2,bd n a)(hl:c.2.length<=16)(hv:vars.length=n):∀(m k:Nat) (o:List aa),m+k=c.2.length->o.length=k ->
  yh vars c z (4,o) c.2 (c.2.length:Int) (k:Int)=gK ((mD vars (c.2.drop k) o).map λl=>((4:Int),l))
 | 0,k,o,hm,ho=>by
  obtain rfl:k=c.2.length:=by omega
  rw[QM,aZ,cond_false,List.drop_length];rfl
 | m+1,k,o,hm,ho=>by
  have hk:k<c.2.length:=by omega
  have ha:=hc _ (List.getElem_mem hk);have hn:vars.length<=4:=by have:=(eT ha).2.2;have h2:=ha.2;omega
  rw[QM,aX hk,cond_true,drop_cons hk,aG hk];simp only[Option.bind_some];have h9:=Q9 vars c z (4,o) (c.2[k]) ha hv c.2 (c.2.length:Int) (k:Int) vars.length 0 (List.replicate (Int.toNat 4) (0:Int)) rfl (by simp) (by simp[List.mem_replicate]);rw[List.drop_zero,Int.natCast_zero]at h9;rw[h9];unfold mD;cases hp:kC (c.2[k]).1 vars 0 (List.replicate (Int.toNat 4) (0:Int))with
  | none=>rfl
  | some x =>
   have hx:=C2 (c.2[k]).1 (eT ha).1 vars 0 _ x 0 (by simp) (by simp[List.mem_replicate]) hp;dsimp only;rw[QN,aZ,cond_false];rw[S3 (by rw[hx.1];omega) (λy hy=>by have:=hx.2 y hy;omega) (by have:=(eT ha).2.1;omega)];simp only[Option.bind_some];cases ig:(fL x (c.2[k]).2.1 (c.2[k]).2.2).2 with
   | false=>rfl
   | true =>
    simp only[Bool.not_true,cond_false,cond_true];have d:decide ((o.length+1)*40<=140737488355328)=true:=decide_eq_true (by omega);rw[d,cond_true,aO (by omega)];exact Q8 vars c z hc hl hv m (k+1) _ (by omega) (by simp[ho])
theorem aeR(c:ab)(vars:List Int):zd c vars=gK (mC c vars):=by
 rw[aeQ,mP];unfold mC;simp only[Option.bind_some];cases hc:br c with
 | false=>rfl
 | true =>
  obtain⟨k1,k2,k3,k4⟩:=cc.1 hc;simp only[Bool.not_true,cond_false,Bool.true_and,bne];cases hv:((vars.length:Int)==c.1)with
  | false=>rfl
  | true =>
   simp only[Bool.not_true,cond_false,cond_true];have hv:=beq_iff_eq.1 hv;have:=Q8 vars c (0,[]) k1 k4 (by omega) c.2.length 0 [] rfl rfl
   rwa [List.drop_zero]at this
def aT(l:List ab):Prop:=l.length<=12/\∀c∈l,br c=true/\c.1=4
def dC(o:List ab)(c:ab):Option (List ab):=match gq c with
 | none=>none
 | some m=>bif sg m then some o else bif decide (o.length>=12)then none else some (o++[m])
theorem gG{o:List ab}(ho:aT o)(hc:c.1=4)(h:dC o c=some r):aT r:=by
 unfold dC at h;cases hm:gq c with
 | none=>rw[hm]at h;cases h
 | some m =>
  rw[hm]at h;dsimp only at h;obtain⟨_,m1,m2⟩:=wY hm;cases h3:sg m with
  | true=>rw[h3,cond_true]at h;cases h;exact ho
  | false =>
   rw[h3,cond_false]at h;cases h1:decide (o.length>=12)with
   | true=>rw[h1]at h;cases h
   | false =>
    rw[h1,cond_false]at h;have h2:¬o.length>=12:=of_decide_eq_false h1;cases h;refine⟨by rw[List.length_append,List.length_singleton];omega,λs hs=>?_⟩;rcases List.mem_append.1 hs with k|k
    ·exact ho.2 s k
    ·rw[List.mem_singleton.1 k];exact⟨m1,m2.trans hc⟩
def Sy(d:Int)(r:Option (List ab))(e:Option ((aU×Bool×PUnit)×PUnit)):Prop:=match r with
 | some l=>e=some (((d,l),true,()),())
 | none=>∃z,e=some ((z,false,()),())
theorem rU{d:Int}{o:List ab}(hc:br c=true)(ho:o.length<=12):Sy d (dC o c) (gU (d,o) c):=by
 obtain⟨k1,k2,k3,k4⟩:=cc.1 hc;have hn:=mA hc;rw[agt,rT k2 (by omega) k1 (by omega)];simp only[Option.bind_some];rw[Tr hn];unfold dC;have hm:gq c=my (bQ c.1 c.2):=by unfold gq;rw[hc];rfl
 rw[hm];cases h1:my (bQ c.1 c.2)with
 | none=>exact⟨(0,[]),rfl⟩
 | some m =>
  obtain⟨m1,m2,m3,m4⟩:=cc.1 (wY (hm.trans h1)).2.1;unfold gK;simp only[Option.bind_some,Bool.not_true,cond_false];have d0:decide (((m.2.length:Nat):Int)>16)=false:=decide_eq_false (by omega);have d1:decide ((0+o.length)*32<=140737488355328)=true:=decide_eq_true (by omega);have d2:decide ((o.length+1)*32<=140737488355328)=true:=decide_eq_true (by omega);have d3:decide ((((o++[m]).length:Nat):Int)<=12) = !decide (o.length>=12):=by
   rw[List.length_append,List.length_singleton,<-decide_not];congr 1;rw[eq_iff_iff];omega
  rw[d0,cond_false,d1,cond_true,d2,cond_true,d3];have fin:Sy d (bif decide (o.length>=12)then none else some (o++[m])) (some (((d,o++[m]),!decide (o.length>=12),()),())):=by
   cases decide (o.length>=12)with
   | true=>exact⟨(d,o++[m]),rfl⟩
   | false=>rfl
  unfold sg eO
  match ig:m.2 with
  | []=>exact fin
  | [a] =>
   have ha:=eT (m1 a (by rw[ig];exact List.mem_singleton.2 rfl));have g0:ae [a] 0=some a:=rfl;rw[show (((([a]:List aa).length:Nat):Int)==1)=true from rfl,cond_true,g0];simp only[Option.bind_some];rw[Tl _ (by omega)];simp only[Option.bind_some];rw[show (!(gl a.1 0 != 0))=(gl a.1 0==0)by simp[bne]];cases gl a.1 0==0 with
   | true=>rfl
   | false=>exact fin
  | a::b::t =>
   have:((((a::b::t:List aa).length:Nat):Int)==1)=false:=by
    rw[beq_eq_false_iff_ne];simp only[List.length_cons];omega
   rw[this];exact fin
def sk(d:Int)(o:List ab):Option (List ab)->Option ((Bool×PUnit)×aU×PUnit)
 | some r=>some ((true,()),(d,r),())
 | none=>some ((false,()),(d,o),())
theorem rH{o:List ab}(ho:o.length<=12):mR (d,o) c=sk d o (dC o c):=by
 rw[aeY,SI];unfold dC;cases h1:gq c with
 | none=>rfl
 | some m =>
  unfold gK;simp only[Option.bind_some,Bool.not_true,cond_false];rw[afb (wY h1).2.1,amd h1];simp only[Option.bind_some];have d2:decide ((o.length+1)*32<=140737488355328)=true:=decide_eq_true (by omega);have d3:decide (((o.length:Nat):Int)>=12)=decide (o.length>=12):=by rw[Bool.eq_iff_iff];simp;omega
  rw[d3,d2,cond_true];cases sg m with
  | true=>rfl
  | false=>cases decide (o.length>=12)<;>rfl
theorem RE{r:aU}(h:aT r.2)(hd:r.1=4):∀(m i:Nat),m+i=r.2.length->yu r (i:Int)=some ((true,()),())
 | 0,i,hm=>by
  obtain rfl:i=r.2.length:=by omega
  rw[D6,aZ,cond_false,hd,jf];have:=h.1;have e:decide (((r.2.length:Nat):Int)<=12)=true:=decide_eq_true (by omega);simp only[Option.bind_some];rw[e];rfl
 | m+1,i,hm=>by
  have hi:i<r.2.length:=by omega
  have dm:i<=12:=by have:=h.1;omega
  obtain⟨c1,c2⟩:=h.2 _ (List.getElem_mem hi);have c4:=(cc.1 c1).2.2.2;rw[D6,aX hi,cond_true,aG hi];simp only[Option.bind_some];rw[rN _ (by omega),c1];simp only[Option.bind_some,Bool.not_true,cond_false];rw[c2,hd,aO (by omega)];exact RE h hd m (i+1) (by omega)
theorem rO{l:List ab}(h:aT l):mX (4,l)=some ((true,()),()):=by
 rw[Tf];have:=RE (r:=(4,l)) h rfl l.length 0 rfl
 rwa [Int.natCast_zero]at this
theorem QC{r:aU}(h:aT r.2)(hd:r.1=4):∀(m i:Nat),m+i=r.2.length->ue r r.2 (r.2.length:Int) (i:Int)=some ((true,()),())
 | 0,i,hm=>by
  obtain rfl:i=r.2.length:=by omega
  rw[QD,aZ,cond_false]
 | m+1,i,hm=>by
  have hi:i<r.2.length:=by omega
  have dm:i<=12:=by have:=h.1;omega
  obtain⟨c1,c2⟩:=h.2 _ (List.getElem_mem hi);rw[QD,aX hi,cond_true,aG hi];simp only[Option.bind_some];rw[mP,c1];simp only[Option.bind_some,Bool.not_true,cond_false];rw[c2,hd,aO (by omega)];exact QC h hd m (i+1) (by omega)
theorem mQ{l:List ab}(h:aT l):jN (4,l)=some ((true,()),()):=by
 rw[aeD];have hl:=h.1;have e:decide (((l.length:Nat):Int)>12)=false:=decide_eq_false (by omega);have:=QC (r:=(4,l)) h rfl l.length 0 rfl;rw[Int.natCast_zero]at this;show (bif decide ((4:Int)<0)then _ else bif decide ((4:Int)>4)then _ else bif decide (((l.length:Nat):Int)>12)then _ else ue (4,l) l (l.length:Int) 0)=_;rw[e,this];rfl
def er:List ab->List ab->Option (List ab)
 | [],o=>some o
 | c::l,o=>match dC o c with
  | none=>none
  | some o=>er l o
theorem lR:∀(l o r:List ab),(∀c∈l,c.1=4)->aT o->er l o=some r->aT r
 | [],o,r,_,ho,h=>by
  unfold er at h;cases h;exact ho
 | c::l,o,r,hl,ho,h=>by
  unfold er at h;cases h1:dC o c with
  | none=>rw[h1]at h;cases h
  | some o2 =>
   rw[h1]at h;exact lR l o2 r (λx hx=>hl x (List.mem_cons_of_mem _ hx)) (gG ho (hl c (List.mem_cons_self ..)) h1) h
theorem RO{x z:aU}(hx:aT x.2):∀(m i:Nat) (o:List ab),m+i=x.2.length->aT o->yw x z (4,o) (i:Int)=bZ 4 (er (x.2.drop i) o)
 | 0,i,o,hm,ho=>by
  obtain rfl:i=x.2.length:=by omega
  rw[RN,aZ,cond_false,List.drop_length];rfl
 | m+1,i,o,hm,ho=>by
  have hi:i<x.2.length:=by omega
  have dm:i<=12:=by have:=hx.1;omega
  obtain⟨c1,c2⟩:=hx.2 _ (List.getElem_mem hi);have ha:=rU (d:=4) (o:=o) c1 ho.1;rw[RN,aX hi,cond_true,aG hi,drop_cons hi];simp only[Option.bind_some];unfold er;cases h:dC o x.2[i]with
  | none =>
   rw[h]at ha;obtain⟨w,hw⟩:=ha;rw[hw];rfl
  | some r =>
   rw[h]at ha;have ha:gU (4,o) x.2[i]=some (((4,r),true,()),()):=ha;rw[ha];simp only[Option.bind_some,Bool.not_true,cond_false];rw[aO (by omega)];exact RO hx m (i+1) r (by omega) (gG ho c2 h)
theorem F3{l:List ab}(h:aT l):rQ (4,l)=bZ 4 (er l []):=by
 rw[af2,rO h];simp only[Option.bind_some,Bool.not_true,cond_false];have:=RO (x:=(4,l)) (z:=(0,[])) h l.length 0 [] rfl ⟨by simp,by simp⟩
 rwa [Int.natCast_zero,List.drop_zero]at this
theorem Q3{x z:aU}(hx:aT x.2):∀(m i:Nat) (o:List ab),m+i=x.2.length->aT o->yn (some ()) x z (4,o) x.2 (x.2.length:Int) (i:Int)=bZ 4 (er (x.2.drop i) o)
 | 0,i,o,hm,ho=>by
  obtain rfl:i=x.2.length:=by omega
  rw[Q0,aZ,cond_false,List.drop_length];rfl
 | m+1,i,o,hm,ho=>by
  have hi:i<x.2.length:=by omega
  have dm:i<=12:=by have:=hx.1;omega
  obtain⟨c1,c2⟩:=hx.2 _ (List.getElem_mem hi);rw[Q0,aX hi,cond_true,aG hi,drop_cons hi];simp only[Option.bind_some];rw[aeN];simp only[Option.bind_some,Bool.not_true,cond_false];rw[rH ho.1];unfold er;cases h:dC o x.2[i]with
  | none=>rfl
  | some r =>
   unfold sk;simp only[Option.bind_some,Bool.not_true,cond_false];rw[aO (by omega)];exact Q3 hx m (i+1) r (by omega) (gG ho c2 h)
theorem FE{l:List ab}(h:aT l):uM (4,l)=bZ 4 (er l []):=by
 rw[aeO,mQ h];simp only[Option.bind_some,Bool.not_true,cond_false];rw[afm];have:=Q3 (x:=(4,l)) (z:=(0,[])) h l.length 0 [] rfl ⟨by simp,by simp⟩;rw[Int.natCast_zero,List.drop_zero]at this;refine Eq.trans (congrArg (λe=>Option.bind e _) this) ?_;cases er l []<;>rfl
def pP(a b:List ab):Option (List ab):=match er a []with
 | none=>none
 | some x=>match er b []with
  | none=>none
  | some y=>bif decide (x.length+y.length>12)then none else some (x++y)
theorem ej:aT []:=⟨by simp,by simp⟩
theorem aiw{a b:List ab}(ha:aT a)(hb:aT b)(h:pP a b=some r):aT r:=by
 unfold pP at h;cases h1:er a []with
 | none=>rw[h1]at h;cases h
 | some x =>
  rw[h1]at h;dsimp only at h;cases h2:er b []with
  | none=>rw[h2]at h;cases h
  | some y =>
   rw[h2]at h;dsimp only at h;cases h3:decide (x.length+y.length>12)with
   | true=>rw[h3]at h;cases h
   | false =>
    rw[h3]at h;cases h;have hx:=lR a [] x (λc hc=>(ha.2 c hc).2) ej h1;have hy:=lR b [] y (λc hc=>(hb.2 c hc).2) ej h2;have:=of_decide_eq_false h3;refine⟨by rw[List.length_append];omega,λc hc=>?_⟩;rcases List.mem_append.1 hc with hc|hc
    ·exact hx.2 c hc
    ·exact hy.2 c hc
theorem Zz{x y:List ab}(hx:x.length<=12)(hy:y.length<=12):decide (IntKind.i64.wrap ((x.length:Int)+(y.length:Int))>12)=decide (x.length+y.length>12):=by
 rw[cm (by omega) (by omega),Bool.eq_iff_iff];simp;omega
theorem af9{a b:List ab}(ha:aT a)(hb:aT b):F5 (4,a) (4,b)=bZ 4 (pP a b):=by
 rw[af8,F3 ha,F3 hb];unfold pP;cases h1:er a []with
 | none=>cases er b []<;>rfl
 | some x =>
  cases h2:er b []with
  | none=>rfl
  | some y =>
   have hx:=lR a [] x (λc hc=>(ha.2 c hc).2) ej h1;have hy:=lR b [] y (λc hc=>(hb.2 c hc).2) ej h2;have km:=hx.1;have JE:=hy.1;unfold bZ;simp only[Option.bind_some,Bool.not_true,cond_false,bne_self_eq_false];have d1:decide ((0+x.length)*32<=140737488355328)=true:=decide_eq_true (by omega);have d2:decide ((x.length+y.length)*32<=140737488355328)=true:=decide_eq_true (by omega);rw[Zz km JE,d1,cond_true,d2,cond_true];cases decide (x.length+y.length>12)<;>rfl
theorem aeV{a b:List ab}(ha:aT a)(hb:aT b):FH (4,a) (4,b)=bZ 4 (pP a b):=by
 rw[aeU,mQ ha];simp only[Option.bind_some,Bool.not_true,cond_false];rw[mQ hb];simp only[Option.bind_some,Bool.not_true,cond_false,bne_self_eq_false];rw[FE ha];unfold pP;cases h1:er a []with
 | none=>rfl
 | some x =>
  have e1:bZ 4 (some x)=some (((4,x),true,()),()):=rfl;rw[e1];simp only[Option.bind_some,Bool.not_true,cond_false];rw[FE hb];cases h2:er b []with
  | none=>rfl
  | some y =>
   have hx:=lR a [] x (λc hc=>(ha.2 c hc).2) ej h1;have hy:=lR b [] y (λc hc=>(hb.2 c hc).2) ej h2;have km:=hx.1;have JE:=hy.1;have e2:bZ 4 (some y)=some (((4,y),true,()),()):=rfl;rw[e2];simp only[Option.bind_some,Bool.not_true,cond_false];have d2:decide ((x.length+y.length)*32<=140737488355328)=true:=decide_eq_true (by omega);rw[Zz km JE,d2,cond_true];cases decide (x.length+y.length>12)<;>rfl
def jV(x:ab):List ab->List ab->Option (List ab)
 | [],o=>some o
 | y::l,o=>bif (cR x y).2 then (match dC o (cR x y).1 with
  | none=>none
  | some o=>jV x l o)else none
def kT(b:List ab):List ab->List ab->Option (List ab)
 | [],o=>some o
 | x::l,o=>match jV x b o with
  | none=>none
  | some o=>kT b l o
theorem tg{x y:ab}(hx:x.1=4)(h:(cR x y).2=true):br (cR x y).1=true/\(cR x y).1.1=4:=by
 obtain⟨h1,h2,_⟩:=X5 h;refine⟨h1,?_⟩;rw[h2,gu,hx]
theorem BX{x:ab}(hx:x.1=4):∀(l o r:List ab),aT o->jV x l o=some r->aT r
 | [],o,r,ho,h=>by
  unfold jV at h;cases h;exact ho
 | y::l,o,r,ho,h=>by
  unfold jV at h;cases h1:(cR x y).2 with
  | false=>rw[h1]at h;cases h
  | true =>
   rw[h1,cond_true]at h;cases h2:dC o (cR x y).1 with
   | none=>rw[h2]at h;cases h
   | some o2 =>
    rw[h2]at h;exact BX hx l o2 r (gG ho (tg hx h1).2 h2) h
theorem Vh{b:List ab}:∀(l o r:List ab),(∀c∈l,c.1=4)->aT o->kT b l o=some r->aT r
 | [],o,r,_,ho,h=>by
  unfold kT at h;cases h;exact ho
 | x::l,o,r,hl,ho,h=>by
  unfold kT at h;cases h1:jV x b o with
  | none=>rw[h1]at h;cases h
  | some o2 =>
   rw[h1]at h;exact Vh l o2 r (λc hc=>hl c (List.mem_cons_of_mem _ hc)) (BX (hl x (List.mem_cons_self ..)) b o o2 ho h1) h
theorem RJ{a b z:aU}(hb:aT b.2){i:Nat}(hi:i<a.2.length)(hc:br a.2[i]=true)(hx:(a.2[i]).1=4):∀(m j:Nat) (o:List ab),m+j=b.2.length->aT o ->
  yv a b z (4,o) (i:Int) (j:Int)=match jV a.2[i] (b.2.drop j) o with
   | none=>bZ 4 none
   | some o=>ux a b z (4,o) (IntKind.i64.wrap ((i:Int)+1))
 | 0,j,o,hm,ho=>by
  obtain rfl:j=b.2.length:=by omega
  rw[RL,aZ,cond_false,List.drop_length];rfl
 | m+1,j,o,hm,ho=>by
  have hj:j<b.2.length:=by omega
  have v8:j<=12:=by have:=hb.1;omega
  obtain⟨c1,c2⟩:=hb.2 _ (List.getElem_mem hj);have l1:=(cc.1 hc).2.2.2;have l2:=(cc.1 c1).2.2.2;rw[RL,aX hj,cond_true,aG hi,aG hj,drop_cons hj];simp only[Option.bind_some];rw[F2 _ _ (by omega) (by omega)];unfold jV fS;simp only[Option.bind_some];cases h1:(cR a.2[i] b.2[j]).2 with
  | false=>rfl
  | true =>
   obtain⟨d1,d2⟩:=tg hx h1;have ha:=rU (d:=4) (o:=o) d1 ho.1;simp only[Bool.not_true,cond_false,cond_true];cases h2:dC o (cR a.2[i] b.2[j]).1 with
   | none =>
    rw[h2]at ha;obtain⟨w,hw⟩:=ha;rw[hw];rfl
   | some r =>
    rw[h2]at ha;have ha:gU (4,o) (cR a.2[i] b.2[j]).1=some (((4,r),true,()),()):=ha;rw[ha];simp only[Option.bind_some,Bool.not_true,cond_false];rw[aO (by omega)];exact RJ hb hi hc hx m (j+1) r (by omega) (gG ho d2 h2)
theorem RI{a b z:aU}(ha:aT a.2)(hb:aT b.2):∀(m i:Nat) (o:List ab),m+i=a.2.length->aT o->ux a b z (4,o) (i:Int)=bZ 4 (kT b.2 (a.2.drop i) o)
 | 0,i,o,hm,ho=>by
  obtain rfl:i=a.2.length:=by omega
  rw[RK,aZ,cond_false,List.drop_length];rfl
 | m+1,i,o,hm,ho=>by
  have hi:i<a.2.length:=by omega
  have dm:i<=12:=by have:=ha.1;omega
  obtain⟨c1,c2⟩:=ha.2 _ (List.getElem_mem hi);have h8:=RJ (z:=z) hb hi c1 c2 b.2.length 0 o rfl ho;rw[List.drop_zero,Int.natCast_zero]at h8;rw[RK,aX hi,cond_true,h8,drop_cons hi];unfold kT;cases h1:jV a.2[i] b.2 o with
  | none=>rfl
  | some o2 =>
   dsimp only;rw[aO (by omega)];exact RI ha hb m (i+1) o2 (by omega) (BX c2 b.2 o o2 ho h1)
theorem afZ{a b:List ab}(ha:aT a)(hb:aT b):zu (4,a) (4,b)=bZ 4 (kT b a []):=by
 rw[afY,rO ha];simp only[Option.bind_some,Bool.not_true,cond_false];rw[rO hb];simp only[Option.bind_some,Bool.not_true,cond_false,bne_self_eq_false];have:=RI (a:=(4,a)) (b:=(4,b)) (z:=(0,[])) ha hb a.length 0 [] rfl ej
 rwa [Int.natCast_zero,List.drop_zero]at this
theorem QG{a b z:aU}(hb:aT b.2){x:ab}(hx:x.1=4)(iA:List ab)(fq eX:Int):∀(m j:Nat) (o:List ab),m+j=b.2.length->aT o ->
  yf a b z (4,o) x iA fq eX b.2 (b.2.length:Int) (j:Int)=match jV x (b.2.drop j) o with
   | none=>bZ 4 none
   | some o=>ug a b z (4,o) iA fq (IntKind.i64.wrap (eX+1))
 | 0,j,o,hm,ho=>by
  obtain rfl:j=b.2.length:=by omega
  rw[QI,aZ,cond_false,List.drop_length];rfl
 | m+1,j,o,hm,ho=>by
  have hj:j<b.2.length:=by omega
  have v8:j<=12:=by have:=hb.1;omega
  rw[QI,aX hj,cond_true,aG hj,drop_cons hj];simp only[Option.bind_some];rw[FD];unfold jV fS;simp only[Option.bind_some];cases h1:(cR x b.2[j]).2 with
  | false=>rfl
  | true =>
   obtain⟨d1,d2⟩:=tg hx h1;simp only[Bool.not_true,cond_false,cond_true];rw[rH ho.1];cases h2:dC o (cR x b.2[j]).1 with
   | none=>rfl
   | some r =>
    unfold sk;simp only[Option.bind_some,Bool.not_true,cond_false];rw[aO (by omega)];exact QG hb hx iA fq eX m (j+1) r (by omega) (gG ho d2 h2)
theorem QF{a b z:aU}(ha:aT a.2)(hb:aT b.2):∀(m i:Nat) (o:List ab),m+i=a.2.length->aT o->ug a b z (4,o) a.2 (a.2.length:Int) (i:Int)=bZ 4 (kT b.2 (a.2.drop i) o)
 | 0,i,o,hm,ho=>by
  obtain rfl:i=a.2.length:=by omega
  rw[QH,aZ,cond_false,List.drop_length];rfl
 | m+1,i,o,hm,ho=>by
  have hi:i<a.2.length:=by omega
  have dm:i<=12:=by have:=ha.1;omega
  obtain⟨c1,c2⟩:=ha.2 _ (List.getElem_mem hi);have h8:=QG (a:=a) (z:=z) hb c2 a.2 (a.2.length:Int) (i:Int) b.2.length 0 o rfl ho;rw[List.drop_zero,Int.natCast_zero]at h8;rw[QH,aX hi,cond_true,aG hi,drop_cons hi];simp only[Option.bind_some];rw[h8];unfold kT;cases h1:jV a.2[i] b.2 o with
  | none=>rfl
  | some o2 =>
   dsimp only;rw[aO (by omega)];exact QF ha hb m (i+1) o2 (by omega) (BX c2 b.2 o o2 ho h1)
theorem aeJ{a b:List ab}(ha:aT a)(hb:aT b):zb (4,a) (4,b)=bZ 4 (kT b a []):=by
 rw[aeI,mQ ha];simp only[Option.bind_some,Bool.not_true,cond_false];rw[mQ hb];simp only[Option.bind_some,Bool.not_true,cond_false,bne_self_eq_false];have:=QF (a:=(4,a)) (b:=(4,b)) (z:=(0,[])) ha hb a.length 0 [] rfl ej
 rwa [Int.natCast_zero,List.drop_zero]at this
def jU(x:ab):List aa->List aa->List ab->Option (List ab)
 | _,[],o=>some o
 | pre,a::post,o=>bif (cR x (4,pre++[(dM a).1])).2 then (match dC o (cR x (4,pre++[(dM a).1])).1 with
  | none=>none
  | some o=>jU x (pre++[a]) post o)else none
def kS(m:List aa):List ab->List ab->Option (List ab)
 | [],o=>some o
 | x::l,o=>match jU x [] m o with
  | none=>none
  | some o=>kS m l o
theorem BW{x:ab}(hx:x.1=4):∀(post pre:List aa) (o r:List ab),aT o->jU x pre post o=some r->aT r
 | [],pre,o,r,ho,h=>by
  unfold jU at h;cases h;exact ho
 | a::post,pre,o,r,ho,h=>by
  unfold jU at h;cases h1:(cR x (4,pre++[(dM a).1])).2 with
  | false=>rw[h1]at h;cases h
  | true =>
   rw[h1,cond_true]at h;cases h2:dC o (cR x (4,pre++[(dM a).1])).1 with
   | none=>rw[h2]at h;cases h
   | some o2 =>
    rw[h2]at h;exact BW hx post _ o2 r (gG ho (tg hx h1).2 h2) h
theorem IJ{m:List aa}:∀(l o r:List ab),(∀c∈l,c.1=4)->aT o->kS m l o=some r->aT r
 | [],o,r,_,ho,h=>by
  unfold kS at h;cases h;exact ho
 | x::l,o,r,hl,ho,h=>by
  unfold kS at h;cases h1:jU x [] m o with
  | none=>rw[h1]at h;cases h
  | some o2 =>
   rw[h1]at h;exact IJ l o2 r (λc hc=>hl c (List.mem_cons_of_mem _ hc)) (BW (hl x (List.mem_cons_self ..)) m [] o o2 ho h1) h
theorem aml(h:bd n a):(dM a).2=true:=by
 unfold dM;rw[h.1];rfl
theorem TS(pre:List α)(a:α)(post:List α):decide ((pre.length:Int)<((pre++a::post).length:Int))=true/\ae (pre++a::post) (pre.length:Int)=some a /\
  (decide ((0:Nat)<=0)&&decide (0<=(pre.length:Int))&&decide ((pre.length:Int)<=((pre++a::post).length:Int)))=true:=by
 refine⟨by simp;omega,?_,by simp;omega⟩;rw[aG (by simp)];simp
theorem RH{z:aU}(hd:x.1=4){i:Nat}(hi:i<x.2.length)(hc:br x.2[i]=true)(hx:(x.2[i]).1=4)(hm:∀a∈m.2,bd 4 a)(hl:m.2.length<=16):∀(post pre:List aa) (o:List ab),m.2=pre++post->aT o ->
  rC x z m (4,o) (i:Int) (pre.length:Int)=match jU x.2[i] pre post o with
   | none=>bZ 4 none
   | some o=>uE x z m (4,o) (IntKind.i64.wrap ((i:Int)+1))
 | [],pre,o,he,ho=>by
  rw[Sa,he,List.append_nil,aZ,cond_false];rfl
 | a::post,pre,o,he,ho=>by
  obtain⟨e1,e2,e3⟩:=TS pre a post;have hp:pre.length<=16:=by rw[he,List.length_append]at hl;omega
  have ha:=hm a (by rw[he];simp);have l1:=(cc.1 hc).2.2.2;have d1:decide ((0+pre.length)*40<=140737488355328)=true:=decide_eq_true (by omega);have d2:decide ((pre.length+1)*40<=140737488355328)=true:=decide_eq_true (by omega);have step:rC x z m (4,o) (i:Int) (pre.length:Int)=(rP x.2[i] (4,pre++[(dM a).1])).bind λy=>bif !y.1.2.1 then some (((0,[]),false,()),())else (gU (4,o) y.1.1).bind λy=>bif !y.1.2.1 then some (((0,[]),false,()),())else rC x z m y.1.1 (i:Int) (IntKind.i64.wrap ((pre.length:Int)+1)):=by
   rw[Sa,he,e1,cond_true,e2];simp only[Option.bind_some];rw[Th];unfold r7;simp only[Option.bind_some];rw[e3,cond_true,BI,d1,cond_true,d2,cond_true,aG hi,hd];simp only[Option.bind_some]
  rw[step,F2 _ _ (by omega) (by simp;omega)];unfold jU fS;simp only[Option.bind_some];cases h1:(cR x.2[i] (4,pre++[(dM a).1])).2 with
  | false=>rfl
  | true =>
   obtain⟨c1,c2⟩:=tg hx h1;have sy:=rU (d:=4) (o:=o) c1 ho.1;simp only[Bool.not_true,cond_false,cond_true];cases h2:dC o (cR x.2[i] (4,pre++[(dM a).1])).1 with
   | none =>
    rw[h2]at sy;obtain⟨w,hw⟩:=sy;rw[hw];rfl
   | some r =>
    rw[h2]at sy;have sy:gU (4,o) (cR x.2[i] (4,pre++[(dM a).1])).1=some (((4,r),true,()),()):=sy;rw[sy];simp only[Option.bind_some,Bool.not_true,cond_false];rw[aO (by omega)];have:=RH (z:=z) hd hi hc hx hm hl post (pre++[a]) r (by rw[he];simp) (gG ho c2 h2);rw[show (pre++[a]).length=pre.length+1 by simp]at this;exact this
theorem RG{x z:aU}{m:ab}(hd:x.1=4)(hx:aT x.2)(hm:∀a∈m.2,bd 4 a)(hl:m.2.length<=16):∀(k i:Nat) (o:List ab),k+i=x.2.length->aT o->uE x z m (4,o) (i:Int)=bZ 4 (kS m.2 (x.2.drop i) o)
 | 0,i,o,hk,ho=>by
  obtain rfl:i=x.2.length:=by omega
  rw[R9,aZ,cond_false,List.drop_length];rfl
 | k+1,i,o,hk,ho=>by
  have hi:i<x.2.length:=by omega
  have dm:i<=12:=by have:=hx.1;omega
  obtain⟨c1,c2⟩:=hx.2 _ (List.getElem_mem hi);have h9:=RH (z:=z) hd hi c1 c2 hm hl m.2 [] o rfl ho;rw[List.length_nil,Int.natCast_zero]at h9;rw[R9,aX hi,cond_true,h9,drop_cons hi];unfold kS;cases h1:jU x.2[i] [] m.2 o with
  | none=>rfl
  | some o2 =>
   dsimp only;rw[aO (by omega)];exact RG hd hx hm hl k (i+1) o2 (by omega) (BW c2 m.2 [] o o2 ho h1)
def oE(r:List ab)(c:ab):Option (List ab):=match gq c with
 | none=>none
 | some m=>kS m.2 r []
theorem U7{r2:List ab}(hr:aT r)(h:oE r c=some r2):aT r2:=by
 unfold oE at h;cases hm:gq c with
 | none=>rw[hm]at h;cases h
 | some m=>rw[hm]at h;exact IJ r [] r2 (λx hx=>(hr.2 x hx).2) ej h
theorem Yc(hc:c.1=4)(h:gq c=some m):(∀a∈m.2,bd 4 a)/\m.2.length<=16:=by
 obtain⟨_,m1,m2⟩:=wY h;obtain⟨k1,k2,k3,k4⟩:=cc.1 m1;rw[m2,hc]at k1;exact⟨k1,k4⟩
theorem agw(hr:aT r)(hc:br c=true)(h4:c.1=4):zJ (4,r) c=bZ 4 (oE r c):=by
 obtain⟨k1,k2,k3,k4⟩:=cc.1 hc;have hn:=mA hc;rw[agv,rT k2 (by omega) k1 (by omega)];simp only[Option.bind_some];rw[Tr hn];unfold oE;have hm:gq c=my (bQ c.1 c.2):=by unfold gq;rw[hc];rfl
 rw[hm];cases h1:my (bQ c.1 c.2)with
 | none=>rfl
 | some m =>
  obtain⟨m1,m2⟩:=Yc h4 (hm.trans h1);unfold gK;simp only[Option.bind_some,Bool.not_true,cond_false];have:=RG (x:=(4,r)) (z:=(0,[])) (m:=m) rfl hr m1 m2 r.length 0 [] rfl ej
  rwa [Int.natCast_zero,List.drop_zero]at this
theorem Ri{z:aU}(hd:x.1=4)(hx:c.1=4)(hm:∀a∈m.2,bd 4 a)(hl:m.2.length<=16)(cC:List ab)(dx da:Int):∀(post pre:List aa) (o:List ab),m.2=pre++post->aT o ->
  rf x m z (4,o) c cC dx da m.2 (m.2.length:Int) (pre.length:Int)=match jU c pre post o with
   | none=>bZ 4 none
   | some o=>uw x m z (4,o) cC dx (IntKind.i64.wrap (da+1))
 | [],pre,o,he,ho=>by
  rw[Rg,he,List.append_nil,aZ,cond_false];rfl
 | a::post,pre,o,he,ho=>by
  obtain⟨e1,e2,e3⟩:=TS pre a post;have hp:pre.length<=16:=by rw[he,List.length_append]at hl;omega
  have ha:=hm a (by rw[he];simp);have d1:decide ((0+pre.length)*40<=140737488355328)=true:=decide_eq_true (by omega);have d2:decide ((pre.length+1)*40<=140737488355328)=true:=decide_eq_true (by omega);have step:rf x m z (4,o) c cC dx da m.2 (m.2.length:Int) (pre.length:Int)=(rF c (4,pre++[(dM a).1])).bind λy=>bif !y.1.2.1 then some (((0,[]),false,()),())else (mR (4,o) y.1.1).bind λy=>bif !y.1.1 then some (((0,[]),false,()),())else rf x m z y.2.1 c cC dx da m.2 (m.2.length:Int) (IntKind.i64.wrap ((pre.length:Int)+1)):=by
   rw[Rg,he,e1,cond_true,e2];simp only[Option.bind_some];rw[SK];unfold r7;simp only[Option.bind_some];rw[aml ha,Bool.not_true,cond_false,e3,cond_true,BI,d1,cond_true,d2,cond_true,hd]
  rw[step,FD];unfold jU fS;simp only[Option.bind_some];cases h1:(cR c (4,pre++[(dM a).1])).2 with
  | false=>rfl
  | true =>
   obtain⟨c1,c2⟩:=tg hx h1;simp only[Bool.not_true,cond_false,cond_true];rw[rH ho.1];cases h2:dC o (cR c (4,pre++[(dM a).1])).1 with
   | none=>rfl
   | some r =>
    unfold sk;simp only[Option.bind_some,Bool.not_true,cond_false];rw[aO (by omega)];have:=Ri (z:=z) hd hx hm hl cC dx da post (pre++[a]) r (by rw[he];simp) (gG ho c2 h2);rw[show (pre++[a]).length=pre.length+1 by simp]at this;exact this
theorem Rh{x z:aU}(hd:x.1=4)(hx:aT x.2)(hm:∀a∈m.2,bd 4 a)(hl:m.2.length<=16):∀(k i:Nat) (o:List ab),k+i=x.2.length->aT o->uw x m z (4,o) x.2 (x.2.length:Int) (i:Int)=bZ 4 (kS m.2 (x.2.drop i) o)
 | 0,i,o,hk,ho=>by
  obtain rfl:i=x.2.length:=by omega
  rw[Rf,aZ,cond_false,List.drop_length];rfl
 | k+1,i,o,hk,ho=>by
  have hi:i<x.2.length:=by omega
  have dm:i<=12:=by have:=hx.1;omega
  obtain⟨c1,c2⟩:=hx.2 _ (List.getElem_mem hi);have h6:=Ri (z:=z) hd c2 hm hl x.2 (x.2.length:Int) (i:Int) m.2 [] o rfl ho;rw[List.length_nil,Int.natCast_zero]at h6;rw[Rf,aX hi,cond_true,aG hi,drop_cons hi];simp only[Option.bind_some];rw[h6];unfold kS;cases h1:jU x.2[i] [] m.2 o with
  | none=>rfl
  | some o2 =>
   dsimp only;rw[aO (by omega)];exact Rh hd hx hm hl k (i+1) o2 (by omega) (BW c2 m.2 [] o o2 ho h1)
theorem afA(hr:aT r)(hm:∀a∈m.2,bd 4 a)(hl:m.2.length<=16):zn (4,r) m=bZ 4 (kS m.2 r []):=by
 rw[afz];have:=Rh (x:=(4,r)) (z:=(0,[])) rfl hr hm hl r.length 0 [] rfl ej
 rwa [Int.natCast_zero,List.drop_zero]at this
def np:List ab->List ab->Option (List ab)
 | [],o=>some o
 | c::l,o=>match oE o c with
  | none=>none
  | some o=>np l o
theorem U8:∀(l o r:List ab),aT o->np l o=some r->aT r
 | [],o,r,ho,h=>by
  unfold np at h;cases h;exact ho
 | c::l,o,r,ho,h=>by
  unfold np at h;cases h1:oE o c with
  | none=>rw[h1]at h;cases h
  | some o2=>rw[h1]at h;exact U8 l o2 r (U7 ho h1) h
def nq(a b:List ab):Option (List ab):=match er a []with
 | none=>none
 | some o=>np b o
theorem aiq{a b:List ab}(ha:aT a)(h:nq a b=some r):aT r:=by
 unfold nq at h;cases h1:er a []with
 | none=>rw[h1]at h;cases h
 | some o=>rw[h1]at h;exact U8 b o r (lR a [] o (λc hc=>(ha.2 c hc).2) ej h1) h
theorem Rk{b z:aU}(hb:aT b.2):∀(m i:Nat) (o:List ab),m+i=b.2.length->aT o->yo b z (4,o) (i:Int)=bZ 4 (np (b.2.drop i) o)
 | 0,i,o,hm,ho=>by
  obtain rfl:i=b.2.length:=by omega
  rw[Rl,aZ,cond_false,List.drop_length];rfl
 | m+1,i,o,hm,ho=>by
  have hi:i<b.2.length:=by omega
  have dm:i<=12:=by have:=hb.1;omega
  obtain⟨c1,c2⟩:=hb.2 _ (List.getElem_mem hi);rw[Rl,aX hi,cond_true,aG hi,drop_cons hi];simp only[Option.bind_some];rw[agw ho c1 c2];unfold np;cases h:oE o b.2[i]with
  | none=>rfl
  | some r =>
   unfold bZ;simp only[Option.bind_some,Bool.not_true,cond_false];rw[aO (by omega)];have:=Rk (z:=z) hb m (i+1) r (by omega) (U7 ho h);exact this
theorem afF{a b:List ab}(ha:aT a)(hb:aT b):zp (4,a) (4,b)=bZ 4 (nq a b):=by
 rw[afE,F3 ha];unfold nq;cases h1:er a []with
 | none=>rfl
 | some o =>
  have e1:bZ 4 (some o)=some (((4,o),true,()),()):=rfl;rw[e1];simp only[Option.bind_some,Bool.not_true,cond_false];rw[rO hb];simp only[Option.bind_some,Bool.not_true,cond_false,bne_self_eq_false];have:=Rk (b:=(4,b)) (z:=(0,[])) hb b.length 0 o rfl (lR a [] o (λc hc=>(ha.2 c hc).2) ej h1)
  rwa [Int.natCast_zero,List.drop_zero]at this
theorem Qo{b z:aU}(hb:aT b.2):∀(m i:Nat) (o:List ab),m+i=b.2.length->aT o->yc b z (4,o) b.2 (b.2.length:Int) (i:Int)=bZ 4 (np (b.2.drop i) o)
 | 0,i,o,hm,ho=>by
  obtain rfl:i=b.2.length:=by omega
  rw[Qp,aZ,cond_false,List.drop_length];rfl
 | m+1,i,o,hm,ho=>by
  have hi:i<b.2.length:=by omega
  have dm:i<=12:=by have:=hb.1;omega
  obtain⟨c1,c2⟩:=hb.2 _ (List.getElem_mem hi);rw[Qp,aX hi,cond_true,aG hi,drop_cons hi];simp only[Option.bind_some];rw[SI];unfold np oE;cases h0:gq b.2[i]with
  | none=>rfl
  | some mm =>
   obtain⟨m1,m2⟩:=Yc c2 h0;unfold gK;simp only[Option.bind_some,Bool.not_true,cond_false];rw[afA ho m1 m2];cases h:kS mm.2 o []with
   | none=>rfl
   | some r =>
    unfold bZ;simp only[Option.bind_some,Bool.not_true,cond_false];rw[aO (by omega)];have:=Qo (z:=z) hb m (i+1) r (by omega) (IJ o [] r (λx hx=>(ho.2 x hx).2) ej h);exact this
theorem aek{a b:List ab}(ha:aT a)(hb:aT b):y4 (4,a) (4,b)=bZ 4 (nq a b):=by
 rw[aej,mQ ha];simp only[Option.bind_some,Bool.not_true,cond_false];rw[mQ hb];simp only[Option.bind_some,Bool.not_true,cond_false,bne_self_eq_false];rw[FE ha];unfold nq;cases h1:er a []with
 | none=>rfl
 | some o =>
  have e1:bZ 4 (some o)=some (((4,o),true,()),()):=rfl;rw[e1];simp only[Option.bind_some,Bool.not_true,cond_false];have:=Qo (b:=(4,b)) (z:=(0,[])) hb b.length 0 o rfl (lR a [] o (λc hc=>(ha.2 c hc).2) ej h1)
  rwa [Int.natCast_zero,List.drop_zero]at this
def lS(r:List ab):Option (List ab):=nq [(4,[])] r
theorem Ks:aT [((4,[]):ab)]:=⟨by simp,λc hc=>by
 rw[List.mem_singleton.1 hc];exact⟨cc.2 ⟨by simp,by show (0:Int)<=4;omega,by show (4:Int)<=4;omega,by simp⟩,rfl⟩⟩
theorem FX(h:aT r):uU (4,r)=bZ 4 (lS r):=by
 rw[afD,rO h];simp only[Option.bind_some,Bool.not_true,cond_false];rw[agu];simp only[Option.bind_some];rw[afF Ks h];unfold lS;cases nq [(4,[])] r<;>rfl
theorem Fx(h:aT r):uH (4,r)=bZ 4 (lS r):=by
 rw[aei,mQ h];simp only[Option.bind_some,Bool.not_true,cond_false];rw[afr];simp only[Option.bind_some];rw[aek Ks h];unfold lS;cases nq [(4,[])] r<;>rfl
def gY(v:Nat):List ab->List ab->Option (List ab)
 | [],o=>some o
 | c::l,o=>bif (dI (bQ c.1 c.2) v).2 then (match dC o (dI (bQ c.1 c.2) v).1 with
  | none=>none
  | some o=>gY v l o)else none
theorem Ip(hc:br c=true)(h4:c.1=4)(h:(dI (bQ c.1 c.2) v).2=true):br (dI (bQ c.1 c.2) v).1=true/\(dI (bQ c.1 c.2) v).1.1=4:=by
 have:=Io (mA hc) h;exact⟨this.1,by rw[this.2,gu,h4]⟩
theorem Iq:∀(l o r:List ab),(∀c∈l,br c=true/\c.1=4)->aT o->gY v l o=some r->aT r
 | [],o,r,_,ho,h=>by
  unfold gY at h;cases h;exact ho
 | c::l,o,r,hl,ho,h=>by
  unfold gY at h;have hc:=hl c (List.mem_cons_self ..);cases h1:(dI (bQ c.1 c.2) v).2 with
  | false=>rw[h1]at h;cases h
  | true =>
   rw[h1,cond_true]at h;cases h2:dC o (dI (bQ c.1 c.2) v).1 with
   | none=>rw[h2]at h;cases h
   | some o2=>rw[h2]at h;exact Iq l o2 r (λx hx=>hl x (List.mem_cons_of_mem _ hx)) (gG ho (Ip hc.1 hc.2 h1).2 h2) h
theorem Rm{x z:aU}(hd:x.1=4)(hv:v<4)(hx:aT x.2):∀(m i:Nat) (o:List ab),m+i=x.2.length->aT o->yp (v:Int) x z (4,o) (i:Int)=bZ 4 (gY v (x.2.drop i) o)
 | 0,i,o,hm,ho=>by
  obtain rfl:i=x.2.length:=by omega
  rw[Rn,aZ,cond_false,List.drop_length];rfl
 | m+1,i,o,hm,ho=>by
  have hi:i<x.2.length:=by omega
  have dm:i<=12:=by have:=hx.1;omega
  obtain⟨c1,c2⟩:=hx.2 _ (List.getElem_mem hi);obtain⟨k1,k2,k3,k4⟩:=cc.1 c1;rw[Rn,aX hi,cond_true,aG hi,drop_cons hi];simp only[Option.bind_some];rw[hd,<-c2,rT k2 (by omega) k1 (by omega)];simp only[Option.bind_some];rw[Tq (mA c1) (by rw[gu,c2];exact hv)];unfold gY fS;simp only[Option.bind_some];cases h1:(dI (bQ (x.2[i]).1 (x.2[i]).2) v).2 with
  | false=>rw[c2];rfl
  | true =>
   obtain⟨d1,d2⟩:=Ip c1 c2 h1;have ha:=rU (d:=(x.2[i]).1) (o:=o) d1 ho.1;simp only[Bool.not_true,cond_false,cond_true];cases h2:dC o (dI (bQ (x.2[i]).1 (x.2[i]).2) v).1 with
   | none =>
    rw[h2]at ha;obtain⟨w,hw⟩:=ha;rw[hw,c2];rfl
   | some r =>
    rw[h2]at ha;have ha:gU ((x.2[i]).1,o) (dI (bQ (x.2[i]).1 (x.2[i]).2) v).1=some ((((x.2[i]).1,r),true,()),()):=ha;rw[ha];simp only[Option.bind_some,Bool.not_true,cond_false];rw[aO (by omega),c2];exact Rm hd hv hx m (i+1) r (by omega) (gG ho d2 h2)
theorem Ta{r:List ab}{v:Nat}(hv:v<4)(h:aT r):rL (4,r) (v:Int)=bZ 4 (gY v r []):=by
 rw[S9,rO h];simp only[Option.bind_some,Bool.not_true,cond_false];rw[jf,show IntKind.i64.wrap (4 - 1)=3 from by decide];have e:(decide ((0:Int)<=(v:Int))&&decide ((v:Int)<=3))=true:=by simp;omega
 simp only[Option.bind_some];rw[e];have:=Rm (x:=(4,r)) (z:=(0,[])) rfl hv h r.length 0 [] rfl ej
 rwa [Int.natCast_zero,List.drop_zero]at this
theorem ael(hc:br c=true)(h4:c.1=4)(hv:v<4):Fy c (some (v:Int))=fS (dI (bQ c.1 c.2) v):=by
 obtain⟨k1,k2,k3,k4⟩:=cc.1 hc;rw[aem,SM,mP,hc];simp only[Option.bind_some,Bool.not_true,cond_false];rw[zl k2 (by omega) k1 (by omega)];simp only[Option.bind_some,Bool.not_true,cond_false];rw[SD (mA hc) (by rw[gu,h4];exact hv)];rfl
theorem Q2{x z:aU}(hv:v<4)(hx:aT x.2):∀(m i:Nat) (o:List ab),m+i=x.2.length->aT o->ym (some (some (v:Int),())) x z (4,o) x.2 (x.2.length:Int) (i:Int)=bZ 4 (gY v (x.2.drop i) o)
 | 0,i,o,hm,ho=>by
  obtain rfl:i=x.2.length:=by omega
  rw[QZ,aZ,cond_false,List.drop_length];rfl
 | m+1,i,o,hm,ho=>by
  have hi:i<x.2.length:=by omega
  have dm:i<=12:=by have:=hx.1;omega
  obtain⟨c1,c2⟩:=hx.2 _ (List.getElem_mem hi);rw[QZ,aX hi,cond_true,aG hi,drop_cons hi];simp only[Option.bind_some];rw[ael c1 c2 hv];unfold gY fS;simp only[Option.bind_some];cases h1:(dI (bQ (x.2[i]).1 (x.2[i]).2) v).2 with
  | false=>rfl
  | true =>
   obtain⟨d1,d2⟩:=Ip c1 c2 h1;simp only[Bool.not_true,cond_false,cond_true];rw[rH ho.1];cases h2:dC o (dI (bQ (x.2[i]).1 (x.2[i]).2) v).1 with
   | none=>rfl
   | some r =>
    unfold sk;simp only[Option.bind_some,Bool.not_true,cond_false];rw[aO (by omega)];exact Q2 hv hx m (i+1) r (by omega) (gG ho d2 h2)
theorem SC{r:List ab}{v:Nat}(hv:v<4)(h:aT r):y5 (4,r) (v:Int)=bZ 4 (gY v r []):=by
 rw[aen,mQ h];simp only[Option.bind_some,Bool.not_true,cond_false];have e1:decide ((v:Int)<0)=false:=decide_eq_false (by omega);have e2:decide ((v:Int)>=4)=false:=decide_eq_false (by omega);rw[e1,e2,afl];have:=Q2 (x:=(4,r)) (z:=(0,[])) hv h r.length 0 [] rfl ej;rw[Int.natCast_zero,List.drop_zero]at this;refine Eq.trans (congrArg (λe=>Option.bind e _) this) ?_;cases gY v r []<;>rfl
def qE(lab:ByteArray)(r:Rw):Bool:=emp lab||r.1.toList==lab.toList
def ek(lab:ByteArray)(l:List Rw):List ab:=(l.filter (qE lab)).map (·.2)
theorem Zg(lab:ByteArray)(r:Rw)(A B:R):(bif lab.toList==(ByteArray.mk #[]).toList then A else bif ByteArray.toList r.1==lab.toList then A else B)=bif qE lab r then A else B:=by
 unfold qE emp;cases (lab.toList==(ByteArray.mk #[]).toList)<;>rfl
theorem Zf(lab:ByteArray)(r:Rw)(l:List Rw):ek lab (r::l)=bif qE lab r then r.2::ek lab l else ek lab l:=by
 unfold ek;rw[List.filter_cons];cases qE lab r<;>rfl
theorem KH{r:Rel}(h:iW r=true):r.2.2.length<=8/\∀x∈r.2.2,br x.2=true:=by
 unfold iW at h;simp only[Bool.and_eq_true,decide_eq_true_eq,List.all_eq_true]at h;refine⟨by omega,λx hx=>?_⟩;have:=h.2.2.2 x hx;unfold tu at this;simp only[Bool.and_eq_true]at this;exact this.2.1
theorem D5{lab:ByteArray}{r:Rel}{z:aU}{d:Int}(hr:iW r=true):∀(m i:Nat) (o:List ab),m+i=r.2.2.length->o.length<=i->rh lab r z (d,o) (i:Int)=some (((d,o++ek lab (r.2.2.drop i)),true,()),())
 | 0,i,o,hm,ho=>by
  obtain rfl:i=r.2.2.length:=by omega
  rw[Rj,aZ,cond_false,List.drop_length];simp[ek]
 | m+1,i,o,hm,ho=>by
  have hi:i<r.2.2.length:=by omega
  obtain⟨h1,h2⟩:=KH hr;have hd:decide ((o.length+1)*32<=140737488355328)=true:=decide_eq_true (by omega);rw[Rj,aX hi,cond_true,aG hi,drop_cons hi,Zf];simp only[Option.bind_some];rw[Zg,(BG (h2 _ (List.getElem_mem hi))).1];simp only[Option.bind_some];rw[hd,cond_true,aO (by omega)];cases qE lab r.2.2[i]with
  | true =>
   simp only[cond_true];rw[D5 hr m (i+1) _ (by omega) (by simp;omega),List.append_assoc];rfl
  | false =>
   simp only[cond_false];rw[D5 hr m (i+1) o (by omega) (by omega)]
theorem afC{r:Rel}(hr:iW r=true)(hg:gL r)(lab:ByteArray):zo r lab=some (((r.2.1,ek lab r.2.2),true,()),()):=by
 rw[afB,Tg r hg,hr];simp only[Option.bind_some,Bool.not_true,cond_false];have:=D5 (lab:=lab) (z:=(0,[])) (d:=r.2.1) hr r.2.2.length 0 [] rfl (by simp)
 rwa [Int.natCast_zero,List.drop_zero,List.nil_append]at this
theorem D1{lab:ByteArray}{r:Rel}{z:aU}{d:Int}(hr:iW r=true):∀(m i:Nat) (o:List ab),m+i=r.2.2.length->o.length<=i->q8 lab r z (d,o) r.2.2 (r.2.2.length:Int) (i:Int)=some (((d,o++ek lab (r.2.2.drop i)),true,()),())
 | 0,i,o,hm,ho=>by
  obtain rfl:i=r.2.2.length:=by omega
  rw[Qn,aZ,cond_false,List.drop_length];simp[ek]
 | m+1,i,o,hm,ho=>by
  have hi:i<r.2.2.length:=by omega
  obtain⟨h1,h2⟩:=KH hr;have hd:decide ((o.length+1)*32<=140737488355328)=true:=decide_eq_true (by omega);rw[Qn,aX hi,cond_true,aG hi,drop_cons hi,Zf];simp only[Option.bind_some];rw[Zg,(BG (h2 _ (List.getElem_mem hi))).2];simp only[Option.bind_some];rw[hd,cond_true,aO (by omega)];cases qE lab r.2.2[i]with
  | true =>
   simp only[cond_true];rw[D1 hr m (i+1) _ (by omega) (by simp;omega),List.append_assoc];rfl
  | false =>
   simp only[cond_false];rw[D1 hr m (i+1) o (by omega) (by omega)]
theorem aef{r:Rel}(hr:iW r=true)(lab:ByteArray):yZ r lab=some (((r.2.1,ek lab r.2.2),true,()),()):=by
 rw[aee,SH r,hr];simp only[Option.bind_some,Bool.not_true,cond_false];have:=D1 (lab:=lab) (z:=(0,[])) (d:=r.2.1) hr r.2.2.length 0 [] rfl (by simp)
 rwa [Int.natCast_zero,List.drop_zero,List.nil_append]at this
theorem ano(lab:ByteArray)(l:List Rw):(ek lab l).length<=l.length:=by
 unfold ek;rw[List.length_map];exact List.length_filter_le ..
theorem anp{lab:ByteArray}{l:List Rw}(h:∀x∈l,br x.2=true):∀c∈ek lab l,br c=true:=λc hc=>by
 unfold ek at hc;obtain⟨x,hx,rfl⟩:=List.mem_map.1 hc;exact h x (List.mem_filter.1 hx).1
def mH(vars:List Int):List ab->List ab->Option (List ab)
 | [],o=>some o
 | c::l,o=>match mC c vars with
  | none=>none
  | some x=>match dC o x with
   | none=>none
   | some o=>mH vars l o
theorem Y8{vars:List Int}:∀(l o r:List ab),aT o->mH vars l o=some r->aT r
 | [],o,r,ho,h=>by
  unfold mH at h;cases h;exact ho
 | c::l,o,r,ho,h=>by
  unfold mH at h;cases h1:mC c vars with
  | none=>rw[h1]at h;cases h
  | some x =>
   rw[h1]at h;dsimp only at h;cases h2:dC o x with
   | none=>rw[h2]at h;cases h
   | some o2=>rw[h2]at h;exact Y8 l o2 r (gG ho (KB h1).2 h2) h
theorem RS{n:al}{z:aU}{x:aU}(hx:∀c∈x.2,br c=true)(hl:x.2.length<=1000):∀(m i:Nat) (o:List ab),m+i=x.2.length->aT o->yH n z (4,o) x (i:Int)=bZ 4 (mH n.2.2.2.2.1 (x.2.drop i) o)
 | 0,i,o,hm,ho=>by
  obtain rfl:i=x.2.length:=by omega
  rw[Sd,aZ,cond_false,List.drop_length];rfl
 | m+1,i,o,hm,ho=>by
  have hi:i<x.2.length:=by omega
  have hc:=hx _ (List.getElem_mem hi);have l1:=(cc.1 hc).2.2.2;rw[Sd,aX hi,cond_true,aG hi,drop_cons hi];simp only[Option.bind_some];rw[af5 _ _ (by omega)];unfold mH;cases h1:mC x.2[i] n.2.2.2.2.1 with
  | none=>rfl
  | some y =>
   obtain⟨y1,y2⟩:=KB h1;have ha:=rU (d:=4) (o:=o) y1 ho.1;unfold gK;simp only[Option.bind_some,Bool.not_true,cond_false];cases h2:dC o y with
   | none =>
    rw[h2]at ha;obtain⟨w,hw⟩:=ha;rw[hw];rfl
   | some r =>
    rw[h2]at ha;have ha:gU (4,o) y=some (((4,r),true,()),()):=ha;rw[ha];simp only[Option.bind_some,Bool.not_true,cond_false];rw[aO (by omega)];exact RS hx hl m (i+1) r (by omega) (gG ho y2 h2)
theorem Q4{n:al}{z:aU}{x:aU}(hl:x.2.length<=1000):∀(m i:Nat) (o:List ab),m+i=x.2.length->aT o->ur (some (some n,())) x z (4,o) x.2 (x.2.length:Int) (i:Int)=bZ 4 (mH n.2.2.2.2.1 (x.2.drop i) o)
 | 0,i,o,hm,ho=>by
  obtain rfl:i=x.2.length:=by omega
  rw[Q1,aZ,cond_false,List.drop_length];rfl
 | m+1,i,o,hm,ho=>by
  have hi:i<x.2.length:=by omega
  rw[Q1,aX hi,cond_true,aG hi,drop_cons hi];simp only[Option.bind_some];rw[afw];simp only[Option.bind_some];rw[aeR];unfold mH;cases h1:mC x.2[i] n.2.2.2.2.1 with
  | none=>rfl
  | some y =>
   obtain⟨y1,y2⟩:=KB h1;unfold gK;simp only[Option.bind_some,Bool.not_true,cond_false];rw[rH ho.1];cases h2:dC o y with
   | none=>rfl
   | some r =>
    unfold sk;simp only[Option.bind_some,Bool.not_true,cond_false];rw[aO (by omega)];exact Q4 hl m (i+1) r (by omega) (gG ho y2 h2)
def kc(K:List (List ab))(a:Int):List ab:=K.getD a.toNat []
def G4(K:List (List ab)):List aU:=K.map λl=>((4:Int),l)
theorem oh{a:Int}(h0:0<=a)(h1:a<K.length):ae (G4 K) a=some (4,kc K a):=by
 have ax:a.toNat<(G4 K).length:=by unfold G4;rw[List.length_map];omega
 have ajv:a.toNat<K.length:=by omega
 have:=aG (xs:=G4 K) (i:=a.toNat) ax;rw[show ((a.toNat:Nat):Int)=a by omega]at this;rw[this];unfold kc;rw[List.getD_eq_getElem?_getD,List.getElem?_eq_getElem ajv];have e:(G4 K)[a.toNat]=((4:Int),K[a.toNat]):=by simp[G4]
 exact congrArg some e
theorem CA(hK:∀l∈K,aT l)(a:Int):aT (kc K a):=by
 unfold kc;rw[List.getD_eq_getElem?_getD];cases hg:K[a.toNat]? with
 | none=>exact ej
 | some l=>exact hK l (List.mem_of_getElem? hg)
def n4(db:List Rel)(n:al)(K:List (List ab)):Option (List ab):=
 bif n.1==0 then dC [] (4,[n.2.1])
 else bif n.1==1 then (match ae db (dj (named n.2.2.1) db)with
  | some r=>mH n.2.2.2.2.1 (ek n.2.2.2.1 r.2.2) []
  | none=>none)
 else bif n.1==2 then lS (kc K n.2.2.2.2.2.2.1)
 else bif n.1==3 then kT (kc K n.2.2.2.2.2.2.2) (kc K n.2.2.2.2.2.2.1) []
 else bif n.1==4 then pP (kc K n.2.2.2.2.2.2.1) (kc K n.2.2.2.2.2.2.2)
 else bif n.1==5 then gY n.2.2.2.2.2.1.toNat (kc K n.2.2.2.2.2.2.1) []
 else match lS (kc K n.2.2.2.2.2.2.1)with
  | none=>none
  | some o=>match gY n.2.2.2.2.2.1.toNat o []with
   | none=>none
   | some o=>lS o
theorem IG{a:List ab}(h:lS a=some r):aT r:=aiq Ks h
theorem alY{db:List Rel}{n:al}(h:dS db n=true)(h0:n.1=0):br (4,[n.2.1])=true/\n.2.1.1.length=4:=by
 unfold dS iR at h;simp only[Bool.and_eq_true]at h;have h5:=h.2.2.2.2;rw[h0]at h5;simp only[beq_self_eq_true,cond_true,Bool.and_eq_true,beq_iff_eq]at h5;have hl:n.2.1.1.length=4:=by omega
 exact⟨cc.2 ⟨λa ha=>by rw[List.mem_singleton.1 ha];exact⟨h5.1,hl⟩,by show (0:Int)<=4;omega,by show (4:Int)<=4;omega,by simp⟩,hl⟩
theorem alX{db:List Rel}{n:al}(h:dS db n=true)(h1:n.1=1):∃r,ae db (dj (named n.2.2.1) db)=some r:=by
 unfold dS iR at h;simp only[Bool.and_eq_true]at h;have h5:=h.2.2.2.2;rw[h1]at h5;simp only[show ((1:Int)==0)=false from rfl,beq_self_eq_true,cond_true,cond_false]at h5;unfold o3 at h5;cases hg:ae db (dj (named n.2.2.1) db)with
 | some r=>exact⟨r,rfl⟩
 | none=>rw[hg]at h5;simp at h5
theorem XO{db:List Rel}{n:al}(h:dS db n=true)(h1:n.1=5\/n.1=6):0<=n.2.2.2.2.2.1/\n.2.2.2.2.2.1<=3:=by
 unfold dS iR at h;simp only[Bool.and_eq_true]at h;have h5:=h.2.2.2.2;rcases h1 with h1|h1
 ·rw[h1]at h5;simp only[show ((5:Int)==0)=false from rfl,show ((5:Int)==1)=false from rfl,cond_false,Bool.and_eq_true]at h5;unfold c8 at h5;simpa using h5.2
 ·rw[h1]at h5;simp only[show ((6:Int)==0)=false from rfl,show ((6:Int)==1)=false from rfl,cond_false,Bool.and_eq_true]at h5;unfold c8 at h5;simpa using h5.2
theorem alZ{db:List Rel}{n:al}(h:dS db n=true):n.1=0\/n.1=1\/n.1=2\/n.1=3\/n.1=4\/n.1=5\/n.1=6:=by
 rw[Kt]at h;simp only[Bool.and_eq_true,decide_eq_true_eq]at h;omega
theorem Zr{db:List Rel}{n:al}(hK:∀l∈K,aT l)(h:n4 db n K=some r):aT r:=by
 have ka:=CA hK n.2.2.2.2.2.2.1;have kb:=CA hK n.2.2.2.2.2.2.2;unfold n4 at h;cases h0:n.1==0 with
 | true=>rw[h0,cond_true]at h;exact gG ej rfl h
 | false =>
  rw[h0,cond_false]at h;cases h1:n.1==1 with
  | true =>
   rw[h1,cond_true]at h;cases hg:ae db (dj (named n.2.2.1) db)with
   | none=>rw[hg]at h;cases h
   | some rl=>rw[hg]at h;exact Y8 _ _ _ ej h
  | false =>
   rw[h1,cond_false]at h;cases h2:n.1==2 with
   | true=>rw[h2,cond_true]at h;exact IG h
   | false =>
    rw[h2,cond_false]at h;cases h3:n.1==3 with
    | true=>rw[h3,cond_true]at h;exact Vh _ _ _ (λc hc=>(ka.2 c hc).2) ej h
    | false =>
     rw[h3,cond_false]at h;cases h4:n.1==4 with
     | true=>rw[h4,cond_true]at h;exact aiw ka kb h
     | false =>
      rw[h4,cond_false]at h;cases h5:n.1==5 with
      | true=>rw[h5,cond_true]at h;exact Iq _ _ _ ka.2 ej h
      | false =>
       rw[h5,cond_false]at h;cases h6:lS (kc K n.2.2.2.2.2.2.1)with
       | none=>rw[h6]at h;cases h
       | some o =>
        rw[h6]at h;dsimp only at h;cases h7:gY n.2.2.2.2.2.1.toNat o []with
        | none=>rw[h7]at h;cases h
        | some o2=>rw[h7]at h;exact IG h
def Fw(K:List (List ab))(r:Option (List ab))(e:Option ((aU×Bool×PUnit)×List aU×PUnit)):Prop:=match r with
 | some l=>e=some (((4,l),true,()),G4 K,())
 | none=>∃z,e=some ((z,false,()),G4 K,())
theorem kN(K:List (List ab))(r:Option (List ab)):Fw K r ((bZ 4 r).bind λy=>some ((y.1.1,y.1.2.1,()),G4 K,())):=by
 cases r with
 | none=>exact⟨(0,[]),rfl⟩
 | some l=>rfl
theorem ait{x:List α}{i:Int}{y:α}(h:ae x i=some y):y∈x:=by
 by_cases h0:0<=i
 ·by_cases ax:i.toNat<x.length
  ·have:=aG (xs:=x) ax;rw[show ((i.toNat:Nat):Int)=i by omega,h]at this;injection this with this;rw[this];exact List.getElem_mem ax
  ·exfalso;have:ae x i=none:=by
    unfold ae
    first
    | rw[if_neg (by omega)]
    | (simp;omega)
   rw[h]at this;cases this
 ·exfalso;rw[aiu x (by omega)]at h;cases h
theorem TH{p:Nat->Bool}:∀{n i:Nat},oo p n i=true->∀j,i<=j->j<i+n->p j=true
 | 0,i,_,j,h1,h2=>by omega
 | n+1,i,h,j,h1,h2=>by
  simp only[oo,Bool.and_eq_true]at h;by_cases e:j=i
  ·subst e;exact h.1
  ·exact TH h.2 j (by omega) (by omega)
theorem ahY{db:List Rel}(h:iC db=true){r:Rel}(hr:r∈db):iW r=true:=by
 obtain⟨i,hi,rfl⟩:=List.getElem_of_mem hr;unfold iC at h;rw[Bool.and_eq_true]at h;have:=TH h.1 i (by omega) (by omega);unfold oy at this;rw[List.getElem?_eq_getElem hi]at this;simp only[Bool.and_eq_true]at this;exact this.1
theorem Zx{db:List Rel}{n:al}(sG:iC db=true)(hd:zL zQ db<=68719476736)(hN:dS db n=true)(hK:∀l∈K,aT l)
  (hA:1<=ar n.1->0<=n.2.2.2.2.2.2.1/\n.2.2.2.2.2.2.1<K.length) (hB:ar n.1=2->0<=n.2.2.2.2.2.2.2/\n.2.2.2.2.2.2.2<K.length) :
  Fw K (n4 db n K) (zM db n (G4 K))/\Fw K (n4 db n K) (zk db n (G4 K)):=by
 have ka:=CA hK n.2.2.2.2.2.2.1;have kb:=CA hK n.2.2.2.2.2.2.2;rw[agD,afo];unfold n4;rcases alZ hN with h|h|h|h|h|h|h
 ·obtain⟨hc,hl⟩:=alY hN h;rw[h];simp only[beq_self_eq_true,cond_true];rw[FJ _ (by omega)];simp only[Option.bind_some];rw[rH (by simp)];have ha:=rU (d:=4) (o:=[]) hc (by simp);cases hb:dC [] (4,[n.2.1])with
  | none =>
   rw[hb]at ha;obtain⟨w,hw⟩:=ha;rw[hw];exact⟨⟨w,rfl⟩,⟨(4,[]),rfl⟩⟩
  | some r =>
   rw[hb]at ha;have ha:gU (4,[]) (4,[n.2.1])=some (((4,r),true,()),()):=ha;rw[ha];exact⟨rfl,rfl⟩
 ·obtain⟨rl,hr⟩:=alX hN h;have p8:=ait hr;have nA:=(vF hd).2 rl p8;have Jl:=ahY sG p8;obtain⟨r1,r2⟩:=KH Jl;have bb:=ano n.2.2.2.1 rl.2.2;rw[h];simp only[show ((1:Int)==0)=false from rfl,beq_self_eq_true,cond_true,cond_false];rw[agC,FZ db _ (vF hd).1,afx,FA db _ (vF hd).1];simp only[Option.bind_some];rw[hr];simp only[Option.bind_some];rw[afC Jl nA,aef Jl];simp only[Option.bind_some,Bool.not_true,cond_false];rw[afn];have hs:=RS (n:=n) (z:=(0,[])) (x:=(rl.2.1,ek n.2.2.2.1 rl.2.2)) (anp r2) (by show (ek n.2.2.2.1 rl.2.2).length<=1000;omega) (ek n.2.2.2.1 rl.2.2).length 0 [] rfl ej;have hi:=Q4 (n:=n) (z:=(0,[])) (x:=(4,ek n.2.2.2.1 rl.2.2)) (by show (ek n.2.2.2.1 rl.2.2).length<=1000;omega) (ek n.2.2.2.1 rl.2.2).length 0 [] rfl ej;rw[Int.natCast_zero,List.drop_zero]at hs hi;rw[hs];refine⟨kN K _,?_⟩;have dm:ur (some (some n,())) (4,ek n.2.2.2.1 rl.2.2) (0,[]) (4,[]) (ek n.2.2.2.1 rl.2.2) ((ek n.2.2.2.1 rl.2.2).length:Int) 0=_:=hi;rw[dm];cases mH n.2.2.2.2.1 (ek n.2.2.2.1 rl.2.2) []with
  | none=>exact⟨(0,[]),rfl⟩
  | some l=>rfl
 ·obtain⟨a1,a2⟩:=hA (by rw[h];decide);rw[h];simp only[show ((2:Int)==0)=false from rfl,show ((2:Int)==1)=false from rfl,beq_self_eq_true,cond_true,cond_false];rw[oh a1 a2];simp only[Option.bind_some];rw[FX ka,Fx ka];exact⟨kN K _,kN K _⟩
 ·obtain⟨a1,a2⟩:=hA (by rw[h];decide);obtain⟨b1,b2⟩:=hB (by rw[h];decide);rw[h];simp only[show ((3:Int)==0)=false from rfl,show ((3:Int)==1)=false from rfl,show ((3:Int)==2)=false from rfl,beq_self_eq_true,cond_true,cond_false];rw[oh a1 a2,oh b1 b2];simp only[Option.bind_some];rw[afZ ka kb,aeJ ka kb];exact⟨kN K _,kN K _⟩
 ·obtain⟨a1,a2⟩:=hA (by rw[h];decide);obtain⟨b1,b2⟩:=hB (by rw[h];decide);rw[h];simp only[show ((4:Int)==0)=false from rfl,show ((4:Int)==1)=false from rfl,show ((4:Int)==2)=false from rfl,show ((4:Int)==3)=false from rfl,beq_self_eq_true,cond_true,cond_false];rw[oh a1 a2,oh b1 b2];simp only[Option.bind_some];rw[af9 ka kb,aeV ka kb];exact⟨kN K _,kN K _⟩
 ·obtain⟨a1,a2⟩:=hA (by rw[h];decide);obtain⟨v1,v2⟩:=XO hN (.inl h);have hv:n.2.2.2.2.2.1=((n.2.2.2.2.2.1.toNat:Nat):Int):=by omega
  have hs:=Ta (r:=kc K n.2.2.2.2.2.2.1) (v:=n.2.2.2.2.2.1.toNat) (by omega) ka;have hi:=SC (r:=kc K n.2.2.2.2.2.2.1) (v:=n.2.2.2.2.2.1.toNat) (by omega) ka;rw[<-hv]at hs hi;rw[h];simp only[show ((5:Int)==0)=false from rfl,show ((5:Int)==1)=false from rfl,show ((5:Int)==2)=false from rfl,show ((5:Int)==3)=false from rfl,show ((5:Int)==4)=false from rfl,beq_self_eq_true,cond_true,cond_false];rw[oh a1 a2];simp only[Option.bind_some];rw[hs,hi];exact⟨kN K _,kN K _⟩
 ·obtain⟨a1,a2⟩:=hA (by rw[h];decide);obtain⟨v1,v2⟩:=XO hN (.inr h);have hv:n.2.2.2.2.2.1=((n.2.2.2.2.2.1.toNat:Nat):Int):=by omega
  rw[h];simp only[show ((6:Int)==0)=false from rfl,show ((6:Int)==1)=false from rfl,show ((6:Int)==2)=false from rfl,show ((6:Int)==3)=false from rfl,show ((6:Int)==4)=false from rfl,show ((6:Int)==5)=false from rfl,cond_false];rw[oh a1 a2];simp only[Option.bind_some];rw[FX ka,Fx ka];cases hc:lS (kc K n.2.2.2.2.2.2.1)with
  | none =>
   have e0:bZ 4 none=some (((0,[]),false,()),()):=rfl;rw[e0];simp only[Option.bind_some,Bool.not_false,cond_true];refine⟨?_,⟨(0,[]),rfl⟩⟩;have hz:rL (0,[]) n.2.2.2.2.2.1=some (((0,[]),false,()),()):=by
    rw[S9,Tf,D6];simp only[jf,Option.bind_some];have e1:(decide ((0:Int)<=n.2.2.2.2.2.1)&&decide (n.2.2.2.2.2.1<=IntKind.i64.wrap (0 - 1)))=false:=by
     rw[show IntKind.i64.wrap (0 - 1) = -1 from by decide];simp;omega
    rw[e1];rfl
   rw[hz];exact⟨(0,[]),rfl⟩
  | some o =>
   have ho:=IG hc;have e0:bZ 4 (some o)=some (((4,o),true,()),()):=rfl;have hs:=Ta (r:=o) (v:=n.2.2.2.2.2.1.toNat) (by omega) ho;have hi:=SC (r:=o) (v:=n.2.2.2.2.2.1.toNat) (by omega) ho;rw[<-hv]at hs hi;rw[e0];simp only[Option.bind_some,Bool.not_true,cond_false];rw[hs,hi];cases sH:gY n.2.2.2.2.2.1.toNat o []with
   | none=>exact⟨⟨(0,[]),rfl⟩,⟨(0,[]),rfl⟩⟩
   | some o2 =>
    have kg:=Iq o [] o2 ho.2 ej sH;have e2:bZ 4 (some o2)=some (((4,o2),true,()),()):=rfl;rw[e2];simp only[Option.bind_some,Bool.not_true,cond_false];rw[FX kg,Fx kg];exact⟨kN K _,kN K _⟩
theorem aof{n:al}{i:Int}{T T':List Int}(h:eA n i T=some T')(hi:0<=i)(hT:∀t∈T,0<=t/\t<i):
  (∀t∈T',0<=t/\t<i+1)/\(1<=ar n.1->0<=n.2.2.2.2.2.2.1/\n.2.2.2.2.2.2.1<i)/\(ar n.1=2->0<=n.2.2.2.2.2.2.2/\n.2.2.2.2.2.2.2<i):=by
 unfold eA at h;have up:∀(U:List Int),(∀t∈U,0<=t/\t<i)->∀t∈i::U,0<=t/\t<i+1:=λU hU t ht=>by
  rcases List.mem_cons.1 ht with rfl|ht
  ·omega
  ·have:=hU t ht;omega
 rcases TK n.1 with e|e|e
 ·rw[e]at h;cases h;exact⟨up T hT,by omega,by omega⟩
 ·rw[e]at h;cases T with
  | nil=>cases h
  | cons r T =>
   cases hr:r==n.2.2.2.2.2.2.1 with
   | false=>simp only[hr,cond_false]at h;cases h
   | true =>
    simp only[hr,cond_true]at h;cases h;have hr:=beq_iff_eq.1 hr;have h1:=hT r (List.mem_cons_self ..);exact⟨up T λt ht=>hT t (List.mem_cons_of_mem _ ht),λ_=>hr▸h1,by omega⟩
 ·rw[e]at h;cases T with
  | nil=>cases h
  | cons r T =>
   cases T with
   | nil=>cases h
   | cons s T =>
    cases hr:r==n.2.2.2.2.2.2.2 with
    | false=>simp only[hr,cond_false]at h;cases h
    | true =>
     simp only[hr,cond_true]at h;cases hs:s==n.2.2.2.2.2.2.1 with
     | false=>simp only[hs,cond_false]at h;cases h
     | true =>
      simp only[hs,cond_true]at h;cases h;have hr:=beq_iff_eq.1 hr;have hs:=beq_iff_eq.1 hs;have h1:=hT r (List.mem_cons_self ..);have h2:=hT s (List.mem_cons_of_mem _ (List.mem_cons_self ..));exact⟨up T λt ht=>hT t (List.mem_cons_of_mem _ (List.mem_cons_of_mem _ ht)),λ_=>hs▸h2,λ_=>hr▸h1⟩
theorem UY(db:List Rel):∀(l:List al) (i:Int) (T:List Int),jT db l i T=true->0<=i->(∀t∈T,0<=t/\t<i)->∀(j:Nat) (hj:j<l.length),
  dS db l[j]=true/\(1<=ar (l[j]).1->0<=(l[j]).2.2.2.2.2.2.1/\(l[j]).2.2.2.2.2.2.1<i+j)/\(ar (l[j]).1=2->0<=(l[j]).2.2.2.2.2.2.2/\(l[j]).2.2.2.2.2.2.2<i+j)
 | [],_,_,_,_,_,j,hj=>by simp at hj
 | n::l,i,T,h,hi,hT,j,hj=>by
  unfold jT at h;cases h1:dS db n with
  | false=>rw[h1]at h;cases h
  | true =>
   rw[h1,cond_true]at h;cases h2:eA n i T with
   | none=>rw[h2]at h;cases h
   | some T' =>
    rw[h2]at h;dsimp only at h;obtain⟨k1,k2,k3⟩:=aof h2 hi hT;cases j with
    | zero =>
     refine⟨h1,λh=>?_,λh=>?_⟩
     ·have:=k2 h;simp only[List.getElem_cons_zero];omega
     ·have:=k3 h;simp only[List.getElem_cons_zero];omega
    | succ j =>
     have:=UY db l (i+1) T' h (by omega) k1 j (by simpa using hj);simp only[List.getElem_cons_succ];refine⟨this.1,λh=>?_,λh=>?_⟩
     ·have:=this.2.1 h;omega
     ·have:=this.2.2 h;omega
def jh(db:List Rel):List al->List (List ab)->Option (List (List ab))
 | [],K=>some K
 | n::l,K=>match n4 db n K with
  | none=>none
  | some r=>jh db l (K++[r])
theorem Pj(K:List (List ab))(r:List ab):G4 K++[(4,r)]=G4 (K++[r]):=by unfold G4;simp
theorem DM(K:List (List ab)):(G4 K).length=K.length:=by unfold G4;simp
theorem Pm(hK:∀l∈K,aT l)(hr:aT r):∀l∈K++[r],aT l:=λl hl=>by
 rcases List.mem_append.1 hl with h|h
 ·exact hK l h
 ·rw[List.mem_singleton.1 h];exact hr
def tr:Option (List (List ab))->Option ((List aU×Bool×PUnit)×PUnit)
 | some R=>some ((G4 R,true,()),())
 | none=>some (([],false,()),())
section
variable{db:List Rel}{f:List al}(sG:iC db=true)(hd:zL zQ db<=68719476736)(hf:f.length<=12)(oN:∀(j:Nat) (hj:j<f.length),dS db f[j]=true/\(1<=ar (f[j]).1->0<=(f[j]).2.2.2.2.2.2.1/\(f[j]).2.2.2.2.2.2.1<(j:Int))/\(ar (f[j]).1=2->0<=(f[j]).2.2.2.2.2.2.2/\(f[j]).2.2.2.2.2.2.2<(j:Int)))
include sG hd hf oN
theorem Sh:∀(m i:Nat) (K:List (List ab)),m+i=f.length->K.length=i->(∀l∈K,aT l)->uF db f (G4 K) (i:Int)=tr (jh db (f.drop i) K)
 | 0,i,K,hm,hl,hK=>by
  obtain rfl:i=f.length:=by omega
  rw[Sc,aZ,cond_false,List.drop_length];rfl
 | m+1,i,K,hm,hl,hK=>by
  have hi:i<f.length:=by omega
  obtain⟨f1,f3,f4⟩:=oN i hi;have ij:=(Zx sG hd f1 hK (by rw[hl];exact f3) (by rw[hl];exact f4)).1;rw[Sc,aX hi,cond_true,aG hi,drop_cons hi];simp only[Option.bind_some];unfold jh;cases hr:n4 db f[i] K with
  | none =>
   rw[hr]at ij;obtain⟨z,hz⟩:=ij;rw[hz];rfl
  | some r =>
   rw[hr]at ij;have ij:zM db f[i] (G4 K)=some (((4,r),true,()),G4 K,()):=ij;rw[ij];simp only[Option.bind_some,Bool.not_true,cond_false];have kU:decide (((G4 K).length+1)*32<=140737488355328)=true:=decide_eq_true (by rw[DM];omega);rw[kU,cond_true,aO (by omega),Pj];exact Sh m (i+1) (K++[r]) (by omega) (by simp[hl]) (Pm hK (Zr hK hr))
theorem Re:∀(m i:Nat) (K:List (List ab)),m+i=f.length->K.length=i->(∀l∈K,aT l)->uv db f (G4 K) f (f.length:Int) (i:Int)=tr (jh db (f.drop i) K)
 | 0,i,K,hm,hl,hK=>by
  obtain rfl:i=f.length:=by omega
  rw[Rc,aZ,cond_false,List.drop_length];rfl
 | m+1,i,K,hm,hl,hK=>by
  have hi:i<f.length:=by omega
  obtain⟨f1,f3,f4⟩:=oN i hi;have ij:=(Zx sG hd f1 hK (by rw[hl];exact f3) (by rw[hl];exact f4)).2;rw[Rc,aX hi,cond_true,aG hi,drop_cons hi];simp only[Option.bind_some];unfold jh;cases hr:n4 db f[i] K with
  | none =>
   rw[hr]at ij;obtain⟨z,hz⟩:=ij;rw[hz];rfl
  | some r =>
   rw[hr]at ij;have ij:zk db f[i] (G4 K)=some (((4,r),true,()),G4 K,()):=ij;rw[ij];simp only[Option.bind_some,Bool.not_true,cond_false];have kU:decide (((G4 K).length+1)*32<=140737488355328)=true:=decide_eq_true (by rw[DM];omega);rw[kU,cond_true,aO (by omega),Pj];exact Re m (i+1) (K++[r]) (by omega) (by simp[hl]) (Pm hK (Zr hK hr))
omit sG hd hf oN in
theorem Hw:∀(l:List al) (K R:List (List ab)),jh db l K=some R->R.length=K.length+l.length
 | [],K,R,h=>by
  unfold jh at h;cases h;rfl
 | n::l,K,R,h=>by
  unfold jh at h;cases hr:n4 db n K with
  | none=>rw[hr]at h;cases h
  | some r =>
   rw[hr]at h;have:=Hw l _ R h;rw[this,List.length_append,List.length_singleton,List.length_cons];omega
end
def XP(K:List (List ab)):List ab:=kc K ((K.length:Int) - 1)
def pK(db:List Rel)(f:List al):Option (List ab):=bif fV db f then (jh db f []).map XP else none
theorem UP{db:List Rel}{f:List al}(h:fV db f=true):iC db=true/\f.length≠0/\f.length<=12/\∀(j:Nat) (hj:j<f.length),dS db f[j]=true/\(1<=ar (f[j]).1->0<=(f[j]).2.2.2.2.2.2.1/\(f[j]).2.2.2.2.2.2.1<(j:Int))/\(ar (f[j]).1=2->0<=(f[j]).2.2.2.2.2.2.2/\(f[j]).2.2.2.2.2.2.2<(j:Int)):=by
 unfold fV at h;simp only[Bool.and_eq_true,decide_eq_true_eq]at h;obtain⟨h1,⟨h3,h4⟩,h5⟩:=h;refine⟨h1,by omega,by omega,λj hj=>?_⟩;obtain⟨k1,k2,k3⟩:=UY db f 0 [] h5 (by omega) (by simp) j hj;refine⟨k1,λh=>?_,λh=>?_⟩
 ·have:=k2 h;omega
 ·have:=k3 h;omega
theorem XR{R:List (List ab)}(h:R.length≠0)(h2:R.length<=1000):ae (G4 R) (IntKind.i64.wrap (((G4 R).length:Int) - 1))=some (4,XP R):=by
 rw[DM,cm (by omega) (by omega)];exact oh (by omega) (by omega)
theorem afH{db:List Rel}{f:List al}(hd:zL zQ db<=68719476736)(hf:zL zN f<=68719476736):FY db f=bZ 4 (pK db f):=by
 rw[afG,Td db f (vF hd) (sj hf)];unfold pK;simp only[Option.bind_some];cases h:fV db f with
 | false=>rfl
 | true =>
  obtain⟨a0,a1,a2,a3⟩:=UP h;have hr:=Sh a0 hd a2 a3 f.length 0 [] rfl rfl (by simp);rw[List.drop_zero,Int.natCast_zero]at hr;have hr:uF db f [] 0=tr (jh db f []):=hr;simp only[Bool.not_true,cond_false,cond_true];rw[agB,hr];cases hR:jh db f []with
  | none=>rfl
  | some R =>
   have hl:=Hw f [] R hR;have e:tr (some R)=some ((G4 R,true,()),()):=rfl;rw[e];simp only[Option.bind_some,Bool.not_true,cond_false];rw[XR (by simp at hl;omega) (by simp at hl;omega)];rfl
theorem aeq{db:List Rel}{f:List al}(hd:zL zQ db<=68719476736)(hf:zL zN f<=68719476736):Fz db f=bZ 4 (pK db f):=by
 rw[aep,afv,SF db f (sj hf)];unfold pK;simp only[Option.bind_some];cases h:fV db f with
 | false=>rfl
 | true =>
  obtain⟨a0,a1,a2,a3⟩:=UP h;have hr:=Re a0 hd a2 a3 f.length 0 [] rfl rfl (by simp);rw[List.drop_zero,Int.natCast_zero]at hr;have hr:uv db f [] f (f.length:Int) 0=tr (jh db f []):=hr;simp only[Bool.not_true,cond_false,cond_true];rw[hr];cases hR:jh db f []with
  | none=>rfl
  | some R =>
   have hl:=Hw f [] R hR;have e:tr (some R)=some ((G4 R,true,()),()):=rfl;rw[e];simp only[Option.bind_some,Bool.not_true,cond_false];rw[XR (by simp at hl;omega) (by simp at hl;omega)];rfl
def Cl(db:List Rel)(f:List al):Bool×Bool:=bif qC db f then (match pK db f with
 | some l=>(decide (l.length>0),true)
 | none=>(false,false))else (false,false)
theorem Vj(n:Nat):decide ((n:Int)>0)=decide (n>0):=by rw[Bool.eq_iff_iff];simp
theorem af7{db:List Rel}{f:List al}(hd:zL zQ db<=68719476736)(hf:zL zN f<=68719476736):F4 db f=iw (Cl db f):=by
 rw[af6,afW db f hd hf];unfold Cl;simp only[Option.bind_some];cases h:qC db f with
 | false=>rfl
 | true =>
  simp only[Bool.not_true,cond_false,cond_true];rw[afH hd hf];cases pK db f with
  | none=>rfl
  | some l =>
   unfold bZ iw;simp only[Option.bind_some,cond_true];rw[Vj]
theorem aeT{db:List Rel}{f:List al}(hd:zL zQ db<=68719476736)(hf:zL zN f<=68719476736):FG db f=iw (Cl db f):=by
 rw[aeS,aeG db f hf];unfold Cl;simp only[Option.bind_some];cases h:qC db f with
 | false=>rfl
 | true =>
  simp only[Bool.not_true,cond_false,cond_true];rw[aeq hd hf];cases pK db f with
  | none=>rfl
  | some l =>
   unfold bZ iw;simp only[Option.bind_some,cond_true];rw[Vj]
theorem al1(x:List Rel)(f:List al)(hx:dz (.slice 0 CZ) x)(hf:dz (.slice 0 CY) f):Gc x f=some ((true,()),()):=by
 rw[agH,ahb x 1048576 hx (by omega) (by omega)];simp only[Option.bind_some];rcases n5 1048576 (zL zQ x)with⟨e,_⟩|⟨k1,e,a1,d1⟩
 ·rw[e];rfl
 have c1:decide (k1<0)=false:=by simp;omega
 rw[e];simp only[c1,cond_false];rw[ag7 f k1 hf (by omega) (by omega)];simp only[Option.bind_some];rcases n5 k1 (zL zN f)with⟨e,_⟩|⟨k2,e,a2,d2⟩
 ·rw[e];rfl
 have c2:decide (k2<0)=false:=by simp;omega
 rw[e];simp only[c2,cond_false];have zx:zL zQ x<=68719476736:=by omega
 have zf:zL zN f<=68719476736:=by omega
 rw[aht x zx,Option.bind_some,ahp f zf,Option.bind_some];dsimp only;rw[af7 zx zf];unfold iw;simp only[Option.bind_some];rw[aeT zx zf];unfold iw;simp only[Option.bind_some,beq_self_eq_true,Bool.not_true,cond_false,agT x zx,agP f zf]
end Go.Proofs.YtbhogmdpmkpinaaGreat.P.It
