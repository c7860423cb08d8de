/- A part of the proof: Plainq. No conditions. -/
import Derived.Test.YtbhogmdpmkpinaaGreatPIt3q
import Derived.Test.YtbhogmdpmkpinaaGreatPG8
set_option linter.unusedVariables false
set_option linter.unusedSimpArgs false
namespace Go.Proofs.YtbhogmdpmkpinaaGreat.P.It
open Am
variable{i n v:Nat}{a b:aa}{R α β:Type}{d k p q y:Int}{S l l':List aa}{c:an}{x:List Int}
theorem bZ{x:Int}(h1 : -9223372036854775808<=x)(h2:x<=9223372036854775807):IntKind.i64.wrap x=x:=by
 rw[IntKind.wrap_i64];omega
theorem aG{xs:List α}(h:i<xs.length):ab xs (i:Int)=some xs[i]:=by
 unfold ab;rw[if_pos (by omega)];simp[h]
theorem aT(h:i<=1000000000000):IntKind.i64.wrap ((i:Int)+1)=((i+1:Nat):Int):=by
 rw[bZ]<;>omega
theorem eQ(h0:0<=k)(h1:k<=1000000000000000000):IntKind.i64.wrap (k+1)=k+1:=bZ (by omega) (by omega)
theorem aR(h:i<n):decide ((i:Int)<(n:Int))=true:=by simp;omega
theorem aY(n:Nat):decide ((n:Int)<(n:Int))=false:=by simp
theorem km:decide ((-1:Int)<0)=true:=by decide
theorem kh:maxLen=9223372036854775807:=by decide
theorem nG{x:List α}(h:i<x.length)(v:α):ab (x.set i v) (i:Int)=some v:=by
 rw[aG (by simpa using h)];simp
theorem kl{R:Type}(x:List α)(c:Int)(hl:x.length<=68719476736)(h0:0<=c)(hc:c<=1000)(A B:R):(bif decide (0<=(x.length:Int))&&decide ((x.length:Int)<=(x.length:Int))&&decide ((x.length:Int)*c<=140737488355328)&&decide ((x.length:Int)<=9223372036854775807)then A else B)=A:=by
 have h1:(x.length:Int)*c<=68719476736*1000:=Int.mul_le_mul (by omega) hc h0 (by omega);have h2:(x.length:Int)*c<=140737488355328:=by omega
 have h3:(x.length:Int)<=9223372036854775807:=by omega
 simp[h2,h3]
theorem kO(x:List α)(p:α->Bool)(F E:Option R)(f:Int->Option R)(hl:x.length<=68719476736)
  (h1:∀(i:Nat) (h:i<x.length),f (i:Int)=bif p x[i]then f ((i+1:Nat):Int)else F) (h2:f (x.length:Int)=E) :
  ∀(n i:Nat),n+i=x.length->f (i:Int)=bif (x.drop i).all p then E else F
 | 0,i,hn=>by
  obtain rfl:i=x.length:=by omega
  rw[h2,List.drop_eq_nil_of_le (by omega)];rfl
 | n+1,i,hn=>by
  have hi:i<x.length:=by omega
  rw[h1 i hi,kO x p F E f hl h1 h2 n (i+1) (by omega),List.drop_eq_getElem_cons hi,List.all_cons];cases p x[i]<;>rfl
theorem kM(x:List α)(p:α->Bool)(F E:Option R)(f:Int->Option R)(hl:x.length<=68719476736)
  (h1:∀(i:Nat) (h:i<x.length),f (i:Int)=bif p x[i]then f ((i+1:Nat):Int)else F) (h2:f (x.length:Int)=E):f 0=bif x.all p then E else F:=by
 have:=kO x p F E f hl h1 h2 x.length 0 (by omega)
 rwa [List.drop_zero]at this
def dz{α:Type}(p:α->Bool)(x:List α):Int:=if x.findIdx p<x.length then (x.findIdx p:Int)else -1
theorem G2(x:List α)(p:α->Bool)(r:Int->Option R)(f:Int->Option R)
  (h1:∀(i:Nat) (h:i<x.length),f (i:Int)=bif p x[i]then r (i:Int)else f ((i+1:Nat):Int)) (h2:f (x.length:Int)=r (-1)) :
  ∀(n i:Nat),n+i=x.length->(∀j (h:j<x.length),j<i->p x[j]=false)->f (i:Int)=r (dz p x)
 | 0,i,hn,hp=>by
  obtain rfl:i=x.length:=by omega
  have:x.findIdx p=x.length:=List.findIdx_eq_length.2 (λy hy=>by
   obtain⟨j,hj,rfl⟩:=List.mem_iff_getElem.1 hy;exact hp j hj hj)
  rw[h2];unfold dz;rw[if_neg (by omega)]
 | n+1,i,hn,hp=>by
  have hi:i<x.length:=by omega
  rw[h1 i hi];cases hb:p x[i]with
  | true =>
   have:x.findIdx p=i:=(List.findIdx_eq hi).2 ⟨hb,λj hj=>hp j (by omega) hj⟩;unfold dz;rw[this,if_pos hi];rfl
  | false =>
   rw[cond_false];exact G2 x p r f h1 h2 n (i+1) (by omega) (λj hj cC=>by
    by_cases he:j=i
    ·subst he;exact hb
    ·exact hp j hj (by omega))
def ej(k:Int)(n:Nat):Int:=if (n:Int)<=k then k - n else -1
theorem ek(h:¬(n:Int)<=k):ej k n = -1:=if_neg h
theorem lG(h:(n:Int)<=k):ej k n=k - n:=if_pos h
theorem iO(k:Int)(n:Nat):(ej k n = -1/\¬(n:Int)<=k)\/∃m,ej k n=m/\m=k - n/\0<=m:=by
 by_cases h:(n:Int)<=k
 ·exact .inr ⟨_,lG h,rfl,by omega⟩
 ·exact .inl ⟨ek h,h⟩
theorem p3{a b:Nat}{u:R}(h:0<=k - (a:Int)):some ((ej (k - (a:Int)) b,u),u)=some ((ej k (a+b),u),u):=by
 congr 3;unfold ej;by_cases h1:(b:Int)<=k - a
 ·rw[if_pos h1,if_pos (by omega)];omega
 ·rw[if_neg h1,if_neg (by omega)]
def zB(x:ByteArray):Nat:=x.size
def zI(x:List Int):Nat:=x.length
def zL{α:Type}(f:α->Nat)(x:List α):Nat:=x.length+(x.map f).sum
theorem cI(f:α->Nat)(x:List α):x.length<=zL f x:=Nat.le_add_right _ _
theorem dh(f:α->Nat){x:List α}{y:α}(h:y∈x):f y<=zL f x:=by
 have:f y<=(x.map f).sum:=by
  induction x with
  | nil=>cases h
  | cons a l ih =>
   rw[List.map_cons,List.sum_cons];rcases List.mem_cons.1 h with rfl|h
   ·omega
   ·have:=ih h;omega
 unfold zL;omega
theorem p4(x:List α)(W:α->Prop)(g:α->Nat)(S:α->Int->Option ((Int×PUnit)×PUnit))(f:Int->Int->Option ((Int×PUnit)×PUnit))(hl:x.length<=1048576)(hW:∀y∈x,W y)
  (hS:∀y k,W y->0<=k->k<=1048576->S y k=some ((ej k (g y),()),()))
  (h1:∀(i:Nat) (h:i<x.length) k,f k (i:Int)=(S x[i] k).bind λy=>bif decide (y.1.1<0)then some ((-1,()),())else f y.1.1 ((i+1:Nat):Int)) (h2:∀k,f k (x.length:Int)=some ((k,()),())) :
  ∀(n i:Nat) (k:Int),n+i=x.length->0<=k->k<=1048576->f k (i:Int)=some ((ej k ((x.drop i).map g).sum,()),())
 | 0,i,k,hn,h0,hk=>by
  obtain rfl:i=x.length:=by omega
  rw[h2,List.drop_eq_nil_of_le (by omega),lG (by simpa using h0)];simp
 | n+1,i,k,hn,h0,hk=>by
  have hi:i<x.length:=by omega
  rw[h1 i hi,hS x[i] k (hW _ (List.getElem_mem hi)) h0 hk,List.drop_eq_getElem_cons hi,List.map_cons,List.sum_cons];simp only[Option.bind_some];rcases iO k (g x[i])with⟨e,a⟩|⟨m,e,a,d⟩
  ·rw[e,km,cond_true,ek (by omega)]
  ·have c:decide (m<0)=false:=by simp;omega
   rw[e,c,cond_false,p4 x W g S f hl hW hS h1 h2 n (i+1) m (by omega) d (by omega),a];exact p3 (by omega)
theorem RJ(x:List α)(S:α->Option ((α×PUnit)×PUnit))(f:List α->Int->Option ((List α×PUnit)×PUnit))(hl:x.length<=68719476736)(hS:∀y∈x,S y=some ((y,()),()))
  (h1:∀(i:Nat) (h:i<x.length) (v:List α),v.length=x.length->f v (i:Int)=(S x[i]).bind λy=>f (v.set i y.1.1) ((i+1:Nat):Int)) (h2:∀v:List α,f v (x.length:Int)=some ((v,()),())) :
  ∀(n i:Nat) (v:List α),n+i=x.length->v.length=x.length->f v (i:Int)=some ((v.take i++x.drop i,()),())
 | 0,i,v,hn,hv=>by
  obtain rfl:i=x.length:=by omega
  rw[h2,List.take_of_length_le (by omega),List.drop_eq_nil_of_le (by omega),List.append_nil]
 | n+1,i,v,hn,hv=>by
  have hi:i<x.length:=by omega
  rw[h1 i hi v hv,hS _ (List.getElem_mem hi)];simp only[Option.bind_some];rw[RJ x S f hl hS h1 h2 n (i+1) _ (by omega) (by simpa using hv)];congr 3;have e1:(v.set i x[i]).take (i+1)=v.take i++[x[i]]:=by
   rw[List.take_add_one,List.take_set_of_le (by omega)];simp[hv,hi]
  rw[e1,List.append_assoc,List.singleton_append];congr 1;exact (List.drop_eq_getElem_cons hi).symm
theorem oM(x:List α)(S:α->Option ((α×PUnit)×PUnit))(f:List α->Int->Option ((List α×PUnit)×PUnit))(hl:x.length<=68719476736)(hS:∀y∈x,S y=some ((y,()),()))
  (h1:∀(i:Nat) (h:i<x.length) (v:List α),v.length=x.length->f v (i:Int)=(S x[i]).bind λy=>f (v.set i y.1.1) ((i+1:Nat):Int)) (h2:∀v:List α,f v (x.length:Int)=some ((v,()),())) (v:List α) (hv:v.length=x.length) :
  f v 0=some ((x,()),()):=by
 have:=RJ x S f hl hS h1 h2 x.length 0 v (by omega) hv;rw[Int.natCast_zero]at this;rw[this];simp
theorem nB(x:List α)(E:Option R)(f:Int->Option R)(hl:x.length<=68719476736)
  (h1:∀(i:Nat) (h:i<x.length),f (i:Int)=f ((i+1:Nat):Int)) (h2:f (x.length:Int)=E):f 0=E:=by
 have:=kM x (λ_=>true) E E f hl (λi h=>by simpa using h1 i h) h2;rw[this];cases x.all _<;>rfl
def zA(x:aa):Nat:=zI x.1
abbrev vp:Ty:=.agg (.pair (.slice 0 (.int .i64)) (.pair (.int .i64) .bool))
def zC(x:an):Nat:=zL zA x.2
abbrev I0:Ty:=.agg (.pair (.int .i64) (.slice 0 vp))
def zG(x:eU):Nat:=zL zC x.2
def zR(x:Rw):Nat:=zB x.1+zC x.2
abbrev Cf:Ty:=.agg (.pair .str I0)
def zQ(x:Rel):Nat:=zB x.1+zL zR x.2.2
abbrev Ce:Ty:=.agg (.pair .str (.pair (.int .i64) (.slice 0 Cf)))
def zN(x:aM):Nat:=zA x.2.1+zB x.2.2.1+zB x.2.2.2.1+zI x.2.2.2.2.1
abbrev Cd:Ty:=.agg (.pair (.int .i64) (.pair vp (.pair .str (.pair .str (.pair (.slice 0 (.int .i64)) (.pair (.int .i64) (.pair (.int .i64) (.int .i64))))))))
def zP(x:bA):Nat:=zC x.1+zL zI x.2
abbrev Cg:Ty:=.agg (.pair I0 (.slice 0 (.slice 0 (.int .i64))))
def zV(x:bm):Nat:=zL zN x.1+zL zP x.2
abbrev V5:Ty:=.agg (.pair (.slice 0 Cd) (.slice 0 Cg))
theorem E4(x:List Int)(k:Int)(w:cA (.slice 0 (.int .i64)) x)(h0:0<=k)(hk:k<=1048576):qR x k=some ((ej k (zI x),()),()):=by
 have hl:x.length<=maxLen:=w.1;rw[kh]at hl;rw[adS,bZ (by omega) (by omega)];by_cases h:k - (x.length:Int)<0
 ·simp only[h,decide_true,cond_true];rw[ek (by unfold zI;omega)]
 ·simp only[h,decide_false,cond_false];rw[lG (by unfold zI;omega)];rfl
theorem adR(x:List (List Int))(k:Int)(w:cA (.slice 0 (.slice 0 (.int .i64))) x)(h0:0<=k)(hk:k<=1048576):yO x k=some ((ej k (zL zI x),()),()):=by
 have hl:x.length<=maxLen:=w.1;rw[kh]at hl;rw[adQ,bZ (by omega) (by omega)];have hz:zL zI x=x.length+(x.map zI).sum:=rfl;by_cases h:k - (x.length:Int)<0
 ·simp only[h,decide_true,cond_true];rw[ek (by rw[hz];omega)]
 ·simp only[h,decide_false,cond_false];have:=p4 x (cA (.slice 0 (.int .i64))) zI qR (λk i=>xo x k i) (by omega) w.2 (λy k w h0 hk=>E4 y k w h0 hk) (λi hi k=>by
   rw[Qh,aG hi,aR hi,aT (by omega)];simp only[cond_true,Option.bind_some]) (λk=>by rw[Qh,aY];rfl) x.length 0 (k - (x.length:Int)) (by omega) (by omega) (by omega)
  rw[Int.natCast_zero]at this;refine this.trans ?_;rw[List.drop_zero,hz,p3 (by omega)]
theorem Q1(x:aa)(k:Int)(w:cA vp x)(h0:0<=k)(hk:k<=1048576):tu x k=some ((ej k (zA x),()),()):=by
 have hz:zA x=zI x.1:=rfl;rw[adO];rw[E4 _ _ w.1 (by omega) (by omega)];simp only[Option.bind_some];rcases iO k (zI x.1)with⟨e1,a1⟩|⟨k1,e1,a1,d1⟩
 ·rw[e1];simp only[km,cond_true];rw[ek (by rw[hz];omega)]
 have c1:decide (k1<0)=false:=by simp;omega
 rw[e1];simp only[c1,cond_false];rw[lG (by rw[hz];omega)];congr 3<;>(rw[hz];omega)
theorem adN(x:List aa)(k:Int)(w:cA (.slice 0 vp) x)(h0:0<=k)(hk:k<=1048576):yM x k=some ((ej k (zL zA x),()),()):=by
 have hl:x.length<=maxLen:=w.1;rw[kh]at hl;rw[adM,bZ (by omega) (by omega)];have hz:zL zA x=x.length+(x.map zA).sum:=rfl;by_cases h:k - (x.length:Int)<0
 ·simp only[h,decide_true,cond_true];rw[ek (by rw[hz];omega)]
 ·simp only[h,decide_false,cond_false];have:=p4 x (cA vp) zA tu (λk i=>xn x k i) (by omega) w.2 (λy k w h0 hk=>Q1 y k w h0 hk) (λi hi k=>by
   rw[Qg,aG hi,aR hi,aT (by omega)];simp only[cond_true,Option.bind_some]) (λk=>by rw[Qg,aY];rfl) x.length 0 (k - (x.length:Int)) (by omega) (by omega) (by omega)
  rw[Int.natCast_zero]at this;refine this.trans ?_;rw[List.drop_zero,hz,p3 (by omega)]
theorem Q2(x:an)(k:Int)(w:cA I0 x)(h0:0<=k)(hk:k<=1048576):yN x k=some ((ej k (zC x),()),()):=by
 have hz:zC x=zL zA x.2:=rfl;rw[adP];rw[adN _ _ w.2 (by omega) (by omega)];simp only[Option.bind_some];rcases iO k (zL zA x.2)with⟨e1,a1⟩|⟨k1,e1,a1,d1⟩
 ·rw[e1];simp only[km,cond_true];rw[ek (by rw[hz];omega)]
 have c1:decide (k1<0)=false:=by simp;omega
 rw[e1];simp only[c1,cond_false];rw[lG (by rw[hz];omega)];congr 3<;>(rw[hz];omega)
theorem ad4(x:Rw)(k:Int)(w:cA Cf x)(h0:0<=k)(hk:k<=1048576):yT x k=some ((ej k (zR x),()),()):=by
 have hz:zR x=zB x.1+zC x.2:=rfl;rw[ad3];have b1:zB x.1<=maxLen:=w.1;rw[kh]at b1;obtain⟨k1,e1,a1⟩:∃m,IntKind.i64.wrap (k - ((ByteArray.size x.1:Nat):Int))=m/\m=k - (zB x.1:Int):=⟨_,bZ (by unfold zB at b1;omega) (by unfold zB at b1;omega),rfl⟩;simp only[e1];by_cases d1:k1<0
 ·simp only[d1,decide_true,cond_true];rw[ek (by rw[hz];omega)]
 simp only[d1,decide_false,cond_false];rw[Q2 _ _ w.2 (by omega) (by omega)];simp only[Option.bind_some];rcases iO k1 (zC x.2)with⟨e2,a2⟩|⟨k2,e2,a2,d2⟩
 ·rw[e2];simp only[km,cond_true];rw[ek (by rw[hz];omega)]
 have c2:decide (k2<0)=false:=by simp;omega
 rw[e2];simp only[c2,cond_false];rw[lG (by rw[hz];omega)];congr 3<;>(rw[hz];omega)
theorem ad2(x:List Rw)(k:Int)(w:cA (.slice 0 Cf) x)(h0:0<=k)(hk:k<=1048576):yU x k=some ((ej k (zL zR x),()),()):=by
 have hl:x.length<=maxLen:=w.1;rw[kh]at hl;rw[ad1,bZ (by omega) (by omega)];have hz:zL zR x=x.length+(x.map zR).sum:=rfl;by_cases h:k - (x.length:Int)<0
 ·simp only[h,decide_true,cond_true];rw[ek (by rw[hz];omega)]
 ·simp only[h,decide_false,cond_false];have:=p4 x (cA Cf) zR yT (λk i=>xr x k i) (by omega) w.2 (λy k w h0 hk=>ad4 y k w h0 hk) (λi hi k=>by
   rw[Qk,aG hi,aR hi,aT (by omega)];simp only[cond_true,Option.bind_some]) (λk=>by rw[Qk,aY];rfl) x.length 0 (k - (x.length:Int)) (by omega) (by omega) (by omega)
  rw[Int.natCast_zero]at this;refine this.trans ?_;rw[List.drop_zero,hz,p3 (by omega)]
theorem ad0(x:Rel)(k:Int)(w:cA Ce x)(h0:0<=k)(hk:k<=1048576):yR x k=some ((ej k (zQ x),()),()):=by
 have hz:zQ x=zB x.1+zL zR x.2.2:=rfl;rw[adZ];have b1:zB x.1<=maxLen:=w.1;rw[kh]at b1;obtain⟨k1,e1,a1⟩:∃m,IntKind.i64.wrap (k - ((ByteArray.size x.1:Nat):Int))=m/\m=k - (zB x.1:Int):=⟨_,bZ (by unfold zB at b1;omega) (by unfold zB at b1;omega),rfl⟩;simp only[e1];by_cases d1:k1<0
 ·simp only[d1,decide_true,cond_true];rw[ek (by rw[hz];omega)]
 simp only[d1,decide_false,cond_false];rw[ad2 _ _ w.2.2 (by omega) (by omega)];simp only[Option.bind_some];rcases iO k1 (zL zR x.2.2)with⟨e2,a2⟩|⟨k2,e2,a2,d2⟩
 ·rw[e2];simp only[km,cond_true];rw[ek (by rw[hz];omega)]
 have c2:decide (k2<0)=false:=by simp;omega
 rw[e2];simp only[c2,cond_false];rw[lG (by rw[hz];omega)];congr 3<;>(rw[hz];omega)
theorem adY(x:List Rel)(k:Int)(w:cA (.slice 0 Ce) x)(h0:0<=k)(hk:k<=1048576):yS x k=some ((ej k (zL zQ x),()),()):=by
 have hl:x.length<=maxLen:=w.1;rw[kh]at hl;rw[adX,bZ (by omega) (by omega)];have hz:zL zQ x=x.length+(x.map zQ).sum:=rfl;by_cases h:k - (x.length:Int)<0
 ·simp only[h,decide_true,cond_true];rw[ek (by rw[hz];omega)]
 ·simp only[h,decide_false,cond_false];have:=p4 x (cA Ce) zQ yR (λk i=>xq x k i) (by omega) w.2 (λy k w h0 hk=>ad0 y k w h0 hk) (λi hi k=>by
   rw[Qj,aG hi,aR hi,aT (by omega)];simp only[cond_true,Option.bind_some]) (λk=>by rw[Qj,aY];rfl) x.length 0 (k - (x.length:Int)) (by omega) (by omega) (by omega)
  rw[Int.natCast_zero]at this;refine this.trans ?_;rw[List.drop_zero,hz,p3 (by omega)]
theorem adW(x:aM)(k:Int)(w:cA Cd x)(h0:0<=k)(hk:k<=1048576):yP x k=some ((ej k (zN x),()),()):=by
 have hz:zN x=zA x.2.1+zB x.2.2.1+zB x.2.2.2.1+zI x.2.2.2.2.1:=rfl;rw[adV];rw[Q1 _ _ w.2.1 (by omega) (by omega)];simp only[Option.bind_some];rcases iO k (zA x.2.1)with⟨e1,a1⟩|⟨k1,e1,a1,d1⟩
 ·rw[e1];simp only[km,cond_true];rw[ek (by rw[hz];omega)]
 have c1:decide (k1<0)=false:=by simp;omega
 rw[e1];simp only[c1,cond_false];have b2:zB x.2.2.1<=maxLen:=w.2.2.1;rw[kh]at b2;obtain⟨k2,e2,a2⟩:∃m,IntKind.i64.wrap (k1 - ((ByteArray.size x.2.2.1:Nat):Int))=m/\m=k1 - (zB x.2.2.1:Int):=⟨_,bZ (by unfold zB at b2;omega) (by unfold zB at b2;omega),rfl⟩;simp only[e2];by_cases d2:k2<0
 ·simp only[d2,decide_true,cond_true];rw[ek (by rw[hz];omega)]
 simp only[d2,decide_false,cond_false];have b3:zB x.2.2.2.1<=maxLen:=w.2.2.2.1;rw[kh]at b3;obtain⟨k3,e3,a3⟩:∃m,IntKind.i64.wrap (k2 - ((ByteArray.size x.2.2.2.1:Nat):Int))=m/\m=k2 - (zB x.2.2.2.1:Int):=⟨_,bZ (by unfold zB at b3;omega) (by unfold zB at b3;omega),rfl⟩;simp only[e3];by_cases d3:k3<0
 ·simp only[d3,decide_true,cond_true];rw[ek (by rw[hz];omega)]
 simp only[d3,decide_false,cond_false];rw[E4 _ _ w.2.2.2.2.1 (by omega) (by omega)];simp only[Option.bind_some];rcases iO k3 (zI x.2.2.2.2.1)with⟨e4,a4⟩|⟨k4,e4,a4,d4⟩
 ·rw[e4];simp only[km,cond_true];rw[ek (by rw[hz];omega)]
 have c4:decide (k4<0)=false:=by simp;omega
 rw[e4];simp only[c4,cond_false];rw[lG (by rw[hz];omega)];congr 3<;>(rw[hz];omega)
theorem adU(x:List aM)(k:Int)(w:cA (.slice 0 Cd) x)(h0:0<=k)(hk:k<=1048576):yQ x k=some ((ej k (zL zN x),()),()):=by
 have hl:x.length<=maxLen:=w.1;rw[kh]at hl;rw[adT,bZ (by omega) (by omega)];have hz:zL zN x=x.length+(x.map zN).sum:=rfl;by_cases h:k - (x.length:Int)<0
 ·simp only[h,decide_true,cond_true];rw[ek (by rw[hz];omega)]
 ·simp only[h,decide_false,cond_false];have:=p4 x (cA Cd) zN yP (λk i=>xp x k i) (by omega) w.2 (λy k w h0 hk=>adW y k w h0 hk) (λi hi k=>by
   rw[Qi,aG hi,aR hi,aT (by omega)];simp only[cond_true,Option.bind_some]) (λk=>by rw[Qi,aY];rfl) x.length 0 (k - (x.length:Int)) (by omega) (by omega) (by omega)
  rw[Int.natCast_zero]at this;refine this.trans ?_;rw[List.drop_zero,hz,p3 (by omega)]
theorem ad8(x:bA)(k:Int)(w:cA Cg x)(h0:0<=k)(hk:k<=1048576):yV x k=some ((ej k (zP x),()),()):=by
 have hz:zP x=zC x.1+zL zI x.2:=rfl;rw[ad7];rw[Q2 _ _ w.1 (by omega) (by omega)];simp only[Option.bind_some];rcases iO k (zC x.1)with⟨e1,a1⟩|⟨k1,e1,a1,d1⟩
 ·rw[e1];simp only[km,cond_true];rw[ek (by rw[hz];omega)]
 have c1:decide (k1<0)=false:=by simp;omega
 rw[e1];simp only[c1,cond_false];rw[adR _ _ w.2 (by omega) (by omega)];simp only[Option.bind_some];rcases iO k1 (zL zI x.2)with⟨e2,a2⟩|⟨k2,e2,a2,d2⟩
 ·rw[e2];simp only[km,cond_true];rw[ek (by rw[hz];omega)]
 have c2:decide (k2<0)=false:=by simp;omega
 rw[e2];simp only[c2,cond_false];rw[lG (by rw[hz];omega)];congr 3<;>(rw[hz];omega)
theorem ad6(x:List bA)(k:Int)(w:cA (.slice 0 Cg) x)(h0:0<=k)(hk:k<=1048576):yW x k=some ((ej k (zL zP x),()),()):=by
 have hl:x.length<=maxLen:=w.1;rw[kh]at hl;rw[ad5,bZ (by omega) (by omega)];have hz:zL zP x=x.length+(x.map zP).sum:=rfl;by_cases h:k - (x.length:Int)<0
 ·simp only[h,decide_true,cond_true];rw[ek (by rw[hz];omega)]
 ·simp only[h,decide_false,cond_false];have:=p4 x (cA Cg) zP yV (λk i=>xt x k i) (by omega) w.2 (λy k w h0 hk=>ad8 y k w h0 hk) (λi hi k=>by
   rw[Ql,aG hi,aR hi,aT (by omega)];simp only[cond_true,Option.bind_some]) (λk=>by rw[Ql,aY];rfl) x.length 0 (k - (x.length:Int)) (by omega) (by omega) (by omega)
  rw[Int.natCast_zero]at this;refine this.trans ?_;rw[List.drop_zero,hz,p3 (by omega)]
theorem aea(x:bm)(k:Int)(w:cA V5 x)(h0:0<=k)(hk:k<=1048576):E5 x k=some ((ej k (zV x),()),()):=by
 have hz:zV x=zL zN x.1+zL zP x.2:=rfl;rw[ad9];rw[adU _ _ w.1 (by omega) (by omega)];simp only[Option.bind_some];rcases iO k (zL zN x.1)with⟨e1,a1⟩|⟨k1,e1,a1,d1⟩
 ·rw[e1];simp only[km,cond_true];rw[ek (by rw[hz];omega)]
 have c1:decide (k1<0)=false:=by simp;omega
 rw[e1];simp only[c1,cond_false];rw[ad6 _ _ w.2 (by omega) (by omega)];simp only[Option.bind_some];rcases iO k1 (zL zP x.2)with⟨e2,a2⟩|⟨k2,e2,a2,d2⟩
 ·rw[e2];simp only[km,cond_true];rw[ek (by rw[hz];omega)]
 have c2:decide (k2<0)=false:=by simp;omega
 rw[e2];simp only[c2,cond_false];rw[lG (by rw[hz];omega)];congr 3<;>(rw[hz];omega)
theorem E6(x:List Int)(h:zI x<=68719476736):oD x=some ((x,()),()):=by
 have hl:x.length<=68719476736:=h;rw[aeh,kl x 8 hl (by omega) (by omega)];exact oM x (λy=>some ((y,()),())) (λv i=>xw x v i) hl (λy _=>rfl) (λi hi v hv=>by
  rw[Qo,aR hi,aT (by omega)];simp only[aG hi,aG (show i<v.length by omega),cond_true,Option.bind_some,Int.toNat_natCast]) (λv=>by rw[Qo,aY];rfl) _ (by simp)
theorem aeg(x:List (List Int))(h:zL zI x<=68719476736):yZ x=some ((x,()),()):=by
 have hl:x.length<=68719476736:=Nat.le_trans (cI _ x) h;rw[aef,kl x 24 hl (by omega) (by omega)];exact oM x oD (λv i=>xv x v i) hl (λy hy=>E6 y (Nat.le_trans (dh _ hy) h)) (λi hi v hv=>by
  rw[Qn,aR hi,aT (by omega)];simp only[aG hi,aG (show i<v.length by omega),cond_true,Option.bind_some,Int.toNat_natCast]) (λv=>by rw[Qn,aY];rfl) _ (by simp)
theorem Q3(x:aa)(h:zA x<=68719476736):tw x=some ((x,()),()):=by
 have hz:zA x=zI x.1:=rfl;rw[aed,E6 _ (by omega)];rfl
theorem aec(x:List aa)(h:zL zA x<=68719476736):yX x=some ((x,()),()):=by
 have hl:x.length<=68719476736:=Nat.le_trans (cI _ x) h;rw[aeb,kl x 40 hl (by omega) (by omega)];exact oM x tw (λv i=>xu x v i) hl (λy hy=>Q3 y (Nat.le_trans (dh _ hy) h)) (λi hi v hv=>by
  rw[Qm,aR hi,aT (by omega)];simp only[aG hi,aG (show i<v.length by omega),cond_true,Option.bind_some,Int.toNat_natCast]) (λv=>by rw[Qm,aY];rfl) _ (by simp)
theorem Q4(x:an)(h:zC x<=68719476736):yY x=some ((x,()),()):=by
 have hz:zC x=zL zA x.2:=rfl;rw[aee,aec _ (by omega)];rfl
theorem aet(x:Rw)(h:zR x<=68719476736):y6 x=some ((x,()),()):=by
 have hz:zR x=zB x.1+zC x.2:=rfl;rw[aes,Q4 _ (by omega)];rfl
theorem aer(x:List Rw)(h:zL zR x<=68719476736):y7 x=some ((x,()),()):=by
 have hl:x.length<=68719476736:=Nat.le_trans (cI _ x) h;rw[aeq,kl x 48 hl (by omega) (by omega)];exact oM x y6 (λv i=>xz x v i) hl (λy hy=>aet y (Nat.le_trans (dh _ hy) h)) (λi hi v hv=>by
  rw[Qr,aR hi,aT (by omega)];simp only[aG hi,aG (show i<v.length by omega),cond_true,Option.bind_some,Int.toNat_natCast]) (λv=>by rw[Qr,aY];rfl) _ (by simp)
theorem aep(x:Rel)(h:zQ x<=68719476736):y5 x=some ((x,()),()):=by
 have hz:zQ x=zB x.1+zL zR x.2.2:=rfl;rw[aeo,aer _ (by omega)];rfl
theorem aen(x:List Rel)(h:zL zQ x<=68719476736):oE x=some ((x,()),()):=by
 have hl:x.length<=68719476736:=Nat.le_trans (cI _ x) h;rw[aem,kl x 48 hl (by omega) (by omega)];exact oM x y5 (λv i=>xy x v i) hl (λy hy=>aep y (Nat.le_trans (dh _ hy) h)) (λi hi v hv=>by
  rw[Qq,aR hi,aT (by omega)];simp only[aG hi,aG (show i<v.length by omega),cond_true,Option.bind_some,Int.toNat_natCast]) (λv=>by rw[Qq,aY];rfl) _ (by simp)
theorem ael(x:aM)(h:zN x<=68719476736):y3 x=some ((x,()),()):=by
 have hz:zN x=zA x.2.1+zB x.2.2.1+zB x.2.2.2.1+zI x.2.2.2.2.1:=rfl;rw[aek,Q3 _ (by omega),E6 _ (by omega)];rfl
theorem aej(x:List aM)(h:zL zN x<=68719476736):y4 x=some ((x,()),()):=by
 have hl:x.length<=68719476736:=Nat.le_trans (cI _ x) h;rw[aei,kl x 128 hl (by omega) (by omega)];exact oM x y3 (λv i=>xx x v i) hl (λy hy=>ael y (Nat.le_trans (dh _ hy) h)) (λi hi v hv=>by
  rw[Qp,aR hi,aT (by omega)];simp only[aG hi,aG (show i<v.length by omega),cond_true,Option.bind_some,Int.toNat_natCast]) (λv=>by rw[Qp,aY];rfl) _ (by simp)
theorem aex(x:bA)(h:zP x<=68719476736):y8 x=some ((x,()),()):=by
 have hz:zP x=zC x.1+zL zI x.2:=rfl;rw[aew,Q4 _ (by omega),aeg _ (by omega)];rfl
theorem aev(x:List bA)(h:zL zP x<=68719476736):za x=some ((x,()),()):=by
 have hl:x.length<=68719476736:=Nat.le_trans (cI _ x) h;rw[aeu,kl x 56 hl (by omega) (by omega)];exact oM x y8 (λv i=>xA x v i) hl (λy hy=>aex y (Nat.le_trans (dh _ hy) h)) (λi hi v hv=>by
  rw[Qs,aR hi,aT (by omega)];simp only[aG hi,aG (show i<v.length by omega),cond_true,Option.bind_some,Int.toNat_natCast]) (λv=>by rw[Qs,aY];rfl) _ (by simp)
theorem aez(x:bm)(h:zV x<=68719476736):qS x=some ((x,()),()):=by
 have hz:zV x=zL zN x.1+zL zP x.2:=rfl;rw[aey,aej _ (by omega),aev _ (by omega)];rfl
theorem EV(x:List Int)(h:zI x<=68719476736):qP x x=some ((true,()),()):=by
 have hl:x.length<=68719476736:=h;rw[acY];simp only[bne_self_eq_false,cond_false];refine nB x (some ((true,()),())) (λi=>wX x x i) hl (λi hi=>?_) ?_
 ·rw[PY,aR hi,aT (by omega)];simp only[aG hi,cond_true,Option.bind_some,bne_self_eq_false,beq_self_eq_true,Bool.not_true,cond_false]
 ·rw[PY,aY];rfl
theorem acX(x:List (List Int))(h:zL zI x<=68719476736):yu x x=some ((true,()),()):=by
 have hl:x.length<=68719476736:=Nat.le_trans (cI _ x) h;rw[acW];simp only[bne_self_eq_false,cond_false];refine nB x (some ((true,()),())) (λi=>wW x x i) hl (λi hi=>?_) ?_
 ·rw[PX,aR hi,aT (by omega)];simp only[aG hi,cond_true,Option.bind_some,EV _ (Nat.le_trans (dh _ (List.getElem_mem hi)) h),Bool.not_true,cond_false]
 ·rw[PX,aY];rfl
theorem Q0(x:aa)(h:zA x<=68719476736):yq x x=some ((true,()),()):=by
 have hz:zA x=zI x.1:=rfl;rw[acS];simp only[bne_self_eq_false,beq_self_eq_true,Bool.not_true,cond_false,Option.bind_some,EV x.1 (by omega)]
theorem acR(x:List aa)(h:zL zA x<=68719476736):yr x x=some ((true,()),()):=by
 have hl:x.length<=68719476736:=Nat.le_trans (cI _ x) h;rw[acQ];simp only[bne_self_eq_false,cond_false];refine nB x (some ((true,()),())) (λi=>wU x x i) hl (λi hi=>?_) ?_
 ·rw[PV,aR hi,aT (by omega)];simp only[aG hi,cond_true,Option.bind_some,Q0 _ (Nat.le_trans (dh _ (List.getElem_mem hi)) h),Bool.not_true,cond_false]
 ·rw[PV,aY];rfl
theorem EU(x:an)(h:zC x<=68719476736):tq x x=some ((true,()),()):=by
 have hz:zC x=zL zA x.2:=rfl;rw[acV];simp only[bne_self_eq_false,beq_self_eq_true,Bool.not_true,cond_false,Option.bind_some,acR x.2 (by omega)]
theorem acU(x:List an)(h:zL zC x<=68719476736):yt x x=some ((true,()),()):=by
 have hl:x.length<=68719476736:=Nat.le_trans (cI _ x) h;rw[acT];simp only[bne_self_eq_false,cond_false];refine nB x (some ((true,()),())) (λi=>wV x x i) hl (λi hi=>?_) ?_
 ·rw[PW,aR hi,aT (by omega)];simp only[aG hi,cond_true,Option.bind_some,EU _ (Nat.le_trans (dh _ (List.getElem_mem hi)) h),Bool.not_true,cond_false]
 ·rw[PW,aY];rfl
theorem ac4(x:eU)(h:zG x<=68719476736):tr x x=some ((true,()),()):=by
 have hz:zG x=zL zC x.2:=rfl;rw[ac3];simp only[bne_self_eq_false,beq_self_eq_true,Bool.not_true,cond_false,Option.bind_some,acU x.2 (by omega)]
theorem ade(x:Rw)(h:zR x<=68719476736):EY x x=some ((true,()),()):=by
 have hz:zR x=zB x.1+zC x.2:=rfl;rw[adb];simp only[bne_self_eq_false,beq_self_eq_true,Bool.not_true,cond_false,Option.bind_some,EU x.2 (by omega)]
theorem ada(x:List Rw)(h:zL zR x<=68719476736):yx x x=some ((true,()),()):=by
 have hl:x.length<=68719476736:=Nat.le_trans (cI _ x) h;rw[ac9];simp only[bne_self_eq_false,cond_false];refine nB x (some ((true,()),())) (λi=>w6 x x i) hl (λi hi=>?_) ?_
 ·rw[P1,aR hi,aT (by omega)];simp only[aG hi,cond_true,Option.bind_some,ade _ (Nat.le_trans (dh _ (List.getElem_mem hi)) h),Bool.not_true,cond_false]
 ·rw[P1,aY];rfl
theorem ac8(x:Rel)(h:zQ x<=68719476736):EX x x=some ((true,()),()):=by
 have hz:zQ x=zB x.1+zL zR x.2.2:=rfl;rw[ac7];simp only[bne_self_eq_false,beq_self_eq_true,Bool.not_true,cond_false,Option.bind_some,ada x.2.2 (by omega)]
theorem ac6(x:List Rel)(h:zL zQ x<=68719476736):yw x x=some ((true,()),()):=by
 have hl:x.length<=68719476736:=Nat.le_trans (cI _ x) h;rw[ac5];simp only[bne_self_eq_false,cond_false];refine nB x (some ((true,()),())) (λi=>wZ x x i) hl (λi hi=>?_) ?_
 ·rw[P0,aR hi,aT (by omega)];simp only[aG hi,cond_true,Option.bind_some,ac8 _ (Nat.le_trans (dh _ (List.getElem_mem hi)) h),Bool.not_true,cond_false]
 ·rw[P0,aY];rfl
theorem ac2(x:aM)(h:zN x<=68719476736):EW x x=some ((true,()),()):=by
 have hz:zN x=zA x.2.1+zB x.2.2.1+zB x.2.2.2.1+zI x.2.2.2.2.1:=rfl;rw[ac1];simp only[bne_self_eq_false,beq_self_eq_true,Bool.not_true,cond_false,Option.bind_some,Q0 x.2.1 (by omega),EV x.2.2.2.2.1 (by omega)]
theorem ac0(x:List aM)(h:zL zN x<=68719476736):yv x x=some ((true,()),()):=by
 have hl:x.length<=68719476736:=Nat.le_trans (cI _ x) h;rw[acZ];simp only[bne_self_eq_false,cond_false];refine nB x (some ((true,()),())) (λi=>wY x x i) hl (λi hi=>?_) ?_
 ·rw[PZ,aR hi,aT (by omega)];simp only[aG hi,cond_true,Option.bind_some,ac2 _ (Nat.le_trans (dh _ (List.getElem_mem hi)) h),Bool.not_true,cond_false]
 ·rw[PZ,aY];rfl
theorem adi(x:bA)(h:zP x<=68719476736):EZ x x=some ((true,()),()):=by
 have hz:zP x=zC x.1+zL zI x.2:=rfl;rw[adh];simp only[bne_self_eq_false,beq_self_eq_true,Bool.not_true,cond_false,Option.bind_some,EU x.1 (by omega),acX x.2 (by omega)]
theorem adg(x:List bA)(h:zL zP x<=68719476736):yy x x=some ((true,()),()):=by
 have hl:x.length<=68719476736:=Nat.le_trans (cI _ x) h;rw[adf];simp only[bne_self_eq_false,cond_false];refine nB x (some ((true,()),())) (λi=>xa x x i) hl (λi hi=>?_) ?_
 ·rw[P2,aR hi,aT (by omega)];simp only[aG hi,cond_true,Option.bind_some,adi _ (Nat.le_trans (dh _ (List.getElem_mem hi)) h),Bool.not_true,cond_false]
 ·rw[P2,aY];rfl
theorem adk(x:bm)(h:zV x<=68719476736):E0 x x=some ((true,()),()):=by
 have hz:zV x=zL zN x.1+zL zP x.2:=rfl;rw[adj];simp only[bne_self_eq_false,beq_self_eq_true,Bool.not_true,cond_false,Option.bind_some,ac0 x.1 (by omega),adg x.2 (by omega)]
def mL{α:Type}(m:α->Int->α×Int):List α->Int->List α×Int
 | [],k=>([],k)
 | y::l,k=>((m y k).1::(mL m l (m y k).2).1,(mL m l (m y k).2).2)
def mI(_:Int)(k:Int):Int×Int:=(k,k+1)
def Md{α:Type}(m:α->Int->α×Int)(z:α->Nat):Prop:=∀y k,k<=(m y k).2/\(m y k).2<=k+12*z y+12
theorem cX{m:α->Int->α×Int}{z:α->Nat}(h:Md m z):∀(x:List α) (k:Int),k<=(mL m x k).2/\(mL m x k).2<=k+12*zL z x
 | [],k=>by simp[mL,zL]
 | y::l,k=>by
  have h1:=h y k;have h2:=cX h l (m y k).2;have e:zL z (y::l)=1+z y+zL z l:=by simp only[zL,List.length_cons,List.map_cons,List.sum_cons];omega
  simp only[mL];omega
theorem IB:Md mI (λ_=>0):=λy k=>by unfold mI;simp only[];omega
theorem kg(x:List Int)(k:Int):k<=(mL mI x k).2/\(mL mI x k).2<=k+12*zI x:=by
 have:=cX IB x k;have e:zL (λ_:Int=>0) x=zI x:=by
  unfold zL zI;have:∀l:List Int,(l.map (λ_=>0)).sum=0:=λl=>by induction l<;>simp_all
  rw[this];rfl
 rw[e]at this;exact this
theorem Vq(m:α->Int->α×Int):∀(x:List α) (k:Int),(mL m x k).1.length=x.length
 | [],_=>rfl
 | y::l,k=>by simp only[mL,List.length_cons,Vq m l]
theorem Vr(m:α->Int->α×Int)(z:α->Nat)(hm:∀y k,k<=(m y k).2)(f:List α->Int->Int->Option ((Int×PUnit)×List α×PUnit))
  (h1:∀(v:List α) (k:Int) (i:Nat) (hi:i<v.length),v.length<=68719476736->0<=k->(m v[i] k).2<=1000000000000000000->z v[i]<=68719476736->f v k (i:Int)=f (v.set i (m v[i] k).1) (m v[i] k).2 ((i+1:Nat):Int))
  (h2:∀v k,f v k (v.length:Int)=some ((k,()),v,())) (mi:∀x k,k<=(mL m x k).2) :
  ∀(x pre:List α) (k:Int),0<=k->(mL m x k).2<=1000000000000000000->(pre++x).length<=68719476736->(∀y∈x,z y<=68719476736)->f (pre++x) k (pre.length:Int)=some (((mL m x k).2,()),pre++(mL m x k).1,())
 | [],pre,k,_,_,_,_=>by
  rw[List.append_nil,h2];simp[mL]
 | y::l,pre,k,h0,hk,hl,hz=>by
  have hy:(pre++y::l)[pre.length]'(by simp)=y:=by simp
  have a1:=hm y k;have a2:=mi l (m y k).2;simp only[mL]at hk ⊢;rw[h1 (pre++y::l) k pre.length (by simp) hl h0 (by rw[hy];omega) (by rw[hy];exact hz y (by simp)),hy];have e:(pre++y::l).set pre.length (m y k).1=(pre++[(m y k).1])++l:=by simp
  rw[e];have:=Vr m z hm f h1 h2 mi l (pre++[(m y k).1]) (m y k).2 (by omega) hk (by simp at hl ⊢;omega) (λq hq=>hz q (List.mem_cons_of_mem _ hq));rw[List.length_append,List.length_singleton]at this;rw[this,List.append_assoc,List.singleton_append]
theorem n3(m:α->Int->α×Int)(z:α->Nat)(hm:∀y k,k<=(m y k).2)(f:List α->Int->Int->Option ((Int×PUnit)×List α×PUnit))(mi:∀x k,k<=(mL m x k).2)(x:List α)(k:Int)(h0:0<=k)(hk:(mL m x k).2<=1000000000000000000)(hl:x.length<=68719476736)(hz:∀y∈x,z y<=68719476736)
  (h1:∀(v:List α) (k:Int) (i:Nat) (hi:i<v.length),v.length<=68719476736->0<=k->(m v[i] k).2<=1000000000000000000->z v[i]<=68719476736->f v k (i:Int)=f (v.set i (m v[i] k).1) (m v[i] k).2 ((i+1:Nat):Int))
  (h2:∀v k,f v k (v.length:Int)=some ((k,()),v,())) :
  f x k 0=some (((mL m x k).2,()),(mL m x k).1,()):=by
 have:=Vr m z hm f h1 h2 mi x [] k h0 hk (by simpa using hl) hz;simpa using this
theorem SX(m:α->Int->α×Int)(z:α->Nat)(hm:∀y k,k<=(m y k).2)(f:List α->Int->Int->Option ((Int×PUnit)×PUnit))
  (h1:∀(v:List α) (k:Int) (i:Nat) (hi:i<v.length) (y:α),v[i]=(m y k).1->v.length<=68719476736->0<=k->(m y k).2<=1000000000000000000->z y<=68719476736->f v k (i:Int)=f v (m y k).2 ((i+1:Nat):Int))
  (h2:∀v k,f v k (v.length:Int)=some ((k,()),())) (mi:∀x k,k<=(mL m x k).2) :
  ∀(x pre:List α) (k:Int),0<=k->(mL m x k).2<=1000000000000000000->(pre++x).length<=68719476736->(∀y∈x,z y<=68719476736)->f (pre++(mL m x k).1) k (pre.length:Int)=some (((mL m x k).2,()),())
 | [],pre,k,_,_,_,_=>by
  simp only[mL,List.append_nil];rw[h2]
 | y::l,pre,k,h0,hk,hl,hz=>by
  have a1:=hm y k;have a2:=mi l (m y k).2;simp only[mL]at hk ⊢;rw[h1 _ k pre.length (by simp) y (by simp) (by simp[Vq]at hl ⊢;omega) h0 (by omega) (hz y (by simp))];have:=SX m z hm f h1 h2 mi l (pre++[(m y k).1]) (m y k).2 (by omega) hk (by simp at hl ⊢;omega) (λq hq=>hz q (List.mem_cons_of_mem _ hq));rw[List.length_append,List.length_singleton,List.append_assoc,List.singleton_append]at this;exact this
theorem Hl(m:α->Int->α×Int)(z:α->Nat)(hm:∀y k,k<=(m y k).2)(f:List α->Int->Int->Option ((Int×PUnit)×PUnit))(mi:∀x k,k<=(mL m x k).2)(x:List α)(k:Int)(h0:0<=k)(hk:(mL m x k).2<=1000000000000000000)(hl:x.length<=68719476736)(hz:∀y∈x,z y<=68719476736)
  (h1:∀(v:List α) (k:Int) (i:Nat) (hi:i<v.length) (y:α),v[i]=(m y k).1->v.length<=68719476736->0<=k->(m y k).2<=1000000000000000000->z y<=68719476736->f v k (i:Int)=f v (m y k).2 ((i+1:Nat):Int))
  (h2:∀v k,f v k (v.length:Int)=some ((k,()),())) :
  f (mL m x k).1 k 0=some (((mL m x k).2,()),()):=by
 have:=SX m z hm f h1 h2 mi x [] k h0 hk (by simpa using hl) hz;simpa using this
theorem WK(b:Int):(strOf [b]).size=1:=rfl
theorem Qf:∀(n:Nat) (k:Int) (s:ByteArray),0<=k->k<10 ^ n->k<=1000000000000000000->s.size+n<=1000->∃r,xm k s=some ((r,()),())
 | 0,k,s,h0,h1,hb,hs=>by
  have hk:k=0:=by simp at h1;omega
  rw[Qe,hk];have e:decide ((ByteArray.mk #[109]).size+s.size<=140737488355328)=true:=by
   have:(ByteArray.mk #[109]).size=1:=rfl;rw[this];simp;omega
  simp only[e,cond_true];exact⟨_,rfl⟩
 | n+1,k,s,h0,h1,hb,hs=>by
  rw[Qe];by_cases hk:k>0
  ·have e:decide ((strOf [IntKind.u8.wrap (IntKind.i64.wrap (48+k.tmod 10))]).size+s.size<=140737488355328)=true:=by
    rw[WK];simp;omega
   have hq:k.tdiv 10=k / 10:=Int.tdiv_eq_ediv_of_nonneg h0;have h3:(10:Int) ^ (n+1)=10 ^ n*10:=Int.pow_succ _ _;simp only[hk,decide_true,cond_true,e];rw[hq,bZ (by omega) (by omega)];exact Qf n (k / 10) _ (by omega) (by omega) (by omega) (by rw[ByteArray.size_append,WK];omega)
  ·have e:decide ((ByteArray.mk #[109]).size+s.size<=140737488355328)=true:=by
    have:(ByteArray.mk #[109]).size=1:=rfl;rw[this];simp;omega
   simp only[hk,decide_false,cond_false,e,cond_true];exact⟨_,rfl⟩
noncomputable def rX(k:Int):ByteArray:=match lQ k with
 | some r=>r.1.1
 | none=>ByteArray.empty
theorem yL(k:Int)(h0:0<=k)(h1:k<=1000000000000000000):lQ k=some ((rX k,()),()):=by
 have:∃r,lQ k=some ((r,()),()):=by
  rw[adJ];by_cases h:k<=0
  ·simp only[h,decide_true,cond_true];exact⟨_,rfl⟩
  ·simp only[h,decide_false,cond_false];have e1:(10:Int) ^ 19=10000000000000000000:=by decide
   have e2:(ByteArray.mk #[]).size=0:=rfl;exact Qf 19 k (ByteArray.mk #[]) h0 (by omega) h1 (by omega)
 obtain⟨r,hr⟩:=this;unfold rX;rw[hr]
theorem yG(x:List Int)(k:Int)(h0:0<=k)(hk:(mL mI x k).2<=1000000000000000000)(hl:x.length<=68719476736):oC x k=some (((mL mI x k).2,()),(mL mI x k).1,()):=by
 rw[ady];refine n3 mI (λ_=>0) (λy k=>(IB y k).1) (λv k i=>xh v k i) (λx k=>(kg x k).1) x k h0 hk hl (λ_ _=>Nat.zero_le _) (λv k i hi hl h0 hk hz=>?_) (λv k=>by rw[P9,aY];rfl);have cU:k+1<=1000000000000000000:=hk;have w0:IntKind.i64.wrap (k+1)=k+1:=eQ (by omega) (by omega);rw[P9,aR hi,aT (by omega)];simp only[cond_true,Option.bind_some,aG hi,nG hi,List.set_set,Int.toNat_natCast,w0]
 try rfl
theorem adq(x:List Int)(k:Int)(h0:0<=k)(hk:(mL mI x k).2<=1000000000000000000)(hl:x.length<=68719476736):yC (mL mI x k).1 k=some (((mL mI x k).2,()),()):=by
 rw[adp];refine Hl mI (λ_=>0) (λy k=>(IB y k).1) (λv k i=>xd v k i) (λx k=>(kg x k).1) x k h0 hk hl (λ_ _=>Nat.zero_le _) (λv k i hi y hy hl h0 hk hz=>?_) (λv k=>by rw[P5,aY];rfl);have cU:k+1<=1000000000000000000:=hk;have w0:IntKind.i64.wrap (k+1)=k+1:=eQ (by omega) (by omega);rw[P5,aR hi,aG hi,hy,aT (by omega)];simp only[mI,cond_true,Option.bind_some,bne_self_eq_false,beq_self_eq_true,Bool.not_true,cond_false,w0]
theorem BW:Md (mL mI) zI:=λx k=>by
 have:=kg x k;omega
theorem adx(x:List (List Int))(k:Int)(h0:0<=k)(hk:(mL (mL mI) x k).2<=1000000000000000000)(hz:zL zI x<=68719476736):yF x k=some (((mL (mL mI) x k).2,()),(mL (mL mI) x k).1,()):=by
 rw[adw];refine n3 (mL mI) zI (λy k=>(BW y k).1) (λv k i=>xg v k i) (λx k=>(cX BW x k).1) x k h0 hk (Nat.le_trans (cI _ x) hz) (λy hy=>Nat.le_trans (dh _ hy) hz) (λv k i hi hl h0 hk hz=>?_) (λv k=>by rw[P8,aY];rfl);have q0:=kg v[i] k;have cU:(mL mI v[i] k).2<=1000000000000000000:=hk;have s0:=yG v[i] k (by omega) (by omega) (by have fM:zI v[i]<=68719476736:=hz;unfold zI at fM;omega);rw[P8,aR hi,aT (by omega)];simp only[cond_true,Option.bind_some,aG hi,nG hi,List.set_set,Int.toNat_natCast,s0]
 try rfl
noncomputable def mA(x:aa)(k:Int):aa×Int:=(((mL mI x.1 k).1,(mL mI x.1 k).2,((mL mI x.1 k).2+1).tmod 3==0),(mL mI x.1 k).2+1+1)
theorem kj:Md mA zA:=λx k=>by
 have q0:=kg x.1 k;have hz:zA x=zI x.1:=rfl;unfold mA;simp only[];omega
theorem E1(x:List aa)(k:Int)(h0:0<=k)(hk:(mL mA x k).2<=1000000000000000000)(hz:zL zA x<=68719476736):qQ x k=some (((mL mA x k).2,()),(mL mA x k).1,()):=by
 rw[adt];refine n3 mA zA (λy k=>(kj y k).1) (λv k i=>xe v k i) (λx k=>(cX kj x k).1) x k h0 hk (Nat.le_trans (cI _ x) hz) (λy hy=>Nat.le_trans (dh _ hy) hz) (λv k i hi hl h0 hk hz=>?_) (λv k=>by rw[P6,aY];rfl);have q0:=kg v[i].1 k;have cU:(mL mI v[i].1 k).2+1+1<=1000000000000000000:=hk;have dj:zI v[i].1<=68719476736:=by have fM:zA v[i]<=68719476736:=hz;simp only[zA]at fM;omega
 have s0:=yG v[i].1 k (by omega) (by omega) (by unfold zI at *;omega);have w1:IntKind.i64.wrap ((mL mI v[i].1 k).2+1)=(mL mI v[i].1 k).2+1:=eQ (by omega) (by omega);have w2:IntKind.i64.wrap ((mL mI v[i].1 k).2+1+1)=(mL mI v[i].1 k).2+1+1:=eQ (by omega) (by omega);rw[P6,aR hi,aT (by omega)];simp only[cond_true,Option.bind_some,aG hi,nG hi,List.set_set,Int.toNat_natCast,s0,w1,w2]
 try rfl
theorem adm(x:List aa)(k:Int)(h0:0<=k)(hk:(mL mA x k).2<=1000000000000000000)(hz:zL zA x<=68719476736):yA (mL mA x k).1 k=some (((mL mA x k).2,()),()):=by
 rw[adl];refine Hl mA zA (λy k=>(kj y k).1) (λv k i=>xb v k i) (λx k=>(cX kj x k).1) x k h0 hk (Nat.le_trans (cI _ x) hz) (λy hy=>Nat.le_trans (dh _ hy) hz) (λv k i hi y hy hl h0 hk hz=>?_) (λv k=>by rw[P3,aY];rfl);have q0:=kg y.1 k;have cU:(mL mI y.1 k).2+1+1<=1000000000000000000:=hk;have dj:zI y.1<=68719476736:=by have fM:zA y<=68719476736:=hz;simp only[zA]at fM;omega
 have s0:=adq y.1 k (by omega) (by omega) (by unfold zI at *;omega);have n0:decide ((mL mI y.1 k).2<0)=false:=decide_eq_false (by omega);have w1:IntKind.i64.wrap ((mL mI y.1 k).2+1)=(mL mI y.1 k).2+1:=eQ (by omega) (by omega);have w2:IntKind.i64.wrap ((mL mI y.1 k).2+1+1)=(mL mI y.1 k).2+1+1:=eQ (by omega) (by omega);rw[P3,aR hi,aG hi,hy,aT (by omega)];simp only[mA,cond_true,Option.bind_some,bne_self_eq_false,beq_self_eq_true,Bool.not_true,cond_false,s0,n0,w1,w2]
noncomputable def mC(x:an)(k:Int):an×Int:=((k,(mL mA x.2 (k+1)).1),(mL mA x.2 (k+1)).2)
theorem pG:Md mC zC:=λx k=>by
 have q1:=cX kj x.2 (k+1);have hz:zC x=zL zA x.2:=rfl;unfold mC;simp only[];omega
theorem adv(x:List an)(k:Int)(h0:0<=k)(hk:(mL mC x k).2<=1000000000000000000)(hz:zL zC x<=68719476736):yE x k=some (((mL mC x k).2,()),(mL mC x k).1,()):=by
 rw[adu];refine n3 mC zC (λy k=>(pG y k).1) (λv k i=>xf v k i) (λx k=>(cX pG x k).1) x k h0 hk (Nat.le_trans (cI _ x) hz) (λy hy=>Nat.le_trans (dh _ hy) hz) (λv k i hi hl h0 hk hz=>?_) (λv k=>by rw[P7,aY];rfl);have q1:=cX kj v[i].2 (k+1);have cU:(mL mA v[i].2 (k+1)).2<=1000000000000000000:=hk;have dj:zL zA v[i].2<=68719476736:=by have fM:zC v[i]<=68719476736:=hz;simp only[zC]at fM;omega
 have w0:IntKind.i64.wrap (k+1)=k+1:=eQ (by omega) (by omega);have s1:=E1 v[i].2 (k+1) (by omega) (by omega) (by omega);rw[P7,aR hi,aT (by omega)];simp only[cond_true,Option.bind_some,aG hi,nG hi,List.set_set,Int.toNat_natCast,w0,s1]
 try rfl
theorem ado(x:List an)(k:Int)(h0:0<=k)(hk:(mL mC x k).2<=1000000000000000000)(hz:zL zC x<=68719476736):yB (mL mC x k).1 k=some (((mL mC x k).2,()),()):=by
 rw[adn];refine Hl mC zC (λy k=>(pG y k).1) (λv k i=>xc v k i) (λx k=>(cX pG x k).1) x k h0 hk (Nat.le_trans (cI _ x) hz) (λy hy=>Nat.le_trans (dh _ hy) hz) (λv k i hi y hy hl h0 hk hz=>?_) (λv k=>by rw[P4,aY];rfl);have q1:=cX kj y.2 (k+1);have cU:(mL mA y.2 (k+1)).2<=1000000000000000000:=hk;have dj:zL zA y.2<=68719476736:=by have fM:zC y<=68719476736:=hz;simp only[zC]at fM;omega
 have w0:IntKind.i64.wrap (k+1)=k+1:=eQ (by omega) (by omega);have s1:=adm y.2 (k+1) (by omega) (by omega) (by omega);have n1:decide ((mL mA y.2 (k+1)).2<0)=false:=decide_eq_false (by omega);rw[P4,aR hi,aG hi,hy,aT (by omega)];simp only[mC,cond_true,Option.bind_some,bne_self_eq_false,beq_self_eq_true,Bool.not_true,cond_false,w0,s1,n1]
noncomputable def tG(x:eU)(k:Int):eU×Int:=((x.1,(mL mC x.2 k).1),(mL mC x.2 k).2)
theorem tdG(x:eU)(k:Int):k<=(tG x k).2/\(tG x k).2<=k+12*zG x:=by
 have q0:=cX pG x.2 k;have hz:zG x=zL zC x.2:=rfl;unfold tG;simp only[];omega
theorem adC(x:eU)(k:Int)(h0:0<=k)(hk:(tG x k).2<=1000000000000000000)(hz:zG x<=68719476736):E2 x k=some (((tG x k).2,()),(tG x k).1,()):=by
 have q0:=cX pG x.2 k;have cU:(mL mC x.2 k).2<=1000000000000000000:=hk;have dj:zL zC x.2<=68719476736:=hz;have s0:=adv x.2 k (by omega) (by omega) (by omega);rw[adB];simp only[tG,Option.bind_some,cond_false,s0]
theorem ads(x:eU)(k:Int)(h0:0<=k)(hk:(tG x k).2<=1000000000000000000)(hz:zG x<=68719476736):yD (tG x k).1 k=some (((tG x k).2,()),()):=by
 have q0:=cX pG x.2 k;have cU:(mL mC x.2 k).2<=1000000000000000000:=hk;have dj:zL zC x.2<=68719476736:=hz;have s0:=ado x.2 k (by omega) (by omega) (by omega);have n0:decide ((mL mC x.2 k).2<0)=false:=decide_eq_false (by omega);rw[adr];simp only[tG,Option.bind_some,cond_false,s0,n0]
noncomputable def mR(x:Rw)(k:Int):Rw×Int:=((rX k,(k+1,(mL mA x.2.2 (k+1+1)).1)),(mL mA x.2.2 (k+1+1)).2)
theorem BZ:Md mR zR:=λx k=>by
 have q2:=cX kj x.2.2 (k+1+1);have hz:zR x=zB x.1+zL zA x.2.2:=by simp only[zR,zC]<;>omega
 unfold mR;simp only[];omega
theorem adG(x:List Rw)(k:Int)(h0:0<=k)(hk:(mL mR x k).2<=1000000000000000000)(hz:zL zR x<=68719476736):yJ x k=some (((mL mR x k).2,()),(mL mR x k).1,()):=by
 rw[adF];refine n3 mR zR (λy k=>(BZ y k).1) (λv k i=>xk v k i) (λx k=>(cX BZ x k).1) x k h0 hk (Nat.le_trans (cI _ x) hz) (λy hy=>Nat.le_trans (dh _ hy) hz) (λv k i hi hl h0 hk hz=>?_) (λv k=>by rw[Qc,aY];rfl);have q2:=cX kj v[i].2.2 (k+1+1);have cU:(mL mA v[i].2.2 (k+1+1)).2<=1000000000000000000:=hk;have dj:zB v[i].1+zL zA v[i].2.2<=68719476736:=by have fM:zR v[i]<=68719476736:=hz;simp only[zR,zC]at fM;omega
 have t0:=yL (k) (by omega) (by omega);have w0:IntKind.i64.wrap (k+1)=k+1:=eQ (by omega) (by omega);have w1:IntKind.i64.wrap (k+1+1)=k+1+1:=eQ (by omega) (by omega);have s2:=E1 v[i].2.2 (k+1+1) (by omega) (by omega) (by omega);rw[Qc,aR hi,aT (by omega)];simp only[cond_true,Option.bind_some,aG hi,nG hi,List.set_set,Int.toNat_natCast,t0,w0,w1,s2]
 try rfl
noncomputable def mQ(x:Rel)(k:Int):Rel×Int:=((rX k,k+1,(mL mR x.2.2 (k+1+1)).1),(mL mR x.2.2 (k+1+1)).2)
theorem IC:Md mQ zQ:=λx k=>by
 have q2:=cX BZ x.2.2 (k+1+1);have hz:zQ x=zB x.1+zL zR x.2.2:=rfl;unfold mQ;simp only[];omega
theorem adE(x:List Rel)(k:Int)(h0:0<=k)(hk:(mL mQ x k).2<=1000000000000000000)(hz:zL zQ x<=68719476736):yI x k=some (((mL mQ x k).2,()),(mL mQ x k).1,()):=by
 rw[adD];refine n3 mQ zQ (λy k=>(IC y k).1) (λv k i=>xj v k i) (λx k=>(cX IC x k).1) x k h0 hk (Nat.le_trans (cI _ x) hz) (λy hy=>Nat.le_trans (dh _ hy) hz) (λv k i hi hl h0 hk hz=>?_) (λv k=>by rw[Qb,aY];rfl);have q2:=cX BZ v[i].2.2 (k+1+1);have cU:(mL mR v[i].2.2 (k+1+1)).2<=1000000000000000000:=hk;have dj:zB v[i].1+zL zR v[i].2.2<=68719476736:=by have fM:zQ v[i]<=68719476736:=hz;simp only[zQ]at fM;omega
 have t0:=yL (k) (by omega) (by omega);have w0:IntKind.i64.wrap (k+1)=k+1:=eQ (by omega) (by omega);have w1:IntKind.i64.wrap (k+1+1)=k+1+1:=eQ (by omega) (by omega);have s2:=adG v[i].2.2 (k+1+1) (by omega) (by omega) (by omega);rw[Qb,aR hi,aT (by omega)];simp only[cond_true,Option.bind_some,aG hi,nG hi,List.set_set,Int.toNat_natCast,t0,w0,w1,s2]
 try rfl
noncomputable def mN(x:aM)(k:Int):aM×Int:=((k,((mL mI x.2.1.1 (k+1)).1,(mL mI x.2.1.1 (k+1)).2,((mL mI x.2.1.1 (k+1)).2+1).tmod 3==0),rX ((mL mI x.2.1.1 (k+1)).2+1+1),rX ((mL mI x.2.1.1 (k+1)).2+1+1+1),(mL mI x.2.2.2.2.1 ((mL mI x.2.1.1 (k+1)).2+1+1+1+1)).1,(mL mI x.2.2.2.2.1 ((mL mI x.2.1.1 (k+1)).2+1+1+1+1)).2,(mL mI x.2.2.2.2.1 ((mL mI x.2.1.1 (k+1)).2+1+1+1+1)).2+1,(mL mI x.2.2.2.2.1 ((mL mI x.2.1.1 (k+1)).2+1+1+1+1)).2+1+1),(mL mI x.2.2.2.2.1 ((mL mI x.2.1.1 (k+1)).2+1+1+1+1)).2+1+1+1)
theorem BX:Md mN zN:=λx k=>by
 have q1:=kg x.2.1.1 (k+1);have q6:=kg x.2.2.2.2.1 ((mL mI x.2.1.1 (k+1)).2+1+1+1+1);have hz:zN x=zI x.2.1.1+zB x.2.2.1+zB x.2.2.2.1+zI x.2.2.2.2.1:=by simp only[zN,zA]<;>omega
 unfold mN;simp only[];omega
theorem adA(x:List aM)(k:Int)(h0:0<=k)(hk:(mL mN x k).2<=1000000000000000000)(hz:zL zN x<=68719476736):yH x k=some (((mL mN x k).2,()),(mL mN x k).1,()):=by
 rw[adz];refine n3 mN zN (λy k=>(BX y k).1) (λv k i=>xi v k i) (λx k=>(cX BX x k).1) x k h0 hk (Nat.le_trans (cI _ x) hz) (λy hy=>Nat.le_trans (dh _ hy) hz) (λv k i hi hl h0 hk hz=>?_) (λv k=>by rw[Qa,aY];rfl);have q1:=kg v[i].2.1.1 (k+1);have q6:=kg v[i].2.2.2.2.1 ((mL mI v[i].2.1.1 (k+1)).2+1+1+1+1);have cU:(mL mI v[i].2.2.2.2.1 ((mL mI v[i].2.1.1 (k+1)).2+1+1+1+1)).2+1+1+1<=1000000000000000000:=hk;have dj:zI v[i].2.1.1+zB v[i].2.2.1+zB v[i].2.2.2.1+zI v[i].2.2.2.2.1<=68719476736:=by have fM:zN v[i]<=68719476736:=hz;simp only[zN,zA]at fM;omega
 have w0:IntKind.i64.wrap (k+1)=k+1:=eQ (by omega) (by omega);have s1:=yG v[i].2.1.1 (k+1) (by omega) (by omega) (by unfold zI at *;omega);have w2:IntKind.i64.wrap ((mL mI v[i].2.1.1 (k+1)).2+1)=(mL mI v[i].2.1.1 (k+1)).2+1:=eQ (by omega) (by omega);have w3:IntKind.i64.wrap ((mL mI v[i].2.1.1 (k+1)).2+1+1)=(mL mI v[i].2.1.1 (k+1)).2+1+1:=eQ (by omega) (by omega);have t4:=yL ((mL mI v[i].2.1.1 (k+1)).2+1+1) (by omega) (by omega);have w4:IntKind.i64.wrap ((mL mI v[i].2.1.1 (k+1)).2+1+1+1)=(mL mI v[i].2.1.1 (k+1)).2+1+1+1:=eQ (by omega) (by omega);have t5:=yL ((mL mI v[i].2.1.1 (k+1)).2+1+1+1) (by omega) (by omega);have w5:IntKind.i64.wrap ((mL mI v[i].2.1.1 (k+1)).2+1+1+1+1)=(mL mI v[i].2.1.1 (k+1)).2+1+1+1+1:=eQ (by omega) (by omega);have s6:=yG v[i].2.2.2.2.1 ((mL mI v[i].2.1.1 (k+1)).2+1+1+1+1) (by omega) (by omega) (by unfold zI at *;omega);have w7:IntKind.i64.wrap ((mL mI v[i].2.2.2.2.1 ((mL mI v[i].2.1.1 (k+1)).2+1+1+1+1)).2+1)=(mL mI v[i].2.2.2.2.1 ((mL mI v[i].2.1.1 (k+1)).2+1+1+1+1)).2+1:=eQ (by omega) (by omega);have w8:IntKind.i64.wrap ((mL mI v[i].2.2.2.2.1 ((mL mI v[i].2.1.1 (k+1)).2+1+1+1+1)).2+1+1)=(mL mI v[i].2.2.2.2.1 ((mL mI v[i].2.1.1 (k+1)).2+1+1+1+1)).2+1+1:=eQ (by omega) (by omega);have w9:IntKind.i64.wrap ((mL mI v[i].2.2.2.2.1 ((mL mI v[i].2.1.1 (k+1)).2+1+1+1+1)).2+1+1+1)=(mL mI v[i].2.2.2.2.1 ((mL mI v[i].2.1.1 (k+1)).2+1+1+1+1)).2+1+1+1:=eQ (by omega) (by omega);rw[Qa,aR hi,aT (by omega)];simp only[cond_true,Option.bind_some,aG hi,nG hi,List.set_set,Int.toNat_natCast,w0,s1,w2,w3,t4,w4,t5,w5,s6,w7,w8,w9]
 try rfl
noncomputable def mP(x:bA)(k:Int):bA×Int:=(((k,(mL mA x.1.2 (k+1)).1),(mL (mL mI) x.2 ((mL mA x.1.2 (k+1)).2)).1),(mL (mL mI) x.2 ((mL mA x.1.2 (k+1)).2)).2)
theorem BY:Md mP zP:=λx k=>by
 have q1:=cX kj x.1.2 (k+1);have q2:=cX BW x.2 ((mL mA x.1.2 (k+1)).2);have hz:zP x=zL zA x.1.2+zL zI x.2:=by simp only[zP,zC]<;>omega
 unfold mP;simp only[];omega
theorem adI(x:List bA)(k:Int)(h0:0<=k)(hk:(mL mP x k).2<=1000000000000000000)(hz:zL zP x<=68719476736):yK x k=some (((mL mP x k).2,()),(mL mP x k).1,()):=by
 rw[adH];refine n3 mP zP (λy k=>(BY y k).1) (λv k i=>xl v k i) (λx k=>(cX BY x k).1) x k h0 hk (Nat.le_trans (cI _ x) hz) (λy hy=>Nat.le_trans (dh _ hy) hz) (λv k i hi hl h0 hk hz=>?_) (λv k=>by rw[Qd,aY];rfl);have q1:=cX kj v[i].1.2 (k+1);have q2:=cX BW v[i].2 ((mL mA v[i].1.2 (k+1)).2);have cU:(mL (mL mI) v[i].2 ((mL mA v[i].1.2 (k+1)).2)).2<=1000000000000000000:=hk;have dj:zL zA v[i].1.2+zL zI v[i].2<=68719476736:=by have fM:zP v[i]<=68719476736:=hz;simp only[zP,zC]at fM;omega
 have w0:IntKind.i64.wrap (k+1)=k+1:=eQ (by omega) (by omega);have s1:=E1 v[i].1.2 (k+1) (by omega) (by omega) (by omega);have s2:=adx v[i].2 ((mL mA v[i].1.2 (k+1)).2) (by omega) (by omega) (by omega);rw[Qd,aR hi,aT (by omega)];simp only[cond_true,Option.bind_some,aG hi,nG hi,List.set_set,Int.toNat_natCast,w0,s1,s2]
 try rfl
noncomputable def tV(x:bm)(k:Int):bm×Int:=(((mL mN x.1 k).1,(mL mP x.2 ((mL mN x.1 k).2)).1),(mL mP x.2 ((mL mN x.1 k).2)).2)
theorem tdV(x:bm)(k:Int):k<=(tV x k).2/\(tV x k).2<=k+12*zV x:=by
 have q0:=cX BX x.1 k;have q1:=cX BY x.2 ((mL mN x.1 k).2);have hz:zV x=zL zN x.1+zL zP x.2:=rfl;unfold tV;simp only[];omega
theorem adL(x:bm)(k:Int)(h0:0<=k)(hk:(tV x k).2<=1000000000000000000)(hz:zV x<=68719476736):E3 x k=some (((tV x k).2,()),(tV x k).1,()):=by
 have q0:=cX BX x.1 k;have q1:=cX BY x.2 ((mL mN x.1 k).2);have cU:(mL mP x.2 ((mL mN x.1 k).2)).2<=1000000000000000000:=hk;have dj:zL zN x.1+zL zP x.2<=68719476736:=hz;have s0:=adA x.1 k (by omega) (by omega) (by omega);have s1:=adI x.2 ((mL mN x.1 k).2) (by omega) (by omega) (by omega);rw[adK];simp only[tV,Option.bind_some,cond_false,s0,s1]
def gA(a:aa):Prop:=a.1.length<=68719476736
def gC(c:an):Prop:=c.2.length<=68719476736/\∀a∈c.2,gA a
def gR(r:Rw):Prop:=r.1.size<=68719476736/\gC r.2
def gL(r:Rel):Prop:=r.1.size<=68719476736/\r.2.2.length<=68719476736/\∀y∈r.2.2,gR y
theorem Sj{x:ByteArray}(h:i<x.data.toList.length):lY x (i:Int)=some ((x.data.toList[i].toNat:Nat):Int):=by
 unfold lY;rw[if_pos (by omega)];have h':i<x.size:=by simpa using h
 simp only[Int.toNat_natCast];rw[show x[i]?=some x[i]from getElem?_pos x i h'];simp only[Option.map_some];congr 3
def ij(x:ByteArray)(a b:Int):Bool:=x.data.toList.all (λc => !(decide (((c.toNat:Nat):Int)<a)) && !(decide (((c.toNat:Nat):Int)>b)))&&(decide (1<=(x.size:Int))&&decide ((x.size:Int)<=6))
theorem sh(x:ByteArray):x.size=x.data.toList.length:=by simp
theorem kK(a b c:Int):gB a b c=some ((decide (b<=a)&&decide (a<=c),()),()):=by
 rw[acn];by_cases h:a>=b
 ·simp[h]
 ·simp[h]
theorem ER(x:ByteArray)(a b:Int)(hl:x.size<=68719476736):qN x a b=some ((ij x a b,()),()):=by
 rw[acM];have:=kO x.data.toList (λc => !(decide (((c.toNat:Nat):Int)<a)) && !(decide (((c.toNat:Nat):Int)>b))) (some ((false,()),())) (some ((decide (1<=(x.size:Int))&&decide ((x.size:Int)<=6),()),())) (λi=>ti x a b i) (by rw[<-sh];exact hl) (λi hi=>by
  have hb:i<x.size:=by rw[sh];exact hi
  rw[PU,Sj hi,aT (by omega)];simp only[aR hb,cond_true,Option.bind_some];cases decide (((x.data.toList[i].toNat:Nat):Int)<a)<;>cases decide (((x.data.toList[i].toNat:Nat):Int)>b)<;>rfl) (by rw[PU,<-sh,aY,kK];rfl) x.data.toList.length 0 (by omega)
 simp only[List.drop_zero,Int.natCast_zero]at this;rw[show ti x a b 0=_ from this];unfold ij;cases x.data.toList.all _<;>rfl
theorem QL(x:ByteArray)(a b:Int):tn x a b=some ((ij x a b,()),()):=by
 rw[abH];unfold ij;by_cases h1:(x.size:Int)<1
 ·have:¬(1<=(x.size:Int)):=by omega
  simp[h1,this]
 ·by_cases h2:(x.size:Int)>6
  ·have:¬((x.size:Int)<=6):=by omega
   simp only[h1,h2,decide_false,decide_true,cond_false,cond_true,this,Bool.and_false]
  ·have e1:1<=(x.size:Int):=by omega
   have e2:(x.size:Int)<=6:=by omega
   simp only[h1,h2,decide_false,cond_false,e1,e2,decide_true,Bool.and_self,Bool.and_true];have:=kO x.data.toList (λc => !(decide (((c.toNat:Nat):Int)<a)) && !(decide (((c.toNat:Nat):Int)>b))) (some ((false,()),())) (some ((true,()),())) (λi=>sY x a b i) (by rw[<-sh];omega) (λi hi=>by
    have hb:i<x.size:=by rw[sh];exact hi
    rw[Pf,Sj hi,aT (by omega)];simp only[aR hb,cond_true,Option.bind_some];cases decide (((x.data.toList[i].toNat:Nat):Int)<a)<;>cases decide (((x.data.toList[i].toNat:Nat):Int)>b)<;>rfl) (by rw[Pf,<-sh,aY];rfl) x.data.toList.length 0 (by omega)
   simp only[List.drop_zero,Int.natCast_zero]at this;rw[show sY x a b 0=_ from this];cases x.data.toList.all _<;>rfl
theorem abD(x:ByteArray):EG x=some ((ij x 65 90,()),()):=by
 rw[abC,QL];rfl
theorem QJ(x:ByteArray):xS x=some ((ij x 97 122,()),()):=by
 rw[abA,QL];rfl
def cZ(a:Int):Bool:=decide (-400000000<=a)&&decide (a<=400000000)
theorem QR(a:Int):ya a=some ((cZ a,()),()):=by
 rw[ab6,kK,Option.bind_some];rfl
theorem Qy(a:Int):xG a=some ((cZ a,()),()):=by
 rw[aa7];unfold cZ;by_cases h:a >= -400000000
 ·simp[h]
 ·simp[h]
theorem abn{a:Int}(h:cZ a=true):qD a=some (((a.natAbs:Int),()),()):=by
 simp only[cZ,Bool.and_eq_true,decide_eq_true_eq]at h;rw[EE];by_cases h0:a<0
 ·simp only[h0,decide_true,cond_true];rw[bZ (by omega) (by omega)];congr 3;omega
 ·simp only[h0,decide_false,cond_false];congr 3;omega
theorem abm(a:Nat):qD (a:Int)=some (((a:Int),()),()):=by
 rw[EE];have:decide ((a:Int)<0)=false:=by simp
 rw[this,cond_false]
theorem QT{a:Int}(h:cZ a=true):tp a=some (((a.natAbs:Int),()),()):=by
 simp only[cZ,Bool.and_eq_true,decide_eq_true_eq]at h;rw[QS];rw[bZ (by omega) (by omega)];simp only[cond_true];congr 3;split<;>omega
theorem C4:∀(n:Nat) (a b:Int),b.natAbs<=n->0<=a->0<=b->wD a b=some ((((Nat.gcd a.natAbs b.natAbs:Nat):Int),()),())
 | n,a,b,hn,ha,hb=>by
  rw[ZO];by_cases h0:b=0
  ·subst h0;simp only[bne_self_eq_false,cond_false];simp;omega
  ·have:(b != 0)=true:=by simpa using h0
   rw[this,cond_true,cond_true];have au:a.natAbs % b.natAbs<b.natAbs:=Nat.mod_lt _ (by omega);have hm:=Int.natAbs_tmod a b;cases n with
   | zero=>omega
   | succ n =>
    rw[C4 n b (Int.tmod a b) (by omega) hb (Int.tmod_nonneg _ ha),hm];congr 4;rw[Nat.gcd_comm a.natAbs,Nat.gcd_rec b.natAbs a.natAbs,Nat.gcd_comm]
 termination_by n=>n
theorem QB(a:Nat){b:Int}(hb:cZ b=true):oz (a:Int) b=some ((((Nat.gcd a b.natAbs:Nat):Int),()),()):=by
 rw[QA,abm,abn hb];simp only[Option.bind_some];rw[C4 _ _ _ (Nat.le_refl _) (by omega) (by omega)];simp
def gl(x:List Int)(g:Nat):Nat:=x.foldl (λg y=>Nat.gcd g y.natAbs) g
theorem Sr:∀(x:List Int) (g h:Nat),gl x (Nat.gcd g h)=Nat.gcd (gl x g) h
 | [],_,_=>rfl
 | y::x,g,h=>by
  change gl x (Nat.gcd (Nat.gcd g h) y.natAbs)=Nat.gcd (gl x (Nat.gcd g y.natAbs)) h;rw[show Nat.gcd (Nat.gcd g h) y.natAbs=Nat.gcd (Nat.gcd g y.natAbs) h by rw[Nat.gcd_assoc,Nat.gcd_comm h,<-Nat.gcd_assoc],Sr x]
theorem G7(x:List Int)(k:Nat):gl x k=Nat.gcd (gl x 0) k:=by
 rw[<-Sr,Nat.gcd_zero_left]
theorem Db(x:List Int)(i:Int):∀(n:Nat) (a b:Int),b.natAbs<=n->0<=a->0<=b->wN x a i b=qz x ((Nat.gcd a.natAbs b.natAbs:Nat):Int) (IntKind.i64.wrap (i+1))
 | n,a,b,hn,ha,hb=>by
  rw[ZQ];by_cases h0:b=0
  ·subst h0;simp only[bne_self_eq_false,cond_false];congr 1;simp;omega
  ·have:(b != 0)=true:=by simpa using h0
   rw[this,cond_true,cond_true];have au:a.natAbs % b.natAbs<b.natAbs:=Nat.mod_lt _ (by omega);have hm:=Int.natAbs_tmod a b;cases n with
   | zero=>omega
   | succ n =>
    rw[Db x i n b (Int.tmod a b) (by omega) hb (Int.tmod_nonneg _ ha),hm];congr 2;rw[Nat.gcd_comm a.natAbs,Nat.gcd_rec b.natAbs a.natAbs,Nat.gcd_comm]
 termination_by n=>n
theorem PH(x:List Int)(hl:x.length<=68719476736)(hx:∀y∈x,cZ y=true):∀(n i g:Nat),n+i=x.length->qz x (g:Int) (i:Int)=some ((((gl (x.drop i) g:Nat):Int),()),())
 | 0,i,g,hn=>by
  obtain rfl:i=x.length:=by omega
  rw[wM,aY,List.drop_eq_nil_of_le (by omega)];rfl
 | n+1,i,g,hn=>by
  have hi:i<x.length:=by omega
  rw[wM,aR hi,aG hi,cond_true,Option.bind_some,QT (hx _ (List.getElem_mem hi)),Option.bind_some,Db x i _ _ _ (Nat.le_refl _) (Int.natCast_nonneg _) (Int.natCast_nonneg _),aT (by omega),PH x hl hx n (i+1) _ (by omega),List.drop_eq_getElem_cons hi];simp only[Int.natAbs_natCast];rfl
theorem QV(x:List Int)(k:Int)(hl:x.length<=68719476736)(hx:∀y∈x,cZ y=true)(hk:cZ k=true):oB x k=some ((((gl x k.natAbs:Nat):Int),()),()):=by
 rw[QU,QT hk,Option.bind_some];have:=PH x hl hx x.length 0 k.natAbs (by omega);simpa using this
theorem Pd(x:List Int)(hl:x.length<=68719476736)(hx:∀y∈x,cZ y=true):∀(n i g:Nat),n+i=x.length->sX x (g:Int) x (x.length:Int) (i:Int)=some ((((gl (x.drop i) g:Nat):Int),()),())
 | 0,i,g,hn=>by
  obtain rfl:i=x.length:=by omega
  rw[wF,aY,List.drop_eq_nil_of_le (by omega)];rfl
 | n+1,i,g,hn=>by
  have hi:i<x.length:=by omega
  rw[wF,aR hi,aG hi,cond_true,Option.bind_some,QB _ (hx _ (List.getElem_mem hi)),Option.bind_some,aT (by omega),Pd x hl hx n (i+1) _ (by omega),List.drop_eq_getElem_cons hi];rfl
theorem QG(x:List Int)(hl:x.length<=68719476736)(hx:∀y∈x,cZ y=true):lO x=some ((((gl x 0:Nat):Int),()),()):=by
 rw[QF];have:=Pd x hl hx x.length 0 0 (by omega);simpa using this
def bI(a:aa):Bool := !(decide ((a.1.length:Int)>4))&&(cZ a.2.1&&(a.1.all cZ&&decide (((gl a.1 a.2.1.natAbs:Nat):Int)<=1)))
theorem qJ(a:aa):lP a=some ((bI a,()),()):=by
 rw[abY,QR];unfold bI;cases h:decide ((a.1.length:Int)>4)with
 | true=>rfl
 | false =>
  have hl:a.1.length<=68719476736:=by simp at h;omega
  simp only[cond_false,Option.bind_some,Bool.not_false,Bool.true_and];cases hk:cZ a.2.1 with
  | false=>rfl
  | true =>
   simp only[Bool.not_true,cond_false,Bool.true_and];have:=kO a.1 cZ (some ((false,()),())) (qu a (a.1.length:Int)) (λi=>qu a i) hl (λi hi=>by
    rw[Pp,aG hi,aT (by omega)];simp only[aR hi,cond_true,Option.bind_some,QR];cases cZ a.1[i]<;>rfl) rfl a.1.length 0 (by omega)
   simp only[List.drop_zero,Int.natCast_zero]at this;rw[show qu a 0=_ from this];cases ha:a.1.all cZ with
   | false=>rfl
   | true =>
    rw[cond_true,Pp,aY,cond_false,QV a.1 _ hl (List.all_eq_true.1 ha) hk];rfl
theorem nj(a:aa):jL a=some ((bI a,()),()):=by
 rw[aaZ,Qy];unfold bI;cases h:decide ((a.1.length:Int)>4)with
 | true=>rfl
 | false =>
  have hl:a.1.length<=68719476736:=by simp at h;omega
  simp only[cond_false,Option.bind_some,Bool.not_false,Bool.true_and];cases hk:cZ a.2.1 with
  | false=>rfl
  | true =>
   simp only[Bool.not_true,cond_false,Bool.true_and];have:=kO a.1 cZ (some ((false,()),())) (qo a a.1 (a.1.length:Int) (a.1.length:Int)) (λi=>qo a a.1 (a.1.length:Int) i) hl (λi hi=>by
    rw[OW,aG hi,aT (by omega)];simp only[aR hi,cond_true,Option.bind_some,Qy];cases cZ a.1[i]<;>rfl) rfl a.1.length 0 (by omega)
   simp only[List.drop_zero,Int.natCast_zero]at this;rw[show qo a a.1 (a.1.length:Int) 0=_ from this];cases ha:a.1.all cZ with
   | false=>rfl
   | true =>
    rw[cond_true,OW,aY,cond_false,QG a.1 hl (List.all_eq_true.1 ha),Option.bind_some,QB _ hk,Option.bind_some,<-G7];rfl
def bE(c:an):Bool:=c.2.all (λa=>bI a && !((a.1.length:Int) != c.1))&&(decide (0<=c.1)&&decide (c.1<=4)&&decide ((c.2.length:Int)<=16))
theorem oA(c:an)(hl:c.2.length<=68719476736):kJ c=some ((bE c,()),()):=by
 rw[abZ];have:=kO c.2 (λa=>bI a && !((a.1.length:Int) != c.1)) (some ((false,()),())) (qv c (c.2.length:Int)) (λi=>qv c i) hl (λi hi=>by
  rw[Pq,aG hi,aT (by omega)];simp only[aR hi,cond_true,Option.bind_some,qJ];cases bI c.2[i]<;>cases ((c.2[i].1.length:Int) != c.1)<;>rfl) rfl c.2.length 0 (by omega)
 simp only[List.drop_zero,Int.natCast_zero]at this;rw[show qv c 0=_ from this,Pq,aY,kK];unfold bE;cases c.2.all _<;>cases (decide (0<=c.1)&&decide (c.1<=4))<;>rfl
theorem nk(c:an):jM c=some ((bE c,()),()):=by
 rw[aa0];unfold bE;by_cases h1:c.1<0
 ·have:¬(0<=c.1):=by omega
  simp[h1,this]
 by_cases h2:c.1>4
 ·have:¬(c.1<=4):=by omega
  simp[h1,h2,this]
 by_cases h3:(c.2.length:Int)>16
 ·have:¬((c.2.length:Int)<=16):=by omega
  simp only[h1,h2,h3,this,decide_false,decide_true,cond_false,cond_true,Bool.and_false]
 ·have e1:0<=c.1:=by omega
  have e2:c.1<=4:=by omega
  have e3:(c.2.length:Int)<=16:=by omega
  simp only[h1,h2,h3,e1,e2,e3,decide_false,decide_true,cond_false,Bool.and_self,Bool.and_true];have:=kO c.2 (λa=>bI a && !((a.1.length:Int) != c.1)) (some ((false,()),())) (some ((true,()),())) (λi=>sP c c.2 (c.2.length:Int) i) (by omega) (λi hi=>by
   rw[OX,aG hi,aT (by omega)];simp only[aR hi,cond_true,Option.bind_some,nj];cases bI c.2[i]<;>cases ((c.2[i].1.length:Int) != c.1)<;>rfl) (by rw[OX,aY];rfl) c.2.length 0 (by omega)
  simp only[List.drop_zero,Int.natCast_zero]at this;rw[show sP c c.2 (c.2.length:Int) 0=_ from this];cases c.2.all _<;>rfl
def vA(d:Int)(r:Rw):Bool:=ij r.1 97 122&&(bE r.2 && !(r.2.1 != d))
def pR(r:Rel):Bool:=ij r.1 65 90&&(decide (0<=r.2.1)&&decide (r.2.1<=4)&&(decide ((r.2.2.length:Int)<=8)&&r.2.2.all (vA r.2.1)))
theorem aca(r:Rel)(h:gL r):yc r=some ((pR r,()),()):=by
 obtain⟨h0,hl,hg⟩:=h;rw[ab9];have:=kO r.2.2 (vA r.2.1) (some ((false,()),())) (qy r (r.2.2.length:Int)) (λi=>qy r i) hl (λi hi=>by
  have Bt:=hg _ (List.getElem_mem hi);rw[Px,aG hi,aT (by omega)];simp only[aR hi,cond_true,Option.bind_some,ER _ _ _ Bt.1,oA _ Bt.2.1];unfold vA;cases ij r.2.2[i].1 97 122<;>cases bE r.2.2[i].2<;>cases (r.2.2[i].2.1 != r.2.1)<;>rfl) rfl r.2.2.length 0 (by omega)
 simp only[List.drop_zero,Int.natCast_zero]at this;rw[show qy r 0=_ from this,Px,aY,kK,ER _ _ _ h0];unfold pR;cases r.2.2.all _<;>cases ij r.1 65 90<;>cases (decide (0<=r.2.1)&&decide (r.2.1<=4))<;>cases decide ((r.2.2.length:Int)<=8)<;>rfl
theorem abb(r:Rel):xI r=some ((pR r,()),()):=by
 rw[aba,abD];unfold pR;cases ij r.1 65 90 with
 | false=>rfl
 | true =>
  simp only[Option.bind_some,Bool.not_true,cond_false,Bool.true_and];by_cases h1:r.2.1<0
  ·have:¬(0<=r.2.1):=by omega
   simp[h1,this]
  by_cases h2:r.2.1>4
  ·have:¬(r.2.1<=4):=by omega
   simp[h1,h2,this]
  by_cases h3:(r.2.2.length:Int)>8
  ·have:¬((r.2.2.length:Int)<=8):=by omega
   simp only[h1,h2,h3,this,decide_false,decide_true,cond_false,cond_true,Bool.and_false,Bool.false_and]
  ·have e1:0<=r.2.1:=by omega
   have e2:r.2.1<=4:=by omega
   have e3:(r.2.2.length:Int)<=8:=by omega
   simp only[h1,h2,h3,e1,e2,e3,decide_false,decide_true,cond_false,Bool.and_self,Bool.true_and];have:=kO r.2.2 (vA r.2.1) (some ((false,()),())) (some ((true,()),())) (λi=>sS r r.2.2 (r.2.2.length:Int) i) (by omega) (λi hi=>by
    rw[O2,aG hi,aT (by omega)];simp only[aR hi,cond_true,Option.bind_some,QJ,nk];unfold vA;cases ij r.2.2[i].1 97 122<;>cases bE r.2.2[i].2<;>cases (r.2.2[i].2.1 != r.2.1)<;>rfl) (by rw[O2,aY];rfl) r.2.2.length 0 (by omega)
   simp only[List.drop_zero,Int.natCast_zero]at this;rw[show sS r r.2.2 (r.2.2.length:Int) 0=_ from this];cases r.2.2.all _<;>rfl
def named(n:ByteArray)(r:Rel):Bool:=r.1.toList==n.toList
theorem QQ(x:List Rel)(n:ByteArray)(hl:x.length<=68719476736):qI x n=some ((dz (named n) x,()),()):=by
 rw[abV];exact G2 x (named n) (λi=>some ((i,()),())) (λi=>wI x n i) (λi hi=>by
  rw[Po,aG hi,aT (by omega)];simp only[aR hi,cond_true,Option.bind_some];rfl) (by rw[Po,aY];rfl) x.length 0 (by omega) (λj _ h=>by omega)
theorem Qx(x:List Rel)(n:ByteArray)(hl:x.length<=68719476736):tj x n=some ((dz (named n) x,()),()):=by
 rw[aaW];exact G2 x (named n) (λi=>some ((i,()),())) (λi=>wA x n x (x.length:Int) i) (λi hi=>by
  rw[OV,aG hi,aT (by omega)];simp only[aR hi,cond_true,Option.bind_some];rfl) (by rw[OV,aY];rfl) x.length 0 (by omega) (λj _ h=>by omega)
theorem afb(p:α->Bool)(x:List α)(i:Nat)(hi:i<x.length)(hp:p x[i]=true):decide (dz p (x.take i)>=0)=(dz p x != (i:Int)):=by
 have h1:x.findIdx p<=i:=Nat.le_of_not_lt λh=>by
  have:=List.not_of_lt_findIdx h;rw[hp]at this;cases this
 have h2:(x.take i).findIdx p=min i (x.findIdx p):=List.findIdx_take;have h3:(x.take i).length=i:=by simp;omega
 unfold dz;rw[h2,h3,if_pos (by omega:x.findIdx p<x.length)];by_cases h:x.findIdx p=i
 ·rw[if_neg (by omega),h];simp
 ·rw[if_pos (by omega)];have e1:((x.findIdx p:Nat):Int)≠(i:Int):=by omega
  have e2:((min i (x.findIdx p):Nat):Int)>=0:=by omega
  simp[e1,e2]
def qU(p:Nat->Bool):Nat->Nat->Bool
 | 0,_=>true
 | n+1,i=>p i&&qU p n (i+1)
theorem H7(l:Nat)(p:Nat->Bool)(F E:Option R)(f:Int->Option R)
  (h1:∀(i:Nat),i<l->f (i:Int)=bif p i then f ((i+1:Nat):Int)else F) (h2:f (l:Int)=E) :
  ∀(n i:Nat),n+i=l->f (i:Int)=bif qU p n i then E else F
 | 0,i,hn=>by
  obtain rfl:i=l:=by omega
  rw[h2];rfl
 | n+1,i,hn=>by
  rw[h1 i (by omega),H7 l p F E f h1 h2 n (i+1) (by omega)];cases h:p i<;>simp[qU,h]
def oN(x:List Rel)(i:Nat):Bool:=match x[i]? with
 | some r=>pR r && !(decide (dz (named r.1) (x.take i)>=0))
 | none=>true
def lU(x:List Rel):Bool:=qU (oN x) x.length 0&&decide ((x.length:Int)<=6)
theorem ab1(x:List Rel)(h:x.length<=68719476736/\∀a∈x,gL a):xX x=some ((lU x,()),()):=by
 obtain⟨hl,hg⟩:=h;rw[ab0];have:=H7 x.length (oN x) (some ((false,()),())) (qw x (x.length:Int)) (λi=>qw x i) (λi hi=>by
  rw[Pr,aG hi,aT (by omega)];have e:(decide ((0:Int)<=(i:Int))&&decide ((i:Int)<=(x.length:Int)))=true:=by simp;omega
  have e2:qI (List.drop (Int.toNat 0) (List.take ((i:Int)).toNat x)) x[i].1=some ((dz (named x[i].1) (x.take i),()),()):=by
   have:List.drop (Int.toNat 0) (List.take ((i:Int)).toNat x)=x.take i:=by simp
   rw[this];exact QQ _ _ (by simp;omega)
  have e0:(decide (0<=0)&&decide ((0:Int)<=(i:Int))&&decide ((i:Int)<=(x.length:Int)))=true:=by simp;omega
  simp only[aR hi,cond_true,Option.bind_some,aca _ (hg _ (List.getElem_mem hi)),e2];rw[e0];unfold oN;rw[List.getElem?_eq_getElem hi];simp only[];cases pR x[i]<;>cases decide (dz (named x[i].1) (x.take i)>=0)<;>rfl) rfl x.length 0 (by omega)
 simp only[Int.natCast_zero]at this;rw[show qw x 0=_ from this,Pr,aY];unfold lU;cases qU (oN x) x.length 0<;>rfl
theorem aa2(x:List Rel):xE x=some ((lU x,()),()):=by
 rw[aa1];unfold lU;by_cases h:(x.length:Int)>6
 ·have:¬((x.length:Int)<=6):=by omega
  simp only[h,this,decide_true,decide_false,cond_true,Bool.and_false]
 ·have e:(x.length:Int)<=6:=by omega
  simp only[h,e,decide_true,decide_false,cond_false,Bool.and_true];have:=H7 x.length (oN x) (some ((false,()),())) (some ((true,()),())) (λi=>sQ x x (x.length:Int) i) (λi hi=>by
   rw[OY,aG hi,aT (by omega)];simp only[aR hi,cond_true,Option.bind_some,abb,Qx _ _ (show x.length<=68719476736 by omega)];unfold oN;rw[List.getElem?_eq_getElem hi];simp only[];rw[afb _ x i hi (by simp[named])];cases pR x[i]<;>cases (dz (named x[i].1) x != (i:Int))<;>rfl) (by rw[OY,aY];rfl) x.length 0 (by omega)
  simp only[Int.natCast_zero]at this;rw[show sQ x x (x.length:Int) 0=_ from this];cases qU (oN x) x.length 0<;>rfl
theorem R1(p:α->Bool)(x:List α):(decide (dz p x<0)=true)\/(decide (dz p x<0)=false/\∃y,ab x (dz p x)=some y):=by
 unfold dz;by_cases h:x.findIdx p<x.length
 ·right;rw[if_pos h];refine⟨by simp,x[x.findIdx p],aG h⟩
 ·left;rw[if_neg h];decide
def emp(x:ByteArray):Bool:=x.toList==(ByteArray.mk #[]).toList
def oo(a:aa):Bool:=((a.1.length:Int)==0)&&((a.2.1==0) && !a.2.2)
def fO(v:Int):Bool:=decide (0<=v)&&decide (v<=3)
def B7(n:aM):Bool:=emp n.2.2.1&&(emp n.2.2.2.1 && !decide ((n.2.2.2.2.1.length:Int)>0))
def Iq(x:ByteArray):Bool:=emp x||ij x 97 122
def r9(db:List Rel)(n:aM):Bool:=(n.2.2.2.2.1.all fO)&&(!decide (dz (named n.2.2.1) db<0)&&(match ab db (dz (named n.2.2.1) db)with
 | some r=>(r.2.1==(n.2.2.2.2.1.length:Int))&&Iq n.2.2.2.1
 | none=>false))
theorem acJ(a:aa):EP a=some ((oo a,()),()):=by
 rw[acI];unfold oo;generalize ((a.1.length:Int)==0)=b1;generalize (a.2.1==0)=b2;cases b1<;>cases b2<;>rfl
theorem abJ(a:aa):EI a=some ((oo a,()),()):=by
 rw[abI];unfold oo;generalize ((a.1.length:Int)==0)=b1;generalize (a.2.1==0)=b2;cases b1<;>cases b2<;>rfl
theorem QK(v:Int):xT v=some ((fO v,()),()):=by
 rw[abG];unfold fO;by_cases h:v>=0
 ·have:(v<4)=(v<=3):=by apply propext;omega
  simp[h,this]
 ·have:¬0<=v:=by omega
  simp[h]
theorem ZR(db:List Rel)(n:aM)(hb:zN n<=68719476736):qC db n (dz (named n.2.2.1) db) 0=some ((r9 db n,()),()):=by
 have hz:zN n=zA n.2.1+zB n.2.2.1+zB n.2.2.2.1+zI n.2.2.2.2.1:=rfl;have:=kM n.2.2.2.2.1 fO (some ((false,()),())) (qC db n (dz (named n.2.2.1) db) (n.2.2.2.2.1.length:Int)) (λi=>qC db n (dz (named n.2.2.1) db) i) (by unfold zI at hz;omega) (λi hi=>by
  rw[PT,aG hi,aR hi,aT (by unfold zI at hz;omega)];simp only[cond_true,Option.bind_some,kK];change (bif !fO _ then _ else _)=_;cases fO n.2.2.2.2.1[i]<;>rfl) rfl
 rw[this,PT,aY,cond_false];unfold r9;have hd:decide (dz (named n.2.2.1) db>=0) = !decide (dz (named n.2.2.1) db<0):=by
  by_cases h:dz (named n.2.2.1) db<0
  ·have:¬dz (named n.2.2.1) db>=0:=by omega
   simp[h]
  ·have:dz (named n.2.2.1) db>=0:=by omega
   simp[h,this]
 rw[hd,ER _ _ _ (by unfold zB at hz;omega)];cases n.2.2.2.2.1.all fO with
 | false=>rfl
 | true =>
  rcases R1 (named n.2.2.1) db with h|⟨h,r,hr⟩
  ·rw[h];rfl
  ·rw[h,hr];simp only[Bool.not_false,cond_true,Option.bind_some,Bool.true_and];unfold Iq emp;generalize (r.2.1==(n.2.2.2.2.1.length:Int))=b1;generalize (ByteArray.toList n.2.2.2.1==(ByteArray.mk #[]).toList)=b2;cases b1<;>cases b2<;>rfl
def pA(db:List Rel)(n:aM):Bool:=bif n.1==0 then bI n.2.1&&((n.2.1.1.length:Int)==4)else bif n.1==1 then r9 db n else (decide (2<=n.1)&&decide (n.1<=6))&&fO n.2.2.2.2.2.1
theorem ZL(db:List Rel)(n:aM)(hd:db.length<=68719476736)(hb:zN n<=68719476736):eT db n=some ((pA db n,()),()):=by
 rw[ZK,qJ,QQ _ _ hd];simp only[Option.bind_some,ZR db n hb,kK];unfold pA fO;generalize (n.1==0)=b0;generalize (n.1==1)=b1;generalize (bI n.2.1)=b2;generalize (decide (2<=n.1)&&decide (n.1<=6))=b3;cases b0<;>cases b1<;>cases b2<;>cases b3<;>rfl
def gD(n:aM):Bool:=((n.1==3||n.1==4)||n.2.2.2.2.2.2.2==0)&&(!decide (n.1<=1)||n.2.2.2.2.2.2.1==0)
def sB(n:aM):Bool:=(n.1==5||n.1==6)||n.2.2.2.2.2.1==0
theorem ZJ(db:List Rel)(n:aM)(hd:db.length<=68719476736)(hb:zN n<=68719476736):qm db n=some ((sB n&&(gD n&&pA db n),()),()):=by
 rw[ZI,ZL db n hd hb];unfold sB gD;simp only[bne];generalize (n.1==5)=b5;generalize (n.1==6)=b6;generalize (n.1==3)=b3;generalize (n.1==4)=b4;generalize (decide (n.1<=1))=b1;generalize (n.2.2.2.2.2.1==0)=c1;generalize (n.2.2.2.2.2.2.1==0)=c2;generalize (n.2.2.2.2.2.2.2==0)=c3;cases b5<;>cases b6<;>cases b3<;>cases b4<;>cases b1<;>cases c1<;>cases c2<;>cases c3<;>rfl
def r3(db:List Rel)(n:aM):Bool:=(n.1==0||oo n.2.1)&&((n.1==1||B7 n)&&(sB n&&(gD n&&pA db n)))
theorem acL(db:List Rel)(n:aM)(hd:db.length<=68719476736)(hb:zN n<=68719476736):yo db n=some ((r3 db n,()),()):=by
 rw[acK,ZJ db n hd hb,acJ];unfold r3 B7 emp;simp only[bne,Option.bind_some];generalize (n.1==0)=b0;generalize (n.1==1)=b1;generalize oo n.2.1=b2;generalize (ByteArray.toList n.2.2.1==(ByteArray.mk #[]).toList)=b3;generalize (ByteArray.toList n.2.2.2.1==(ByteArray.mk #[]).toList)=b4;generalize (decide ((n.2.2.2.2.1.length:Int)>0))=b5;generalize (sB n&&(gD n&&pA db n))=b6;cases b0<;>cases b1<;>cases b2<;>cases b3<;>cases b4<;>cases b5<;>rfl
theorem ZB(n:aM)(hb:n.2.2.2.2.1.length<=68719476736):wk n=some ((n.2.2.2.2.1.all fO,()),()):=by
 rw[ZA];have:=kM n.2.2.2.2.1 fO (some ((false,()),())) (some ((true,()),())) (λi=>wG n n.2.2.2.2.1 (n.2.2.2.2.1.length:Int) i) hb (λi hi=>by
  rw[Pe,aG hi,aR hi,aT (by omega)];simp only[cond_true,Option.bind_some,QK];cases fO n.2.2.2.2.1[i]<;>rfl) (by rw[Pe,aY];rfl)
 rw[this];cases n.2.2.2.2.1.all fO<;>rfl
def rQ(db:List Rel)(n:aM):Bool:=bif n.1==0 then (n.2.2.2.2.2.1==0)&&(bI n.2.1&&((n.2.1.1.length:Int)==4))else bif n.1==1 then (n.2.2.2.2.2.1==0)&&r9 db n else bif n.1==5||n.1==6 then fO n.2.2.2.2.2.1 else n.2.2.2.2.2.1==0
theorem ZE(db:List Rel)(n:aM)(hd:db.length<=68719476736)(hb:zN n<=68719476736):wm db n=some ((rQ db n,()),()):=by
 have hz:zN n=zA n.2.1+zB n.2.2.1+zB n.2.2.2.1+zI n.2.2.2.2.1:=rfl;rw[ZD,nj,Qx _ _ hd,QJ,ZB n (by unfold zI at hz;omega),NH,NH,QK];simp only[Option.bind_some,bne];unfold rQ r9 Iq emp;rcases R1 (named n.2.2.1) db with h|⟨h,r,hr⟩
 ·rw[h];generalize (n.1==0)=b0;generalize (n.1==1)=b1;generalize (n.1==5)=b5;generalize (n.1==6)=b6;generalize (n.2.2.2.2.2.1==0)=c1;generalize (bI n.2.1)=b2;generalize (n.2.2.2.2.1.all fO)=b3;cases b0<;>cases b1<;>cases b5<;>cases b6<;>cases c1<;>cases b2<;>cases b3<;>rfl
 ·rw[h,hr];simp only[Option.bind_some];generalize (n.1==0)=b0;generalize (n.1==1)=b1;generalize (n.1==5)=b5;generalize (n.1==6)=b6;generalize (n.2.2.2.2.2.1==0)=c1;generalize (bI n.2.1)=b2;generalize (n.2.2.2.2.1.all fO)=b3;generalize (r.2.1==(n.2.2.2.2.1.length:Int))=c2;generalize (ByteArray.toList n.2.2.2.1==(ByteArray.mk #[]).toList)=c3;generalize ij n.2.2.2.1 97 122=c4;cases b0<;>cases b1<;>cases b5<;>cases b6<;>cases c1<;>cases b2<;>cases b3<;>cases c2<;>cases c3<;>cases c4<;>rfl
def tW(db:List Rel)(n:aM):Bool:=(n.1==0||oo n.2.1)&&((n.1==1||B7 n)&&rQ db n)
theorem abx(db:List Rel)(n:aM)(hd:db.length<=68719476736)(hb:zN n<=68719476736):xR db n=some ((tW db n,()),()):=by
 rw[abw,ZC,ZE db n hd hb,abJ];unfold tW B7 emp;simp only[bne,Option.bind_some];generalize (n.1==0)=b0;generalize (n.1==1)=b1;generalize oo n.2.1=b2;generalize (ByteArray.toList n.2.2.1==(ByteArray.mk #[]).toList)=b3;generalize (ByteArray.toList n.2.2.2.1==(ByteArray.mk #[]).toList)=b4;generalize (decide ((n.2.2.2.2.1.length:Int)>0))=b5;generalize rQ db n=b6;cases b0<;>cases b1<;>cases b2<;>cases b3<;>cases b4<;>cases b5<;>rfl
theorem ajq(db:List Rel)(n:aM):r3 db n=(tW db n&&(gD n&&(decide (0<=n.1)&&decide (n.1<=6)))):=by
 unfold r3 tW;have key:(sB n&&(gD n&&pA db n))=(rQ db n&&(gD n&&(decide (0<=n.1)&&decide (n.1<=6)))):=by
  unfold sB pA rQ;by_cases h0:n.1=0
  ·rw[h0];cases (n.2.2.2.2.2.1==0)<;>cases gD n<;>cases (bI n.2.1&&((n.2.1.1.length:Int)==4))<;>rfl
  by_cases h1:n.1=1
  ·rw[h1];cases (n.2.2.2.2.2.1==0)<;>cases gD n<;>cases r9 db n<;>rfl
  by_cases h2:2<=n.1/\n.1<=6
  ·have e0:(n.1==0)=false:=by simpa using h0
   have e1:(n.1==1)=false:=by simpa using h1
   have e2:decide (2<=n.1)=true:=by simp[h2.1]
   have e3:decide (n.1<=6)=true:=by simp[h2.2]
   have e4:decide (0<=n.1)=true:=by simp;omega
   rw[e0,e1,e2,e3,e4];by_cases h5:n.2.2.2.2.2.1=0
   ·rw[h5];cases (n.1==5)<;>cases (n.1==6)<;>cases gD n<;>rfl
   ·have e5:(n.2.2.2.2.2.1==0)=false:=by simpa using h5
    rw[e5];cases (n.1==5)<;>cases (n.1==6)<;>cases gD n<;>cases fO n.2.2.2.2.2.1<;>rfl
  ·have e0:(n.1==0)=false:=by simpa using h0
   have e1:(n.1==1)=false:=by simpa using h1
   have e2:(decide (2<=n.1)&&decide (n.1<=6))=false:=by
    rw[Bool.and_eq_false_iff];by_cases h:2<=n.1
    ·right;simp;omega
    ·left;simp;omega
   have e3:(decide (0<=n.1)&&decide (n.1<=6))=false:=by
    rw[Bool.and_eq_false_iff];by_cases h:0<=n.1
    ·right;simp;omega
    ·left;simp;omega
   rw[e0,e1,e2,e3];simp
 rw[key];simp only[Bool.and_assoc]
def ar(k:Int):Nat:=bif k==3||k==4 then 2 else bif decide (k>1)then 1 else 0
def fy(n:aM)(i:Int)(T:List Int):Option (List Int):=match ar n.1,T with
 | 0,T=>some (i::T)
 | 1,r::T=>bif r==n.2.2.2.2.2.2.1 then some (i::T)else none
 | 2,r::s::T=>bif r==n.2.2.2.2.2.2.2 then bif s==n.2.2.2.2.2.2.1 then some (i::T)else none else none
 | _,_=>none
def nE(db:List Rel):List aM->Int->List Int->Bool
 | [],_,T=>(T.length:Int)==1
 | n::l,i,T=>bif r3 db n then (match fy n i T with
  | some T'=>nE db l (i+1) T'
  | none=>false)else false
theorem aeH(k:Int):ar k=0\/ar k=1\/ar k=2:=by
 unfold ar;cases (k==3||k==4)<;>cases decide (k>1)<;>simp
theorem nF(x:List α){i:Int}(j:Nat)(h:i=(j:Int))(hj:j<x.length):ab x i=some x[j]:=by
 subst h;exact aG hj
theorem Sp(T:List α)(r:α):ab (r::T).reverse (((r::T).reverse.length:Int) - 1)=some r:=by
 rw[nF _ T.length (by simp) (by simp)];simp
theorem afp(T:List α)(r s:α):ab (r::s::T).reverse (((r::s::T).reverse.length:Int) - 2)=some s:=by
 rw[nF _ T.length (by simp<;>omega) (by simp<;>omega)];simp[List.getElem_append]
theorem CV(db:List Rel)(f:List aM)(T U:List Int)(i:Nat)(m:Nat)(hi:i<=1000000)(hT:(U.reverse++T.reverse).length<=1000000)(hm:U.length=m):
  ni db f (T.reverse++U.reverse) (i:Int) (m:Int) ((T.reverse++U.reverse).length:Int)=qx db f ((i:Int)::T).reverse ((i+1:Nat):Int):=by
 have hl:(T.reverse++U.reverse).length=T.length+m:=by simp[hm]
 have hle:T.length+m<=1000000:=by simp at hT;omega
 rw[ZH,hl,bZ (by omega) (by omega)];have e1:((T.length+m:Nat):Int) - (m:Int)=(T.length:Int):=by omega
 rw[e1,aT (by omega)];have e2:(List.drop (Int.toNat 0) (List.take (Int.toNat (T.length:Int)) (T.reverse++U.reverse)))=T.reverse:=by
  rw[Int.toNat_natCast];simp
 rw[e2];have d1:decide ((0:Int)<=(T.length:Int))=true:=by simp
 have d2:decide ((T.length:Int)<=((T.length+m:Nat):Int))=true:=decide_eq_true (by omega);have d3:decide ((0+T.reverse.length)*8<=140737488355328)=true:=by simp;omega
 have d4:decide ((T.reverse.length+1)*8<=140737488355328)=true:=by simp;omega
 rw[d1,d2,d3,d4];simp
theorem ZG(db:List Rel)(f:List aM)(T:List Int)(i:Nat)(h:i<f.length)(hl:f.length<=1000000)(hT:T.length<=i):
  jK db f T.reverse (i:Int) ((ar f[i].1:Nat):Int)=match fy f[i] i T with
   | some T'=>qx db f T'.reverse ((i+1:Nat):Int)
   | none=>some ((false,()),()):=by
 rw[ZF];unfold fy;rcases aeH f[i].1 with hm|hm|hm
 ·rw[hm];have d:decide ((T.reverse.length:Int)<((0:Nat):Int))=false:=by simp
  have:=CV db f T [] i 0 (by omega) (by simp;omega) rfl;simp only[List.reverse_nil,List.append_nil]at this;rw[d];exact this
 ·rw[hm];cases T with
  | nil=>rfl
  | cons r T =>
   have d:decide (((r::T).reverse.length:Int)<((1:Nat):Int))=false:=decide_eq_false (by simp only[List.length_reverse,List.length_cons];omega);have hw:IntKind.i64.wrap (((r::T).reverse.length:Int) - 1)=((r::T).reverse.length:Int) - 1:=bZ (by simp only[List.length_reverse,List.length_cons];omega) (by simp only[List.length_reverse,List.length_cons]at hT ⊢;omega);have:=CV db f T [r] i 1 (by omega) (by simp only[List.length_append,List.length_reverse,List.length_cons,List.length_nil]at hT ⊢;omega) rfl;rw[show T.reverse++[r].reverse=(r::T).reverse by simp]at this;rw[d,hw,Sp,aG h];simp only[cond_false,Option.bind_some];change (bif r != f[i].2.2.2.2.2.2.1 then _ else ni db f (r::T).reverse (i:Int) ((1:Nat):Int) ((r::T).reverse.length:Int))=_;rw[this];simp only[bne];cases (r==f[i].2.2.2.2.2.2.1)<;>rfl
 ·rw[hm]
  match T,hT with
  | [],_=>rfl
  | [r],_=>rfl
  | r::s::T,hT =>
   have d:decide (((r::s::T).reverse.length:Int)<((2:Nat):Int))=false:=decide_eq_false (by simp only[List.length_reverse,List.length_cons];omega);have hw:IntKind.i64.wrap (((r::s::T).reverse.length:Int) - 1)=((r::s::T).reverse.length:Int) - 1:=bZ (by simp only[List.length_reverse,List.length_cons];omega) (by simp only[List.length_reverse,List.length_cons]at hT ⊢;omega);have hw2:IntKind.i64.wrap (((r::s::T).reverse.length:Int) - 2)=((r::s::T).reverse.length:Int) - 2:=bZ (by simp only[List.length_reverse,List.length_cons];omega) (by simp only[List.length_reverse,List.length_cons]at hT ⊢;omega);have:=CV db f T [r,s] i 2 (by omega) (by simp only[List.length_append,List.length_reverse,List.length_cons,List.length_nil]at hT ⊢;omega) rfl;rw[show T.reverse++[r,s].reverse=(r::s::T).reverse by simp]at this;rw[d,hw,hw2,Sp,afp,aG h];simp only[cond_false,Option.bind_some];change (bif r != f[i].2.2.2.2.2.2.2 then _ else bif s != f[i].2.2.2.2.2.2.1 then _ else ni db f (r::s::T).reverse (i:Int) ((2:Nat):Int) ((r::s::T).reverse.length:Int))=_;rw[this];simp only[bne];cases (r==f[i].2.2.2.2.2.2.2)<;>cases (s==f[i].2.2.2.2.2.2.1)<;>rfl
theorem ak4{n:aM}{i:Int}{T T':List Int}(h:fy n i T=some T'):T'.length<=T.length+1:=by
 unfold fy at h;split at h
 ·injection h with h;subst h;simp
 ·rename_i r T0 _;cases hc:(r==n.2.2.2.2.2.2.1)with
  | true=>rw[hc]at h;injection h with h;subst h;simp
  | false=>rw[hc]at h;cases h
 ·rename_i r s T0 _;cases hc:(r==n.2.2.2.2.2.2.2)with
  | true =>
   rw[hc]at h;cases hs:(s==n.2.2.2.2.2.2.1)with
   | true=>rw[hs]at h;injection h with h;subst h;simp
   | false=>rw[hs]at h;cases h
  | false=>rw[hc]at h;cases h
 ·cases h
theorem Pv(db:List Rel)(f:List aM)(hd:db.length<=68719476736)(hf:∀n∈f,zN n<=68719476736)(hl:f.length<=1000000):
  ∀(n i:Nat) (T:List Int),n+i=f.length->T.length<=i->qx db f T.reverse (i:Int)=some ((nE db (f.drop i) i T,()),())
 | 0,i,T,hn,hT=>by
  obtain rfl:i=f.length:=by omega
  rw[Pu,aY,List.drop_eq_nil_of_le (by omega),List.length_reverse];rfl
 | n+1,i,T,hn,hT=>by
  have hi:i<f.length:=by omega
  rw[Pu,aR hi,aG hi,List.drop_eq_getElem_cons hi];simp only[cond_true,Option.bind_some,acL db _ hd (hf _ (List.getElem_mem hi))];unfold nE;cases r3 db f[i]with
  | false=>rfl
  | true =>
   simp only[Bool.not_true,cond_false,cond_true];have e:(bif f[i].1==3 then jK db f T.reverse (i:Int) 2 else bif f[i].1==4 then jK db f T.reverse (i:Int) 2 else bif decide (f[i].1>1)then jK db f T.reverse (i:Int) 1 else jK db f T.reverse (i:Int) 0)=jK db f T.reverse (i:Int) ((ar f[i].1:Nat):Int):=by
    unfold ar;cases (f[i].1==3)<;>cases (f[i].1==4)<;>cases decide (f[i].1>1)<;>rfl
   rw[e,ZG db f T i hi hl hT];cases hs:fy f[i] (i:Int) T with
   | none=>rfl
   | some T' =>
    have:=ak4 hs;simp only[];rw[Pv db f hd hf hl n (i+1) T' (by omega) (by omega)];simp
def eS(st:List Int):List Int->Int->Prop
 | [],nx=>nx = -1
 | r::T,nx=>r=nx/\∃(j:Nat) (v:Int),r=(j:Int)/\st[j]?=some v/\0<=v/\v<=r/\eS st T (v - 1)
theorem eS.set{st:List Int}{v:Int}:∀{T:List Int} {nx:Int},eS st T nx->nx<i->eS (st.set i v) T nx
 | [],nx,h,_=>h
 | r::T,nx,h,hi=>by
  simp only[eS]at h ⊢;obtain⟨h1,j,w,h2,h3,h4,h5,h6⟩:=h;refine⟨h1,j,w,h2,?_,h4,h5,eS.set h6 (by omega)⟩;rw[List.getElem?_set_ne (by omega)];exact h3
theorem abQ(k:Int):EJ k=some ((bif k==0||k==1 then 0 else bif k==2||(k==5||k==6)then 1 else bif k==3||k==4 then 2 else -1,()),()):=by
 rw[abP];cases (k==0)<;>cases (k==1)<;>cases (k==2)<;>cases (k==5)<;>cases (k==6)<;>cases (k==3)<;>cases (k==4)<;>rfl
theorem akm(x:α)(k:α->Option β):(some x).bind k=k x:=rfl
theorem O0(db:List Rel)(f:List aM)(hd:db.length<=68719476736)(hf:∀n∈f,zN n<=68719476736)(hl:f.length<=1000000)(h0:f.length≠0):
  ∀(n i:Nat) (st T:List Int),n+i=f.length->st.length=f.length->eS st T ((i:Int) - 1)->sR db f st f (f.length:Int) (i:Int)=some ((nE db (f.drop i) i T,()),())
 | 0,i,st,T,hn,aX,hT=>by
  obtain rfl:i=f.length:=by omega
  rw[OZ,aY,List.drop_eq_nil_of_le (by omega),bZ (by omega) (by omega)];cases T with
  | nil=>simp only[eS]at hT;omega
  | cons r T =>
   simp only[eS]at hT;obtain⟨h1,j,v,h2,h3,h4,h5,h6⟩:=hT;obtain⟨hj,h3⟩:=List.getElem?_eq_some_iff.1 h3;rw[nF (i:=(f.length:Int) - 1) st j (by omega) hj,h3];simp only[cond_false,Option.bind_some,nE];congr 3;cases T with
   | nil =>
    simp only[eS]at h6;have:v=0:=by omega
    simp[this]
   | cons s T =>
    simp only[eS]at h6;have:v≠0:=by omega
    have e1:(v==0)=false:=by simpa using this
    have e2:(((r::s::T).length:Int)==1)=false:=by simp;omega
    rw[e1,e2]
 | n+1,i,st,T,hn,aX,hT=>by
  have hi:i<f.length:=by omega
  have nQ:i<st.length:=by omega
  have hw:IntKind.i64.wrap ((i:Int) - 1)=(i:Int) - 1:=bZ (by omega) (by omega);rw[OZ,aR hi,aG hi,List.drop_eq_getElem_cons hi,aG nQ,hw];simp only[cond_true,Option.bind_some,abx db _ hd (hf _ (List.getElem_mem hi)),abQ,Zz,aT (show i<=1000000000000 by omega),akm,Int.toNat_natCast];unfold nE;rw[ajq];generalize hN:f[i]=N;cases tW db N with
  | false=>rfl
  | true =>
   simp only[Bool.not_true,cond_false,Bool.true_and];have o6:∀(v:Int) (T':List Int),0<=v->v<=(i:Int)->eS st T' (v - 1)->v - 1<(i:Int)->sR db f (st.set i v) f (f.length:Int) ((i+1:Nat):Int)=some ((nE db (f.drop (i+1)) ((i+1:Nat):Int) ((i:Int)::T'),()),()):=by
    intro v T' HV hv hc au;refine O0 db f hd hf hl h0 n (i+1) _ _ (by omega) (by simpa using aX) ?_;simp only[eS];refine⟨by omega,i,v,rfl,by simp[nQ],HV,hv,hc.set au⟩
   have afJ:((i:Int)+1)=((i+1:Nat):Int):=by omega
   rw[afJ];by_cases rS:N.1=0\/N.1=1
   ·have e1:(N.1==0||N.1==1)=true:=by simpa using rS
    have e2:ar N.1=0:=by rcases rS with h|h<;>rw[h]<;>rfl
    have e3:((N.1==3||N.1==4)||N.2.2.2.2.2.2.2==0)=(N.2.2.2.2.2.2.2==0):=by rcases rS with h|h<;>rw[h]<;>rfl
    have e4:decide (N.1<=1)=true:=by rcases rS with h|h<;>rw[h]<;>rfl
    have e5:(decide (0<=N.1)&&decide (N.1<=6))=true:=by rcases rS with h|h<;>rw[h]<;>rfl
    have e6:fy N (i:Int) T=some ((i:Int)::T):=by unfold fy;rw[e2];rfl
    unfold gD;rw[e1,e3,e4,e5,e6,o6 (i:Int) T (by omega) (by omega) hT (by omega)];simp only[bne];cases (N.2.2.2.2.2.2.1==0)<;>cases (N.2.2.2.2.2.2.2==0)<;>rfl
   ·by_cases k1:N.1=2\/N.1=5\/N.1=6
    ·have e0:(N.1==0||N.1==1)=false:=by rcases k1 with h|h|h<;>rw[h]<;>rfl
     have e1:(N.1==2||(N.1==5||N.1==6))=true:=by rcases k1 with h|h|h<;>rw[h]<;>rfl
     have e2:ar N.1=1:=by rcases k1 with h|h|h<;>rw[h]<;>rfl
     have e3:((N.1==3||N.1==4)||N.2.2.2.2.2.2.2==0)=(N.2.2.2.2.2.2.2==0):=by rcases k1 with h|h|h<;>rw[h]<;>rfl
     have e4:decide (N.1<=1)=false:=by rcases k1 with h|h|h<;>rw[h]<;>rfl
     have e5:(decide (0<=N.1)&&decide (N.1<=6))=true:=by rcases k1 with h|h|h<;>rw[h]<;>rfl
     unfold gD;rw[e0,e1,e3,e4,e5];cases T with
     | nil =>
      simp only[eS]at hT;have ei:((i:Int)==0)=true:=by simp;omega
      have e6:fy N (i:Int) []=none:=by unfold fy;rw[e2];rfl
      rw[ei,e6];cases (N.2.2.2.2.2.2.2==0)<;>rfl
     | cons r T =>
      simp only[eS]at hT;obtain⟨h1,j,v,h2,h3,h4,h5,h6⟩:=hT;obtain⟨hj,h3⟩:=List.getElem?_eq_some_iff.1 h3;have ei:((i:Int)==0)=false:=by simp;omega
      have e6:fy N (i:Int) (r::T)=bif r==N.2.2.2.2.2.2.1 then some ((i:Int)::T)else none:=by unfold fy;rw[e2];rfl
      have e7:(N.2.2.2.2.2.2.1==(i:Int) - 1)=(r==N.2.2.2.2.2.2.1):=by rw[<-h1,Bool.eq_iff_iff];simp only[beq_iff_eq];exact eq_comm
      rw[ei,e6,nF (i:=(i:Int) - 1) st j (by omega) hj,h3];simp only[bne,e7,Option.bind_some];rw[o6 v T h4 (by omega) h6 (by omega)];cases (N.2.2.2.2.2.2.2==0)<;>cases (r==N.2.2.2.2.2.2.1)<;>rfl
    ·by_cases k2:N.1=3\/N.1=4
     ·have e0:(N.1==0||N.1==1)=false:=by rcases k2 with h|h<;>rw[h]<;>rfl
      have e1:(N.1==2||(N.1==5||N.1==6))=false:=by rcases k2 with h|h<;>rw[h]<;>rfl
      have e2:ar N.1=2:=by rcases k2 with h|h<;>rw[h]<;>rfl
      have e3:(N.1==3||N.1==4)=true:=by rcases k2 with h|h<;>rw[h]<;>rfl
      have e4:decide (N.1<=1)=false:=by rcases k2 with h|h<;>rw[h]<;>rfl
      have e5:(decide (0<=N.1)&&decide (N.1<=6))=true:=by rcases k2 with h|h<;>rw[h]<;>rfl
      unfold gD;rw[e0,e1,e3,e4,e5];cases T with
      | nil =>
       simp only[eS]at hT;have ei:((i:Int)==0)=true:=by simp;omega
       have e6:fy N (i:Int) []=none:=by unfold fy;rw[e2];rfl
       rw[ei,e6];rfl
      | cons r T =>
       simp only[eS]at hT;obtain⟨h1,j,v,h2,h3,h4,h5,h6⟩:=hT;obtain⟨hj,h3⟩:=List.getElem?_eq_some_iff.1 h3;have ei:((i:Int)==0)=false:=by simp;omega
       have e7:(N.2.2.2.2.2.2.2==(i:Int) - 1)=(r==N.2.2.2.2.2.2.2):=by rw[<-h1,Bool.eq_iff_iff];simp only[beq_iff_eq];exact eq_comm
       rw[ei,nF (i:=(i:Int) - 1) st j (by omega) hj,h3];simp only[bne,e7,Option.bind_some];cases T with
       | nil =>
        simp only[eS]at h6;have ev:(v==0)=true:=by simp;omega
        have e6:fy N (i:Int) [r]=none:=by unfold fy;rw[e2];rfl
        rw[ev,e6];cases (r==N.2.2.2.2.2.2.2)<;>rfl
       | cons s T =>
        have Be:=h6;simp only[eS]at Be;obtain⟨g1,j2,v2,g2,g3,g4,g5,g6⟩:=Be;obtain⟨Ht,g3⟩:=List.getElem?_eq_some_iff.1 g3;have ev:(v==0)=false:=by simp;omega
        have e6:fy N (i:Int) (r::s::T)=bif r==N.2.2.2.2.2.2.2 then bif s==N.2.2.2.2.2.2.1 then some ((i:Int)::T)else none else none:=by unfold fy;rw[e2];rfl
        rw[ev,e6,bZ (x:=v - 1) (by omega) (by omega)];have e8:(N.2.2.2.2.2.2.1==v - 1)=(s==N.2.2.2.2.2.2.1):=by rw[<-g1,Bool.eq_iff_iff];simp only[beq_iff_eq];exact eq_comm
        simp only[e8];cases hs:(s==N.2.2.2.2.2.2.1)with
        | false=>cases (r==N.2.2.2.2.2.2.2)<;>rfl
        | true =>
         rw[beq_iff_eq]at hs;rw[<-hs,nF st j2 g2 Ht,g3];simp only[Option.bind_some];rw[o6 v2 T g4 (by omega) g6 (by omega)];cases (r==N.2.2.2.2.2.2.2)<;>rfl
     ·have e0:(N.1==0||N.1==1)=false:=by simpa using rS
      have e1:(N.1==2||(N.1==5||N.1==6))=false:=by simpa using k1
      have e2:(N.1==3||N.1==4)=false:=by simpa using k2
      have e5:(decide (0<=N.1)&&decide (N.1<=6))=false:=by
       rw[Bool.and_eq_false_iff];by_cases h:0<=N.1
       ·right;simp;omega
       ·left;simp;omega
      rw[e0,e1,e2,e5];simp
def gk(db:List Rel)(f:List aM):Bool:=lU db&&((decide (1<=(f.length:Int))&&decide ((f.length:Int)<=12))&&nE db f 0 [])
theorem ae1{db:List Rel}(h:lU db=true):db.length<=6:=by
 unfold lU at h;simp only[Bool.and_eq_true,decide_eq_true_eq]at h;omega
theorem ab5(db:List Rel)(f:List aM)(hd:db.length<=68719476736/\∀a∈db,gL a)(hf:∀n∈f,zN n<=68719476736):xZ db f=some ((gk db f,()),()):=by
 rw[ab4,ab1 db hd,kK];simp only[Option.bind_some];unfold gk;cases hb:lU db with
 | false=>rfl
 | true =>
  cases hc:(decide (1<=(f.length:Int))&&decide ((f.length:Int)<=12))with
  | false=>rfl
  | true =>
   simp only[Bool.and_eq_true,decide_eq_true_eq]at hc;have:=Pv db f hd.1 hf (by omega) f.length 0 [] (by omega) (by simp);simp only[List.drop_zero,Int.natCast_zero,List.reverse_nil]at this;simp only[Bool.not_true,cond_false,Bool.true_and];exact this
theorem aa6(db:List Rel)(f:List aM)(hf:∀n∈f,zN n<=68719476736):xF db f=some ((gk db f,()),()):=by
 rw[aa5,aa2 db];simp only[Option.bind_some];unfold gk;cases hb:lU db with
 | false=>rfl
 | true =>
  have ui:=ae1 hb;by_cases h1:(f.length:Int)<1
  ·have:decide (1<=(f.length:Int))=false:=by simp;omega
   simp[h1,this]
  ·by_cases h2:(f.length:Int)>12
   ·have:decide ((f.length:Int)<=12)=false:=by simp;omega
    simp[h1,h2,this]
   ·have e1:decide (1<=(f.length:Int))=true:=by simp;omega
    have e2:decide ((f.length:Int)<=12)=true:=by simp;omega
    rw[kl f 8 (by omega) (by omega) (by omega)];have:=O0 db f (by omega) hf (by omega) (by omega) f.length 0 (List.replicate f.length 0) [] (by omega) (by simp) (by simp[eS]);simp only[List.drop_zero,Int.natCast_zero]at this;simp only[h1,h2,decide_false,e1,e2,Bool.not_true,cond_false,Bool.true_and];exact this
theorem afi(h:zA a<=68719476736):gA a:=h
theorem afj(h:zC c<=68719476736):gC c:=⟨Nat.le_trans (cI _ _) h,λa ha=>afi (Nat.le_trans (dh _ ha) h)⟩
theorem afl{r:Rw}(h:zR r<=68719476736):gR r:=by
 have hz:zR r=zB r.1+zC r.2:=rfl;exact⟨by unfold zB at hz;omega,afj (by omega)⟩
theorem Se{r:Rel}(h:zQ r<=68719476736):gL r:=by
 have hz:zQ r=zB r.1+zL zR r.2.2:=rfl;exact⟨by unfold zB at hz;omega,Nat.le_trans (cI _ _) (Nat.le_trans (Nat.le_add_left _ _) (hz▸h)),λa ha=>afl (Nat.le_trans (dh _ ha) (by omega))⟩
theorem afk{x:List Rel}(h:zL zQ x<=68719476736):x.length<=68719476736/\∀a∈x,gL a:=⟨Nat.le_trans (cI _ _) h,λa ha=>Se (Nat.le_trans (dh _ ha) h)⟩
theorem Sd{f:List aM}(h:zL zN f<=68719476736):∀n∈f,zN n<=68719476736:=λn hn=>Nat.le_trans (dh _ hn) h
def kq(n:aM):Bool := !(n.1==2) && !(n.1==6)
theorem ab8(db:List Rel)(f:List aM)(hd:zL zQ db<=68719476736)(hf:zL zN f<=68719476736):yb db f=some ((gk db f&&f.all kq,()),()):=by
 have hl:f.length<=68719476736:=Nat.le_trans (cI _ _) hf;rw[ab7];rw[kM f kq (some ((false,()),())) (sZ db f (f.length:Int)) (λi=>sZ db f i) hl (λi hi=>by
  rw[Pw,aG hi,aR hi,aT (by omega)];simp only[cond_true,Option.bind_some];unfold kq;cases (f[i].1==2)<;>cases (f[i].1==6)<;>rfl) rfl]
 rw[Pw,aY,ab5 db f (afk hd) (Sd hf)];cases f.all kq<;>cases gk db f<;>rfl
theorem aa9(db:List Rel)(f:List aM)(hf:zL zN f<=68719476736):xH db f=some ((gk db f&&f.all kq,()),()):=by
 have hl:f.length<=68719476736:=Nat.le_trans (cI _ _) hf;rw[aa8,aa6 db f (Sd hf)];have:=kM f kq (some ((false,()),())) (some ((true,()),())) (λi=>wB f f (f.length:Int) i) hl (λi hi=>by
  rw[O1,aG hi,aR hi,aT (by omega)];simp only[cond_true,Option.bind_some];unfold kq;cases (f[i].1==2)<;>cases (f[i].1==6)<;>rfl) (by rw[O1,aY];rfl)
 simp only[Option.bind_some,this];cases f.all kq<;>cases gk db f<;>rfl
def mU(db:List Rel)(p:List Int):Bool:=((p.length:Int)==2)&&(match ab p 0,ab p 1 with
 | some a,some b=>decide (0<=a)&&(decide (a<(db.length:Int))&&(decide (0<=b)&&(match ab db a with
  | some r=>decide (b<(r.2.2.length:Int))
  | none=>false)))
 | _,_=>false)
def og(db:List Rel)(s:bA):Bool:=bE s.1&&((s.1.1==4)&&(!decide ((s.2.length:Int)>12)&&s.2.all (mU db)))
theorem W1{p:List Int}(h:((p.length:Int)==2)=true):∃a b,p=[a,b]:=by
 simp only[beq_iff_eq]at h
 match p,h with
 | [a,b],_=>exact⟨a,b,rfl⟩
 | [],h=>simp at h
 | [_],h=>simp at h
 | _::_::_::l,h=>simp at h;omega
theorem Sm(a b:Int):ab [a,b] 0=some a:=rfl
theorem Sn(a b:Int):ab [a,b] 1=some b:=rfl
theorem abF(db:List Rel)(a b:Int):EH db a b=some ((decide (0<=a)&&(decide (a<(db.length:Int))&&(decide (0<=b)&&(match ab db a with
  | some r=>decide (b<(r.2.2.length:Int))
  | none=>false))),()),()):=by
 rw[abE];by_cases h0:0<=a
 ·by_cases h1:a<(db.length:Int)
  ·by_cases h2:0<=b
   ·have e:ab db a=some (db[a.toNat]'(by omega)):=nF db a.toNat (by omega) (by omega);have g0:a>=0:=h0;have g2:b>=0:=h2;simp only[e,g0,h1,g2,h0,h2,decide_true,cond_true,Option.bind_some,Bool.true_and]
   ·have g2:¬b>=0:=h2;have g0:a>=0:=h0;simp only[g0,h1,g2,h0,h2,decide_true,decide_false,cond_true,cond_false,Bool.true_and,Bool.false_and]
  ·have g0:a>=0:=h0;simp only[g0,h1,h0,decide_true,decide_false,cond_true,cond_false,Bool.true_and,Bool.false_and]
 ·have g0:¬a>=0:=h0;simp only[g0,h0,decide_false,cond_false,Bool.false_and]
theorem ZP(db:List Rel)(v:bm)(j:Int)(s:bA)(hd:zL zQ db<=68719476736)(hs:s.2.length<=68719476736):s9 db v j s 0=bif s.2.all (mU db)then ow db v (IntKind.i64.wrap (j+1))else some ((false,()),()):=by
 have ui:db.length<=68719476736:=Nat.le_trans (cI _ _) hd;rw[kM s.2 (mU db) (some ((false,()),())) (ow db v (IntKind.i64.wrap (j+1))) (λi=>s9 db v j s i) hs (λi hi=>by
  rw[Pz,aG hi,aR hi,aT (by omega)];simp only[cond_true,Option.bind_some];generalize s.2[i]=p;unfold mU;cases h2:((p.length:Int)==2)with
  | false=>simp only[bne,h2];rfl
  | true =>
   obtain⟨a,b,rfl⟩:=W1 h2;simp only[bne,h2,Sm,Sn,Option.bind_some,kK,Bool.not_true,cond_false,Bool.true_and];rw[bZ (by omega) (by omega)];by_cases h0:0<=a
   ·by_cases h1:a<(db.length:Int)
    ·have e:ab db a=some (db[a.toNat]'(by omega)):=nF db a.toNat (by omega) (by omega);have g1:a<=(db.length:Int) - 1:=by omega
     have hr:=(Se (Nat.le_trans (dh _ (List.getElem_mem (show a.toNat<db.length by omega))) hd)).2.1;rw[e];simp only[h0,h1,g1,decide_true,Bool.and_self,Bool.not_true,cond_false,Option.bind_some,Bool.true_and];rw[bZ (by omega) (by omega)];have e3:decide (b<=((db[a.toNat]'(by omega)).2.2.length:Int) - 1)=decide (b<((db[a.toNat]'(by omega)).2.2.length:Int)):=by
      rw[decide_eq_decide];omega
     rw[e3];cases (decide (0<=b)&&decide (b<((db[a.toNat]'(by omega)).2.2.length:Int)))<;>rfl
    ·have g1:¬a<=(db.length:Int) - 1:=by omega
     simp only[h0,h1,g1,decide_true,decide_false,Bool.and_false,Bool.not_false,cond_true,Bool.false_and,Bool.true_and,cond_false]
   ·simp only[h0,decide_false,Bool.false_and,Bool.not_false,cond_true,cond_false]) (by rw[Pz,aY];rfl)]
def lL(db:List Rel)(v:bm):Bool:=(gk db v.1&&v.1.all kq)&&(decide ((v.2.length:Int)<=24)&&v.2.all (og db))
theorem Xd(s:bA):zP s=zC s.1+zL zI s.2:=rfl
theorem Xe(v:bm):zV v=zL zN v.1+zL zP v.2:=rfl
theorem acd(db:List Rel)(v:bm)(hd:zL zQ db<=68719476736)(hv:zV v<=68719476736):yd db v=some ((lL db v,()),()):=by
 rw[Xe]at hv;have hl:v.2.length<=68719476736:=Nat.le_trans (cI zP _) (by omega);rw[acb];rw[kM v.2 (og db) (some ((false,()),())) (ow db v (v.2.length:Int)) (λi=>ow db v i) hl (λi hi=>by
  have hz:=Nat.le_trans (dh zP (List.getElem_mem hi)) (show zL zP v.2<=68719476736 by omega);rw[Xd]at hz;rw[Py,aG hi,aR hi];simp only[cond_true,Option.bind_some];rw[oA _ (Nat.le_trans (cI zA _) (show zL zA v.2[i].1.2<=68719476736 from Nat.le_trans (Nat.le_add_right _ _) hz)),ZP db v i v.2[i] hd (Nat.le_trans (cI zI _) (by omega)),aT (by omega)];unfold og;simp only[bne,Option.bind_some];generalize bE v.2[i].1=b1;generalize (v.2[i].1.1==4)=b2;generalize (decide ((v.2[i].2.length:Int)>12))=b3;generalize v.2[i].2.all (mU db)=b4;cases b1<;>cases b2<;>cases b3<;>cases b4<;>rfl) rfl]
 rw[Py,aY,ab8 db v.1 hd (by omega)];unfold lL;simp only[Option.bind_some];generalize (gk db v.1&&v.1.all kq)=b1;generalize (decide ((v.2.length:Int)<=24))=b2;cases v.2.all (og db)<;>cases b1<;>cases b2<;>rfl
theorem ZN(db:List Rel)(v:bm)(s:bA)(l:List bA)(m j:Int)(hs:s.2.length<=68719476736):sT db v s l m j s.2 (s.2.length:Int) 0=bif s.2.all (mU db)then qp db v l m (IntKind.i64.wrap (j+1))else some ((false,()),()):=by
 rw[kM s.2 (mU db) (some ((false,()),())) (qp db v l m (IntKind.i64.wrap (j+1))) (λi=>sT db v s l m j s.2 (s.2.length:Int) i) hs (λi hi=>by
  rw[O4,aG hi,aR hi,aT (by omega)];simp only[cond_true,Option.bind_some];generalize s.2[i]=p;unfold mU;cases h2:((p.length:Int)==2)with
  | false=>simp only[bne,h2];rfl
  | true =>
   obtain⟨a,b,rfl⟩:=W1 h2;simp only[bne,h2,Sm,Sn,Option.bind_some,abF,Bool.not_true,cond_false,Bool.true_and];generalize (decide (0<=a)&&(decide (a<(db.length:Int))&&(decide (0<=b)&&(match ab db a with
    | some r=>decide (b<(r.2.2.length:Int))
    | none=>false))))=c
   cases c<;>rfl) (by rw[O4,aY];rfl)]
theorem abd(db:List Rel)(v:bm)(hv:zV v<=68719476736):xJ db v=some ((lL db v,()),()):=by
 rw[Xe]at hv;have hl:v.2.length<=68719476736:=Nat.le_trans (cI zP _) (by omega);rw[abc,aa9 db v.1 (by omega)];have:=kM v.2 (og db) (some ((false,()),())) (some ((true,()),())) (λi=>qp db v v.2 (v.2.length:Int) i) hl (λi hi=>by
  have hz:=Nat.le_trans (dh zP (List.getElem_mem hi)) (show zL zP v.2<=68719476736 by omega);rw[Xd]at hz;rw[O3,aG hi,aR hi];simp only[cond_true,Option.bind_some];rw[nk,ZN db v v.2[i] v.2 _ i (Nat.le_trans (cI zI _) (by omega)),aT (by omega)];unfold og;simp only[bne,Option.bind_some];generalize bE v.2[i].1=b1;generalize (v.2[i].1.1==4)=b2;generalize (decide ((v.2[i].2.length:Int)>12))=b3;generalize v.2[i].2.all (mU db)=b4;cases b1<;>cases b2<;>cases b3<;>cases b4<;>rfl) (by rw[O3,aY];rfl)
 simp only[Option.bind_some,this];unfold lL;have e:decide ((v.2.length:Int)<=24) = !decide ((v.2.length:Int)>24):=by
  by_cases h:(v.2.length:Int)>24
  ·have:¬(v.2.length:Int)<=24:=by omega
   simp[h]
  ·have:(v.2.length:Int)<=24:=by omega
   simp[h,this]
 rw[e];generalize (gk db v.1&&v.1.all kq)=b1;generalize (decide ((v.2.length:Int)>24))=b2;cases v.2.all (og db)<;>cases b1<;>cases b2<;>rfl
theorem Q9{a:Int}(h:a.natAbs<=4000000000000000000):qD a=some (((a.natAbs:Int),()),()):=by
 rw[EE];by_cases h0:a<0
 ·simp only[h0,decide_true,cond_true];rw[bZ (by omega) (by omega)];congr 3;omega
 ·simp only[h0,decide_false,cond_false];congr 3;omega
theorem Q8{a:Int}(h:a.natAbs<=4000000000000000000):tp a=some (((a.natAbs:Int),()),()):=by
 rw[QS];rw[bZ (by omega) (by omega)];simp only[cond_true];congr 3;split<;>omega
theorem tdiv_le(a b:Int):(a.tdiv b).natAbs<=a.natAbs:=by
 rw[Int.natAbs_tdiv];exact Nat.div_le_self _ _
theorem Qz{a b:Int}(ha:a.natAbs<=4000000000000000000)(hb:b.natAbs<=4000000000000000000):oz a b=some ((((Nat.gcd a.natAbs b.natAbs:Nat):Int),()),()):=by
 rw[QA,Q9 ha,Q9 hb];simp only[Option.bind_some];rw[C4 _ _ _ (Nat.le_refl _) (by omega) (by omega)];simp
theorem I4{a b:Int}(ha:a.natAbs<=400000000)(hb:b.natAbs<=400000000):(a*b).natAbs<=160000000000000000:=by
 rw[Int.natAbs_mul];exact Nat.mul_le_mul ha hb
theorem JY{a b:Int}(ha:a.natAbs<=400000000)(hb:b.natAbs<=400000000):IntKind.i64.wrap (a*b)=a*b:=by
 have:=I4 ha hb;exact bZ (by omega) (by omega)
def dn:List Int->List Int->Int
 | x::xs,y::ys=>if x=y then dn xs ys else if x<y then -1 else 1
 | _,_=>0
theorem mF:∀x:List Int,dn x x=0
 | []=>rfl
 | x::xs=>by simp[dn,mF xs]
theorem Vg:∀{x y:List Int},x.length=y.length->dn x y=0->x=y
 | [],[],_,_=>rfl
 | x::xs,y::ys,hl,h=>by
  simp only[dn]at h;split at h
  ·rename_i e;rw[e,Vg (by simpa using hl) h]
  ·split at h<;>omega
theorem ly:∀x y:List Int,dn y x = -dn x y
 | [],[]=>rfl
 | [],_::_=>rfl
 | _::_,[]=>rfl
 | x::xs,y::ys=>by
  simp only[dn];by_cases h:x=y
  ·rw[if_pos h,if_pos h.symm,ly xs ys]
  ·rw[if_neg h,if_neg (Ne.symm h)];by_cases h2:x<y
   ·rw[if_pos h2,if_neg (by omega)];rfl
   ·rw[if_neg h2,if_pos (by omega)]
theorem Vi(x y:List Int):dn x y = -1\/dn x y=0\/dn x y=1:=by
 induction x generalizing y with
 | nil=>cases y<;>simp[dn]
 | cons a x ih =>
  cases y with
  | nil=>simp[dn]
  | cons b y =>
   simp only[dn];split
   ·exact ih y
   ·split<;>simp
theorem u7:∀{x y z:List Int},dn x y<0->dn y z<0->dn x z<0
 | [],_,_,h,_=>by simp[dn]at h
 | _::_,[],_,h,_=>by simp[dn]at h
 | _::_,_::_,[],_,h=>by simp[dn]at h
 | x::xs,y::ys,z::zs,h1,h2=>by
  simp only[dn]at h1 h2 ⊢;by_cases e1:x=y
  ·subst e1;rw[if_pos rfl]at h1;by_cases e2:x=z
   ·rw[if_pos e2]at h2 ⊢;exact u7 h1 h2
   ·rw[if_neg e2]at h2 ⊢;exact h2
  ·rw[if_neg e1]at h1;have h1:x<y:=by
    by_cases h:x<y
    ·exact h
    ·rw[if_neg h]at h1;omega
   by_cases e2:y=z
   ·subst e2;rw[if_neg e1,if_pos h1];omega
   ·rw[if_neg e2]at h2;have h2:y<z:=by
     by_cases h:y<z
     ·exact h
     ·rw[if_neg h]at h2;omega
    rw[if_neg (by omega),if_pos (by omega)];omega
def jD(a b:Int):Int:=if a<b then -1 else if b<a then 1 else 0
theorem ajZ{a1 a2 b1 b2 c1 c2:Int}(h1:0<a2)(h2:0<b2)(h3:0<c2)(x:a1*b2<b1*a2)(y:b1*c2<c1*b2):a1*c2<c1*a2:=by
 have p:=Int.mul_lt_mul_of_pos_right x h3;have q:=Int.mul_lt_mul_of_pos_right y h1;have:a1*c2*b2<c1*a2*b2:=by
  have e1:a1*c2*b2=a1*b2*c2:=by rw[Int.mul_assoc,Int.mul_comm c2,<-Int.mul_assoc]
  have e2:c1*a2*b2=c1*b2*a2:=by rw[Int.mul_assoc,Int.mul_comm a2,<-Int.mul_assoc]
  have e3:b1*a2*c2=b1*c2*a2:=by rw[Int.mul_assoc,Int.mul_comm a2,<-Int.mul_assoc]
  omega
 exact Int.lt_of_mul_lt_mul_right this (Int.le_of_lt h2)
theorem pP{a1 a2 b1 b2 c1 c2:Int}(h1:0<a2)(h2:0<b2)(h3:0<c2)(x:a1*b2<=b1*a2)(y:b1*c2<=c1*b2):a1*c2<=c1*a2:=by
 have p:=Int.mul_le_mul_of_nonneg_right x (Int.le_of_lt h3);have q:=Int.mul_le_mul_of_nonneg_right y (Int.le_of_lt h1);have:a1*c2*b2<=c1*a2*b2:=by
  have e1:a1*c2*b2=a1*b2*c2:=by rw[Int.mul_assoc,Int.mul_comm c2,<-Int.mul_assoc]
  have e2:c1*a2*b2=c1*b2*a2:=by rw[Int.mul_assoc,Int.mul_comm a2,<-Int.mul_assoc]
  have e3:b1*a2*c2=b1*c2*a2:=by rw[Int.mul_assoc,Int.mul_comm a2,<-Int.mul_assoc]
  omega
 exact Int.le_of_mul_le_mul_right this h2
def dD(a:aa):Int:=if gl a.1 0=0 then 1 else (gl a.1 0:Nat)
def dv(a:aa):List Int:=a.1.map (λx=>x.tdiv (dD a))
def a6(a b:aa):Int:=dn (dv a) (dv b)
def da(a b:aa):Int:=if jD (a.2.1*dD b) (b.2.1*dD a)≠0 then jD (a.2.1*dD b) (b.2.1*dD a)else if a.2.2=b.2.2 then 0 else if a.2.2=true then 1 else -1
def eo(a b:aa):Int:=if a6 a b≠0 then a6 a b else da a b
def cN(n:Nat)(a:aa):Prop:=bI a=true/\a.1.length=n/\gl a.1 0≠0
theorem nw(a:aa):0<dD a:=by
 unfold dD;split
 ·omega
 ·have:0<gl a.1 0:=Nat.pos_of_ne_zero (by assumption);exact Int.natCast_pos.2 this
theorem jg(a:aa):(dv a).length=a.1.length:=by simp[dv]
theorem jH(ha:a.1.length=n)(hb:b.1.length=n):a6 a b=0↔dv a=dv b:=by
 constructor
 ·intro h;exact Vg (by rw[jg,jg,ha,hb]) h
 ·intro h;unfold a6;rw[h,mF]
theorem akq{a b:Int}:jD a b<0↔a<b:=by
 unfold jD;split
 ·simp;assumption
 ·split<;>simp<;>omega
theorem Jl{a b:Int}:jD a b=0↔a=b:=by
 unfold jD;split
 ·simp;omega
 ·split<;>simp<;>omega
theorem vH{a b:aa}:da a b<0↔a.2.1*dD b<b.2.1*dD a\/(a.2.1*dD b=b.2.1*dD a/\a.2.2=false/\b.2.2=true):=by
 unfold da;by_cases h:jD (a.2.1*dD b) (b.2.1*dD a)=0
 ·rw[if_neg (by simpa using h)];have e:=Jl.1 h;rw[e];cases a.2.2<;>cases b.2.2<;>simp
 ·rw[if_pos h,akq];have e:a.2.1*dD b≠b.2.1*dD a:=λe=>h (Jl.2 e);constructor
  ·exact .inl
  ·rintro (h|h)
   ·exact h
   ·exact absurd h.1 e
theorem lS:eo a b<0↔a6 a b<0\/(a6 a b=0/\da a b<0):=by
 unfold eo;split
 ·rename_i h;constructor
  ·exact .inl
  ·rintro (h2|h2)
   ·exact h2
   ·exact absurd h2.1 h
 ·rename_i h;have h:a6 a b=0:=by simpa using h
  rw[h];simp
theorem G6:∀(x:List Int) (g:Nat),(gl x g) ∣ g/\∀y∈x,gl x g ∣ y.natAbs
 | [],g=>⟨Nat.dvd_refl _,by simp⟩
 | a::x,g=>by
  obtain⟨h1,h2⟩:=G6 x (Nat.gcd g a.natAbs);have e:gl (a::x) g=gl x (Nat.gcd g a.natAbs):=rfl;rw[e];refine⟨Nat.dvd_trans h1 (Nat.gcd_dvd_left _ _),λy hy=>?_⟩;rcases List.mem_cons.1 hy with rfl|hy
  ·exact Nat.dvd_trans h1 (Nat.gcd_dvd_right _ _)
  ·exact h2 y hy
theorem RB(a:aa):a.1=(dv a).map (· * dD a):=by
 unfold dv;rw[List.map_map];have:∀y∈a.1,((· * dD a) ∘ λx=>x.tdiv (dD a)) y=y:=by
  intro y hy;simp only[Function.comp];unfold dD;split
  ·simp
  ·exact Int.tdiv_mul_cancel (Int.natAbs_dvd_natAbs.1 (by simpa using (G6 a.1 0).2 y hy))
 conv=>lhs;rw[<-List.map_id a.1]
 exact (List.map_congr_left λy hy=>(this y hy).symm)
theorem aeM(ha:cN n a)(hb:cN n b)(h1:dv a=dv b)(h2:a.2.1*dD b=b.2.1*dD a)(h3:a.2.2=b.2.2):a=b:=by
 have RH:∀{a:aa},cN n a->∃g:Nat,dD a=(g:Int)/\Nat.Coprime g a.2.1.natAbs/\0<g:=by
  intro a h;refine⟨gl a.1 0,by unfold dD;rw[if_neg h.2.2],?_,Nat.pos_of_ne_zero h.2.2⟩;have:=h.1;unfold bI at this;simp only[Bool.and_eq_true,decide_eq_true_eq]at this;have h4:=this.2.2.2;rw[G7]at h4;have h5:Nat.gcd (gl a.1 0) a.2.1.natAbs<=1:=by omega
  have h6:0<Nat.gcd (gl a.1 0) a.2.1.natAbs:=Nat.gcd_pos_of_pos_left _ (Nat.pos_of_ne_zero h.2.2);unfold Nat.Coprime;omega
 obtain⟨g,e1,c1,p1⟩:=RH ha;obtain⟨k,e2,c2,p2⟩:=RH hb;rw[e1,e2]at h2;have h4:a.2.1.natAbs*k=b.2.1.natAbs*g:=by
  have:=congrArg Int.natAbs h2;simpa[Int.natAbs_mul]using this
 have d1:g ∣ k:=c1.dvd_of_dvd_mul_left (by rw[h4];exact Nat.dvd_mul_left _ _);have d2:k ∣ g:=c2.dvd_of_dvd_mul_left (by rw[<-h4];exact Nat.dvd_mul_left _ _);have e:g=k:=Nat.dvd_antisymm d1 d2;subst e;have h5:a.2.1=b.2.1:=Int.eq_of_mul_eq_mul_right (by omega) h2;have h6:a.1=b.1:=by rw[RB a,RB b,h1,e1,e2]
 obtain⟨a1,a2,a3⟩:=a;obtain⟨b1,b2,b3⟩:=b;simp only at h3 h5 h6;rw[h3,h5,h6]
theorem WL{c:aa}(h1:da a b<0)(h2:da b c<0):da a c<0:=by
 rw[vH]at *
 have pa:=nw a;have pb:=nw b;have pc:=nw c;rcases h1 with h1|⟨h1,h3,h4⟩
 ·rcases h2 with h2|⟨h2,h5,h6⟩
  ·exact .inl (ajZ pa pb pc h1 h2)
  ·left;have:=pP pa pb pc (Int.le_of_lt h1) (Int.le_of_eq h2);rcases Int.lt_or_eq_of_le this with h|h
   ·exact h
   ·exfalso;have:=pP (a1:=b.2.1) (a2:=dD b) (b1:=c.2.1) (b2:=dD c) (c1:=a.2.1) (c2:=dD a) pb pc pa (Int.le_of_eq h2) (Int.le_of_eq h.symm);omega
 ·rcases h2 with h2|⟨h2,h5,h6⟩
  ·left;have:=pP pa pb pc (Int.le_of_eq h1) (Int.le_of_lt h2);rcases Int.lt_or_eq_of_le this with h|h
   ·exact h
   ·exfalso;have:=pP (a1:=c.2.1) (a2:=dD c) (b1:=a.2.1) (b2:=dD a) (c1:=b.2.1) (c2:=dD b) pc pa pb (Int.le_of_eq h.symm) (Int.le_of_eq h1);omega
  ·rw[h4]at h5;cases h5
theorem JC{c:aa}(h1:¬da a b<0)(h2:¬da b c<0):¬da a c<0:=by
 rw[vH]at *
 have pa:=nw a;have pb:=nw b;have pc:=nw c;have Sw:b.2.1*dD a<=a.2.1*dD b:=by have:=not_or.1 h1;omega
 have Sx:c.2.1*dD b<=b.2.1*dD c:=by have:=not_or.1 h2;omega
 have h3:=pP (a1:=c.2.1) (a2:=dD c) (b1:=b.2.1) (b2:=dD b) (c1:=a.2.1) (c2:=dD a) pc pb pa Sx Sw
 rintro (h|⟨h,h4,h5⟩)
 ·omega
 ·have e1:a.2.1*dD b=b.2.1*dD a:=by
   have:=pP (a1:=a.2.1) (a2:=dD a) (b1:=c.2.1) (b2:=dD c) (c1:=b.2.1) (c2:=dD b) pa pc pb (Int.le_of_eq h) Sx;omega
  have e2:b.2.1*dD c=c.2.1*dD b:=by
   have:=pP (a1:=b.2.1) (a2:=dD b) (b1:=a.2.1) (b2:=dD a) (c1:=c.2.1) (c2:=dD c) pb pa pc Sw (Int.le_of_eq h);omega
  cases hb:b.2.2
  ·exact h2 (.inr ⟨e2,hb,h5⟩)
  ·exact h1 (.inr ⟨e1,h4,hb⟩)
theorem sn(a:aa):¬da a a<0:=by
 rw[vH]
 rintro (h|⟨_,h1,h2⟩)
 ·omega
 ·rw[h1]at h2;cases h2
theorem Cc{n:Nat}:oy (cN n) eo:=by
 have key:∀{x y:aa},cN n x->cN n y->a6 x y=0->dv x=dv y:=λhx hy h=>(jH hx.2.1 hy.2.1).1 h;refine⟨λx hx h=>?_,λx y z hx hy hz h1 h2=>?_,λx y z hx hy hz h1 h2 h=>?_,λx y hx hy h1 h2=>?_⟩
 ·rw[lS]at h;have e:a6 x x=0:=mF _;rw[e]at h;rcases h with h|h
  ·omega
  ·exact sn x h.2
 ·rw[lS]at *
  rcases h1 with h1|⟨h1,h3⟩
  ·rcases h2 with h2|⟨h2,h4⟩
   ·exact .inl (u7 h1 h2)
   ·left;have:=key hy hz h2;unfold a6 at *
    rw[<-this];exact h1
  ·have e1:=key hx hy h1;rcases h2 with h2|⟨h2,h4⟩
   ·left;unfold a6 at *
    rw[e1];exact h2
   ·right;refine⟨?_,WL h3 h4⟩;unfold a6 at *
    rw[e1];exact h2
 ·rw[lS]at *
  have h1:=not_or.1 h1;have h2:=not_or.1 h2;have f1:=ly (dv x) (dv y);have f2:=ly (dv y) (dv z);have f3:=ly (dv x) (dv z);have v1:=Vi (dv x) (dv y);have v2:=Vi (dv y) (dv z);have u1:=h1.1;have u2:=h2.1;unfold a6 at u1 u2;by_cases w1:a6 x y=0
  ·have e1:=key hx hy w1;have s1:¬da x y<0:=λh=>h1.2 ⟨w1,h⟩;by_cases w2:a6 y z=0
   ·have e2:=key hy hz w2;have s2:¬da y z<0:=λh=>h2.2 ⟨w2,h⟩;rcases h with h|h
    ·unfold a6 at h;rw[e1,e2,mF]at h;omega
    ·exact JC s1 s2 h.2
   ·have:a6 x z=a6 y z:=by unfold a6;rw[e1]
    rw[this]at h;rcases h with h|h
    ·exact h2.1 h
    ·exact w2 h.1
  ·have g1:dn (dv y) (dv x)<0:=by unfold a6 at w1;omega
   by_cases w2:a6 y z=0
   ·have e2:=key hy hz w2;have:a6 x z=a6 x y:=by unfold a6;rw[e2]
    rw[this]at h;rcases h with h|h
    ·exact h1.1 h
    ·exact w1 h.1
   ·have g2:dn (dv z) (dv y)<0:=by unfold a6 at w2;omega
    have g3:=u7 g2 g1;unfold a6 at h;omega
 ·rw[lS]at *
  have h1:=not_or.1 h1;have h2:=not_or.1 h2;have f1:=ly (dv x) (dv y);have w:a6 x y=0:=by
   have a1:=h1.1;have a2:=h2.1;unfold a6 at *
   omega
  have w':a6 y x=0:=by unfold a6 at *;omega
  have s1:¬da x y<0:=λh=>h1.2 ⟨w,h⟩;have s2:¬da y x<0:=λh=>h2.2 ⟨w',h⟩;rw[vH]at s1 s2;have s1:=not_or.1 s1;have s2:=not_or.1 s2;have e:x.2.1*dD y=y.2.1*dD x:=by omega
  refine aeM hx hy (key hx hy w) e ?_;have t1:¬(x.2.2=false/\y.2.2=true):=λh=>s1.2 ⟨e,h⟩;have t2:¬(y.2.2=false/\x.2.2=true):=λh=>s2.2 ⟨e.symm,h⟩;cases kd:x.2.2<;>cases rO:y.2.2<;>simp_all
structure iZ (n:Nat) (S l:List aa):Prop where
 sorted:S.Pairwise λx y=>a6 x y<0
 sub:∀s∈S,s∈l
 ra:∀a∈l,∃s∈S,a6 s a=0/\¬da s a<0
theorem JW(h:a6 a b=0):a6 b a=0:=by
 have:=ly (dv a) (dv b);unfold a6 at *;omega
theorem Rk{S':List aa}(hV:∀a∈l,cN n a)(hm:∀a,a∈l↔a∈l')(h:iZ n S l)(h':iZ n S' l'):∀s∈S,s∈S':=by
 intro s hs;have ba:=h.sub s hs;obtain⟨t,ht,w1,s1⟩:=h'.ra s ((hm s).1 ba);have TK:=(hm t).2 (h'.sub t ht);obtain⟨u,hu,w2,s2⟩:=h.ra t TK;have ks:=hV s ba;have kt:=hV t TK;have ku:=hV u (h.sub u hu);have e1:dv t=dv s:=(jH kt.2.1 ks.2.1).1 w1;have e2:dv u=dv t:=(jH ku.2.1 kt.2.1).1 w2;have w3:a6 u s=0:=(jH ku.2.1 ks.2.1).2 (e2.trans e1);have hus:u=s:=by
  apply Classical.byContradiction;intro a8;have key:∀{a b:aa},a∈S->b∈S->a≠b->a6 a b<0\/a6 b a<0:=by
   intro a b ha hb a8;obtain⟨i,hi,rfl⟩:=List.getElem_of_mem ha;obtain⟨j,hj,rfl⟩:=List.getElem_of_mem hb;rcases Nat.lt_trichotomy i j with me|me|me
   ·exact .inl (List.pairwise_iff_getElem.1 h.sorted i j hi hj me)
   ·subst me;exact absurd rfl a8
   ·exact .inr (List.pairwise_iff_getElem.1 h.sorted j i hj hi me)
  rcases key hu hs a8 with h1|h1
  ·omega
  ·have:=JW w3;omega
 subst hus;have o:=@Cc n;have:t=u:=o.F9 t u kt ku (λhc=>by
  rw[lS]at hc;rcases hc with hc|hc
  ·omega
  ·exact s1 hc.2) (λhc=>by
  rw[lS]at hc;rcases hc with hc|hc
  ·omega
  ·exact s2 hc.2)
 rw[<-this];exact ht
theorem aeQ{S':List aa}(hV:∀a∈l,cN n a)(hm:∀a,a∈l↔a∈l')(h:iZ n S l)(h':iZ n S' l'):S=S':=by
 have nd:∀{S l:List aa},iZ n S l->S.Nodup:=by
  intro S l h;refine h.sorted.imp λ{a b} iB he=>?_;subst he;have:a6 a a=0:=mF _;omega
 have hp:S.Perm S':=(List.perm_ext_iff_of_nodup (nd h) (nd h')).2 λa=>⟨Rk hV hm h h' a,Rk (λa ha=>hV a ((hm a).2 ha)) (λa=>(hm a).symm) h' h a⟩;refine List.Perm.eq_of_pairwise (le:=λx y=>a6 x y<0) (λa b _ _ h1 h2=>?_) h.sorted h'.sorted hp;have:=ly (dv a) (dv b);unfold a6 at *;omega
def eY:List aa->List aa
 | []=>[]
 | [a]=>[a]
 | a::b::l=>if a6 a b=0 then eY (b::l)else a::eY (b::l)
theorem Vd:∀(l:List aa),(∀a∈l,cN n a)->l.Pairwise (λx y=>¬eo y x<0)->iZ n (eY l) l
 | [],_,_=>⟨List.Pairwise.nil,λs h=>h,by simp⟩
 | [a],_,_=>⟨by simp[eY],λs h=>h,λx hx=>⟨a,by simp[eY],by
   rw[List.mem_singleton.1 hx];exact⟨mF _,sn a⟩⟩⟩
 | a::b::l,hV,hP=>by
  have kU:=List.pairwise_cons.1 hP;have ih:=Vd (b::l) (λx hx=>hV x (List.mem_cons_of_mem _ hx)) kU.2;have ka:=hV a (by simp);have kb:=hV b (by simp);have up:∀x∈b::l,¬a6 x a<0:=λx hx h=>kU.1 x hx (lS.2 (.inl h));by_cases hw:a6 a b=0
  ·have e:eY (a::b::l)=eY (b::l):=by simp[eY,hw]
   rw[e];refine⟨ih.sorted,λs hs=>List.mem_cons_of_mem _ (ih.sub s hs),λx hx=>?_⟩;rcases List.mem_cons.1 hx with rfl|hx
   ·obtain⟨s,hs,w1,s1⟩:=ih.ra b (by simp);have ks:=hV s (List.mem_cons_of_mem _ (ih.sub s hs));have e1:dv s=dv b:=(jH ks.2.1 kb.2.1).1 w1;have e2:dv x=dv b:=(jH ka.2.1 kb.2.1).1 hw;refine⟨s,hs,(jH ks.2.1 ka.2.1).2 (e1.trans e2.symm),?_⟩;have s2:¬da b x<0:=λh=>kU.1 b (by simp) (lS.2 (.inr ⟨JW hw,h⟩));exact JC s1 s2
   ·exact ih.ra x hx
  ·have e:eY (a::b::l)=a::eY (b::l):=by simp[eY,hw]
   rw[e];have iB:a6 a b<0:=by
    have h1:=up b (by simp);have:=ly (dv a) (dv b);unfold a6 at *;omega
   refine⟨List.pairwise_cons.2 ⟨λx hx=>?_,ih.sorted⟩,λs hs=>?_,λx hx=>?_⟩
   ·have nX:=ih.sub x hx;rcases List.mem_cons.1 nX with rfl|nX
    ·exact iB
    ·have rA:¬a6 x b<0:=λh=>(List.pairwise_cons.1 kU.2).1 x nX (lS.2 (.inl h));have kx:=hV x (by simp[nX]);have f:=ly (dv x) (dv b);by_cases h0:a6 b x=0
     ·have e3:dv b=dv x:=(jH kb.2.1 kx.2.1).1 h0;unfold a6 at iB ⊢;rw[<-e3];exact iB
     ·have h2:a6 b x<0:=by unfold a6 at *;omega
      exact u7 iB h2
   ·rcases List.mem_cons.1 hs with rfl|hs
    ·simp
    ·exact List.mem_cons_of_mem _ (ih.sub s hs)
   ·rcases List.mem_cons.1 hx with rfl|hx
    ·exact⟨x,by simp,mF _,sn x⟩
    ·obtain⟨s,hs,h⟩:=ih.ra x hx;exact⟨s,List.mem_cons_of_mem _ hs,h⟩
def cO:List aa->aa->List aa
 | [],a=>[a]
 | s::S,a=>if a6 s a<0 then s::cO S a else if a6 s a=0 then (if da s a<0 then a::S else s::S)else a::s::S
theorem r7(a:aa):∀(S:List aa),∀s∈cO S a,s∈S\/s=a
 | [],s,h=>by simp[cO]at h;exact .inr h
 | t::S,s,h=>by
  simp only[cO]at h;split at h
  ·rcases List.mem_cons.1 h with rfl|h
   ·simp
   ·rcases r7 a S s h with h|h
    ·exact .inl (List.mem_cons_of_mem _ h)
    ·exact .inr h
  ·split at h
   ·split at h
    ·rcases List.mem_cons.1 h with rfl|h
     ·exact .inr rfl
     ·exact .inl (List.mem_cons_of_mem _ h)
    ·exact .inl h
   ·rcases List.mem_cons.1 h with rfl|h
    ·exact .inr rfl
    ·exact .inl h
theorem Wf(ka:cN n a):∀(S:List aa),(∀s∈S,cN n s)->(∃s∈cO S a,a6 s a=0/\¬da s a<0)/\∀t∈S,∃s∈cO S a,a6 s t=0/\¬da s t<0
 | [],_=>⟨⟨a,by simp[cO],mF _,sn a⟩,by simp⟩
 | t::S,hV=>by
  obtain⟨h1,h2⟩:=Wf ka S (λs hs=>hV s (List.mem_cons_of_mem _ hs));have kt:=hV t (by simp);have self:∀x:aa,a6 x x=0/\¬da x x<0:=λx=>⟨mF _,sn x⟩;simp only[cO];split
  ·obtain⟨s,hs,hh⟩:=h1;refine⟨⟨s,List.mem_cons_of_mem _ hs,hh⟩,λu hu=>?_⟩;rcases List.mem_cons.1 hu with rfl|hu
   ·exact⟨u,by simp,self u⟩
   ·obtain⟨s,hs,hh⟩:=h2 u hu;exact⟨s,List.mem_cons_of_mem _ hs,hh⟩
  ·split
   ·rename_i hw;split
    ·rename_i aX;refine⟨⟨a,by simp,self a⟩,λu hu=>?_⟩;rcases List.mem_cons.1 hu with rfl|hu
     ·refine⟨a,by simp,JW hw,λh=>?_⟩;exact sn a (WL h aX)
     ·exact⟨u,List.mem_cons_of_mem _ hu,self u⟩
    ·rename_i aX;exact⟨⟨t,by simp,hw,aX⟩,λu hu=>⟨u,hu,self u⟩⟩
   ·exact⟨⟨a,by simp,self a⟩,λu hu=>⟨u,List.mem_cons_of_mem _ hu,self u⟩⟩
theorem Wg(ka:cN n a):∀(S:List aa),(∀s∈S,cN n s)->S.Pairwise (λx y=>a6 x y<0)->(cO S a).Pairwise λx y=>a6 x y<0
 | [],_,_=>by simp[cO]
 | t::S,hV,hP=>by
  have kU:=List.pairwise_cons.1 hP;have kt:=hV t (by simp);simp only[cO];split
  ·rename_i hw;refine List.pairwise_cons.2 ⟨λx hx=>?_,Wg ka S (λs hs=>hV s (List.mem_cons_of_mem _ hs)) kU.2⟩;rcases r7 a S x hx with hx|rfl
   ·exact kU.1 x hx
   ·exact hw
  ·rename_i hw;split
   ·rename_i TM;have e:dv t=dv a:=(jH kt.2.1 ka.2.1).1 TM;split
    ·refine List.pairwise_cons.2 ⟨λx hx=>?_,kU.2⟩;have:=kU.1 x hx;unfold a6 at this ⊢;rw[<-e];exact this
    ·exact hP
   ·rename_i TM;have h1:a6 a t<0:=by
     have:=ly (dv t) (dv a);unfold a6 at *;omega
    refine List.pairwise_cons.2 ⟨λx hx=>?_,hP⟩;rcases List.mem_cons.1 hx with rfl|hx
    ·exact h1
    ·exact u7 h1 (kU.1 x hx)
theorem ajX(ka:cN n a)(hV:∀a∈l,cN n a)(h:iZ n S l):iZ n (cO S a) (l++[a]):=by
 have hS:∀s∈S,cN n s:=λs hs=>hV s (h.sub s hs);obtain⟨d1,d2⟩:=Wf ka S hS;refine⟨Wg ka S hS h.sorted,λs hs=>?_,λx hx=>?_⟩
 ·rcases r7 a S s hs with hs|rfl
  ·exact List.mem_append_left _ (h.sub s hs)
  ·simp
 ·rcases List.mem_append.1 hx with hx|hx
  ·obtain⟨s,hs,w1,s1⟩:=h.ra x hx;obtain⟨t,ht,w2,s2⟩:=d2 s hs;have kx:=hV x hx;have ks:=hS s hs;have kt:cN n t:=by
    rcases r7 a S t ht with h|rfl
    ·exact hS t h
    ·exact ka
   have e1:=(jH ks.2.1 kx.2.1).1 w1;have e2:=(jH kt.2.1 ks.2.1).1 w2;exact⟨t,ht,(jH kt.2.1 kx.2.1).2 (e2.trans e1),JC s2 s1⟩
  ·rw[List.mem_singleton.1 hx];exact d1
theorem R5:∀(l m S:List aa),(∀a∈l,cN n a)->(∀a∈m,cN n a)->iZ n S m->iZ n (l.foldl cO S) (m++l)
 | [],m,S,_,_,h=>by simpa using h
 | a::l,m,S,hl,hm,h=>by
  have ka:=hl a (by simp);have:=R5 l (m++[a]) (cO S a) (λx hx=>hl x (List.mem_cons_of_mem _ hx)) (λx hx=>by
   rcases List.mem_append.1 hx with hx|hx
   ·exact hm x hx
   ·rw[List.mem_singleton.1 hx];exact ka) (ajX ka hm h)
  simpa using this
theorem ajk{n:Nat}(hV:∀a∈l,cN n a)(hm:∀a,a∈l↔a∈l'):eY (eO eo l)=l'.foldl cO []:=by
 have hp:=pV eo l;have h1:iZ n (eY (eO eo l)) (eO eo l):=Vd _ (λa ha=>hV a (hp.mem_iff.1 ha)) (Jo Cc hV);have h2:iZ n (l'.foldl cO []) ([]++l'):=R5 l' [] [] (λa ha=>hV a ((hm a).2 ha)) (by simp) ⟨List.Pairwise.nil,by simp,by simp⟩;rw[List.nil_append]at h2;exact aeQ (λa ha=>hV a (hp.mem_iff.1 ha)) (λa=>(hp.mem_iff).trans (hm a)) h1 h2
theorem fT(h:bI a=true):a.1.length<=4/\cZ a.2.1=true/\∀y∈a.1,cZ y=true:=by
 unfold bI at h;simp only[Bool.and_eq_true,Bool.not_eq_true',decide_eq_false_iff_not,List.all_eq_true]at h;exact⟨by omega,h.2.1,h.2.2.1⟩
theorem B9(h:cZ y=true):-400000000<=y/\y<=400000000:=by
 unfold cZ at h;simpa using h
theorem Ss:∀(x:List Int) (g:Nat),(∀y∈x,cZ y=true)->g<=400000000->gl x g<=400000000
 | [],g,_,hg=>hg
 | a::x,g,h,hg=>by
  have e:gl (a::x) g=gl x (Nat.gcd g a.natAbs):=rfl;rw[e];refine Ss x _ (λy hy=>h y (List.mem_cons_of_mem _ hy)) ?_;have hb:=B9 (h a (by simp));by_cases h0:g=0
  ·subst h0;rw[Nat.gcd_zero_left];omega
  ·exact Nat.le_trans (Nat.gcd_le_left _ (Nat.pos_of_ne_zero h0)) hg
theorem ae0(h:bI a=true):dD a<=400000000:=by
 have:=Ss a.1 0 (fT h).2.2 (by omega);unfold dD;split<;>omega
theorem BV(a:aa):(bif true then if 1<((gl a.1 0:Nat):Int)then ((gl a.1 0:Nat):Int)else 1 else if ((gl a.1 0:Nat):Int)<1 then ((gl a.1 0:Nat):Int)else 1)=dD a:=by
 simp only[cond_true];unfold dD;by_cases h:gl a.1 0=0
 ·rw[if_pos h,h];rfl
 ·rw[if_neg h];by_cases h2:1<((gl a.1 0:Nat):Int)
  ·rw[if_pos h2]
  ·rw[if_neg h2];omega
theorem QH(h:bI a=true):lO a.1=some ((((gl a.1 0:Nat):Int),()),()):=QG a.1 (by have:=(fT h).1;omega) (fT h).2.2
theorem abz(h:bI a=true):EF a=some ((gl a.1 0 != 0,()),()):=by
 rw[aby,QH h];simp only[Option.bind_some];congr 3;cases hg:gl a.1 0 with
 | zero=>rfl
 | succ n=>simp;omega
theorem xP(h:bI a=true):qE a=some ((dD a,()),()):=by
 rw[abt,QH h];simp only[Option.bind_some];unfold dD;cases hg:gl a.1 0 with
 | zero=>rfl
 | succ n =>
  have:(((n+1:Nat):Int)==0)=false:=by simp;omega
  rw[this];rfl
theorem yi(h:bI a=true):qK a=some ((((gl a.1 0:Nat):Int),()),()):=by
 rw[acu,QV a.1 0 (by have:=(fT h).1;omega) (fT h).2.2 (by decide)];rfl
theorem afq:∀(x:List Int),gl x 0=0↔∀y∈x,y=0:=by
 intro x;constructor
 ·intro h y hy;have:=(G6 x 0).2 y hy;rw[h]at this;have:=Nat.eq_zero_of_zero_dvd this;omega
 ·intro h;induction x with
  | nil=>rfl
  | cons a x ih =>
   have e:gl (a::x) 0=gl x (Nat.gcd 0 a.natAbs):=rfl;rw[e,h a (by simp)];exact ih λy hy=>h y (List.mem_cons_of_mem _ hy)
theorem acr(a:aa)(hl:a.1.length<=68719476736):yh a=some ((gl a.1 0==0,()),()):=by
 rw[acq];rw[kM a.1 (λy=>y==0) (some ((false,()),())) (some ((true,()),())) (λi=>wL a i) hl (λi hi=>by
  rw[PF,aR hi,aG hi,aT (by omega)];simp only[cond_true,Option.bind_some,bne];cases a.1[i]==0<;>rfl) (by rw[PF,aY];rfl)]
 have e:a.1.all (λy=>y==0)=(gl a.1 0==0):=by
  rw[Bool.eq_iff_iff,List.all_eq_true,beq_iff_eq,afq];simp
 rw[e];cases gl a.1 0==0<;>rfl
theorem Cs{D:Int}(h:cZ y=true):IntKind.i64.wrap (y.tdiv D)=y.tdiv D:=by
 have:=B9 h;have h2:(y.tdiv D).natAbs<=y.natAbs:=tdiv_le y D;exact bZ (by omega) (by omega)
theorem QO(a b:Int):xV a b=some ((jD a b,()),()):=by
 rw[abS];unfold jD;by_cases h1:a<b
 ·rw[if_pos h1,decide_eq_true h1];rfl
 ·rw[if_neg h1,decide_eq_false h1];by_cases h2:b<a
  ·have:a>b:=h2;rw[if_pos h2,decide_eq_true this];rfl
  ·have:¬a>b:=h2;rw[if_neg h2,decide_eq_false this];rfl
theorem Vh{y:List Int}{i:Nat}(hx:i<x.length)(hy:i<y.length):dn (x.drop i) (y.drop i)=if x[i]=y[i]then dn (x.drop (i+1)) (y.drop (i+1))else if x[i]<y[i]then -1 else 1:=by
 rw[List.drop_eq_getElem_cons hx,List.drop_eq_getElem_cons hy];rfl
theorem AZ(a:aa):(dD a != 0)=true:=by
 have:=nw a;simp;omega
theorem Pa(ha:bI a=true)(hb:bI b=true)(hl:a.1.length=b.1.length):∀(n i:Nat),n+i=a.1.length ->
  wE a b (dD a) (dD b) (a.1.length:Int) (i:Int)=some ((dn ((dv a).drop i) ((dv b).drop i),()),())
 | 0,i,hn=>by
  obtain rfl:i=a.1.length:=by omega
  rw[O9,aY];have e1:(dv a).drop a.1.length=[]:=List.drop_eq_nil_of_le (by rw[jg];omega);rw[e1];rfl
 | n+1,i,hn=>by
  have hi:i<a.1.length:=by omega
  have ep:i<b.1.length:=by omega
  have na:=(fT ha).2.2 _ (List.getElem_mem hi);have nb:=(fT hb).2.2 _ (List.getElem_mem ep);rw[O9,aR hi,aG hi,aG ep,AZ,AZ,aT (by have:=(fT ha).1;omega)];simp only[cond_true,Option.bind_some];rw[Cs na,Cs nb,QO];simp only[Option.bind_some];rw[Pa ha hb hl n (i+1) (by omega),Vh (i:=i) (by rw[jg];exact hi) (by rw[jg];exact ep)];have e1:(dv a)[i]'(by rw[jg];exact hi)=a.1[i].tdiv (dD a):=by simp[dv]
  have e2:(dv b)[i]'(by rw[jg];exact ep)=b.1[i].tdiv (dD b):=by simp[dv]
  rw[e1,e2];generalize a.1[i].tdiv (dD a)=x;generalize b.1[i].tdiv (dD b)=y;by_cases h:x=y
  ·rw[if_pos h,Jl.2 h];rfl
  ·rw[if_neg h];unfold jD;by_cases h1:x<y
   ·rw[if_pos h1,if_pos h1];rfl
   ·rw[if_neg h1,if_neg h1,if_pos (by omega)];rfl
theorem QC(ha:bI a=true)(hb:bI b=true)(hl:a.1.length=b.1.length):tl a b=some ((a6 a b,()),()):=by
 rw[abo,xP ha,xP hb];simp only[Option.bind_some];have:=Pa ha hb hl a.1.length 0 (by omega);rw[Int.natCast_zero]at this;rw[this];rfl
theorem PJ(ha:bI a=true)(hb:bI b=true)(hl:a.1.length=b.1.length):∀(n i:Nat),n+i=a.1.length ->
  wO a b (dD a) (dD b) (i:Int)=some ((dn ((dv a).drop i) ((dv b).drop i),()),())
 | 0,i,hn=>by
  obtain rfl:i=a.1.length:=by omega
  rw[PI,aY];have e1:(dv a).drop a.1.length=[]:=List.drop_eq_nil_of_le (by rw[jg];omega);rw[e1];rfl
 | n+1,i,hn=>by
  have hi:i<a.1.length:=by omega
  have ep:i<b.1.length:=by omega
  have na:=(fT ha).2.2 _ (List.getElem_mem hi);have nb:=(fT hb).2.2 _ (List.getElem_mem ep);rw[PI,aR hi,aR ep,aG hi,aG ep,AZ,AZ,aT (by have:=(fT ha).1;omega)];simp only[cond_true,Option.bind_some];rw[Cs na,Cs nb,PJ ha hb hl n (i+1) (by omega),Vh (i:=i) (by rw[jg];exact hi) (by rw[jg];exact ep)];have e1:(dv a)[i]'(by rw[jg];exact hi)=a.1[i].tdiv (dD a):=by simp[dv]
  have e2:(dv b)[i]'(by rw[jg];exact ep)=b.1[i].tdiv (dD b):=by simp[dv]
  rw[e1,e2];generalize a.1[i].tdiv (dD a)=x;generalize b.1[i].tdiv (dD b)=y;by_cases h:x=y
  ·rw[if_pos h,h];simp
  ·rw[if_neg h];have e:(x != y)=true:=by simpa using h
   rw[e,cond_true];by_cases h1:x<y
   ·rw[if_pos h1,decide_eq_true h1];rfl
   ·rw[if_neg h1,decide_eq_false h1];rfl
theorem acz(ha:bI a=true)(hb:bI b=true)(hl:a.1.length=b.1.length):qL a b=some ((a6 a b,()),()):=by
 rw[acy,yi ha,yi hb];simp only[Option.bind_some];rw[BV,BV];have:=PJ ha hb hl a.1.length 0 (by omega);rw[Int.natCast_zero]at this;rw[this];rfl
theorem B5(ha:bI a=true)(hb:bI b=true):IntKind.i64.wrap (a.2.1*dD b)=a.2.1*dD b:=by
 have h1:=B9 (fT ha).2.1;have h2:=nw b;have h3:=ae0 hb;exact JY (by omega) (by omega)
theorem acw(ha:bI a=true)(hb:bI b=true):yj a b=some ((!decide (da a b<0),()),()):=by
 rw[acv,yi ha,yi hb];simp only[Option.bind_some];rw[BV,BV,B5 ha hb,B5 hb ha];have hs:=@vH a b;generalize a.2.1*dD b=x at *
 generalize b.2.1*dD a=y at *
 by_cases h1:x>y
 ·have:¬da a b<0:=λh=>by
   rcases hs.1 h with h|h<;>omega
  rw[decide_eq_true h1,decide_eq_false this];rfl
 ·rw[decide_eq_false h1];by_cases h2:x=y
  ·subst h2;simp only[cond_false,beq_self_eq_true,cond_true];cases h3:a.2.2
   ·cases h4:b.2.2
    ·have:¬da a b<0:=λh=>by
      rcases hs.1 h with h|h
      ·omega
      ·rw[h4]at h;exact absurd h.2.2 (by simp)
     rw[decide_eq_false this];rfl
    ·have:da a b<0:=hs.2 (.inr ⟨rfl,h3,h4⟩);rw[decide_eq_true this];rfl
   ·have:¬da a b<0:=λh=>by
     rcases hs.1 h with h|h
     ·omega
     ·rw[h3]at h;exact absurd h.2.1 (by simp)
    rw[decide_eq_false this];rfl
  ·have e:(x==y)=false:=by simpa using h2
   have:da a b<0:=hs.2 (.inl (by omega));rw[e,decide_eq_true this];rfl
theorem aaR(ha:bI a=true)(hb:bI b=true)(hl:a.1.length=b.1.length):Qw a b=some ((eo a b,()),()):=by
 have e0:((a.1.length:Int) != (b.1.length:Int))=false:=by rw[hl];simp
 rw[aaQ,nj,nj,ha,hb,e0,QC ha hb hl,xP ha,xP hb];simp only[Option.bind_some,Bool.not_true,cond_false];rw[B5 ha hb,B5 hb ha,QO];simp only[Option.bind_some];unfold eo da;by_cases h:a6 a b=0
 ·rw[h];simp only[bne_self_eq_false,cond_false,ne_eq,not_true_eq_false,if_false];by_cases h2:jD (a.2.1*dD b) (b.2.1*dD a)=0
  ·rw[h2];simp only[bne_self_eq_false,cond_false,not_true_eq_false,if_false];cases a.2.2<;>cases b.2.2<;>rfl
  ·have e:(jD (a.2.1*dD b) (b.2.1*dD a) != 0)=true:=by simpa using h2
   rw[e,if_pos h2];rfl
 ·have e:(a6 a b != 0)=true:=by simpa using h
  rw[e,if_pos h];rfl
theorem WM(h:n<=68719476736):decide ((0+n)*8<=140737488355328)=true:=by simp;omega
theorem iP{c:Nat}(h:n<=68719476736)(hc:c<=1000):decide ((n+1)*c<=140737488355328)=true:=by
 have:=Nat.mul_le_mul (show n+1<=68719476737 by omega) hc;simp;omega
theorem QX(a:aa)(h:a.1.length<=68719476736):yk a=some ((a,()),()):=by
 rw[acA,WM h];rfl
theorem QD(a:aa)(h:a.1.length<=68719476736):xM a=some ((a,()),()):=by
 rw[abp,abr,WM h];rfl
theorem GU(l:List α):l.drop (Int.toNat 0)=l:=rfl
theorem VW{m:Nat}(h1:n<=m)(h2:m<=1000000):(decide ((0:Nat)<=0)&&decide (0<=(n:Int))&&decide ((n:Int)<=(m:Int)))=true:=by simp;omega
theorem VX{m:Nat}(h1:n<=m):(decide (0<=(n:Int))&&decide ((n:Int)<=(m:Int))&&decide ((m:Int)<=(m:Int)))=true:=by simp;omega
theorem ako{S:List α}(hi:i<S.length)(a:α):S.set i a=S.take i++a::S.drop (i+1):=by
 rw[List.set_eq_take_append_cons_drop,if_pos hi]
theorem Ve(hS:S.length<=1000000)(i:Nat):decide ((0+(List.drop (Int.toNat 0) (S.take i)).length)*40<=140737488355328)=true/\decide (((List.drop (Int.toNat 0) (S.take i)).length+1)*40<=140737488355328)=true /\
  ∀a:aa,decide (((List.drop (Int.toNat 0) (S.take i)++[a]).length+(S.drop i).length)*40<=140737488355328)=true:=by
 rw[GU];refine⟨?_,?_,λa=>?_⟩<;>simp only[List.length_append,List.length_take,List.length_drop,List.length_singleton,decide_eq_true_eq]<;>omega
theorem PS(ka:cN n a)(hV:∀s∈S,cN n s)(hS:S.length<=1000000):∀(m i:Nat),m+i=S.length ->
  wR S a (i:Int)=some ((S.take i++cO (S.drop i) a,()),())
 | 0,i,hm=>by
  obtain rfl:i=S.length:=by omega
  obtain⟨l1,l2,l3⟩:=Ve hS S.length;have l3:=l3 a;rw[PR,aY,Int.toNat_natCast];have et:S.take S.length=S:=List.take_of_length_le (Nat.le_refl _);simp only[cond_false,VW (Nat.le_refl _) hS,VX (Nat.le_refl S.length),et,cond_true]at l1 l2 l3 ⊢;rw[l1,l2,l3,GU];simp[cO]
 | m+1,i,hm=>by
  have hi:i<S.length:=by omega
  have ks:=hV _ (List.getElem_mem hi);have hl:S[i].1.length=a.1.length:=ks.2.1.trans ka.2.1.symm;have ag0:=acz ks.1 ka.1 hl;have agT:=acw ks.1 ka.1;obtain⟨l1,l2,l3⟩:=Ve hS i;have l3:=l3 a;have et:S.take S.length=S:=List.take_of_length_le (Nat.le_refl _);have l4:decide ((0+S.length)*40<=140737488355328)=true:=by simp;omega
  rw[PR,aR hi,aG hi,aT (by omega),Int.toNat_natCast];simp only[cond_true,Option.bind_some,ag0,agT,VW (Nat.le_of_lt hi) hS,VX (Nat.le_of_lt hi),et,l1,l2,l3,l4];rw[List.drop_eq_getElem_cons hi];simp only[cO];by_cases w:a6 S[i] a<0
  ·rw[decide_eq_true w,if_pos w,cond_true,PS ka hV hS m (i+1) (by omega)];have e:S.take (i+1)=S.take i++[S[i]]:=by rw[List.take_add_one,List.getElem?_eq_getElem hi];rfl
   rw[e,List.append_assoc];rfl
  ·rw[decide_eq_false w,if_neg w,cond_false];by_cases w0:a6 S[i] a=0
   ·have e:(a6 S[i] a==0)=true:=by simpa using w0
    rw[e,if_pos w0,cond_true];by_cases st:da S[i] a<0
    ·rw[decide_eq_true st,if_pos st];simp only[Bool.not_true,cond_false];rw[ako hi]
    ·rw[decide_eq_false st,if_neg st];simp only[Bool.not_false,cond_true];rw[<-List.drop_eq_getElem_cons hi,List.take_append_drop]
   ·have e:(a6 S[i] a==0)=false:=by simpa using w0
    rw[e,if_neg w0,cond_false,GU];simp
theorem acH(ka:cN n a)(hV:∀s∈S,cN n s)(hS:S.length<=1000000):yn S a=some ((cO S a,()),()):=by
 rw[acG];have:=PS ka hV hS S.length 0 (by omega);rw[Int.natCast_zero]at this;rw[this];simp
theorem I7(a:aa):∀S:List aa,(cO S a).length<=S.length+1
 | []=>by simp[cO]
 | s::S=>by
  have:=I7 a S;simp only[cO];split
  ·simp;omega
  ·split
   ·split<;>simp
   ·simp
theorem ajY(ka:cN n a)(hV:∀s∈S,cN n s):∀s∈cO S a,cN n s:=λs hs=>by
 rcases r7 a S s hs with h|rfl
 ·exact hV s h
 ·exact ka
def fB(a:aa):Bool:=gl a.1 0==0&&(decide (a.2.1>0)||(a.2.1==0&&a.2.2))
def fz(a:aa):Bool:=gl a.1 0 != 0
def n5(d:Int):an:=(d,[(List.replicate d.toNat (0:Int),1,false)])
def cY(d:Int)(l:List aa):an:=bif l.any fB then n5 d else (d,(l.filter fz).foldl cO [])
def bG(n:Nat)(a:aa):Prop:=bI a=true/\a.1.length=n
theorem IV{n:Nat}(h:bG n a)(hv:fz a=true):cN n a:=⟨h.1,h.2,by unfold fz at hv;simpa using hv⟩
theorem VA(h0:0<=d)(h1:d<=1000):(decide (0<=d)&&decide (d<=d)&&decide (d*8<=140737488355328)&&decide (d<=9223372036854775807))=true:=by simp;omega
theorem QY(h0:0<=d)(h1:d<=1000):EN d=some ((n5 d,()),()):=by
 rw[acE,VA h0 h1];rfl
theorem QI(h0:0<=d)(h1:d<=1000):xQ d=some ((n5 d,()),()):=by
 rw[abv,VA h0 h1];rfl
theorem wQ(h0:0<=d)(h1:d<=1000){l:List aa}(hV:∀a∈l,bG n a)(hl:l.length<=1000)(z:an):∀(m i:Nat) (S:List aa),m+i=l.length->(∀s∈S,cN n s)->S.length<=i ->
  th d l z (d,S) (i:Int)=some ((bif (l.drop i).any fB then n5 d else (d,((l.drop i).filter fz).foldl cO S),()),())
 | 0,i,S,hm,_,_=>by
  obtain rfl:i=l.length:=by omega
  rw[PQ,aY,List.drop_eq_nil_of_le (Nat.le_refl _)];rfl
 | m+1,i,S,hm,hS,hSl=>by
  have hi:i<l.length:=by omega
  have kv:=hV _ (List.getElem_mem hi);have h4:=(fT kv.1).1;rw[PQ,aR hi,aG hi,aT (by omega)];simp only[cond_true,Option.bind_some];rw[acr _ (by omega),List.drop_eq_getElem_cons hi,List.any_cons,List.filter_cons];simp only[Option.bind_some];have ih:=λS h1 h2=>wQ h0 h1 hV hl z m (i+1) S (by omega);cases hg:gl l[i].1 0==0
  ·have hv:fz l[i]=true:=by unfold fz bne;rw[hg];rfl
   have hb:fB l[i]=false:=by unfold fB;rw[hg];rfl
   have ka:=IV kv hv;rw[hv,hb,cond_false,QX _ (by omega)];simp only[Option.bind_some];rw[acH ka hS (by omega)];simp only[Option.bind_some];have:=wQ h0 h1 hV hl z m (i+1) (cO S l[i]) (by omega) (ajY ka hS) (by have:=I7 l[i] S;omega);rw[this];rfl
  ·have hv:fz l[i]=false:=by unfold fz bne;rw[hg];rfl
   rw[hv,cond_true,acx];have e1:fB l[i]=(decide (l[i].2.1>0)||(l[i].2.1==0&&l[i].2.2)):=by unfold fB;rw[hg];rfl
   rw[e1];have:=wQ h0 h1 hV hl z m (i+1) S (by omega) hS (by omega);by_cases c1:l[i].2.1<0
   ·have c2:¬l[i].2.1>0:=by omega
    have c3:(l[i].2.1==0)=false:=by simp;omega
    rw[decide_eq_true c1,decide_eq_false c2,c3];simp only[cond_true,Option.bind_some,Bool.not_true,cond_false,Bool.false_and,Bool.or_self,Bool.false_or];rw[this];rfl
   ·rw[decide_eq_false c1];by_cases c3:l[i].2.1=0
    ·have c4:(l[i].2.1==0)=true:=by simpa using c3
     have c2:¬l[i].2.1>0:=by omega
     rw[decide_eq_false c2,c4];cases l[i].2.2
     ·simp only[cond_false,cond_true,Option.bind_some,Bool.not_true,Bool.not_false,Bool.and_false,Bool.or_self,Bool.false_or];rw[this];rfl
     ·simp only[cond_false,cond_true,Option.bind_some,Bool.not_true,Bool.not_false,Bool.and_true,Bool.or_true,Bool.true_or];rw[QY h0 h1];rfl
    ·have c4:(l[i].2.1==0)=false:=by simpa using c3
     have c2:l[i].2.1>0:=by omega
     rw[decide_eq_true c2,c4];simp only[cond_false,cond_true,Option.bind_some,Bool.not_false,Bool.true_or];rw[QY h0 h1];rfl
theorem EO{n:Nat}{d:Int}(h0:0<=d)(h1:d<=1000){l:List aa}(hV:∀a∈l,bG n a)(hl:l.length<=1000):qM d l=some ((cY d l,()),()):=by
 rw[acF];have:=wQ h0 h1 hV hl (0,[]) l.length 0 [] (by omega) (by simp) (by simp);rw[Int.natCast_zero]at this;rw[this];rfl
abbrev sA:Ty:=.pair (.slice 3 ag) (.pair ag aB)
theorem GH(ha:bG n a)(hb:bG n b):mV (a,(b,()))=some ((fq sA mV a b,()),()) /\
  fq sA mV a b=eo a b:=by
 have h:mV (a,(b,()))=some ((eo a b,()),()):=aaR ha.1 hb.1 (ha.2.trans hb.2.symm);have e:fq sA mV a b=eo a b:=by
  unfold fq;rw[h]
 exact⟨by rw[e];exact h,e⟩
theorem aju{V:α->Prop}{cf cg:α->α->Int}(h:oy V cf){W:α->Prop}(hW:∀x,W x->V x)(he:∀x y,W x->W y->cg x y=cf x y):oy W cg:=by
 refine⟨λx hx=>?_,λx y z hx hy hz h1 h2=>?_,λx y z hx hy hz h1 h2=>?_,λx y hx hy h1 h2=>?_⟩
 ·rw[he x x hx hx];exact h.irrefl x (hW x hx)
 ·rw[he _ _ hx hy]at h1;rw[he _ _ hy hz]at h2;rw[he _ _ hx hz];exact h.trans x y z (hW _ hx) (hW _ hy) (hW _ hz) h1 h2
 ·rw[he _ _ hx hy]at h1;rw[he _ _ hy hz]at h2;rw[he _ _ hx hz];exact h.ntrans x y z (hW _ hx) (hW _ hy) (hW _ hz) h1 h2
 ·rw[he _ _ hx hy]at h1;rw[he _ _ hy hx]at h2;exact h.F9 x y (hW _ hx) (hW _ hy) h1 h2
theorem akv{K:List aa}(hV:∀a∈K,cN n a)(hl:K.length<=1000000):
  QZ K (Value.func (Fn.func 356) #[] #[])=some ((),eO eo K,()):=by
 have hv:∀a∈K,bG n a:=λa ha=>⟨(hV a ha).1,(hV a ha).2.1⟩;have hO:oy (λa=>a∈K) (fq sA mV):=
  aju (@Cc n) (λa ha=>hV a ha) (λx y hx hy=>(GH (hv x hx) (hv y hy)).2)
 have hs:eO eo K=eO (fq sA mV) K:=by
  have hp:=pV eo K;refine WA hO (λa ha=>ha) hp ?_;have:=Jo (@Cc n) hV;refine List.Pairwise.imp_of_mem (λ{a b} ha hb h=>?_) this;rw[(GH (hv b (hp.mem_iff.1 hb)) (hv a (hp.mem_iff.1 ha))).2];exact h
 show sk 153 sA 2 356 _ (K,(Value.func (Fn.func 356) #[] #[],()))=_;unfold sk;rw[if_pos ⟨rfl,⟨λa ha b hb=>(GH (hv a ha) (hv b hb)).1,hO⟩,Nat.lt_of_le_of_lt hl (by decide)⟩];rw[hs];rfl
theorem Pj{d:Int}{K:List aa}(hV:∀a∈K,cN n a)(hl:K.length<=1000)(z:an):∀(m i:Nat) (out:List aa),m+i=K.length->out.length<=i ->
  qs z ((i:Int),K) (d,out) (K.length:Int) (i:Int)=some (((d,out++eY (K.drop i)),()),())
 | 0,i,out,hm,_=>by
  obtain rfl:i=K.length:=by omega
  rw[Ph];dsimp only;rw[aY,List.drop_eq_nil_of_le (Nat.le_refl _),cond_false];simp[eY]
 | m+1,i,out,hm,ho=>by
  have hi:i<K.length:=by omega
  have k1:=hV _ (List.getElem_mem hi);have ei:((i:Int)+1)=((i+1:Nat):Int):=by omega
  have dd:(V.dead.idle&&decide ((i:Int)<=(i:Int)))=true:=by simp[V.idle,V.aD]
  have sz:decide ((out.length+1)*40<=140737488355328)=true:=iP (by omega) (by omega);rw[Ph];dsimp only;rw[aR hi,aG hi,dd,aT (by omega),sz,ei];simp only[cond_true,Option.bind_some];have ih:=λout h=>Pj (d:=d) hV hl z m (i+1) out (by omega) h;by_cases h2:i+1<K.length
  ·have k2:=hV _ (List.getElem_mem h2);have e2:decide (((i+1:Nat):Int)<=((i+1:Nat):Int))=true:=by simp
   rw[aR h2,aG h2,e2];simp only[cond_true,Option.bind_some];rw[QC k1.1 k2.1 (k1.2.1.trans k2.2.1.symm)];simp only[Option.bind_some];rw[List.drop_eq_getElem_cons hi,List.drop_eq_getElem_cons h2];simp only[eY];rw[<-List.drop_eq_getElem_cons h2];by_cases w:a6 K[i] K[i+1]=0
   ·have e:(a6 K[i] K[i+1]==0)=true:=by simpa using w
    rw[e,if_pos w,cond_true,ih out (by omega)]
   ·have e:(a6 K[i] K[i+1]==0)=false:=by simpa using w
    rw[e,if_neg w,cond_false,ih (out++[K[i]]) (by simp;omega),List.append_assoc];rfl
  ·have hz:i+1=K.length:=by omega
   have e2:decide (((i+1:Nat):Int)<(K.length:Int))=false:=by simp;omega
   rw[e2,cond_false,ih (out++[K[i]]) (by simp;omega),List.drop_eq_getElem_cons hi,List.drop_eq_nil_of_le (by omega)];simp[eY]
def IT(d:Int)(l:List aa):an:=bif l.any fB then n5 d else (d,eY (eO eo (l.filter fz)))
theorem C8{d:Int}(h0:0<=d)(h1:d<=1000)(hV:∀a∈l,bG n a)(hl:l.length<=1000)(z:an):∀(m i:Nat) (K:List aa),m+i=l.length->(∀s∈K,cN n s)->K.length<=i ->
  qt d l z K l (l.length:Int) (i:Int)=some ((bif (l.drop i).any fB then n5 d else (d,eY (eO eo (K++(l.drop i).filter fz))),()),())
 | 0,i,K,hm,hK,hKl=>by
  obtain rfl:i=l.length:=by omega
  rw[Pk,aY,List.drop_eq_nil_of_le (Nat.le_refl _),cond_false,akv hK (by omega)];simp only[Option.bind_some,List.any_nil,cond_false,List.filter_nil,List.append_nil];have hp:=pV eo K;have:=Pj (d:=d) (K:=eO eo K) (λa ha=>hK a (hp.mem_iff.1 ha)) (by rw[hp.length_eq];omega) z (eO eo K).length 0 [] (by omega) (by simp);rw[Int.natCast_zero]at this;rw[this];simp
 | m+1,i,K,hm,hK,hKl=>by
  have hi:i<l.length:=by omega
  have kv:=hV _ (List.getElem_mem hi);have h4:=(fT kv.1).1;rw[Pk,aR hi,aG hi,aT (by omega)];simp only[cond_true,Option.bind_some];rw[abz kv.1,List.drop_eq_getElem_cons hi,List.any_cons,List.filter_cons];simp only[Option.bind_some];cases hg:gl l[i].1 0==0
  ·have hv:fz l[i]=true:=by unfold fz bne;rw[hg];rfl
   have cD:(gl l[i].1 0 != 0)=true:=hv;have hb:fB l[i]=false:=by unfold fB;rw[hg];rfl
   have ka:=IV kv hv;rw[hv,cD,hb,Bool.not_true,cond_false,QD _ (by omega)];simp only[Option.bind_some];rw[iP (by omega) (by omega),cond_true];have:=C8 h0 h1 hV hl z m (i+1) (K++[l[i]]) (by omega) (λs hs=>by
    rcases List.mem_append.1 hs with h|h
    ·exact hK s h
    ·rw[List.mem_singleton.1 h];exact ka) (by simp;omega)
   rw[this];simp
  ·have hv:fz l[i]=false:=by unfold fz bne;rw[hg];rfl
   have cD:(gl l[i].1 0 != 0)=false:=hv;rw[hv,cD,Bool.not_false,cond_true];have e1:fB l[i]=(decide (l[i].2.1>0)||(l[i].2.1==0&&l[i].2.2)):=by unfold fB;rw[hg];rfl
   rw[e1];have:=C8 h0 h1 hV hl z m (i+1) K (by omega) hK (by omega);cases c1:decide (l[i].2.1>0)
   ·cases c2:l[i].2.1==0
    ·simp only[cond_false,Bool.false_and,Bool.or_self,Bool.false_or];rw[this];rfl
    ·cases c3:l[i].2.2
     ·simp only[cond_false,cond_true,Bool.and_false,Bool.or_self,Bool.false_or];rw[this];rfl
     ·simp only[cond_false,cond_true,Bool.and_true,Bool.or_true,Bool.true_or];rw[QI h0 h1];rfl
   ·simp only[cond_true,Bool.true_or];rw[QI h0 h1];rfl
theorem abO(h0:0<=d)(h1:d<=1000)(hV:∀a∈l,bG n a)(hl:l.length<=1000):qF d l=some ((IT d l,()),()):=by
 rw[abN];have:=C8 h0 h1 hV hl (0,[]) l.length 0 [] (by omega) (by simp) (by simp);rw[Int.natCast_zero]at this;rw[this];rfl
theorem norm_eq{n:Nat}(hV:∀a∈l,bG n a)(hm:∀a,a∈l↔a∈l'):IT d l=cY d l':=by
 have e1:l.any fB=l'.any fB:=by
  rw[Bool.eq_iff_iff,List.any_eq_true,List.any_eq_true];exact⟨λ⟨x,hx,h⟩=>⟨x,(hm x).1 hx,h⟩,λ⟨x,hx,h⟩=>⟨x,(hm x).2 hx,h⟩⟩
 have e2:eY (eO eo (l.filter fz))=(l'.filter fz).foldl cO []:=ajk (n:=n) (λa ha=>IV (hV a (List.mem_filter.1 ha).1) (List.mem_filter.1 ha).2) (λa=>by
  rw[List.mem_filter,List.mem_filter,hm a])
 unfold IT cY;rw[e1,e2]
theorem Si{g:Nat}(hg:g<=4000000000000000000)(hy:y.natAbs<=4000000000000000000):Nat.gcd g y.natAbs<=4000000000000000000:=by
 by_cases h0:g=0
 ·subst h0;rw[Nat.gcd_zero_left];exact hy
 ·exact Nat.le_trans (Nat.gcd_le_left _ (Nat.pos_of_ne_zero h0)) hg
theorem Sq:∀(x:List Int) (g:Nat),(∀y∈x,y.natAbs<=4000000000000000000)->g<=4000000000000000000->gl x g<=4000000000000000000
 | [],g,_,hg=>hg
 | a::x,g,h,hg=>Sq x (Nat.gcd g a.natAbs) (λy hy=>h y (List.mem_cons_of_mem _ hy)) (Si hg (h a (by simp)))
theorem PG(x:List Int)(hl:x.length<=68719476736)(hx:∀y∈x,y.natAbs<=4000000000000000000):∀(n i g:Nat),n+i=x.length->qz x (g:Int) (i:Int)=some ((((gl (x.drop i) g:Nat):Int),()),())
 | 0,i,g,hn=>by
  obtain rfl:i=x.length:=by omega
  rw[wM,aY,List.drop_eq_nil_of_le (by omega)];rfl
 | n+1,i,g,hn=>by
  have hi:i<x.length:=by omega
  rw[wM,aR hi,aG hi,cond_true,Option.bind_some,Q8 (hx _ (List.getElem_mem hi)),Option.bind_some,Db x i _ _ _ (Nat.le_refl _) (Int.natCast_nonneg _) (Int.natCast_nonneg _),aT (by omega),PG x hl hx n (i+1) _ (by omega),List.drop_eq_getElem_cons hi];simp only[Int.natAbs_natCast];rfl
theorem acs(x:List Int)(k:Int)(hl:x.length<=68719476736)(hx:∀y∈x,y.natAbs<=4000000000000000000)(hk:k.natAbs<=4000000000000000000):oB x k=some ((((gl x k.natAbs:Nat):Int),()),()):=by
 rw[QU,Q8 hk,Option.bind_some];have:=PG x hl hx x.length 0 k.natAbs (by omega);simpa using this
theorem Pc(x:List Int)(hl:x.length<=68719476736)(hx:∀y∈x,y.natAbs<=4000000000000000000):∀(n i g:Nat),n+i=x.length->g<=4000000000000000000->sX x (g:Int) x (x.length:Int) (i:Int)=some ((((gl (x.drop i) g:Nat):Int),()),())
 | 0,i,g,hn,_=>by
  obtain rfl:i=x.length:=by omega
  rw[wF,aY,List.drop_eq_nil_of_le (by omega)];rfl
 | n+1,i,g,hn,hg=>by
  have hi:i<x.length:=by omega
  have hy:=hx _ (List.getElem_mem hi);rw[wF,aR hi,aG hi,cond_true,Option.bind_some,Qz (by simpa using hg) hy,Option.bind_some,aT (by omega)];simp only[Int.natAbs_natCast];rw[Pc x hl hx n (i+1) _ (by omega) (Si hg hy),List.drop_eq_getElem_cons hi];rfl
theorem abu(x:List Int)(hl:x.length<=68719476736)(hx:∀y∈x,y.natAbs<=4000000000000000000):lO x=some ((((gl x 0:Nat):Int),()),()):=by
 rw[QF];have:=Pc x hl hx x.length 0 0 (by omega) (by omega);simpa using this
def hG(g:Nat):Int:=if g=0 then 1 else (g:Int)
def gW(x:List Int)(k:Int)(st:Bool):aa×Bool :=
 bif bI (x.map (λy=>y.tdiv (hG (gl x k.natAbs))),k.tdiv (hG (gl x k.natAbs)),st)then ((x.map (λy=>y.tdiv (hG (gl x k.natAbs))),k.tdiv (hG (gl x k.natAbs)),st),true)else (([],0,false),false)
theorem VY(g:Nat):(hG g != 0)=true:=by
 unfold hG;split
 ·rfl
 ·simp;omega
theorem ai3(g:Nat):(bif true then if 1<(g:Int)then (g:Int)else 1 else if (g:Int)<1 then (g:Int)else 1)=hG g:=by
 simp only[cond_true];unfold hG;by_cases h:g=0
 ·rw[if_pos h,h];rfl
 ·rw[if_neg h];by_cases h2:1<(g:Int)
  ·rw[if_pos h2]
  ·rw[if_neg h2];omega
theorem vJ{D:Int}(h:y.natAbs<=4000000000000000000):IntKind.i64.wrap (y.tdiv D)=y.tdiv D:=by
 have h2:(y.tdiv D).natAbs<=y.natAbs:=tdiv_le y D;exact bZ (by omega) (by omega)
theorem R0(x:List α)(g:α->β)(E:List β->Option R)(f:List β->Int->Option R)
  (h1:∀(i:Nat) (hi:i<x.length) (v:List β),v.length=x.length->f v (i:Int)=f (v.set i (g x[i])) ((i+1:Nat):Int)) (h2:∀v,v.length=x.length->f v (x.length:Int)=E v) :
  ∀(n i:Nat) (v:List β),n+i=x.length->v.length=x.length->f v (i:Int)=E (v.take i++(x.drop i).map g)
 | 0,i,v,hn,hv=>by
  obtain rfl:i=x.length:=by omega
  rw[h2 v hv,List.take_of_length_le (by omega),List.drop_eq_nil_of_le (by omega)];simp
 | n+1,i,v,hn,hv=>by
  have hi:i<x.length:=by omega
  rw[h1 i hi v hv,R0 x g E f h1 h2 n (i+1) _ (by omega) (by simpa using hv)];congr 1;have e1:(v.set i (g x[i])).take (i+1)=v.take i++[g x[i]]:=by
   rw[List.take_add_one,List.take_set_of_le (by omega)];simp[hv,hi]
  rw[e1,List.append_assoc,List.drop_eq_getElem_cons hi,List.map_cons];rfl
theorem GZ(x:List α)(g:α->β)(E:List β->Option R)(f:List β->Int->Option R)
  (h1:∀(i:Nat) (hi:i<x.length) (v:List β),v.length=x.length->f v (i:Int)=f (v.set i (g x[i])) ((i+1:Nat):Int)) (h2:∀v,v.length=x.length->f v (x.length:Int)=E v) (v:List β) (hv:v.length=x.length):f v 0=E (x.map g):=by
 have:=R0 x g E f h1 h2 x.length 0 v (by omega) hv;rw[Int.natCast_zero]at this;rw[this];simp
theorem tD(x:List α)(g:α->β)(E:List β->Option R)(f:List β->Int->Option R)
  (h1:∀(i:Nat) (hi:i<x.length) (o:List β),o.length=i->f o (i:Int)=f (o++[g x[i]]) ((i+1:Nat):Int)) (h2:∀o,f o (x.length:Int)=E o):f [] 0=E (x.map g):=by
 have key:∀(n i:Nat) (o:List β),n+i=x.length->o.length=i->f o (i:Int)=E (o++(x.drop i).map g):=by
  intro n;induction n with
  | zero =>
   intro i o hn ho;obtain rfl:i=x.length:=by omega
   rw[h2,List.drop_eq_nil_of_le (by omega)];simp
  | succ n ih =>
   intro i o hn ho;have hi:i<x.length:=by omega
   rw[h1 i hi o ho,ih (i+1) _ (by omega) (by simp;omega),List.drop_eq_getElem_cons hi,List.map_cons,List.append_assoc];rfl
 have:=key x.length 0 [] (by omega) rfl;rw[Int.natCast_zero]at this;rw[this];simp
theorem abM{st:Bool}(hl:x.length<=1000)(hx:∀y∈x,y.natAbs<=4000000000000000000)(hk:k.natAbs<=4000000000000000000):nm x k st=some (((gW x k st).1,(gW x k st).2,()),()):=by
 have hg:=Sq x 0 hx (by omega);have iD:=kl (R:=Option ((aa×Bool×PUnit)×PUnit)) x 8 (by omega) (by omega) (by omega);have loop:∀D:Int,(D != 0)=true->qq x ([],0,false) D (List.replicate x.length (0:Int),k.tdiv D,st) x (x.length:Int) 0=(bif bI (x.map (λy=>y.tdiv D),k.tdiv D,st)then some (((x.map (λy=>y.tdiv D),k.tdiv D,st),true,()),())else some ((([],0,false),false,()),())):=by
  intro D hD;refine GZ x (λy=>y.tdiv D) (λv=>(bif bI (v,k.tdiv D,st)then some (((v,k.tdiv D,st),true,()),())else some ((([],0,false),false,()),()))) (λv i=>qq x ([],0,false) D (v,k.tdiv D,st) x (x.length:Int) i) (λi hi v hv=>?_) (λv hv=>?_) _ (by simp)
  ·rw[Pg,aR hi,aG hi,aT (by omega),hD];simp only[cond_true,Option.bind_some];rw[aG (by omega),vJ (hx _ (List.getElem_mem hi)),Int.toNat_natCast];simp only[Option.bind_some]
  ·rw[Pg,aY,cond_false,nj];simp only[Option.bind_some];cases bI (v,k.tdiv D,st)<;>rfl
 rw[abL,abu x (by omega) hx];simp only[Option.bind_some];rw[Qz (by simpa using hg) hk];simp only[Option.bind_some,Int.natAbs_natCast];rw[<-G7];unfold gW;by_cases h0:gl x k.natAbs=0
 ·have e:hG (gl x k.natAbs)=1:=by unfold hG;rw[if_pos h0]
  rw[e,h0];have e2:(((0:Nat):Int)==0)=true:=rfl;rw[e2,cond_true,iD,vJ hk,loop 1 rfl];cases bI (x.map (λy=>y.tdiv 1),k.tdiv 1,st)<;>rfl
 ·have e:hG (gl x k.natAbs)=((gl x k.natAbs:Nat):Int):=by unfold hG;rw[if_neg h0]
  have e2:(((gl x k.natAbs:Nat):Int)==0)=false:=by simpa using h0
  have e3:(((gl x k.natAbs:Nat):Int) != 0)=true:=by simpa using h0
  rw[e,e2,cond_false,iD,e3,cond_true,vJ hk,loop _ e3];cases bI (x.map (λy=>y.tdiv ((gl x k.natAbs:Nat):Int)),k.tdiv ((gl x k.natAbs:Nat):Int),st)<;>rfl
theorem acp{st:Bool}(hl:x.length<=1000)(hx:∀y∈x,y.natAbs<=4000000000000000000)(hk:k.natAbs<=4000000000000000000):np x k st=some (((gW x k st).1,(gW x k st).2,()),()):=by
 have loop:∀D:Int,(D != 0)=true->tf x ([],0,false) D ([],k.tdiv D,st) 0=(bif bI (x.map (λy=>y.tdiv D),k.tdiv D,st)then some (((x.map (λy=>y.tdiv D),k.tdiv D,st),true,()),())else some ((([],0,false),false,()),())):=by
  intro D hD;refine tD x (λy=>y.tdiv D) (λv=>(bif bI (v,k.tdiv D,st)then some (((v,k.tdiv D,st),true,()),())else some ((([],0,false),false,()),()))) (λv i=>tf x ([],0,false) D (v,k.tdiv D,st) i) (λi hi v hv=>?_) (λv=>?_)
  ·have hs:decide ((v.length+1)*8<=140737488355328)=true:=iP (by omega) (by omega);rw[PE,aR hi,aG hi,aT (by omega),hD];simp only[cond_true,Option.bind_some];rw[hs,cond_true,vJ (hx _ (List.getElem_mem hi))]
  ·rw[PE,aY,cond_false,qJ];simp only[Option.bind_some];cases bI (v,k.tdiv D,st)<;>rfl
 rw[aco,acs x k (by omega) hx hk];simp only[Option.bind_some];rw[ai3,VY,cond_true,vJ hk,loop _ (VY _)];unfold gW;cases bI _<;>rfl
theorem ai6{st:Bool}(h:(gW x k st).2=true):bG x.length (gW x k st).1:=by
 unfold gW at *
 cases ha:bI (x.map (λy=>y.tdiv (hG (gl x k.natAbs))),k.tdiv (hG (gl x k.natAbs)),st)
 ·rw[ha]at h;cases h
 ·exact⟨ha,by simp⟩
theorem R7:∀(l S:List aa),(l.foldl cO S).length<=S.length+l.length
 | [],S=>by simp
 | a::l,S=>by
  have:=R7 l (cO S a);have h2:=I7 a S;simp only[List.foldl_cons,List.length_cons];omega
theorem R8:∀(l S:List aa),∀s∈l.foldl cO S,s∈S\/s∈l
 | [],S,s,h=>.inl h
 | a::l,S,s,h=>by
  rcases R8 l (cO S a) s h with h|h
  ·rcases r7 a S s h with h|rfl
   ·exact .inl h
   ·exact .inr (by simp)
  ·exact .inr (by simp[h])
theorem J5(f:α->Nat)(n:Nat):∀l:List α,(∀a∈l,f a<=n)->zL f l<=l.length*(n+1)
 | [],_=>by simp[zL]
 | a::l,h=>by
  have h1:=h a (by simp);have h2:=J5 f n l (λb hb=>h b (by simp[hb]));simp only[zL,List.length_cons,List.map_cons,List.sum_cons,Nat.add_mul,Nat.one_mul]at h2 ⊢;omega
theorem ajr(h:bG n a):zA a<=4:=by
 have:=(fT h.1).1;unfold zA zI;exact this
def CG:an:=(0,[])
def bp(a:aa)(v:Nat):Int:=a.1.getD v 0
def gV(a:aa)(p:Int)(b:aa)(q:Int):aa×Bool:=gW (List.zipWith (λx y=>p*x+q*y) a.1 b.1) (p*a.2.1+q*b.2.1) (a.2.2&&p != 0||b.2.2&&q != 0)
def jv(d:Int)(l:List aa):an×Bool:=bif decide ((cY d l).2.length>16)then (CG,false)else (cY d l,true)
def fN(v:Nat)(a:aa):List aa->List aa->Option (List aa)
 | [],o=>some o
 | b::l,o=>bif decide (bp b v>=0)then fN v a l o else bif (gV a (0 - bp b v) b (bp a v)).2 then fN v a l (o++[(gV a (0 - bp b v) b (bp a v)).1])else none
def iL(v:Nat)(L:List aa):List aa->List aa->Option (List aa)
 | [],o=>some o
 | a::l,o=>bif decide (bp a v<=0)then iL v L l o else match fN v a L o with
  | some o=>iL v L l o
  | none=>none
def tQ(v:Nat)(L:List aa):Option (List aa):=iL v L L (L.filter λa=>bp a v==0)
def gF(c:an)(v:Nat):an×Bool:=match tQ v c.2 with
 | some l=>jv c.1 l
 | none=>(CG,false)
def nA:Nat->an->Option an
 | 0,c=>some c
 | n+1,c=>bif (gF c n).2 then nA n (gF c n).1 else none
def GW(c:an):Bool×Bool:=match nA c.1.toNat c with
 | some r=>(decide (r.2.length>0),true)
 | none=>(false,false)
def tS(c:an):Bool×Bool:=bif bE c then GW (cY c.1 c.2)else (false,false)
def gY(a:aa):aa×Bool:=bif bI a then ((a.1.map (λx=>0 - x),0 - a.2.1,!a.2.2),true)else (([],0,false),false)
def jw(a b:an):an×Bool:=bif bE a&&(bE b&&a.1==b.1)then jv a.1 (a.2++b.2)else (CG,false)
def lv(c:an)(a:aa):Bool×Bool:=bif (gY a).2&&(jw c ((a.1.length:Int),[(gY a).1])).2 then tS (jw c ((a.1.length:Int),[(gY a).1])).1 else (false,false)
def q8(b:an):List aa->Bool×Bool
 | []=>(true,true)
 | x::l=>bif (lv b x).2 then (bif (lv b x).1 then q8 b l else (false,true))else (false,false)
def nt(a b:an):Bool×Bool:=bif bE a&&(bE b&&a.1==b.1)then q8 b a.2 else (false,false)
theorem en:bE c=true↔(∀a∈c.2,bG c.1.toNat a)/\0<=c.1/\c.1<=4/\c.2.length<=16:=by
 unfold bE bG;simp only[Bool.and_eq_true,List.all_eq_true,decide_eq_true_eq,Bool.not_eq_true',bne_eq_false_iff_eq];constructor
 ·rintro⟨h1,⟨h2,h3⟩,h4⟩
  exact⟨λa ha=>⟨(h1 a ha).1,by have:=(h1 a ha).2;omega⟩,h2,h3,by omega⟩
 ·rintro⟨h1,h2,h3,h4⟩
  exact⟨λa ha=>⟨(h1 a ha).1,by have:=(h1 a ha).2;omega⟩,⟨h2,h3⟩,by omega⟩
theorem ajj(d:Int)(l:List aa):(cY d l).2.length<=max 1 l.length:=by
 unfold cY;cases l.any fB with
 | true=>simp[n5];omega
 | false =>
  have h1:=R7 (l.filter fz) [];have h2:=List.length_filter_le fz l;simp only[cond_false,List.length_nil]at h1 ⊢;omega
theorem aji{d:Int}(h0:0<=d)(h1:d<=4):bG d.toNat ((List.replicate d.toNat (0:Int),1,false):aa):=by
 obtain⟨n,rfl⟩:∃n:Nat,d=n:=⟨d.toNat,by omega⟩;have:n=0\/n=1\/n=2\/n=3\/n=4:=by omega
 refine⟨?_,by simp⟩;rcases this with rfl|rfl|rfl|rfl|rfl<;>decide
theorem VT{d:Int}(hd:d=n)(h1:d<=4)(h:∀a∈l,bG n a):∀a∈(cY d l).2,bG n a:=by
 intro a ha;unfold cY at ha;cases hb:l.any fB with
 | true =>
  rw[hb]at ha;simp only[cond_true,n5,List.mem_singleton]at ha;subst ha;have:=aji (d:=d) (by omega) h1
  rwa [show d.toNat=n by omega]at this ⊢
 | false =>
  rw[hb]at ha;rcases R8 _ _ a ha with h2|h2
  ·cases h2
  ·exact h a (List.mem_filter.1 h2).1
theorem pK(d:Int)(l:List aa):(cY d l).1=d:=by
 unfold cY;cases l.any fB<;>rfl
theorem VS(h:bE c=true):bE (cY c.1 c.2)=true:=by
 obtain⟨h1,h2,h3,h4⟩:=en.1 h;rw[en,pK];exact⟨VT (by omega) h3 h1,h2,h3,by have:=ajj c.1 c.2;omega⟩
theorem Vj{l:List aa}(h0:0<=d)(h1:d<=4)(h:∀a∈l,bG d.toNat a)(hk:(jv d l).2=true):bE (jv d l).1=true/\(jv d l).1=cY d l:=by
 unfold jv at *
 cases hc:decide ((cY d l).2.length>16)with
 | true=>rw[hc]at hk;cases hk
 | false =>
  refine⟨?_,rfl⟩;rw[cond_false,en,pK];exact⟨VT (by omega) h1 h,h0,h1,Nat.le_of_not_lt (of_decide_eq_false hc)⟩
theorem ai4{a b:an}(h:(jw a b).2=true):bE (jw a b).1=true/\(jw a b).1=cY a.1 (a.2++b.2)/\bE a=true/\bE b=true/\a.1=b.1:=by
 unfold jw at *
 cases hc:bE a&&(bE b&&a.1==b.1)with
 | false=>rw[hc]at h;cases h
 | true =>
  rw[hc]at h;simp only[Bool.and_eq_true,beq_iff_eq]at hc;obtain⟨ha,hb,hd⟩:=hc;have a1:=en.1 ha;have b1:=en.1 hb;have:=Vj (l:=a.2++b.2) a1.2.1 a1.2.2.1 (λx hx=>by
   rcases List.mem_append.1 hx with hx|hx
   ·exact a1.1 x hx
   ·rw[hd];exact b1.1 x hx) h
  exact⟨this.1,this.2,ha,hb,hd⟩
theorem ai5(ha:bG n a)(hb:bG n b)(h:(gV a p b q).2=true):bG n (gV a p b q).1:=by
 have:=ai6 h
 rwa [List.length_zipWith,ha.2,hb.2,Nat.min_self]at this
theorem ve(ha:bG n a):∀(l o r:List aa),(∀x∈l,bG n x)->(∀x∈o,bG n x)->fN v a l o=some r->∀x∈r,bG n x
 | [],o,r,_,ho,h=>by simp only[fN,Option.some.injEq]at h;subst h;exact ho
 | b::l,o,r,hl,ho,h=>by
  simp only[fN]at h;have dB:∀x∈l,bG n x:=λx hx=>hl x (by simp[hx]);cases hc:decide (bp b v>=0)with
  | true=>rw[hc]at h;exact ve ha l o r dB ho h
  | false =>
   rw[hc]at h;cases hm:(gV a (0 - bp b v) b (bp a v)).2 with
   | false=>rw[hm]at h;cases h
   | true =>
    rw[hm]at h;refine ve ha l _ r dB (λx hx=>?_) h;rcases List.mem_append.1 hx with hx|hx
    ·exact ho x hx
    ·rw[List.mem_singleton.1 hx];exact ai5 ha (hl b (by simp)) hm
theorem IF{L:List aa}(hL:∀x∈L,bG n x):∀(l o r:List aa),(∀x∈l,bG n x)->(∀x∈o,bG n x)->iL v L l o=some r->∀x∈r,bG n x
 | [],o,r,_,ho,h=>by simp only[iL,Option.some.injEq]at h;subst h;exact ho
 | a::l,o,r,hl,ho,h=>by
  simp only[iL]at h;have dB:∀x∈l,bG n x:=λx hx=>hl x (by simp[hx]);cases hc:decide (bp a v<=0)with
  | true=>rw[hc]at h;exact IF hL l o r dB ho h
  | false =>
   rw[hc,cond_false]at h;cases hm:fN v a L o with
   | none=>rw[hm]at h;cases h
   | some o2 =>
    rw[hm]at h;exact IF hL l o2 r dB (ve (hl a (by simp)) L o o2 hL ho hm) h
theorem ae3{L r:List aa}(hL:∀x∈L,bG n x)(h:tQ v L=some r):∀x∈r,bG n x :=
 IF hL L _ r hL (λx hx=>hL x (List.mem_filter.1 hx).1) h
theorem RP(hc:bE c=true)(h:(gF c v).2=true):bE (gF c v).1=true/\(gF c v).1.1=c.1:=by
 obtain⟨h1,h2,h3,h4⟩:=en.1 hc;unfold gF at *
 cases hd:tQ v c.2 with
 | none=>rw[hd]at h;cases h
 | some l =>
  rw[hd]at h;have:=Vj h2 h3 (ae3 h1 hd) h;exact⟨this.1,by rw[this.2,pK]⟩
abbrev Qt:=_root_.Rat
def dot:List Int->List Qt->Qt
 | c::cs,x::xs=>(c:Qt)*x+dot cs xs
 | _,_=>0
def lhs(a:aa)(x:List Qt):Qt:=dot a.1 x+(a.2.1:Qt)
theorem VU(h:cZ y=true):y.natAbs<=400000000:=by
 have:=B9 h;omega
theorem lB(h:bG n a):(∀y∈a.1,y.natAbs<=400000000)/\a.2.1.natAbs<=400000000/\a.1.length<=4:=by
 obtain⟨h1,h2,h3⟩:=fT h.1;exact⟨λy hy=>VU (h3 y hy),VU h2,h1⟩
def mG(a:aa)(p:Int)(b:aa)(q:Int):List Int:=List.zipWith (λx y=>p*x+q*y) a.1 b.1
theorem IE(a:aa)(p:Int)(b:aa)(q:Int):(List.zip a.1 b.1).map (λz=>p*z.1+q*z.2)=mG a p b q:=by
 unfold mG List.zip;rw[List.map_zipWith]
theorem rV{x:Int}(hp:p.natAbs<=400000000)(hq:q.natAbs<=400000000)(hx:x.natAbs<=400000000)(hy:y.natAbs<=400000000):
  (p*x+q*y).natAbs<=400000000000000000/\IntKind.i64.wrap (IntKind.i64.wrap (p*x)+IntKind.i64.wrap (q*y))=p*x+q*y:=by
 have h1:=I4 hp hx;have h2:=I4 hq hy;rw[JY hp hx,JY hq hy];exact⟨by omega,bZ (by omega) (by omega)⟩
theorem Vx(ha:bG n a)(hb:bG n b)(hp:p.natAbs<=400000000)(hq:q.natAbs<=400000000):
  (mG a p b q).length<=1000/\(∀y∈mG a p b q,y.natAbs<=4000000000000000000)/\(p*a.2.1+q*b.2.1).natAbs<=4000000000000000000:=by
 obtain⟨a1,a2,a3⟩:=lB ha;obtain⟨b1,b2,b3⟩:=lB hb;refine⟨by unfold mG;rw[List.length_zipWith];omega,λy hy=>?_,?_⟩
 ·rw[<-IE]at hy;obtain⟨⟨u,v⟩,hz,rfl⟩:=List.mem_map.1 hy;have hm:=List.of_mem_zip hz;have:=(rV hp hq (a1 u hm.1) (b1 v hm.2)).1;dsimp only;omega
 ·have:=(rV hp hq a2 b2).1;omega
theorem Xf(ha:bG n a)(hb:bG n b)(hi:i<(List.zip a.1 b.1).length):∃(h1:i<a.1.length) (h2:i<b.1.length),(List.zip a.1 b.1)[i]=(a.1[i],b.1[i]):=by
 rw[List.length_zip]at hi;exact⟨by omega,by omega,by simp⟩
theorem CH(ha:bG n a)(hb:bG n b):(List.zip a.1 b.1).length=a.1.length:=by
 rw[List.length_zip,ha.2,hb.2,Nat.min_self]
theorem ach(ha:bG n a)(hb:bG n b)(hp:0<=p)(Bz:p<=400000000)(hq:0<=q)(hq2:q<=400000000):ye a p b q=some (((gV a p b q).1,(gV a p b q).2,()),()):=by
 obtain⟨a1,a2,a3⟩:=lB ha;obtain⟨b1,b2,b3⟩:=lB hb;have pf:p.natAbs<=400000000:=by omega
 have ph:q.natAbs<=400000000:=by omega
 obtain⟨m1,m2,m3⟩:=Vx ha hb pf ph;have hlen:(((a.1.length:Nat):Int) != ((b.1.length:Nat):Int))=false:=by rw[ha.2,hb.2];simp
 have rL:(decide (0<=p)&&decide (p<=400000000))=true:=by simp;omega
 have agN:(decide (0<=q)&&decide (q<=400000000))=true:=by simp;omega
 rw[acg,qJ,qJ,kK,kK,ha.1,hb.1,hlen,rL,agN];simp only[Option.bind_some,Bool.not_true,cond_false];have loop:=tD (List.zip a.1 b.1) (λz=>p*z.1+q*z.2) (λo=>tc p q a b ([],0,false) o (((List.zip a.1 b.1).length:Nat):Int)) (λo i=>tc p q a b ([],0,false) o i) (λi hi o ho=>by
  obtain⟨h1,h2,hz⟩:=Xf ha hb hi;have hd:decide ((o.length+1)*8<=140737488355328)=true:=iP (by omega) (by omega);rw[PA,aR h1,cond_true,aG h1,aG h2];simp only[Option.bind_some];rw[hd,cond_true,(rV pf ph (a1 _ (List.getElem_mem h1)) (b1 _ (List.getElem_mem h2))).2,aT (by omega),hz]) (λo=>rfl)
 rw[loop,IE,CH ha hb,PA,aY,cond_false,(rV pf ph a2 b2).2];have hm:=λst=>acp (st:=st) m1 m2 m3;have e1:decide (p>0)=(p != 0):=by rw[Bool.eq_iff_iff];simp;omega
 have e2:decide (q>0)=(q != 0):=by rw[Bool.eq_iff_iff];simp;omega
 rw[hm,hm,hm,e1,e2];unfold gV;show _=some (((gW (mG a p b q) (p*a.2.1+q*b.2.1) (a.2.2&&p != 0||b.2.2&&q != 0)).1,(gW (mG a p b q) (p*a.2.1+q*b.2.1) (a.2.2&&p != 0||b.2.2&&q != 0)).2,()),());cases a.2.2<;>cases b.2.2<;>cases hp0:(p != 0)<;>cases hq0:(q != 0)<;>rfl
theorem abh(ha:bG n a)(hb:bG n b)(hp:0<=p)(Bz:p<=400000000)(hq:0<=q)(hq2:q<=400000000):xK a p b q=some (((gV a p b q).1,(gV a p b q).2,()),()):=by
 obtain⟨a1,a2,a3⟩:=lB ha;obtain⟨b1,b2,b3⟩:=lB hb;have pf:p.natAbs<=400000000:=by omega
 have ph:q.natAbs<=400000000:=by omega
 obtain⟨m1,m2,m3⟩:=Vx ha hb pf ph;have hlen:(((a.1.length:Nat):Int) != ((b.1.length:Nat):Int))=false:=by rw[ha.2,hb.2];simp
 have c1:decide (p<0)=false:=by simp;omega
 have c2:decide (p>400000000)=false:=by simp;omega
 have c3:decide (q<0)=false:=by simp;omega
 have c4:decide (q>400000000)=false:=by simp;omega
 rw[abg,nj,nj,ha.1,hb.1,hlen,c1,c2,c3,c4];simp only[Option.bind_some,Bool.not_true,cond_false];have iD:=kl (R:=Option ((aa×Bool×PUnit)×PUnit)) a.1 8 (by omega) (by omega) (by omega);rw[iD,List.length_replicate];have loop:=GZ (List.zip a.1 b.1) (λz=>p*z.1+q*z.2) (λo=>sU p q a b ([],0,false) o (a.1.length:Int) (((List.zip a.1 b.1).length:Nat):Int)) (λo i=>sU p q a b ([],0,false) o (a.1.length:Int) i) (λi hi o ho=>by
  obtain⟨h1,h2,hz⟩:=Xf ha hb hi;rw[CH ha hb]at ho;rw[O5,aR h1,cond_true,aG h1,aG h2,aG (show i<o.length by omega)];simp only[Option.bind_some];rw[(rV pf ph (a1 _ (List.getElem_mem h1)) (b1 _ (List.getElem_mem h2))).2,aT (by omega),hz,Int.toNat_natCast]) (λo _=>rfl) (List.replicate a.1.length (0:Int)) (by rw[List.length_replicate,CH ha hb])
 rw[loop,IE,CH ha hb,O5,aY,cond_false,(rV pf ph a2 b2).2];have hm:=λst=>abM (st:=st) m1 m2 m3;rw[hm,hm,hm];unfold gV;show _=some (((gW (mG a p b q) (p*a.2.1+q*b.2.1) (a.2.2&&p != 0||b.2.2&&q != 0)).1,(gW (mG a p b q) (p*a.2.1+q*b.2.1) (a.2.2&&p != 0||b.2.2&&q != 0)).2,()),());cases a.2.2<;>cases b.2.2<;>cases hp0:(p != 0)<;>cases hq0:(q != 0)<;>rfl
def jQ(r:an×Bool):Option ((an×Bool×PUnit)×PUnit):=some ((r.1,r.2,()),())
theorem QN(h0:0<=d)(h1:d<=1000)(hV:∀a∈l,bG n a)(hl:l.length<=1000):qF d l=some ((cY d l,()),()):=by
 rw[abO h0 h1 hV hl,norm_eq hV (λa=>Iff.rfl)]
theorem QM{n:Nat}(h0:0<=d)(h1:d<=1000)(hV:∀a∈l,bG n a)(hl:l.length<=1000):xU d l=jQ (jv d l):=by
 rw[abK,QN h0 h1 hV hl];simp only[Option.bind_some];unfold jv;have e:decide ((((cY d l).2.length:Nat):Int)>16)=decide ((cY d l).2.length>16):=by rw[Bool.eq_iff_iff];simp;omega
 rw[e];cases decide ((cY d l).2.length>16)<;>rfl
theorem Zy(h0:0<=k)(h1:k<=1000000):ES none k=some (([],()),()):=by
 have w0:IntKind.i64.wrap (k - IntKind.i64.wrap (0 - 0))=k:=by
  have:IntKind.i64.wrap (0 - 0)=0:=by decide
  rw[this,Int.sub_zero,bZ (by omega) (by omega)]
 rw[acO,w0];have c1:decide (k<0)=false:=by simp;omega
 rw[c1,cond_false];by_cases hk:k>0
 ·have c2:decide (k>0)=true:=by simpa using hk
  have c3:decide (0<k)=true:=by simpa using hk
  have c4:decide (aF.sz≠0)=true:=by decide
  have c5:decide (k*((40:Nat):Int)<=140737488355328)=true:=by simp;omega
  have c6:decide (k<=140737488355328)=true:=by simp;omega
  rw[c2,c4,c6,cond_true];show (bif (true&&true&&decide (k*((40:Nat):Int)<=140737488355328)&&true)then some (([],()),())else none)=some (([],()),());rw[c5];rfl
 ·have c2:decide (k>0)=false:=by simpa using hk
  rw[c2,cond_false]
theorem Xg{x y:List aa}(hx:x.length<=1000)(hy:y.length<=1000):yp [x,y]=some ((x++y,()),()):=by
 have g0:ab [x,y] 0=some x:=rfl;have g1:ab [x,y] 1=some y:=rfl;have w1:IntKind.i64.wrap (0+1)=1:=by decide
 have w2:IntKind.i64.wrap (1+1)=2:=by decide
 have s1:IntKind.i64.wrap (0+(x.length:Int))=x.length:=by rw[Int.zero_add];exact bZ (by omega) (by omega)
 have s2:IntKind.i64.wrap ((x.length:Int)+(y.length:Int))=((x.length+y.length:Nat):Int):=bZ (by omega) (by omega);have n1:decide ((x.length:Int)<0)=false:=decide_eq_false (by omega);have n2:decide (((x.length+y.length:Nat):Int)<0)=false:=decide_eq_false (by omega);rw[acN];show wT [x,y] 0 [x,y] 2 0=_;rw[De,show decide ((0:Int)<2)=true from rfl,cond_true,g0];simp only[Option.bind_some];rw[s1,n1,cond_false,w1,De,show decide ((1:Int)<2)=true from rfl,cond_true,g1];simp only[Option.bind_some];rw[s2,n2,cond_false,w2,De,show decide ((2:Int)<2)=false from rfl,cond_false,Zy (by omega) (by omega)];simp only[Option.bind_some];show wS [x,y] [] [x,y] 2 0=_;have d1:decide ((([]:List aa).length+x.length)*40<=140737488355328)=true:=by simp;omega
 have d2:decide ((x.length+y.length)*40<=140737488355328)=true:=by simp;omega
 rw[Dd,show decide ((0:Int)<2)=true from rfl,cond_true,g0];simp only[Option.bind_some];rw[d1,cond_true,w1,List.nil_append,Dd,show decide ((1:Int)<2)=true from rfl,cond_true,g1];simp only[Option.bind_some];rw[d2,cond_true,w2,Dd,show decide ((2:Int)<2)=false from rfl,cond_false]
theorem Ba(a b:an):(a.1 != b.1) = !(a.1==b.1):=rfl
theorem acf(a b:an)(ha:a.2.length<=68719476736)(hb:b.2.length<=68719476736):EM a b=jQ (jw a b):=by
 rw[ace,oA a ha,oA b hb];simp only[Option.bind_some];unfold jw;cases h1:bE a with
 | false=>rfl
 | true =>
  cases h2:bE b with
  | false=>rfl
  | true =>
   rw[Ba];cases h3:a.1==b.1 with
   | false=>rfl
   | true =>
    obtain⟨a1,a2,a3,a4⟩:=en.1 h1;obtain⟨b1,b2,b3,b4⟩:=en.1 h2;have hd:a.1=b.1:=by simpa using h3
    have c1:decide ((0+a.2.length)*40<=140737488355328)=true:=by simp;omega
    have c2:decide ((a.2.length+b.2.length)*40<=140737488355328)=true:=by simp;omega
    have hn:=EO (n:=a.1.toNat) (d:=a.1) a2 (by omega) (l:=a.2++b.2) (λx hx=>by
     rcases List.mem_append.1 hx with hx|hx
     ·exact a1 x hx
     ·rw[hd];exact b1 x hx) (by rw[List.length_append];omega)
    simp only[Bool.not_true,cond_false,Bool.and_self,cond_true];rw[c1,cond_true,c2,cond_true,hn];simp only[Option.bind_some];unfold jv;have e:decide ((((cY a.1 (a.2++b.2)).2.length:Nat):Int)>16)=decide ((cY a.1 (a.2++b.2)).2.length>16):=by rw[Bool.eq_iff_iff];simp;omega
    rw[e];cases decide ((cY a.1 (a.2++b.2)).2.length>16)<;>rfl
theorem abf(a b:an):ED a b=jQ (jw a b):=by
 rw[abe,nk a,nk b];simp only[Option.bind_some];unfold jw;cases h1:bE a with
 | false=>rfl
 | true =>
  cases h2:bE b with
  | false=>rfl
  | true =>
   rw[Ba];cases h3:a.1==b.1 with
   | false=>rfl
   | true =>
    obtain⟨a1,a2,a3,a4⟩:=en.1 h1;obtain⟨b1,b2,b3,b4⟩:=en.1 h2;have hd:a.1=b.1:=by simpa using h3
    simp only[Bool.not_true,cond_false,Bool.and_self,cond_true];rw[Xg (by omega) (by omega)];simp only[Option.bind_some];rw[QM (n:=a.1.toNat) a2 (by omega) (λx hx=>by
     rcases List.mem_append.1 hx with hx|hx
     ·exact a1 x hx
     ·rw[hd];exact b1 x hx) (by rw[List.length_append];omega)]
    rfl
theorem vi(h:y.natAbs<=400000000):IntKind.i64.wrap (0 - y)=0 - y:=bZ (by omega) (by omega)
def AU(r:aa×Bool):Option ((aa×Bool×PUnit)×PUnit):=some ((r.1,r.2,()),())
theorem acj(a:aa):yf a=AU (gY a):=by
 rw[aci,qJ];simp only[Option.bind_some];unfold gY;cases h:bI a with
 | false=>rfl
 | true =>
  obtain⟨a1,a2,a3⟩:=lB ⟨h,rfl⟩;simp only[Bool.not_true,cond_false,cond_true];rw[vi a2];refine (tD a.1 (λy=>0 - y) (λo=>some (((o,0 - a.2.1,!a.2.2),true,()),())) (λo i=>wK a ([],0,false) (o,0 - a.2.1,!a.2.2) i) (λi hi o ho=>?_) (λo=>?_))
  ·have hd:decide ((o.length+1)*8<=140737488355328)=true:=iP (by omega) (by omega);rw[PB,aR hi,cond_true,aG hi];simp only[Option.bind_some];rw[hd,cond_true,vi (a1 _ (List.getElem_mem hi)),aT (by omega)]
  ·rw[PB,aY];rfl
theorem abj(a:aa):xL a=AU (gY a):=by
 rw[abi,nj];simp only[Option.bind_some];unfold gY;cases h:bI a with
 | false=>rfl
 | true =>
  obtain⟨a1,a2,a3⟩:=lB ⟨h,rfl⟩;have iD:=kl (R:=Option ((aa×Bool×PUnit)×PUnit)) a.1 8 (by omega) (by omega) (by omega);simp only[Bool.not_true,cond_false,cond_true];rw[iD,vi a2];refine GZ a.1 (λy=>0 - y) (λo=>some (((o,0 - a.2.1,!a.2.2),true,()),())) (λo i=>wC a ([],0,false) (o,0 - a.2.1,!a.2.2) a.1 (a.1.length:Int) i) (λi hi o ho=>?_) (λo _=>?_) _ (by simp)
  ·rw[O6,aR hi,cond_true,aG hi];simp only[Option.bind_some];rw[aG (show i<o.length by omega)];simp only[Option.bind_some];rw[vi (a1 _ (List.getElem_mem hi)),aT (by omega),Int.toNat_natCast]
  ·rw[O6,aY];rfl
theorem drop_cons{x:List α}(h:i<x.length):x.drop i=x[i]::x.drop (i+1):=List.drop_eq_getElem_cons h
theorem oI(h:bG n a)(hv:v<n):ab a.1 (v:Int)=some (bp a v):=by
 have hl:v<a.1.length:=by rw[h.2];exact hv
 rw[aG hl];unfold bp;rw[List.getD_eq_getElem?_getD,List.getElem?_eq_getElem hl];rfl
theorem Ri{v:Nat}(h:bG n a):(bp a v).natAbs<=400000000:=by
 unfold bp;rw[List.getD_eq_getElem?_getD];cases hg:a.1[v]? with
 | none=>simp
 | some y=>exact (lB h).1 y (List.mem_of_getElem? hg)
theorem B1:∀(l o r:List aa),fN v a l o=some r->r.length<=o.length+l.length
 | [],o,r,h=>by simp only[fN,Option.some.injEq]at h;subst h;simp
 | b::l,o,r,h=>by
  simp only[fN]at h;cases hc:decide (bp b v>=0)with
  | true =>
   rw[hc]at h;have:=B1 l o r h;simp only[List.length_cons];omega
  | false =>
   rw[hc]at h;cases hm:(gV a (0 - bp b v) b (bp a v)).2 with
   | false=>rw[hm]at h;cases h
   | true =>
    rw[hm]at h;have:=B1 l _ r h;simp only[List.length_append,List.length_cons,List.length_nil]at this ⊢;omega
def A2:Option ((an×Bool×PUnit)×PUnit):=some ((CG,false,()),())
theorem Vz{v:Nat}(ha:bG n a)(hb:bG n b)(h1:0<bp a v)(h2:bp b v<0):
  IntKind.i64.wrap (0 - bp b v)=0 - bp b v/\0<=0 - bp b v/\0 - bp b v<=400000000/\0<=bp a v/\bp a v<=400000000:=by
 have n1:=Ri (v:=v) ha;have n2:=Ri (v:=v) hb;exact⟨vi n2,by omega,by omega,by omega,by omega⟩
theorem PM{v:Nat}(hv:v<n)(c z:an)(hL:∀a∈c.2,bG n a)(hl:c.2.length<=16)(hi:i<c.2.length):∀(m k:Nat) (o:List aa),m+k=c.2.length->o.length+m<=10000 ->
  qA (v:Int) c z o (i:Int) (k:Int)=match (bif decide (bp (c.2[i]) v<=0)then some o else fN v (c.2[i]) (c.2.drop k) o)with
   | some r=>qB (v:Int) c z r ((i+1:Nat):Int)
   | none=>A2
 | 0,k,o,hm,ho=>by
  have e:(bif decide (bp (c.2[i]) v<=0)then some o else fN v (c.2[i]) (c.2.drop k) o)=some o:=by
   rw[List.drop_eq_nil_of_le (by omega)];cases decide (bp (c.2[i]) v<=0)<;>rfl
  have au:decide ((k:Int)<(c.2.length:Int))=false:=decide_eq_false (by omega);rw[e,PL,au,cond_false,aT (by omega)]
 | m+1,k,o,hm,ho=>by
  have hk:k<c.2.length:=by omega
  have ki:=hL _ (List.getElem_mem hi);have kk:=hL _ (List.getElem_mem hk);have ih:=λo ho=>PM hv c z hL hl hi m (k+1) o (by omega) ho;rw[PL,aR hk,cond_true,aG hi,aG hk];simp only[Option.bind_some];rw[oI ki hv,oI kk hv];simp only[Option.bind_some];rw[aT (by omega)];cases h1:decide (bp (c.2[i]) v<=0)with
  | true =>
   rw[cond_true,ih o (by omega),h1];rfl
  | false =>
   have p1:=of_decide_eq_false h1;rw[cond_false,drop_cons hk];simp only[fN];cases h2:decide (bp (c.2[k]) v>=0)with
   | true =>
    rw[cond_true,ih o (by omega),h1];rfl
   | false =>
    have p2:=of_decide_eq_false h2;obtain⟨e1,e2,e3,e4,e5⟩:=Vz (v:=v) ki kk (by omega) (by omega);rw[cond_false,e1,ach ki kk e2 e3 e4 e5];simp only[Option.bind_some];cases hmx:(gV (c.2[i]) (0 - bp (c.2[k]) v) (c.2[k]) (bp (c.2[i]) v)).2 with
    | false=>rfl
    | true =>
     have hd:decide ((o.length+1)*40<=140737488355328)=true:=iP (by omega) (by omega);simp only[Bool.not_true,cond_false,cond_true];rw[hd,cond_true,ih _ (by simp;omega),h1];rfl
theorem Dc(hv:v<n)(c z:an)(h0:0<=c.1)(h4:c.1<=4)(hL:∀a∈c.2,bG n a)(hl:c.2.length<=16):∀(m i:Nat) (o:List aa),m+i=c.2.length->o.length<=16+i*16->(∀a∈o,bG n a) ->
  qB (v:Int) c z o (i:Int)=match iL v c.2 (c.2.drop i) o with
   | some r=>jQ (jv c.1 r)
   | none=>A2
 | 0,i,o,hm,ho,hV=>by
  have au:decide ((i:Int)<(c.2.length:Int))=false:=decide_eq_false (by omega);rw[PO,au,cond_false,List.drop_eq_nil_of_le (by omega),EO h0 (by omega) hV (by omega)];simp only[Option.bind_some,iL];unfold jv;have e:decide ((((cY c.1 o).2.length:Nat):Int)>16)=decide ((cY c.1 o).2.length>16):=by rw[Bool.eq_iff_iff];simp;omega
  rw[e];cases decide ((cY c.1 o).2.length>16)<;>rfl
 | m+1,i,o,hm,ho,hV=>by
  have hi:i<c.2.length:=by omega
  have:=PM hv c z hL hl hi c.2.length 0 o (by omega) (by omega);rw[Int.natCast_zero]at this;rw[PO,aR hi,cond_true,this,List.drop_zero,drop_cons hi];simp only[iL];cases h1:decide (bp (c.2[i]) v<=0)with
  | true =>
   simp only[cond_true];exact Dc hv c z h0 h4 hL hl m (i+1) o (by omega) (by omega) hV
  | false =>
   simp only[cond_false];cases hx:fN v (c.2[i]) c.2 o with
   | none=>rfl
   | some r =>
    have hr:=B1 _ _ _ hx;exact Dc hv c z h0 h4 hL hl m (i+1) r (by omega) (by omega) (ve (hL _ (List.getElem_mem hi)) _ _ _ hL hV hx)
theorem acD(hc:bE c=true)(hv:v<c.1.toNat):ym c (v:Int)=jQ (gF c v):=by
 obtain⟨hL,h0,h4,hl⟩:=en.1 hc;have key:∀(m i:Nat) (o:List aa),m+i=c.2.length->o.length<=i->tg (v:Int) c (0,[]) o (i:Int)=qB (v:Int) c (0,[]) (o++(c.2.drop i).filter λa=>bp a v==0) 0:=by
  intro m;induction m with
  | zero =>
   intro i o hm ho;have au:decide ((i:Int)<(c.2.length:Int))=false:=decide_eq_false (by omega);rw[PN,au,cond_false,List.drop_eq_nil_of_le (by omega)];simp
  | succ m ih =>
   intro i o hm ho;have hi:i<c.2.length:=by omega
   have ki:=hL _ (List.getElem_mem hi);have hd:decide ((o.length+1)*40<=140737488355328)=true:=iP (by omega) (by omega);rw[PN,aR hi,cond_true,aG hi];simp only[Option.bind_some];rw[oI ki hv];simp only[Option.bind_some];rw[hd,aT (by omega),drop_cons hi];cases hz:bp (c.2[i]) v==0 with
   | true =>
    rw[cond_true,cond_true,ih (i+1) _ (by omega) (by simp;omega),List.filter_cons_of_pos (p:=λa=>bp a v==0) hz,List.append_assoc];rfl
   | false =>
    rw[cond_false,ih (i+1) _ (by omega) (by omega),List.filter_cons_of_neg (p:=λa=>bp a v==0) (by rw[hz];simp)]
 have k0:=key c.2.length 0 [] (by omega) (by simp);rw[Int.natCast_zero,List.nil_append,List.drop_zero]at k0;have hf:=List.length_filter_le (λa=>bp a v==0) c.2;have k1:=Dc hv c (0,[]) h0 h4 hL hl c.2.length 0 (c.2.filter λa=>bp a v==0) (by omega) (by omega) (λa ha=>hL a (List.mem_filter.1 ha).1);rw[Int.natCast_zero,List.drop_zero]at k1;rw[acC,k0,k1];unfold gF tQ;cases iL v c.2 c.2 (c.2.filter λa=>bp a v==0)<;>rfl
theorem OU{v:Nat}(hv:v<n)(c z:an){L:List aa}(hL:∀a∈L,bG n a)(hl:L.length<=16)(ha:bG n a)(hp:0<bp a v){i:Nat}(hi:i<=1000):∀(m k:Nat) (o:List aa),m+k=L.length->o.length+m<=10000 ->
  sM (v:Int) c z o a L (L.length:Int) (i:Int) L (L.length:Int) (k:Int)=match fN v a (L.drop k) o with
   | some r=>oq (v:Int) c z r L (L.length:Int) ((i+1:Nat):Int)
   | none=>A2
 | 0,k,o,hm,ho=>by
  have au:decide ((k:Int)<(L.length:Int))=false:=decide_eq_false (by omega);rw[OS,au,cond_false,List.drop_eq_nil_of_le (by omega),aT (by omega)];rfl
 | m+1,k,o,hm,ho=>by
  have hk:k<L.length:=by omega
  have kk:=hL _ (List.getElem_mem hk);have ih:=λo ho=>OU hv c z hL hl ha hp hi m (k+1) o (by omega) ho;rw[OS,aR hk,cond_true,aG hk];simp only[Option.bind_some];rw[oI kk hv,oI ha hv];simp only[Option.bind_some];rw[aT (by omega),drop_cons hk];simp only[fN];cases h2:decide (bp (L[k]) v>=0)with
  | true =>
   rw[cond_true,ih o (by omega)];rfl
  | false =>
   have p2:=of_decide_eq_false h2;obtain⟨e1,e2,e3,e4,e5⟩:=Vz (v:=v) ha kk hp (by omega);rw[cond_false,e1,abh ha kk e2 e3 e4 e5];simp only[Option.bind_some];cases hmx:(gV a (0 - bp (L[k]) v) (L[k]) (bp a v)).2 with
   | false=>rfl
   | true =>
    have hd:decide ((o.length+1)*40<=140737488355328)=true:=iP (by omega) (by omega);simp only[Bool.not_true,cond_false,cond_true];rw[hd,cond_true,ih _ (by simp;omega)]
theorem C5(hv:v<n)(c z:an)(h0:0<=c.1)(h4:c.1<=4)(hL:∀a∈c.2,bG n a)(hl:c.2.length<=16):∀(m i:Nat) (o:List aa),m+i=c.2.length->o.length<=16+i*16->(∀a∈o,bG n a) ->
  oq (v:Int) c z o c.2 (c.2.length:Int) (i:Int)=match iL v c.2 (c.2.drop i) o with
   | some r=>jQ (jv c.1 r)
   | none=>A2
 | 0,i,o,hm,ho,hV=>by
  have au:decide ((i:Int)<(c.2.length:Int))=false:=decide_eq_false (by omega);rw[OR,au,cond_false,List.drop_eq_nil_of_le (by omega),QM h0 (by omega) hV (by omega)];rfl
 | m+1,i,o,hm,ho,hV=>by
  have hi:i<c.2.length:=by omega
  have ki:=hL _ (List.getElem_mem hi);rw[OR,aR hi,cond_true,aG hi];simp only[Option.bind_some];rw[oI ki hv];simp only[Option.bind_some];rw[aT (by omega),drop_cons hi];simp only[iL];cases h1:decide (bp (c.2[i]) v<=0)with
  | true =>
   simp only[cond_true];exact C5 hv c z h0 h4 hL hl m (i+1) o (by omega) (by omega) hV
  | false =>
   have p1:=of_decide_eq_false h1;have:=OU hv c z hL hl ki (by omega) (i:=i) (by omega) c.2.length 0 o (by omega) (by omega);rw[Int.natCast_zero,List.drop_zero]at this;simp only[cond_false];rw[this];cases hx:fN v (c.2[i]) c.2 o with
   | none=>rfl
   | some r =>
    have hr:=B1 _ _ _ hx;exact C5 hv c z h0 h4 hL hl m (i+1) r (by omega) (by omega) (ve ki _ _ _ hL hV hx)
theorem aaV(hc:bE c=true){v:Nat}(hv:v<c.1.toNat):xD c (v:Int)=jQ (gF c v):=by
 obtain⟨hL,h0,h4,hl⟩:=en.1 hc;have key:∀(m i:Nat) (o:List aa),m+i=c.2.length->o.length<=i->sN (v:Int) c (0,[]) o c.2 (c.2.length:Int) (i:Int)=oq (v:Int) c (0,[]) (o++(c.2.drop i).filter λa=>bp a v==0) c.2 (c.2.length:Int) 0:=by
  intro m;induction m with
  | zero =>
   intro i o hm ho;have au:decide ((i:Int)<(c.2.length:Int))=false:=decide_eq_false (by omega);rw[OT,au,cond_false,List.drop_eq_nil_of_le (by omega)];simp
  | succ m ih =>
   intro i o hm ho;have hi:i<c.2.length:=by omega
   have ki:=hL _ (List.getElem_mem hi);have hd:decide ((o.length+1)*40<=140737488355328)=true:=iP (by omega) (by omega);rw[OT,aR hi,cond_true,aG hi];simp only[Option.bind_some];rw[oI ki hv];simp only[Option.bind_some];rw[hd,aT (by omega),drop_cons hi];cases hz:bp (c.2[i]) v==0 with
   | true =>
    rw[cond_true,cond_true,ih (i+1) _ (by omega) (by simp;omega),List.filter_cons_of_pos (p:=λa=>bp a v==0) hz,List.append_assoc];rfl
   | false =>
    rw[cond_false,ih (i+1) _ (by omega) (by omega),List.filter_cons_of_neg (p:=λa=>bp a v==0) (by rw[hz];simp)]
 have k0:=key c.2.length 0 [] (by omega) (by simp);rw[Int.natCast_zero,List.nil_append,List.drop_zero]at k0;have hf:=List.length_filter_le (λa=>bp a v==0) c.2;have k1:=C5 hv c (0,[]) h0 h4 hL hl c.2.length 0 (c.2.filter λa=>bp a v==0) (by omega) (by omega) (λa ha=>hL a (List.mem_filter.1 ha).1);rw[Int.natCast_zero,List.drop_zero]at k1;have c1:decide ((v:Int)<0)=false:=decide_eq_false (by omega);have c2:decide ((v:Int)>=c.1)=false:=decide_eq_false (by omega);rw[aaU,nk,hc];simp only[Option.bind_some,Bool.not_true,cond_false];rw[c1,c2,cond_false,cond_false,k0,k1];unfold gF tQ;cases iL v c.2 c.2 (c.2.filter λa=>bp a v==0)<;>rfl
def iR(r:Bool×Bool):Option ((Bool×Bool×PUnit)×PUnit):=some ((r.1,r.2,()),())
theorem Vf(l:List aa):decide (((l.length:Nat):Int)>0)=decide (l.length>0):=by rw[Bool.eq_iff_iff];simp
theorem Pt:∀(n:Nat) (c:an),bE c=true->n<=c.1.toNat->wJ c ((n:Int) - 1)=iR (match nA n c with
   | some r=>(decide (r.2.length>0),true)
   | none=>(false,false))
 | 0,c,hc,hn=>by
  rw[Ps,show decide ((((0:Nat):Int) - 1)>=0)=false from rfl,cond_false,Vf];rfl
 | n+1,c,hc,hn=>by
  have h4:=(en.1 hc).2.2.1;have e:(((n+1:Nat):Int) - 1)=(n:Int):=by omega
  have kX:decide ((n:Int)>=0)=true:=decide_eq_true (by omega);rw[e,Ps,kX,cond_true,acD hc (by omega)];unfold jQ;simp only[Option.bind_some,nA];cases hd:(gF c n).2 with
  | false=>rfl
  | true =>
   have k:=RP hc hd;simp only[Bool.not_true,cond_false,cond_true];rw[show IntKind.i64.wrap ((n:Int) - 1)=(n:Int) - 1 from bZ (by omega) (by omega)];exact Pt n _ k.1 (by rw[k.2];omega)
theorem ab3(c:an)(hl:c.2.length<=68719476736):xY c=iR (tS c):=by
 rw[ab2,oA c hl];simp only[Option.bind_some];unfold tS;cases hc:bE c with
 | false=>rfl
 | true =>
  obtain⟨h1,h2,h3,h4⟩:=en.1 hc;simp only[Bool.not_true,cond_false,cond_true];rw[EO h2 (by omega) h1 (by omega)];simp only[Option.bind_some];have:=Pt c.1.toNat (cY c.1 c.2) (VS hc) (by rw[pK];omega);rw[show IntKind.i64.wrap (c.1 - 1)=((c.1.toNat:Nat):Int) - 1 by rw[bZ (by omega) (by omega)];omega,this];unfold GW;rw[pK]
  all_goals (cases nA c.1.toNat (cY c.1 c.2)<;>rfl)
theorem Pl:∀(n:Nat) (c:an) (l:List an),bE c=true->n<=c.1.toNat->n<l.length->l.length<=100->l[n]?=some c ->
  (nA n c=none/\ou l ((n:Int) - 1)=some (([],false,()),()))\/∃r l',nA n c=some r/\ou l ((n:Int) - 1)=some ((l',true,()),())/\l'[0]?=some r
 | 0,c,l,hc,hn,hl,kZ,hg=>by
  refine .inr ⟨c,l,rfl,?_,hg⟩;rw[Pm];rfl
 | n+1,c,l,hc,hn,hl,kZ,hg=>by
  have h4:=(en.1 hc).2.2.1;have e:(((n+1:Nat):Int) - 1)=(n:Int):=by omega
  have kX:decide ((n:Int)>=0)=true:=decide_eq_true (by omega);have Bt:ab l ((n+1:Nat):Int)=some c:=by
   rw[aG hl];rw[List.getElem?_eq_getElem hl]at hg;exact hg
  have afR:=aaV hc (v:=n) (by omega);rw[e];have heq:ou l (n:Int)=bif !(gF c n).2 then some (([],false,()),())else ou (l.set n (gF c n).1) ((n:Int) - 1):=by
   rw[Pm,kX,cond_true,aT (by omega),Bt];simp only[Option.bind_some];rw[afR];unfold jQ;simp only[Option.bind_some];rw[aG (show n<l.length by omega)];simp only[Option.bind_some];rw[show IntKind.i64.wrap ((n:Int) - 1)=(n:Int) - 1 from bZ (by omega) (by omega),Int.toNat_natCast]
  rw[heq];simp only[nA];cases hd:(gF c n).2 with
  | false=>exact .inl ⟨rfl,rfl⟩
  | true =>
   have k:=RP hc hd;simp only[Bool.not_true,cond_false,cond_true];exact Pl n _ _ k.1 (by rw[k.2];omega) (by rw[List.length_set];omega) (by rw[List.length_set];exact kZ) (by rw[List.getElem?_set_self (by omega)])
theorem aa4(c:an):EC c=iR (tS c):=by
 rw[aa3,abR,nk c];simp only[Option.bind_some];unfold tS;cases hc:bE c with
 | false=>rfl
 | true =>
  obtain⟨h1,h2,h3,h4⟩:=en.1 hc;obtain⟨n,hn⟩:∃n:Nat,c.1=n:=⟨c.1.toNat,by omega⟩;have w1:IntKind.i64.wrap (c.1+1)=c.1+1:=bZ (by omega) (by omega);have w2:IntKind.i64.wrap (c.1 - 1)=((n:Nat):Int) - 1:=by rw[bZ (by omega) (by omega)];omega
  have iD:(decide (0<=c.1+1)&&decide (c.1+1<=c.1+1)&&decide ((c.1+1)*((32:Nat):Int)<=140737488355328)&&decide (c.1+1<=9223372036854775807))=true:=by simp;omega
  have Tj:(decide (0<=c.1+1)&&decide (c.1+1<=c.1+1)&&decide ((c.1+1)*32<=140737488355328)&&decide (c.1+1<=9223372036854775807))=true:=iD;have Ti:(decide (0<=c.1+1)&&decide (c.1+1<=c.1+1)&&decide ((c.1+1)*((32:Nat):(Ty.int IntKind.i64).den)<=140737488355328)&&decide (c.1+1<=9223372036854775807))=true:=iD;simp only[Bool.not_true,cond_false,cond_true];rw[w1,w2,QN h2 (by omega) h1 (by omega)];simp only[Option.bind_some];have BC:(List.replicate (c.1+1).toNat ((0,[]):an)).length=n+1:=by rw[List.length_replicate];omega
  have uv:ab (List.replicate (c.1+1).toNat ((0,[]):an)) c.1=some (0,[]):=by
   rw[hn,aG (by rw[<-hn,BC];omega)];simp
  have key:=Pl n (cY c.1 c.2) ((List.replicate (c.1+1).toNat ((0,[]):an)).set n (cY c.1 c.2)) (VS hc) (by rw[pK];omega) (by rw[List.length_set,BC];omega) (by rw[List.length_set,BC];omega) (by rw[List.getElem?_set_self (by rw[BC];omega)]);have TL:Int.toNat c.1=n:=by omega
  rw[uv];simp only[Option.bind_some];rw[TL];unfold GW;rw[pK,show c.1.toNat=n from TL];rcases key with⟨k1,k2⟩|⟨r,l',k1,k2,k3⟩
  ·rw[k1,k2]
   first|(rw[Tj];rfl)|(rw[Ti];rfl)|(rw[iD];rfl)
  ·rw[k1,k2];have jm:0<l'.length:=by
    rw[List.getElem?_eq_some_iff]at k3;exact k3.1
   have hgr:ab l' 0=some r:=by
    have:=aG (xs:=l') jm;rw[Int.natCast_zero]at this;rw[this];rw[List.getElem?_eq_getElem jm]at k3;exact k3
   first|rw[Tj]|rw[Ti]|rw[iD]
   simp only[cond_true,Option.bind_some,Bool.not_true,cond_false];rw[hgr];simp only[Option.bind_some];rw[Vf];rfl
theorem ajd(a:aa)(h:(gY a).2=true):(gY a).1.1.length=a.1.length:=by
 unfold gY at *
 cases ha:bI a with
 | false=>rw[ha]at h;cases h
 | true=>simp
theorem abX(c:an)(a:aa)(hl:c.2.length<=68719476736):EL c a=iR (lv c a):=by
 rw[abW,acj];unfold AU;simp only[Option.bind_some];rw[acf c _ hl (by simp)];unfold jQ;simp only[Option.bind_some];unfold lv;cases h1:(gY a).2 with
 | false=>rfl
 | true =>
  simp only[Bool.not_true,cond_false,Bool.true_and];cases h2:(jw c ((a.1.length:Int),[(gY a).1])).2 with
  | false=>rfl
  | true =>
   have m:=ai4 h2;have ml:=(en.1 m.1).2.2.2;simp only[Bool.not_true,cond_false,cond_true];rw[ab3 _ (by omega)];rfl
theorem aaY(c:an)(a:aa):EB c a=iR (lv c a):=by
 rw[aaX,abj];unfold AU;simp only[Option.bind_some];unfold lv;cases h1:(gY a).2 with
 | false=>rfl
 | true =>
  simp only[Bool.not_true,cond_false,Bool.true_and];rw[ajd a h1,abf];unfold jQ;simp only[Option.bind_some];cases h2:(jw c ((a.1.length:Int),[(gY a).1])).2 with
  | false=>rfl
  | true =>
   simp only[Bool.not_true,cond_false,cond_true];rw[aa4];rfl
theorem abU(a b:an)(ha:a.2.length<=68719476736)(hb:b.2.length<=68719476736):xW a b=iR (nt a b):=by
 have loop:∀(m i:Nat),m+i=a.2.length->wH a b (i:Int)=iR (q8 b (a.2.drop i)):=by
  intro m;induction m with
  | zero =>
   intro i hm;have au:decide ((i:Int)<(a.2.length:Int))=false:=decide_eq_false (by omega);rw[Pn,au,cond_false,List.drop_eq_nil_of_le (by omega)];rfl
  | succ m ih =>
   intro i hm;have hi:i<a.2.length:=by omega
   rw[Pn,aR hi,cond_true,aG hi];simp only[Option.bind_some];rw[abX b _ hb,drop_cons hi,aT (by omega),ih (i+1) (by omega)];unfold iR;simp only[Option.bind_some,q8];cases (lv b (a.2[i])).2 with
   | false=>rfl
   | true=>cases (lv b (a.2[i])).1<;>rfl
 rw[abT,oA a ha,oA b hb];simp only[Option.bind_some];unfold nt;cases h1:bE a with
 | false=>rfl
 | true =>
  cases h2:bE b with
  | false=>rfl
  | true =>
   rw[Ba];cases h3:a.1==b.1 with
   | false=>rfl
   | true =>
    simp only[Bool.not_true,cond_false,Bool.and_self,cond_true];exact loop a.2.length 0 (by omega)
theorem aaT(a b:an):xC a b=iR (nt a b):=by
 have loop:bE a=true->∀(m i:Nat),m+i=a.2.length->wz a b a.2 (a.2.length:Int) (i:Int)=iR (q8 b (a.2.drop i)):=by
  intro hc m;have hl:=(en.1 hc).2.2.2;induction m with
  | zero =>
   intro i hm;have au:decide ((i:Int)<(a.2.length:Int))=false:=decide_eq_false (by omega);rw[OQ,au,cond_false,List.drop_eq_nil_of_le (by omega)];rfl
  | succ m ih =>
   intro i hm;have hi:i<a.2.length:=by omega
   rw[OQ,aR hi,cond_true,aG hi];simp only[Option.bind_some];rw[aaY b _,drop_cons hi,aT (by omega),ih (i+1) (by omega)];unfold iR;simp only[Option.bind_some,q8];cases (lv b (a.2[i])).2 with
   | false=>rfl
   | true=>cases (lv b (a.2[i])).1<;>rfl
 rw[aaS,nk a,nk b];simp only[Option.bind_some];unfold nt;cases h1:bE a with
 | false=>rfl
 | true =>
  cases h2:bE b with
  | false=>rfl
  | true =>
   rw[Ba];cases h3:a.1==b.1 with
   | false=>rfl
   | true =>
    simp only[Bool.not_true,cond_false,Bool.and_self,cond_true];exact loop h1 a.2.length 0 (by omega)
theorem RI(h:bE c=true):yl c=some ((c,()),())/\xN c=some ((c,()),()):=by
 obtain⟨h1,h2,h3,h4⟩:=en.1 h;have oX:∀a∈c.2,a.1.length<=68719476736:=λa ha=>by have:=(lB (h1 a ha)).2.2;omega
 constructor
 ·rw[acB];have:=tD c.2 id (λo=>some (((c.1,o),()),())) (λo i=>wP c (0,[]) (c.1,o) i) (λi hi o ho=>by
   have hd:decide ((o.length+1)*40<=140737488355328)=true:=iP (by omega) (by omega);rw[PK,aR hi,cond_true,aG hi];simp only[Option.bind_some];rw[QX _ (oX _ (List.getElem_mem hi))];simp only[Option.bind_some];rw[hd,cond_true,aT (by omega)];rfl) (λo=>by rw[PK,aY];rfl)
  rw[this,List.map_id]
 ·rw[abq];have iD:(decide ((0:Int)<=0)&&decide (0<=(c.2.length:Int))&&decide ((c.2.length:Int)*((40:Nat):Int)<=140737488355328)&&decide ((c.2.length:Int)<=9223372036854775807))=true:=by simp;omega
  have this:=tD c.2 id (λo=>some (((c.1,o),()),())) (λo i=>sW c (0,[]) (c.1,o) c.2 (c.2.length:Int) i) (λi hi o ho=>by
   have hd:decide ((o.length+1)*40<=140737488355328)=true:=iP (by omega) (by omega);rw[Pb,aR hi,cond_true,aG hi];simp only[Option.bind_some];rw[QD _ (oX _ (List.getElem_mem hi))];simp only[Option.bind_some];rw[hd,cond_true,aT (by omega)];rfl) (λo=>by rw[Pb,aY];rfl)
  refine Eq.trans (b:=(bif (decide ((0:Int)<=0)&&decide (0<=(c.2.length:Int))&&decide ((c.2.length:Int)*((40:Nat):Int)<=140737488355328)&&decide ((c.2.length:Int)<=9223372036854775807))then sW c (0,[]) (c.1,[]) c.2 (c.2.length:Int) 0 else none)) rfl ?_;rw[iD,cond_true,this,List.map_id]
def gE(c:an):List an->Bool->Option Bool
 | [],b=>some b
 | d::l,b=>bif (nt d c).2 then gE c l (b||(nt d c).1)else none
def jB:List bA->List an->Option (List an)
 | [],o=>some o
 | s::l,o=>match gE s.1 o false with
  | none=>none
  | some true=>jB l o
  | some false=>bif o.length==12 then none else jB l (o++[s.1])
def kr:List bA->List an->Option (List an)
 | [],o=>bif decide (o.length>12)then none else some o
 | s::l,o=>match gE s.1 o false with
  | none=>none
  | some true=>kr l o
  | some false=>kr l (o++[s.1])
theorem I8:∀(l:List bA) (o:List an),12<o.length->kr l o=none
 | [],o,h=>by unfold kr;rw[decide_eq_true h];rfl
 | s::l,o,h=>by
  unfold kr;cases gE s.1 o false with
  | none=>rfl
  | some b=>cases b with
   | true=>exact I8 l o h
   | false=>exact I8 l _ (by simp;omega)
theorem Ja:∀(l:List bA) (o:List an),o.length<=12->kr l o=jB l o
 | [],o,h=>by unfold kr jB;rw[decide_eq_false (by omega)];rfl
 | s::l,o,h=>by
  unfold kr jB;cases gE s.1 o false with
  | none=>rfl
  | some b=>cases b with
   | true=>exact Ja l o h
   | false =>
    cases nH:o.length==12 with
    | true =>
     have:o.length=12:=by simpa using nH
     exact I8 l _ (by simp;omega)
    | false =>
     have:o.length≠12:=by simpa using nH
     exact Ja l _ (by simp;omega)
def vw(d:Int):Option (List an)->Option ((eU×Bool×PUnit)×PUnit)
 | some l=>some (((d,l),true,()),())
 | none=>some (((0,[]),false,()),())
theorem I9:∀(l:List bA) (o r:List an),o.length<=12->(∀s∈l,bE s.1=true)->(∀c∈o,bE c=true)->jB l o=some r->r.length<=12/\∀c∈r,bE c=true
 | [],o,r,ho,_,hc,h=>by
  simp only[jB,Option.some.injEq]at h;subst h;exact⟨ho,hc⟩
 | s::l,o,r,ho,hs,hc,h=>by
  unfold jB at h;have bD:∀s∈l,bE s.1=true:=λx hx=>hs x (by simp[hx]);cases rC:gE s.1 o false with
  | none=>rw[rC]at h;cases h
  | some b =>
   rw[rC]at h;cases b with
   | true=>exact I9 l o r ho bD hc h
   | false =>
    dsimp only at h;cases nH:o.length==12 with
    | true=>rw[nH]at h;cases h
    | false =>
     rw[nH]at h;have:o.length≠12:=by simpa using nH
     exact I9 l _ r (by simp;omega) bD (λc fY=>by
      rcases List.mem_append.1 fY with fY|fY
      ·exact hc c fY
      ·rw[List.mem_singleton.1 fY];exact hs s (by simp)) h
theorem Da(v:bm)(z:eU)(d:Int)(o:List an)(ho:o.length<=100)(nR:∀c∈o,bE c=true)(hi:i<v.2.length)(ep:i<=1000)(hs:bE (v.2[i]).1=true):∀(m k:Nat) (b:Bool),m+k=o.length ->
  td v z (d,o) (i:Int) b (k:Int)=match gE (v.2[i]).1 (o.drop k) b with
   | none=>some (((0,[]),false,()),())
   | some true=>ox v z (d,o) ((i+1:Nat):Int)
   | some false=>ox v z (d,o++[(v.2[i]).1]) ((i+1:Nat):Int)
 | 0,k,b,hm=>by
  have au:decide ((k:Int)<(o.length:Int))=false:=decide_eq_false (by omega);have hd:decide ((o.length+1)*32<=140737488355328)=true:=iP (by omega) (by omega);rw[PD,au,cond_false,List.drop_eq_nil_of_le (by omega),aG hi];simp only[Option.bind_some,gE];rw[(RI hs).1];simp only[Option.bind_some];rw[hd,aT (by omega)];cases b<;>rfl
 | m+1,k,b,hm=>by
  have hk:k<o.length:=by omega
  have ck:=nR _ (List.getElem_mem hk);have l1:=(en.1 ck).2.2.2;have l2:=(en.1 hs).2.2.2;rw[PD,aR hk,cond_true,aG hk,aG hi];simp only[Option.bind_some];rw[abU _ _ (by omega) (by omega),drop_cons hk,aT (by omega)];unfold iR;simp only[Option.bind_some,gE];cases (nt (o[k]) (v.2[i]).1).2 with
  | false=>rfl
  | true =>
   simp only[Bool.not_true,cond_false,cond_true];cases b with
   | true =>
    rw[cond_true,Da v z d o ho nR hi ep hs m (k+1) true (by omega),Bool.true_or]
   | false =>
    rw[cond_false,Da v z d o ho nR hi ep hs m (k+1) _ (by omega),Bool.false_or]
theorem C9(v:bm)(z:eU)(d:Int)(hv:v.2.length<=24)(hs:∀s∈v.2,bE s.1=true):∀(m i:Nat) (o:List an),m+i=v.2.length->o.length<=i->(∀c∈o,bE c=true) ->
  ox v z (d,o) (i:Int)=vw d (kr (v.2.drop i) o)
 | 0,i,o,hm,ho,nR=>by
  have au:decide ((i:Int)<(v.2.length:Int))=false:=decide_eq_false (by omega);have e:decide (((o.length:Nat):Int)>12)=decide (o.length>12):=by rw[Bool.eq_iff_iff];simp;omega
  rw[PC,au,cond_false,List.drop_eq_nil_of_le (by omega),e];unfold kr;cases decide (o.length>12)<;>rfl
 | m+1,i,o,hm,ho,nR=>by
  have hi:i<v.2.length:=by omega
  have si:=hs _ (List.getElem_mem hi);have:=Da v z d o (by omega) nR hi (by omega) si o.length 0 false (by omega);rw[Int.natCast_zero,List.drop_zero]at this;rw[PC,aR hi,cond_true,this,drop_cons hi];unfold kr;cases gE (v.2[i]).1 o false with
  | none=>rfl
  | some b=>cases b with
   | true=>exact C9 v z d hv hs m (i+1) o (by omega) (by omega) nR
   | false=>exact C9 v z d hv hs m (i+1) _ (by omega) (by simp;omega) (λc fY=>by
      rcases List.mem_append.1 fY with fY|fY
      ·exact nR c fY
      ·rw[List.mem_singleton.1 fY];exact si)
theorem C7(v:bm)(z:eU)(d:Int)(o:List an)(ho:o.length<=12)(s:bA)(hs:bE s.1=true)(L:List bA){i:Nat}(ep:i<=1000):∀(m k:Nat) (b:Bool),m+k=o.length ->
  sV v z (d,o) s b L (L.length:Int) (i:Int) (o.length:Int) (k:Int)=match gE s.1 (o.drop k) b with
   | none=>some (((0,[]),false,()),())
   | some true=>ot v z (d,o) L (L.length:Int) ((i+1:Nat):Int)
   | some false=>bif o.length==12 then some (((0,[]),false,()),())else ot v z (d,o++[s.1]) L (L.length:Int) ((i+1:Nat):Int)
 | 0,k,b,hm=>by
  have au:decide ((k:Int)<(o.length:Int))=false:=decide_eq_false (by omega);have hd:decide ((o.length+1)*32<=140737488355328)=true:=iP (by omega) (by omega);have e:(((o.length:Nat):Int)==12)=(o.length==12):=by rw[Bool.eq_iff_iff];simp;omega
  rw[O8,au,cond_false,List.drop_eq_nil_of_le (by omega),(RI hs).2];simp only[Option.bind_some,gE];rw[hd,aT (by omega),e];cases b<;>rfl
 | m+1,k,b,hm=>by
  have hk:k<o.length:=by omega
  rw[O8,aR hk,cond_true,aG hk];simp only[Option.bind_some];rw[aaT,drop_cons hk,aT (by omega)];unfold iR;simp only[Option.bind_some,gE];cases (nt (o[k]) s.1).2 with
  | false=>rfl
  | true =>
   simp only[Bool.not_true,cond_false,cond_true];cases b with
   | true =>
    rw[cond_true,C7 v z d o ho s hs L ep m (k+1) true (by omega),Bool.true_or]
   | false =>
    rw[cond_false,C7 v z d o ho s hs L ep m (k+1) _ (by omega),Bool.false_or]
theorem C6(v:bm)(z:eU)(d:Int){L:List bA}(hv:L.length<=24)(hs:∀s∈L,bE s.1=true):∀(m i:Nat) (o:List an),m+i=L.length->o.length<=12 ->
  ot v z (d,o) L (L.length:Int) (i:Int)=vw d (jB (L.drop i) o)
 | 0,i,o,hm,ho=>by
  have au:decide ((i:Int)<(L.length:Int))=false:=decide_eq_false (by omega);rw[O7,au,cond_false,List.drop_eq_nil_of_le (by omega)];rfl
 | m+1,i,o,hm,ho=>by
  have hi:i<L.length:=by omega
  have si:=hs _ (List.getElem_mem hi);have:=C7 v z d o ho (L[i]) si L (i:=i) (by omega) o.length 0 false (by omega);rw[Int.natCast_zero,List.drop_zero]at this;rw[O7,aR hi,cond_true,aG hi];simp only[Option.bind_some];rw[this,drop_cons hi];unfold jB;cases gE (L[i]).1 o false with
  | none=>rfl
  | some b=>cases b with
   | true=>exact C6 v z d hv hs m (i+1) o (by omega) ho
   | false =>
    dsimp only;cases nH:o.length==12 with
    | true=>rfl
    | false =>
     have:o.length≠12:=by simpa using nH
     exact C6 v z d hv hs m (i+1) _ (by omega) (by simp;omega)
def pS(db:List Rel)(v:bm):Option (List an):=bif lL db v then jB v.2 []else none
theorem JU{db:List Rel}{v:bm}(h:lL db v=true):v.2.length<=24/\∀s∈v.2,bE s.1=true/\s.1.1=4:=by
 unfold lL at h;simp only[Bool.and_eq_true,decide_eq_true_eq,List.all_eq_true]at h;obtain⟨_,h1,h2⟩:=h;refine⟨by omega,λs hs=>?_⟩;have:=h2 s hs;unfold og at this;simp only[Bool.and_eq_true,Bool.not_eq_true',bne_eq_false_iff_eq]at this;exact⟨this.1,by simpa using this.2.1⟩
theorem acm(db:List Rel)(v:bm)(hd:zL zQ db<=68719476736)(hv:zV v<=68719476736):yg db v=vw 4 (pS db v):=by
 rw[ack,acd db v hd hv];simp only[Option.bind_some];unfold pS;cases h:lL db v with
 | false=>rfl
 | true =>
  obtain⟨h1,h2⟩:=JU h;simp only[Bool.not_true,cond_false,cond_true];have:=C9 v (0,[]) 4 h1 (λs hs=>(h2 s hs).1) v.2.length 0 [] (by omega) (by simp) (λc hc=>by cases hc);rw[Int.natCast_zero,List.drop_zero,Ja _ _ (by simp)]at this;exact this
theorem abl(db:List Rel)(v:bm)(hv:zV v<=68719476736):tk db v=vw 4 (pS db v):=by
 rw[abk,abd db v hv];simp only[Option.bind_some];unfold pS;cases h:lL db v with
 | false=>rfl
 | true =>
  obtain⟨h1,h2⟩:=JU h;simp only[Bool.not_true,cond_false,cond_true];have:=C6 v (0,[]) 4 h1 (λs hs=>(h2 s hs).1) v.2.length 0 [] (by omega) (by simp);rw[Int.natCast_zero,List.drop_zero]at this;exact this
def r8(d:Int):Option (List an)->eU×Bool
 | some l=>((d,l),true)
 | none=>((0,[]),false)
theorem aj1(d:Int)(o:Option (List an)):vw d o=some (((r8 d o).1,(r8 d o).2,()),()):=by cases o<;>rfl
theorem aeV(h:bE c=true):zC c<=80:=by
 obtain⟨h1,h2,h3,h4⟩:=en.1 h;have:=J5 zA 4 c.2 (λa ha=>ajr (h1 a ha));have h5:c.2.length*5<=16*5:=Nat.mul_le_mul_right _ h4;show zL zA c.2<=80;omega
theorem aj3{l:List an}(hn:l.length<=n)(h:∀c∈l,bE c=true)(d:Int):zG (d,l)<=n*81:=by
 have:=J5 zC 80 l (λc hc=>aeV (h c hc));have h5:l.length*81<=n*81:=Nat.mul_le_mul_right _ hn;show zL zC l<=n*81;omega
theorem aj8(db:List Rel)(v:bm):zG (r8 4 (pS db v)).1<=1000:=by
 unfold pS;cases h:lL db v with
 | false=>simp[r8,zG,zL]
 | true =>
  obtain⟨h1,h2⟩:=JU h;rw[cond_true];cases hr:jB v.2 []with
  | none=>simp[r8,zG,zL]
  | some r =>
   have:=I9 v.2 [] r (by simp) (λs hs=>(h2 s hs).1) (λc hc=>by cases hc) hr;have:=aj3 this.1 this.2 4;show zG (4,r)<=1000;omega
theorem aiT(x:List Rel)(v:bm)(hx:cA (.slice 0 Ce) x)(hv:cA V5 v):ET x v=some ((true,()),()):=by
 rw[acP,adY x 1048576 hx (by omega) (by omega)];simp only[Option.bind_some];rcases iO 1048576 (zL zQ x)with⟨e,_⟩|⟨k1,e,a1,d1⟩
 ·rw[e];rfl
 have c1:decide (k1<0)=false:=by simp;omega
 rw[e];simp only[c1,cond_false];rw[aea v k1 hv (by omega) (by omega)];simp only[Option.bind_some];rcases iO k1 (zV v)with⟨e,_⟩|⟨k2,e,a2,d2⟩
 ·rw[e];rfl
 have c2:decide (k2<0)=false:=by simp;omega
 rw[e];simp only[c2,cond_false];have zx:zL zQ x<=68719476736:=by omega
 have zv:zV v<=68719476736:=by omega
 have w1:=acm x v zx zv;have w2:=abl x v zv;have w3:=aj8 x v;rw[aj1]at w1 w2;generalize r8 4 (pS x v)=r at *
 obtain⟨r,ok⟩:=r;dsimp only at w1 w2 w3;have q1:=cX IC x 1;have q2:=tdV v (mL mQ x 1).2;have q3:=tdG r 1;have n1:decide ((tV v (mL mQ x 1).2).2<0)=false:=decide_eq_false (by omega);have n2:decide ((tG r 1).2<0)=false:=decide_eq_false (by omega);have m1:=adE x 1 (by omega) (by omega) zx;have m2:=adL v (mL mQ x 1).2 (by omega) (by omega) zv;have m3:=adC r 1 (by omega) (by omega) (by omega);have m4:=ads r 1 (by omega) (by omega) (by omega);have e3:=ac4 r (by omega);rw[aen x zx,Option.bind_some,aez v zv,Option.bind_some];dsimp only;rw[w1,Option.bind_some,Option.bind_some,Option.bind_some,w2,Option.bind_some];dsimp only;rw[e3,Option.bind_some];simp only[Bool.not_true,cond_false,beq_self_eq_true,Option.bind_some,ac6 x zx,adk v zv,m1,m2,n1,e3,m3,m4,n2,bne_self_eq_false,w2]
end Go.Proofs.YtbhogmdpmkpinaaGreat.P.It
