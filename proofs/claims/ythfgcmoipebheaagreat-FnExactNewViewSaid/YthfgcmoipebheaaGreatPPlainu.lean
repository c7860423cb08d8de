/- A part of the proof: Plainu. No conditions. -/
import Derived.Test.YthfgcmoipebheaaGreatPIt3u
import Derived.Test.YthfgcmoipebheaaGreatPG8
set_option linter.unusedVariables false
set_option linter.unusedSimpArgs false
namespace Go.Proofs.YthfgcmoipebheaaGreat.P.It
open Am
variable{i k m n v:Nat}{R α β:Type}{a b:aa}{d p q y:Int}{c:aB}{S l l':List aa}{K:List (List ah)}{x:ah}{r:List ah}
theorem ca{x:Int}(h1 : -9223372036854775808<=x)(h2:x<=9223372036854775807):IntKind.i64.wrap x=x:=by
 rw[IntKind.wrap_i64];omega
theorem aD{xs:List α}{i:Nat}(h:i<xs.length):ab xs (i:Int)=some xs[i]:=by
 unfold ab;rw[if_pos (by omega)];simp[h]
theorem aN(h:i<=1000000000000):IntKind.i64.wrap ((i:Int)+1)=((i+1:Nat):Int):=by
 rw[ca]<;>omega
theorem dw{k:Int}(h0:0<=k)(h1:k<=1000000000000000000):IntKind.i64.wrap (k+1)=k+1:=ca (by omega) (by omega)
theorem aR(h:i<n):decide ((i:Int)<(n:Int))=true:=by simp;omega
theorem aV(n:Nat):decide ((n:Int)<(n:Int))=false:=by simp
theorem p9:decide ((-1:Int)<0)=true:=by decide
theorem nh:maxLen=9223372036854775807:=by decide
theorem pq{x:List α}(h:i<x.length)(v:α):ab (x.set i v) (i:Int)=some v:=by
 rw[aD (by simpa using h)];simp
theorem nm{R:Type}(x:List α)(c:Int)(hl:x.length<=68719476736)(h0:0<=c)(hc:c<=1000)(A B:R):(bif decide (0<=(x.length:Int))&&decide ((x.length:Int)<=(x.length:Int))&&decide ((x.length:Int)*c<=140737488355328)&&decide ((x.length:Int)<=9223372036854775807)then A else B)=A:=by
 have h1:(x.length:Int)*c<=68719476736*1000:=Int.mul_le_mul (by omega) hc h0 (by omega);have h2:(x.length:Int)*c<=140737488355328:=by omega
 have h3:(x.length:Int)<=9223372036854775807:=by omega
 simp[h2,h3]
theorem kX(x:List α)(p:α->Bool)(F E:Option R)(f:Int->Option R)(hl:x.length<=68719476736)
  (h1:∀(i:Nat) (h:i<x.length),f (i:Int)=bif p x[i]then f ((i+1:Nat):Int)else F) (h2:f (x.length:Int)=E) :
  ∀(n i:Nat),n+i=x.length->f (i:Int)=bif (x.drop i).all p then E else F
 | 0,i,hn=>by
  obtain rfl:i=x.length:=by omega
  rw[h2,List.drop_eq_nil_of_le (by omega)];rfl
 | n+1,i,hn=>by
  have hi:i<x.length:=by omega
  rw[h1 i hi,kX x p F E f hl h1 h2 n (i+1) (by omega),List.drop_eq_getElem_cons hi,List.all_cons];cases p x[i]<;>rfl
theorem rC(x:List α)(p:α->Bool)(F E:Option R)(f:Int->Option R)(hl:x.length<=68719476736)
  (h1:∀(i:Nat) (h:i<x.length),f (i:Int)=bif p x[i]then f ((i+1:Nat):Int)else F) (h2:f (x.length:Int)=E):f 0=bif x.all p then E else F:=by
 have:=kX x p F E f hl h1 h2 x.length 0 (by omega)
 rwa [List.drop_zero]at this
def cO{α:Type}(p:α->Bool)(x:List α):Int:=if x.findIdx p<x.length then (x.findIdx p:Int)else -1
theorem Iw(x:List α)(p:α->Bool)(r:Int->Option R)(f:Int->Option R)
  (h1:∀(i:Nat) (h:i<x.length),f (i:Int)=bif p x[i]then r (i:Int)else f ((i+1:Nat):Int)) (h2:f (x.length:Int)=r (-1)) :
  ∀(n i:Nat),n+i=x.length->(∀j (h:j<x.length),j<i->p x[j]=false)->f (i:Int)=r (cO p x)
 | 0,i,hn,hp=>by
  obtain rfl:i=x.length:=by omega
  have:x.findIdx p=x.length:=List.findIdx_eq_length.2 (λy hy=>by
   obtain⟨j,hj,rfl⟩:=List.mem_iff_getElem.1 hy;exact hp j hj hj)
  rw[h2];unfold cO;rw[if_neg (by omega)]
 | n+1,i,hn,hp=>by
  have hi:i<x.length:=by omega
  rw[h1 i hi];cases hb:p x[i]with
  | true =>
   have:x.findIdx p=i:=(List.findIdx_eq hi).2 ⟨hb,λj hj=>hp j (by omega) hj⟩;unfold cO;rw[this,if_pos hi];rfl
  | false =>
   rw[cond_false];exact Iw x p r f h1 h2 n (i+1) (by omega) (λj hj cG=>by
    by_cases he:j=i
    ·subst he;exact hb
    ·exact hp j hj (by omega))
def fz(k:Int)(n:Nat):Int:=if (n:Int)<=k then k - n else -1
theorem gd{k:Int}(h:¬(n:Int)<=k):fz k n = -1:=if_neg h
theorem oB{k:Int}(h:(n:Int)<=k):fz k n=k - n:=if_pos h
theorem nA(k:Int)(n:Nat):(fz k n = -1/\¬(n:Int)<=k)\/∃m,fz k n=m/\m=k - n/\0<=m:=by
 by_cases h:(n:Int)<=k
 ·exact .inr ⟨_,oB h,rfl,by omega⟩
 ·exact .inl ⟨gd h,h⟩
theorem wW{k:Int}{a b:Nat}{u:R}(h:0<=k - (a:Int)):some ((fz (k - (a:Int)) b,u),u)=some ((fz k (a+b),u),u):=by
 congr 3;unfold fz;by_cases h1:(b:Int)<=k - a
 ·rw[if_pos h1,if_pos (by omega)];omega
 ·rw[if_neg h1,if_neg (by omega)]
def zB(x:ByteArray):Nat:=x.size
def zI(x:List Int):Nat:=x.length
def zL{α:Type}(f:α->Nat)(x:List α):Nat:=x.length+(x.map f).sum
theorem df(f:α->Nat)(x:List α):x.length<=zL f x:=Nat.le_add_right _ _
theorem dp(f:α->Nat){x:List α}{y:α}(h:y∈x):f y<=zL f x:=by
 have:f y<=(x.map f).sum:=by
  induction x with
  | nil=>cases h
  | cons a l ih =>
   rw[List.map_cons,List.sum_cons];rcases List.mem_cons.1 h with rfl|h
   ·omega
   ·have:=ih h;omega
 unfold zL;omega
theorem wY(x:List α)(W:α->Prop)(g:α->Nat)(S:α->Int->Option ((Int×PUnit)×PUnit))(f:Int->Int->Option ((Int×PUnit)×PUnit))(hl:x.length<=1048576)(hW:∀y∈x,W y)
  (hS:∀y k,W y->0<=k->k<=1048576->S y k=some ((fz k (g y),()),()))
  (h1:∀(i:Nat) (h:i<x.length) k,f k (i:Int)=(S x[i] k).bind λy=>bif decide (y.1.1<0)then some ((-1,()),())else f y.1.1 ((i+1:Nat):Int)) (h2:∀k,f k (x.length:Int)=some ((k,()),())) :
  ∀(n i:Nat) (k:Int),n+i=x.length->0<=k->k<=1048576->f k (i:Int)=some ((fz k ((x.drop i).map g).sum,()),())
 | 0,i,k,hn,h0,hk=>by
  obtain rfl:i=x.length:=by omega
  rw[h2,List.drop_eq_nil_of_le (by omega),oB (by simpa using h0)];simp
 | n+1,i,k,hn,h0,hk=>by
  have hi:i<x.length:=by omega
  rw[h1 i hi,hS x[i] k (hW _ (List.getElem_mem hi)) h0 hk,List.drop_eq_getElem_cons hi,List.map_cons,List.sum_cons];simp only[Option.bind_some];rcases nA k (g x[i])with⟨e,a⟩|⟨m,e,a,d⟩
  ·rw[e,p9,cond_true,gd (by omega)]
  ·have c:decide (m<0)=false:=by simp;omega
   rw[e,c,cond_false,wY x W g S f hl hW hS h1 h2 n (i+1) m (by omega) d (by omega),a];exact wW (by omega)
theorem TV(x:List α)(S:α->Option ((α×PUnit)×PUnit))(f:List α->Int->Option ((List α×PUnit)×PUnit))(hl:x.length<=68719476736)(hS:∀y∈x,S y=some ((y,()),()))
  (h1:∀(i:Nat) (h:i<x.length) (v:List α),v.length=x.length->f v (i:Int)=(S x[i]).bind λy=>f (v.set i y.1.1) ((i+1:Nat):Int)) (h2:∀v:List α,f v (x.length:Int)=some ((v,()),())) :
  ∀(n i:Nat) (v:List α),n+i=x.length->v.length=x.length->f v (i:Int)=some ((v.take i++x.drop i,()),())
 | 0,i,v,hn,hv=>by
  obtain rfl:i=x.length:=by omega
  rw[h2,List.take_of_length_le (by omega),List.drop_eq_nil_of_le (by omega),List.append_nil]
 | n+1,i,v,hn,hv=>by
  have hi:i<x.length:=by omega
  rw[h1 i hi v hv,hS _ (List.getElem_mem hi)];simp only[Option.bind_some];rw[TV x S f hl hS h1 h2 n (i+1) _ (by omega) (by simpa using hv)];congr 3;have e1:(v.set i x[i]).take (i+1)=v.take i++[x[i]]:=by
   rw[List.take_add_one,List.take_set_of_le (by omega)];simp[hv,hi]
  rw[e1,List.append_assoc,List.singleton_append];congr 1;exact (List.drop_eq_getElem_cons hi).symm
theorem uR(x:List α)(S:α->Option ((α×PUnit)×PUnit))(f:List α->Int->Option ((List α×PUnit)×PUnit))(hl:x.length<=68719476736)(hS:∀y∈x,S y=some ((y,()),()))
  (h1:∀(i:Nat) (h:i<x.length) (v:List α),v.length=x.length->f v (i:Int)=(S x[i]).bind λy=>f (v.set i y.1.1) ((i+1:Nat):Int)) (h2:∀v:List α,f v (x.length:Int)=some ((v,()),())) (v:List α) (hv:v.length=x.length) :
  f v 0=some ((x,()),()):=by
 have:=TV x S f hl hS h1 h2 x.length 0 v (by omega) hv;rw[Int.natCast_zero]at this;rw[this];simp
theorem pg(x:List α)(E:Option R)(f:Int->Option R)(hl:x.length<=68719476736)
  (h1:∀(i:Nat) (h:i<x.length),f (i:Int)=f ((i+1:Nat):Int)) (h2:f (x.length:Int)=E):f 0=E:=by
 have:=rC x (λ_=>true) E E f hl (λi h=>by simpa using h1 i h) h2;rw[this];cases x.all _<;>rfl
def zA(x:aa):Nat:=zI x.1
abbrev wG:Ty:=.agg (.pair (.slice 0 (.int .i64)) (.pair (.int .i64) .bool))
def zC(x:aB):Nat:=zL zA x.2
abbrev Yw:Ty:=.agg (.pair (.int .i64) (.slice 0 wG))
def zR(x:Rw):Nat:=zB x.1+zC x.2
abbrev Dd:Ty:=.agg (.pair .str Yw)
def zQ(x:Rel):Nat:=zB x.1+zL zR x.2.2
abbrev Dc:Ty:=.agg (.pair .str (.pair (.int .i64) (.slice 0 Dd)))
def zN(x:al):Nat:=zA x.2.1+zB x.2.2.1+zB x.2.2.2.1+zI x.2.2.2.2.1
abbrev sI:Ty:=.agg (.pair (.int .i64) (.pair wG (.pair .str (.pair .str (.pair (.slice 0 (.int .i64)) (.pair (.int .i64) (.pair (.int .i64) (.int .i64))))))))
def zP(x:ah):Nat:=zC x.1+zL zI x.2
def zV(x:fm):Nat:=zL zN x.1+zL zP x.2
theorem Ta(x:List Int)(k:Int)(w:cZ (.slice 0 (.int .i64)) x)(h0:0<=k)(hk:k<=1048576):Aa x k=some ((fz k (zI x),()),()):=by
 have hl:x.length<=maxLen:=w.1;rw[nh]at hl;rw[ago,ca (by omega) (by omega)];by_cases h:k - (x.length:Int)<0
 ·simp only[h,decide_true,cond_true];rw[gd (by unfold zI;omega)]
 ·simp only[h,decide_false,cond_false];rw[oB (by unfold zI;omega)];rfl
theorem S9(x:aa)(k:Int)(w:cZ wG x)(h0:0<=k)(hk:k<=1048576):uC x k=some ((fz k (zA x),()),()):=by
 have hz:zA x=zI x.1:=rfl;rw[agl];rw[Ta _ _ w.1 (by omega) (by omega)];simp only[Option.bind_some];rcases nA k (zI x.1)with⟨e1,a1⟩|⟨k1,e1,a1,d1⟩
 ·rw[e1];simp only[p9,cond_true];rw[gd (by rw[hz];omega)]
 have c1:decide (k1<0)=false:=by simp;omega
 rw[e1];simp only[c1,cond_false];rw[oB (by rw[hz];omega)];congr 3<;>(rw[hz];omega)
theorem agk(x:List aa)(k:Int)(w:cZ (.slice 0 wG) x)(h0:0<=k)(hk:k<=1048576):z8 x k=some ((fz k (zL zA x),()),()):=by
 have hl:x.length<=maxLen:=w.1;rw[nh]at hl;rw[agj,ca (by omega) (by omega)];have hz:zL zA x=x.length+(x.map zA).sum:=rfl;by_cases h:k - (x.length:Int)<0
 ·simp only[h,decide_true,cond_true];rw[gd (by rw[hz];omega)]
 ·simp only[h,decide_false,cond_false];have:=wY x (cZ wG) zA uC (λk i=>yE x k i) (by omega) w.2 (λy k w h0 hk=>S9 y k w h0 hk) (λi hi k=>by
   rw[Sb,aD hi,aR hi,aN (by omega)];simp only[cond_true,Option.bind_some]) (λk=>by rw[Sb,aV];rfl) x.length 0 (k - (x.length:Int)) (by omega) (by omega) (by omega)
  rw[Int.natCast_zero]at this;refine this.trans ?_;rw[List.drop_zero,hz,wW (by omega)]
theorem agn(x:aB)(k:Int)(w:cZ Yw x)(h0:0<=k)(hk:k<=1048576):Gr x k=some ((fz k (zC x),()),()):=by
 have hz:zC x=zL zA x.2:=rfl;rw[agm];rw[agk _ _ w.2 (by omega) (by omega)];simp only[Option.bind_some];rcases nA k (zL zA x.2)with⟨e1,a1⟩|⟨k1,e1,a1,d1⟩
 ·rw[e1];simp only[p9,cond_true];rw[gd (by rw[hz];omega)]
 have c1:decide (k1<0)=false:=by simp;omega
 rw[e1];simp only[c1,cond_false];rw[oB (by rw[hz];omega)];congr 3<;>(rw[hz];omega)
theorem agA(x:Rw)(k:Int)(w:cZ Dd x)(h0:0<=k)(hk:k<=1048576):Af x k=some ((fz k (zR x),()),()):=by
 have hz:zR x=zB x.1+zC x.2:=rfl;rw[agz];have b1:zB x.1<=maxLen:=w.1;rw[nh]at b1;obtain⟨k1,e1,a1⟩:∃m,IntKind.i64.wrap (k - ((ByteArray.size x.1:Nat):Int))=m/\m=k - (zB x.1:Int):=⟨_,ca (by unfold zB at b1;omega) (by unfold zB at b1;omega),rfl⟩;simp only[e1];by_cases d1:k1<0
 ·simp only[d1,decide_true,cond_true];rw[gd (by rw[hz];omega)]
 simp only[d1,decide_false,cond_false];rw[agn _ _ w.2 (by omega) (by omega)];simp only[Option.bind_some];rcases nA k1 (zC x.2)with⟨e2,a2⟩|⟨k2,e2,a2,d2⟩
 ·rw[e2];simp only[p9,cond_true];rw[gd (by rw[hz];omega)]
 have c2:decide (k2<0)=false:=by simp;omega
 rw[e2];simp only[c2,cond_false];rw[oB (by rw[hz];omega)];congr 3<;>(rw[hz];omega)
theorem agy(x:List Rw)(k:Int)(w:cZ (.slice 0 Dd) x)(h0:0<=k)(hk:k<=1048576):Ag x k=some ((fz k (zL zR x),()),()):=by
 have hl:x.length<=maxLen:=w.1;rw[nh]at hl;rw[agx,ca (by omega) (by omega)];have hz:zL zR x=x.length+(x.map zR).sum:=rfl;by_cases h:k - (x.length:Int)<0
 ·simp only[h,decide_true,cond_true];rw[gd (by rw[hz];omega)]
 ·simp only[h,decide_false,cond_false];have:=wY x (cZ Dd) zR Af (λk i=>yH x k i) (by omega) w.2 (λy k w h0 hk=>agA y k w h0 hk) (λi hi k=>by
   rw[Se,aD hi,aR hi,aN (by omega)];simp only[cond_true,Option.bind_some]) (λk=>by rw[Se,aV];rfl) x.length 0 (k - (x.length:Int)) (by omega) (by omega) (by omega)
  rw[Int.natCast_zero]at this;refine this.trans ?_;rw[List.drop_zero,hz,wW (by omega)]
theorem agw(x:Rel)(k:Int)(w:cZ Dc x)(h0:0<=k)(hk:k<=1048576):Ad x k=some ((fz k (zQ x),()),()):=by
 have hz:zQ x=zB x.1+zL zR x.2.2:=rfl;rw[agv];have b1:zB x.1<=maxLen:=w.1;rw[nh]at b1;obtain⟨k1,e1,a1⟩:∃m,IntKind.i64.wrap (k - ((ByteArray.size x.1:Nat):Int))=m/\m=k - (zB x.1:Int):=⟨_,ca (by unfold zB at b1;omega) (by unfold zB at b1;omega),rfl⟩;simp only[e1];by_cases d1:k1<0
 ·simp only[d1,decide_true,cond_true];rw[gd (by rw[hz];omega)]
 simp only[d1,decide_false,cond_false];rw[agy _ _ w.2.2 (by omega) (by omega)];simp only[Option.bind_some];rcases nA k1 (zL zR x.2.2)with⟨e2,a2⟩|⟨k2,e2,a2,d2⟩
 ·rw[e2];simp only[p9,cond_true];rw[gd (by rw[hz];omega)]
 have c2:decide (k2<0)=false:=by simp;omega
 rw[e2];simp only[c2,cond_false];rw[oB (by rw[hz];omega)];congr 3<;>(rw[hz];omega)
theorem agu(x:List Rel)(k:Int)(w:cZ (.slice 0 Dc) x)(h0:0<=k)(hk:k<=1048576):Ae x k=some ((fz k (zL zQ x),()),()):=by
 have hl:x.length<=maxLen:=w.1;rw[nh]at hl;rw[agt,ca (by omega) (by omega)];have hz:zL zQ x=x.length+(x.map zQ).sum:=rfl;by_cases h:k - (x.length:Int)<0
 ·simp only[h,decide_true,cond_true];rw[gd (by rw[hz];omega)]
 ·simp only[h,decide_false,cond_false];have:=wY x (cZ Dc) zQ Ad (λk i=>yG x k i) (by omega) w.2 (λy k w h0 hk=>agw y k w h0 hk) (λi hi k=>by
   rw[Sd,aD hi,aR hi,aN (by omega)];simp only[cond_true,Option.bind_some]) (λk=>by rw[Sd,aV];rfl) x.length 0 (k - (x.length:Int)) (by omega) (by omega) (by omega)
  rw[Int.natCast_zero]at this;refine this.trans ?_;rw[List.drop_zero,hz,wW (by omega)]
theorem ags(x:al)(k:Int)(w:cZ sI x)(h0:0<=k)(hk:k<=1048576):Ab x k=some ((fz k (zN x),()),()):=by
 have hz:zN x=zA x.2.1+zB x.2.2.1+zB x.2.2.2.1+zI x.2.2.2.2.1:=rfl;rw[agr];rw[S9 _ _ w.2.1 (by omega) (by omega)];simp only[Option.bind_some];rcases nA k (zA x.2.1)with⟨e1,a1⟩|⟨k1,e1,a1,d1⟩
 ·rw[e1];simp only[p9,cond_true];rw[gd (by rw[hz];omega)]
 have c1:decide (k1<0)=false:=by simp;omega
 rw[e1];simp only[c1,cond_false];have b2:zB x.2.2.1<=maxLen:=w.2.2.1;rw[nh]at b2;obtain⟨k2,e2,a2⟩:∃m,IntKind.i64.wrap (k1 - ((ByteArray.size x.2.2.1:Nat):Int))=m/\m=k1 - (zB x.2.2.1:Int):=⟨_,ca (by unfold zB at b2;omega) (by unfold zB at b2;omega),rfl⟩;simp only[e2];by_cases d2:k2<0
 ·simp only[d2,decide_true,cond_true];rw[gd (by rw[hz];omega)]
 simp only[d2,decide_false,cond_false];have b3:zB x.2.2.2.1<=maxLen:=w.2.2.2.1;rw[nh]at b3;obtain⟨k3,e3,a3⟩:∃m,IntKind.i64.wrap (k2 - ((ByteArray.size x.2.2.2.1:Nat):Int))=m/\m=k2 - (zB x.2.2.2.1:Int):=⟨_,ca (by unfold zB at b3;omega) (by unfold zB at b3;omega),rfl⟩;simp only[e3];by_cases d3:k3<0
 ·simp only[d3,decide_true,cond_true];rw[gd (by rw[hz];omega)]
 simp only[d3,decide_false,cond_false];rw[Ta _ _ w.2.2.2.2.1 (by omega) (by omega)];simp only[Option.bind_some];rcases nA k3 (zI x.2.2.2.2.1)with⟨e4,a4⟩|⟨k4,e4,a4,d4⟩
 ·rw[e4];simp only[p9,cond_true];rw[gd (by rw[hz];omega)]
 have c4:decide (k4<0)=false:=by simp;omega
 rw[e4];simp only[c4,cond_false];rw[oB (by rw[hz];omega)];congr 3<;>(rw[hz];omega)
theorem agq(x:List al)(k:Int)(w:cZ (.slice 0 sI) x)(h0:0<=k)(hk:k<=1048576):Ac x k=some ((fz k (zL zN x),()),()):=by
 have hl:x.length<=maxLen:=w.1;rw[nh]at hl;rw[agp,ca (by omega) (by omega)];have hz:zL zN x=x.length+(x.map zN).sum:=rfl;by_cases h:k - (x.length:Int)<0
 ·simp only[h,decide_true,cond_true];rw[gd (by rw[hz];omega)]
 ·simp only[h,decide_false,cond_false];have:=wY x (cZ sI) zN Ab (λk i=>yF x k i) (by omega) w.2 (λy k w h0 hk=>ags y k w h0 hk) (λi hi k=>by
   rw[Sc,aD hi,aR hi,aN (by omega)];simp only[cond_true,Option.bind_some]) (λk=>by rw[Sc,aV];rfl) x.length 0 (k - (x.length:Int)) (by omega) (by omega) (by omega)
  rw[Int.natCast_zero]at this;refine this.trans ?_;rw[List.drop_zero,hz,wW (by omega)]
theorem Td(x:List Int)(h:zI x<=68719476736):uE x=some ((x,()),()):=by
 have hl:x.length<=68719476736:=h;rw[agG,nm x 8 hl (by omega) (by omega)];exact uR x (λy=>some ((y,()),())) (λv i=>yJ x v i) hl (λy _=>rfl) (λi hi v hv=>by
  rw[Sg,aR hi,aN (by omega)];simp only[aD hi,aD (show i<v.length by omega),cond_true,Option.bind_some,Int.toNat_natCast]) (λv=>by rw[Sg,aV];rfl) _ (by simp)
theorem Tc(x:aa)(h:zA x<=68719476736):uD x=some ((x,()),()):=by
 have hz:zA x=zI x.1:=rfl;rw[agD,Td _ (by omega)];rfl
theorem agC(x:List aa)(h:zL zA x<=68719476736):Ah x=some ((x,()),()):=by
 have hl:x.length<=68719476736:=Nat.le_trans (df _ x) h;rw[agB,nm x 40 hl (by omega) (by omega)];exact uR x uD (λv i=>yI x v i) hl (λy hy=>Tc y (Nat.le_trans (dp _ hy) h)) (λi hi v hv=>by
  rw[Sf,aR hi,aN (by omega)];simp only[aD hi,aD (show i<v.length by omega),cond_true,Option.bind_some,Int.toNat_natCast]) (λv=>by rw[Sf,aV];rfl) _ (by simp)
theorem agF(x:aB)(h:zC x<=68719476736):Gs x=some ((x,()),()):=by
 have hz:zC x=zL zA x.2:=rfl;rw[agE,agC _ (by omega)];rfl
theorem agS(x:Rw)(h:zR x<=68719476736):Ak x=some ((x,()),()):=by
 have hz:zR x=zB x.1+zC x.2:=rfl;rw[agR,agF _ (by omega)];rfl
theorem agQ(x:List Rw)(h:zL zR x<=68719476736):Al x=some ((x,()),()):=by
 have hl:x.length<=68719476736:=Nat.le_trans (df _ x) h;rw[agP,nm x 48 hl (by omega) (by omega)];exact uR x Ak (λv i=>yM x v i) hl (λy hy=>agS y (Nat.le_trans (dp _ hy) h)) (λi hi v hv=>by
  rw[Sj,aR hi,aN (by omega)];simp only[aD hi,aD (show i<v.length by omega),cond_true,Option.bind_some,Int.toNat_natCast]) (λv=>by rw[Sj,aV];rfl) _ (by simp)
theorem agO(x:Rel)(h:zQ x<=68719476736):Aj x=some ((x,()),()):=by
 have hz:zQ x=zB x.1+zL zR x.2.2:=rfl;rw[agN,agQ _ (by omega)];rfl
theorem agM(x:List Rel)(h:zL zQ x<=68719476736):oX x=some ((x,()),()):=by
 have hl:x.length<=68719476736:=Nat.le_trans (df _ x) h;rw[agL,nm x 48 hl (by omega) (by omega)];exact uR x Aj (λv i=>yL x v i) hl (λy hy=>agO y (Nat.le_trans (dp _ hy) h)) (λi hi v hv=>by
  rw[Si,aR hi,aN (by omega)];simp only[aD hi,aD (show i<v.length by omega),cond_true,Option.bind_some,Int.toNat_natCast]) (λv=>by rw[Si,aV];rfl) _ (by simp)
theorem agK(x:al)(h:zN x<=68719476736):Ai x=some ((x,()),()):=by
 have hz:zN x=zA x.2.1+zB x.2.2.1+zB x.2.2.2.1+zI x.2.2.2.2.1:=rfl;rw[agJ,Tc _ (by omega),Td _ (by omega)];rfl
theorem agI(x:List al)(h:zL zN x<=68719476736):oW x=some ((x,()),()):=by
 have hl:x.length<=68719476736:=Nat.le_trans (df _ x) h;rw[agH,nm x 128 hl (by omega) (by omega)];exact uR x Ai (λv i=>yK x v i) hl (λy hy=>agK y (Nat.le_trans (dp _ hy) h)) (λi hi v hv=>by
  rw[Sh,aR hi,aN (by omega)];simp only[aD hi,aD (show i<v.length by omega),cond_true,Option.bind_some,Int.toNat_natCast]) (λv=>by rw[Sh,aV];rfl) _ (by simp)
theorem Gk(x:List Int)(h:zI x<=68719476736):rz x x=some ((true,()),()):=by
 have hl:x.length<=68719476736:=h;rw[afC];simp only[bne_self_eq_false,cond_false];refine pg x (some ((true,()),())) (λi=>yk x x i) hl (λi hi=>?_) ?_
 ·rw[RR,aR hi,aN (by omega)];simp only[aD hi,cond_true,Option.bind_some,bne_self_eq_false,beq_self_eq_true,Bool.not_true,cond_false]
 ·rw[RR,aV];rfl
theorem afB(x:List (List Int))(h:zL zI x<=68719476736):zG x x=some ((true,()),()):=by
 have hl:x.length<=68719476736:=Nat.le_trans (df _ x) h;rw[afA];simp only[bne_self_eq_false,cond_false];refine pg x (some ((true,()),())) (λi=>yj x x i) hl (λi hi=>?_) ?_
 ·rw[RQ,aR hi,aN (by omega)];simp only[aD hi,cond_true,Option.bind_some,Gk _ (Nat.le_trans (dp _ (List.getElem_mem hi)) h),Bool.not_true,cond_false]
 ·rw[RQ,aV];rfl
theorem S3(x:aa)(h:zA x<=68719476736):zy x x=some ((true,()),()):=by
 have hz:zA x=zI x.1:=rfl;rw[afy];simp only[bne_self_eq_false,beq_self_eq_true,Bool.not_true,cond_false,Option.bind_some,Gk x.1 (by omega)]
theorem afx(x:List aa)(h:zL zA x<=68719476736):zD x x=some ((true,()),()):=by
 have hl:x.length<=68719476736:=Nat.le_trans (df _ x) h;rw[afw];simp only[bne_self_eq_false,cond_false];refine pg x (some ((true,()),())) (λi=>yi x x i) hl (λi hi=>?_) ?_
 ·rw[RP,aR hi,aN (by omega)];simp only[aD hi,cond_true,Option.bind_some,S3 _ (Nat.le_trans (dp _ (List.getElem_mem hi)) h),Bool.not_true,cond_false]
 ·rw[RP,aV];rfl
theorem S4(x:aB)(h:zC x<=68719476736):zF x x=some ((true,()),()):=by
 have hz:zC x=zL zA x.2:=rfl;rw[afz];simp only[bne_self_eq_false,beq_self_eq_true,Bool.not_true,cond_false,Option.bind_some,afx x.2 (by omega)]
theorem afN(x:Rw)(h:zR x<=68719476736):Gn x x=some ((true,()),()):=by
 have hz:zR x=zB x.1+zC x.2:=rfl;rw[afM];simp only[bne_self_eq_false,beq_self_eq_true,Bool.not_true,cond_false,Option.bind_some,S4 x.2 (by omega)]
theorem afL(x:List Rw)(h:zL zR x<=68719476736):zJ x x=some ((true,()),()):=by
 have hl:x.length<=68719476736:=Nat.le_trans (df _ x) h;rw[afK];simp only[bne_self_eq_false,cond_false];refine pg x (some ((true,()),())) (λi=>yn x x i) hl (λi hi=>?_) ?_
 ·rw[RU,aR hi,aN (by omega)];simp only[aD hi,cond_true,Option.bind_some,afN _ (Nat.le_trans (dp _ (List.getElem_mem hi)) h),Bool.not_true,cond_false]
 ·rw[RU,aV];rfl
theorem afJ(x:Rel)(h:zQ x<=68719476736):Gm x x=some ((true,()),()):=by
 have hz:zQ x=zB x.1+zL zR x.2.2:=rfl;rw[afI];simp only[bne_self_eq_false,beq_self_eq_true,Bool.not_true,cond_false,Option.bind_some,afL x.2.2 (by omega)]
theorem afH(x:List Rel)(h:zL zQ x<=68719476736):zH x x=some ((true,()),()):=by
 have hl:x.length<=68719476736:=Nat.le_trans (df _ x) h;rw[afG];simp only[bne_self_eq_false,cond_false];refine pg x (some ((true,()),())) (λi=>ym x x i) hl (λi hi=>?_) ?_
 ·rw[RT,aR hi,aN (by omega)];simp only[aD hi,cond_true,Option.bind_some,afJ _ (Nat.le_trans (dp _ (List.getElem_mem hi)) h),Bool.not_true,cond_false]
 ·rw[RT,aV];rfl
theorem afF(x:al)(h:zN x<=68719476736):Gl x x=some ((true,()),()):=by
 have hz:zN x=zA x.2.1+zB x.2.2.1+zB x.2.2.2.1+zI x.2.2.2.2.1:=rfl;rw[afE];simp only[bne_self_eq_false,beq_self_eq_true,Bool.not_true,cond_false,Option.bind_some,S3 x.2.1 (by omega),Gk x.2.2.2.2.1 (by omega)]
theorem S5(x:List al)(h:zL zN x<=68719476736):uy x x=some ((true,()),()):=by
 have hl:x.length<=68719476736:=Nat.le_trans (df _ x) h;rw[afD];simp only[bne_self_eq_false,cond_false];refine pg x (some ((true,()),())) (λi=>yl x x i) hl (λi hi=>?_) ?_
 ·rw[RS,aR hi,aN (by omega)];simp only[aD hi,cond_true,Option.bind_some,afF _ (Nat.le_trans (dp _ (List.getElem_mem hi)) h),Bool.not_true,cond_false]
 ·rw[RS,aV];rfl
theorem afR(x:ah)(h:zP x<=68719476736):Gp x x=some ((true,()),()):=by
 have hz:zP x=zC x.1+zL zI x.2:=rfl;rw[afQ];simp only[bne_self_eq_false,beq_self_eq_true,Bool.not_true,cond_false,Option.bind_some,S4 x.1 (by omega),afB x.2 (by omega)]
theorem afP(x:List ah)(h:zL zP x<=68719476736):zK x x=some ((true,()),()):=by
 have hl:x.length<=68719476736:=Nat.le_trans (df _ x) h;rw[afO];simp only[bne_self_eq_false,cond_false];refine pg x (some ((true,()),())) (λi=>yo x x i) hl (λi hi=>?_) ?_
 ·rw[RW,aR hi,aN (by omega)];simp only[aD hi,cond_true,Option.bind_some,afR _ (Nat.le_trans (dp _ (List.getElem_mem hi)) h),Bool.not_true,cond_false]
 ·rw[RW,aV];rfl
theorem S6(x:fm)(h:zV x<=68719476736):uz x x=some ((true,()),()):=by
 have hz:zV x=zL zN x.1+zL zP x.2:=rfl;rw[afS];simp only[bne_self_eq_false,beq_self_eq_true,Bool.not_true,cond_false,Option.bind_some,S5 x.1 (by omega),afP x.2 (by omega)]
def mL{α:Type}(m:α->Int->α×Int):List α->Int->List α×Int
 | [],k=>([],k)
 | y::l,k=>((m y k).1::(mL m l (m y k).2).1,(mL m l (m y k).2).2)
def mI(_:Int)(k:Int):Int×Int:=(k,k+1)
def Md{α:Type}(m:α->Int->α×Int)(z:α->Nat):Prop:=∀y k,k<=(m y k).2/\(m y k).2<=k+12*z y+12
theorem da{m:α->Int->α×Int}{z:α->Nat}(h:Md m z):∀(x:List α) (k:Int),k<=(mL m x k).2/\(mL m x k).2<=k+12*zL z x
 | [],k=>by simp[mL,zL]
 | y::l,k=>by
  have h1:=h y k;have h2:=da h l (m y k).2;have e:zL z (y::l)=1+z y+zL z l:=by simp only[zL,List.length_cons,List.map_cons,List.sum_cons];omega
  simp only[mL];omega
theorem J4:Md mI (λ_=>0):=λy k=>by unfold mI;simp only[];omega
theorem iq(x:List Int)(k:Int):k<=(mL mI x k).2/\(mL mI x k).2<=k+12*zI x:=by
 have:=da J4 x k;have e:zL (λ_:Int=>0) x=zI x:=by
  unfold zL zI;have:∀l:List Int,(l.map (λ_=>0)).sum=0:=λl=>by induction l<;>simp_all
  rw[this];rfl
 rw[e]at this;exact this
theorem XL(m:α->Int->α×Int):∀(x:List α) (k:Int),(mL m x k).1.length=x.length
 | [],_=>rfl
 | y::l,k=>by simp only[mL,List.length_cons,XL m l]
theorem XM(m:α->Int->α×Int)(z:α->Nat)(hm:∀y k,k<=(m y k).2)(f:List α->Int->Int->Option ((Int×PUnit)×List α×PUnit))
  (h1:∀(v:List α) (k:Int) (i:Nat) (hi:i<v.length),v.length<=68719476736->0<=k->(m v[i] k).2<=1000000000000000000->z v[i]<=68719476736->f v k (i:Int)=f (v.set i (m v[i] k).1) (m v[i] k).2 ((i+1:Nat):Int))
  (h2:∀v k,f v k (v.length:Int)=some ((k,()),v,())) (mK:∀x k,k<=(mL m x k).2) :
  ∀(x pre:List α) (k:Int),0<=k->(mL m x k).2<=1000000000000000000->(pre++x).length<=68719476736->(∀y∈x,z y<=68719476736)->f (pre++x) k (pre.length:Int)=some (((mL m x k).2,()),pre++(mL m x k).1,())
 | [],pre,k,_,_,_,_=>by
  rw[List.append_nil,h2];simp[mL]
 | y::l,pre,k,h0,hk,hl,hz=>by
  have hy:(pre++y::l)[pre.length]'(by simp)=y:=by simp
  have a1:=hm y k;have a2:=mK l (m y k).2;simp only[mL]at hk ⊢;rw[h1 (pre++y::l) k pre.length (by simp) hl h0 (by rw[hy];omega) (by rw[hy];exact hz y (by simp)),hy];have e:(pre++y::l).set pre.length (m y k).1=(pre++[(m y k).1])++l:=by simp
  rw[e];have:=XM m z hm f h1 h2 mK l (pre++[(m y k).1]) (m y k).2 (by omega) hk (by simp at hl ⊢;omega) (λq hq=>hz q (List.mem_cons_of_mem _ hq));rw[List.length_append,List.length_singleton]at this;rw[this,List.append_assoc,List.singleton_append]
theorem p3(m:α->Int->α×Int)(z:α->Nat)(hm:∀y k,k<=(m y k).2)(f:List α->Int->Int->Option ((Int×PUnit)×List α×PUnit))(mK:∀x k,k<=(mL m x k).2)(x:List α)(k:Int)(h0:0<=k)(hk:(mL m x k).2<=1000000000000000000)(hl:x.length<=68719476736)(hz:∀y∈x,z y<=68719476736)
  (h1:∀(v:List α) (k:Int) (i:Nat) (hi:i<v.length),v.length<=68719476736->0<=k->(m v[i] k).2<=1000000000000000000->z v[i]<=68719476736->f v k (i:Int)=f (v.set i (m v[i] k).1) (m v[i] k).2 ((i+1:Nat):Int))
  (h2:∀v k,f v k (v.length:Int)=some ((k,()),v,())) :
  f x k 0=some (((mL m x k).2,()),(mL m x k).1,()):=by
 have:=XM m z hm f h1 h2 mK x [] k h0 hk (by simpa using hl) hz;simpa using this
theorem Vi(m:α->Int->α×Int)(z:α->Nat)(hm:∀y k,k<=(m y k).2)(f:List α->Int->Int->Option ((Int×PUnit)×PUnit))
  (h1:∀(v:List α) (k:Int) (i:Nat) (hi:i<v.length) (y:α),v[i]=(m y k).1->v.length<=68719476736->0<=k->(m y k).2<=1000000000000000000->z y<=68719476736->f v k (i:Int)=f v (m y k).2 ((i+1:Nat):Int))
  (h2:∀v k,f v k (v.length:Int)=some ((k,()),())) (mK:∀x k,k<=(mL m x k).2) :
  ∀(x pre:List α) (k:Int),0<=k->(mL m x k).2<=1000000000000000000->(pre++x).length<=68719476736->(∀y∈x,z y<=68719476736)->f (pre++(mL m x k).1) k (pre.length:Int)=some (((mL m x k).2,()),())
 | [],pre,k,_,_,_,_=>by
  simp only[mL,List.append_nil];rw[h2]
 | y::l,pre,k,h0,hk,hl,hz=>by
  have a1:=hm y k;have a2:=mK l (m y k).2;simp only[mL]at hk ⊢;rw[h1 _ k pre.length (by simp) y (by simp) (by simp[XL]at hl ⊢;omega) h0 (by omega) (hz y (by simp))];have:=Vi m z hm f h1 h2 mK l (pre++[(m y k).1]) (m y k).2 (by omega) hk (by simp at hl ⊢;omega) (λq hq=>hz q (List.mem_cons_of_mem _ hq));rw[List.length_append,List.length_singleton,List.append_assoc,List.singleton_append]at this;exact this
theorem vf(m:α->Int->α×Int)(z:α->Nat)(hm:∀y k,k<=(m y k).2)(f:List α->Int->Int->Option ((Int×PUnit)×PUnit))(mK:∀x k,k<=(mL m x k).2)(x:List α)(k:Int)(h0:0<=k)(hk:(mL m x k).2<=1000000000000000000)(hl:x.length<=68719476736)(hz:∀y∈x,z y<=68719476736)
  (h1:∀(v:List α) (k:Int) (i:Nat) (hi:i<v.length) (y:α),v[i]=(m y k).1->v.length<=68719476736->0<=k->(m y k).2<=1000000000000000000->z y<=68719476736->f v k (i:Int)=f v (m y k).2 ((i+1:Nat):Int))
  (h2:∀v k,f v k (v.length:Int)=some ((k,()),())) :
  f (mL m x k).1 k 0=some (((mL m x k).2,()),()):=by
 have:=Vi m z hm f h1 h2 mK x [] k h0 hk (by simpa using hl) hz;simpa using this
theorem Zc(b:Int):(strOf [b]).size=1:=rfl
theorem Sa:∀(n:Nat) (k:Int) (s:ByteArray),0<=k->k<10 ^ n->k<=1000000000000000000->s.size+n<=1000->∃r,yD k s=some ((r,()),())
 | 0,k,s,h0,h1,hb,hs=>by
  have hk:k=0:=by simp at h1;omega
  rw[R9,hk];have e:decide ((ByteArray.mk #[109]).size+s.size<=140737488355328)=true:=by
   have:(ByteArray.mk #[109]).size=1:=rfl;rw[this];simp;omega
  simp only[e,cond_true];exact⟨_,rfl⟩
 | n+1,k,s,h0,h1,hb,hs=>by
  rw[R9];by_cases hk:k>0
  ·have e:decide ((strOf [IntKind.u8.wrap (IntKind.i64.wrap (48+k.tmod 10))]).size+s.size<=140737488355328)=true:=by
    rw[Zc];simp;omega
   have hq:k.tdiv 10=k / 10:=Int.tdiv_eq_ediv_of_nonneg h0;have h3:(10:Int) ^ (n+1)=10 ^ n*10:=Int.pow_succ _ _;simp only[hk,decide_true,cond_true,e];rw[hq,ca (by omega) (by omega)];exact Sa n (k / 10) _ (by omega) (by omega) (by omega) (by rw[ByteArray.size_append,Zc];omega)
  ·have e:decide ((ByteArray.mk #[109]).size+s.size<=140737488355328)=true:=by
    have:(ByteArray.mk #[109]).size=1:=rfl;rw[this];simp;omega
   simp only[hk,decide_false,cond_false,e,cond_true];exact⟨_,rfl⟩
noncomputable def sC(k:Int):ByteArray:=match kf k with
 | some r=>r.1.1
 | none=>ByteArray.empty
theorem rA(k:Int)(h0:0<=k)(h1:k<=1000000000000000000):kf k=some ((sC k,()),()):=by
 have:∃r,kf k=some ((r,()),()):=by
  rw[agf];by_cases h:k<=0
  ·simp only[h,decide_true,cond_true];exact⟨_,rfl⟩
  ·simp only[h,decide_false,cond_false];have e1:(10:Int) ^ 19=10000000000000000000:=by decide
   have e2:(ByteArray.mk #[]).size=0:=rfl;exact Sa 19 k (ByteArray.mk #[]) h0 (by omega) h1 (by omega)
 obtain⟨r,hr⟩:=this;unfold sC;rw[hr]
theorem zY(x:List Int)(k:Int)(h0:0<=k)(hk:(mL mI x k).2<=1000000000000000000)(hl:x.length<=68719476736):oV x k=some (((mL mI x k).2,()),(mL mI x k).1,()):=by
 rw[af7];refine p3 mI (λ_=>0) (λy k=>(J4 y k).1) (λv k i=>yx v k i) (λx k=>(iq x k).1) x k h0 hk hl (λ_ _=>Nat.zero_le _) (λv k i hi hl h0 hk hz=>?_) (λv k=>by rw[R4,aV];rfl);have c7:k+1<=1000000000000000000:=hk;have w0:IntKind.i64.wrap (k+1)=k+1:=dw (by omega) (by omega);rw[R4,aR hi,aN (by omega)];simp only[cond_true,Option.bind_some,aD hi,pq hi,List.set_set,Int.toNat_natCast,w0]
 try rfl
theorem zS(x:List Int)(k:Int)(h0:0<=k)(hk:(mL mI x k).2<=1000000000000000000)(hl:x.length<=68719476736):oU (mL mI x k).1 k=some (((mL mI x k).2,()),()):=by
 rw[afX];refine vf mI (λ_=>0) (λy k=>(J4 y k).1) (λv k i=>yr v k i) (λx k=>(iq x k).1) x k h0 hk hl (λ_ _=>Nat.zero_le _) (λv k i hi y hy hl h0 hk hz=>?_) (λv k=>by rw[RZ,aV];rfl);have c7:k+1<=1000000000000000000:=hk;have w0:IntKind.i64.wrap (k+1)=k+1:=dw (by omega) (by omega);rw[RZ,aR hi,aD hi,hy,aN (by omega)];simp only[mI,cond_true,Option.bind_some,bne_self_eq_false,beq_self_eq_true,Bool.not_true,cond_false,w0]
theorem p4:Md (mL mI) zI:=λx k=>by
 have:=iq x k;omega
theorem af6(x:List (List Int))(k:Int)(h0:0<=k)(hk:(mL (mL mI) x k).2<=1000000000000000000)(hz:zL zI x<=68719476736):zX x k=some (((mL (mL mI) x k).2,()),(mL (mL mI) x k).1,()):=by
 rw[af5];refine p3 (mL mI) zI (λy k=>(p4 y k).1) (λv k i=>yw v k i) (λx k=>(da p4 x k).1) x k h0 hk (Nat.le_trans (df _ x) hz) (λy hy=>Nat.le_trans (dp _ hy) hz) (λv k i hi hl h0 hk hz=>?_) (λv k=>by rw[R3,aV];rfl);have q0:=iq v[i] k;have c7:(mL mI v[i] k).2<=1000000000000000000:=hk;have s0:=zY v[i] k (by omega) (by omega) (by have ft:zI v[i]<=68719476736:=hz;unfold zI at ft;omega);rw[R3,aR hi,aN (by omega)];simp only[cond_true,Option.bind_some,aD hi,pq hi,List.set_set,Int.toNat_natCast,s0]
 try rfl
theorem afW(x:List (List Int))(k:Int)(h0:0<=k)(hk:(mL (mL mI) x k).2<=1000000000000000000)(hz:zL zI x<=68719476736):zO (mL (mL mI) x k).1 k=some (((mL (mL mI) x k).2,()),()):=by
 rw[afV];refine vf (mL mI) zI (λy k=>(p4 y k).1) (λv k i=>yq v k i) (λx k=>(da p4 x k).1) x k h0 hk (Nat.le_trans (df _ x) hz) (λy hy=>Nat.le_trans (dp _ hy) hz) (λv k i hi y hy hl h0 hk hz=>?_) (λv k=>by rw[RY,aV];rfl);have q0:=iq y k;have c7:(mL mI y k).2<=1000000000000000000:=hk;have s0:=zS y k (by omega) (by omega) (by have ft:zI y<=68719476736:=hz;unfold zI at ft;omega);have n0:decide ((mL mI y k).2<0)=false:=decide_eq_false (by omega);rw[RY,aR hi,aD hi,hy,aN (by omega)];simp only[cond_true,Option.bind_some,bne_self_eq_false,beq_self_eq_true,Bool.not_true,cond_false,s0,n0]
noncomputable def mA(x:aa)(k:Int):aa×Int:=(((mL mI x.1 k).1,(mL mI x.1 k).2,((mL mI x.1 k).2+1).tmod 3==0),(mL mI x.1 k).2+1+1)
theorem ni:Md mA zA:=λx k=>by
 have q0:=iq x.1 k;have hz:zA x=zI x.1:=rfl;unfold mA;simp only[];omega
theorem S7(x:List aa)(k:Int)(h0:0<=k)(hk:(mL mA x k).2<=1000000000000000000)(hz:zL zA x<=68719476736):uA x k=some (((mL mA x k).2,()),(mL mA x k).1,()):=by
 rw[af4];refine p3 mA zA (λy k=>(ni y k).1) (λv k i=>yv v k i) (λx k=>(da ni x k).1) x k h0 hk (Nat.le_trans (df _ x) hz) (λy hy=>Nat.le_trans (dp _ hy) hz) (λv k i hi hl h0 hk hz=>?_) (λv k=>by rw[R2,aV];rfl);have q0:=iq v[i].1 k;have c7:(mL mI v[i].1 k).2+1+1<=1000000000000000000:=hk;have c8:zI v[i].1<=68719476736:=by have ft:zA v[i]<=68719476736:=hz;simp only[zA]at ft;omega
 have s0:=zY v[i].1 k (by omega) (by omega) (by unfold zI at *;omega);have w1:IntKind.i64.wrap ((mL mI v[i].1 k).2+1)=(mL mI v[i].1 k).2+1:=dw (by omega) (by omega);have w2:IntKind.i64.wrap ((mL mI v[i].1 k).2+1+1)=(mL mI v[i].1 k).2+1+1:=dw (by omega) (by omega);rw[R2,aR hi,aN (by omega)];simp only[cond_true,Option.bind_some,aD hi,pq hi,List.set_set,Int.toNat_natCast,s0,w1,w2]
 try rfl
theorem afU(x:List aa)(k:Int)(h0:0<=k)(hk:(mL mA x k).2<=1000000000000000000)(hz:zL zA x<=68719476736):zM (mL mA x k).1 k=some (((mL mA x k).2,()),()):=by
 rw[afT];refine vf mA zA (λy k=>(ni y k).1) (λv k i=>yp v k i) (λx k=>(da ni x k).1) x k h0 hk (Nat.le_trans (df _ x) hz) (λy hy=>Nat.le_trans (dp _ hy) hz) (λv k i hi y hy hl h0 hk hz=>?_) (λv k=>by rw[RX,aV];rfl);have q0:=iq y.1 k;have c7:(mL mI y.1 k).2+1+1<=1000000000000000000:=hk;have c8:zI y.1<=68719476736:=by have ft:zA y<=68719476736:=hz;simp only[zA]at ft;omega
 have s0:=zS y.1 k (by omega) (by omega) (by unfold zI at *;omega);have n0:decide ((mL mI y.1 k).2<0)=false:=decide_eq_false (by omega);have w1:IntKind.i64.wrap ((mL mI y.1 k).2+1)=(mL mI y.1 k).2+1:=dw (by omega) (by omega);have w2:IntKind.i64.wrap ((mL mI y.1 k).2+1+1)=(mL mI y.1 k).2+1+1:=dw (by omega) (by omega);rw[RX,aR hi,aD hi,hy,aN (by omega)];simp only[mA,cond_true,Option.bind_some,bne_self_eq_false,beq_self_eq_true,Bool.not_true,cond_false,s0,n0,w1,w2]
noncomputable def mR(x:Rw)(k:Int):Rw×Int:=((sC k,(k+1,(mL mA x.2.2 (k+1+1)).1)),(mL mA x.2.2 (k+1+1)).2)
theorem CW:Md mR zR:=λx k=>by
 have q2:=da ni x.2.2 (k+1+1);have hz:zR x=zB x.1+zL zA x.2.2:=by simp only[zR,zC]<;>omega
 unfold mR;simp only[];omega
theorem agc(x:List Rw)(k:Int)(h0:0<=k)(hk:(mL mR x k).2<=1000000000000000000)(hz:zL zR x<=68719476736):z6 x k=some (((mL mR x k).2,()),(mL mR x k).1,()):=by
 rw[agb];refine p3 mR zR (λy k=>(CW y k).1) (λv k i=>yB v k i) (λx k=>(da CW x k).1) x k h0 hk (Nat.le_trans (df _ x) hz) (λy hy=>Nat.le_trans (dp _ hy) hz) (λv k i hi hl h0 hk hz=>?_) (λv k=>by rw[R7,aV];rfl);have q2:=da ni v[i].2.2 (k+1+1);have c7:(mL mA v[i].2.2 (k+1+1)).2<=1000000000000000000:=hk;have c8:zB v[i].1+zL zA v[i].2.2<=68719476736:=by have ft:zR v[i]<=68719476736:=hz;simp only[zR,zC]at ft;omega
 have t0:=rA (k) (by omega) (by omega);have w0:IntKind.i64.wrap (k+1)=k+1:=dw (by omega) (by omega);have w1:IntKind.i64.wrap (k+1+1)=k+1+1:=dw (by omega) (by omega);have s2:=S7 v[i].2.2 (k+1+1) (by omega) (by omega) (by omega);rw[R7,aR hi,aN (by omega)];simp only[cond_true,Option.bind_some,aD hi,pq hi,List.set_set,Int.toNat_natCast,t0,w0,w1,s2]
 try rfl
noncomputable def mQ(x:Rel)(k:Int):Rel×Int:=((sC k,k+1,(mL mR x.2.2 (k+1+1)).1),(mL mR x.2.2 (k+1+1)).2)
theorem J5:Md mQ zQ:=λx k=>by
 have q2:=da CW x.2.2 (k+1+1);have hz:zQ x=zB x.1+zL zR x.2.2:=rfl;unfold mQ;simp only[];omega
theorem aga(x:List Rel)(k:Int)(h0:0<=k)(hk:(mL mQ x k).2<=1000000000000000000)(hz:zL zQ x<=68719476736):zZ x k=some (((mL mQ x k).2,()),(mL mQ x k).1,()):=by
 rw[af9];refine p3 mQ zQ (λy k=>(J5 y k).1) (λv k i=>yA v k i) (λx k=>(da J5 x k).1) x k h0 hk (Nat.le_trans (df _ x) hz) (λy hy=>Nat.le_trans (dp _ hy) hz) (λv k i hi hl h0 hk hz=>?_) (λv k=>by rw[R6,aV];rfl);have q2:=da CW v[i].2.2 (k+1+1);have c7:(mL mR v[i].2.2 (k+1+1)).2<=1000000000000000000:=hk;have c8:zB v[i].1+zL zR v[i].2.2<=68719476736:=by have ft:zQ v[i]<=68719476736:=hz;simp only[zQ]at ft;omega
 have t0:=rA (k) (by omega) (by omega);have w0:IntKind.i64.wrap (k+1)=k+1:=dw (by omega) (by omega);have w1:IntKind.i64.wrap (k+1+1)=k+1+1:=dw (by omega) (by omega);have s2:=agc v[i].2.2 (k+1+1) (by omega) (by omega) (by omega);rw[R6,aR hi,aN (by omega)];simp only[cond_true,Option.bind_some,aD hi,pq hi,List.set_set,Int.toNat_natCast,t0,w0,w1,s2]
 try rfl
noncomputable def mN(x:al)(k:Int):al×Int:=((k,((mL mI x.2.1.1 (k+1)).1,(mL mI x.2.1.1 (k+1)).2,((mL mI x.2.1.1 (k+1)).2+1).tmod 3==0),sC ((mL mI x.2.1.1 (k+1)).2+1+1),sC ((mL mI x.2.1.1 (k+1)).2+1+1+1),(mL mI x.2.2.2.2.1 ((mL mI x.2.1.1 (k+1)).2+1+1+1+1)).1,(mL mI x.2.2.2.2.1 ((mL mI x.2.1.1 (k+1)).2+1+1+1+1)).2,(mL mI x.2.2.2.2.1 ((mL mI x.2.1.1 (k+1)).2+1+1+1+1)).2+1,(mL mI x.2.2.2.2.1 ((mL mI x.2.1.1 (k+1)).2+1+1+1+1)).2+1+1),(mL mI x.2.2.2.2.1 ((mL mI x.2.1.1 (k+1)).2+1+1+1+1)).2+1+1+1)
theorem oo:Md mN zN:=λx k=>by
 have q1:=iq x.2.1.1 (k+1);have q6:=iq x.2.2.2.2.1 ((mL mI x.2.1.1 (k+1)).2+1+1+1+1);have hz:zN x=zI x.2.1.1+zB x.2.2.1+zB x.2.2.2.1+zI x.2.2.2.2.1:=by simp only[zN,zA]<;>omega
 unfold mN;simp only[];omega
theorem S8(x:List al)(k:Int)(h0:0<=k)(hk:(mL mN x k).2<=1000000000000000000)(hz:zL zN x<=68719476736):uB x k=some (((mL mN x k).2,()),(mL mN x k).1,()):=by
 rw[af8];refine p3 mN zN (λy k=>(oo y k).1) (λv k i=>yy v k i) (λx k=>(da oo x k).1) x k h0 hk (Nat.le_trans (df _ x) hz) (λy hy=>Nat.le_trans (dp _ hy) hz) (λv k i hi hl h0 hk hz=>?_) (λv k=>by rw[R5,aV];rfl);have q1:=iq v[i].2.1.1 (k+1);have q6:=iq v[i].2.2.2.2.1 ((mL mI v[i].2.1.1 (k+1)).2+1+1+1+1);have c7:(mL mI v[i].2.2.2.2.1 ((mL mI v[i].2.1.1 (k+1)).2+1+1+1+1)).2+1+1+1<=1000000000000000000:=hk;have c8:zI v[i].2.1.1+zB v[i].2.2.1+zB v[i].2.2.2.1+zI v[i].2.2.2.2.1<=68719476736:=by have ft:zN v[i]<=68719476736:=hz;simp only[zN,zA]at ft;omega
 have w0:IntKind.i64.wrap (k+1)=k+1:=dw (by omega) (by omega);have s1:=zY v[i].2.1.1 (k+1) (by omega) (by omega) (by unfold zI at *;omega);have w2:IntKind.i64.wrap ((mL mI v[i].2.1.1 (k+1)).2+1)=(mL mI v[i].2.1.1 (k+1)).2+1:=dw (by omega) (by omega);have w3:IntKind.i64.wrap ((mL mI v[i].2.1.1 (k+1)).2+1+1)=(mL mI v[i].2.1.1 (k+1)).2+1+1:=dw (by omega) (by omega);have t4:=rA ((mL mI v[i].2.1.1 (k+1)).2+1+1) (by omega) (by omega);have w4:IntKind.i64.wrap ((mL mI v[i].2.1.1 (k+1)).2+1+1+1)=(mL mI v[i].2.1.1 (k+1)).2+1+1+1:=dw (by omega) (by omega);have t5:=rA ((mL mI v[i].2.1.1 (k+1)).2+1+1+1) (by omega) (by omega);have w5:IntKind.i64.wrap ((mL mI v[i].2.1.1 (k+1)).2+1+1+1+1)=(mL mI v[i].2.1.1 (k+1)).2+1+1+1+1:=dw (by omega) (by omega);have s6:=zY v[i].2.2.2.2.1 ((mL mI v[i].2.1.1 (k+1)).2+1+1+1+1) (by omega) (by omega) (by unfold zI at *;omega);have w7:IntKind.i64.wrap ((mL mI v[i].2.2.2.2.1 ((mL mI v[i].2.1.1 (k+1)).2+1+1+1+1)).2+1)=(mL mI v[i].2.2.2.2.1 ((mL mI v[i].2.1.1 (k+1)).2+1+1+1+1)).2+1:=dw (by omega) (by omega);have w8:IntKind.i64.wrap ((mL mI v[i].2.2.2.2.1 ((mL mI v[i].2.1.1 (k+1)).2+1+1+1+1)).2+1+1)=(mL mI v[i].2.2.2.2.1 ((mL mI v[i].2.1.1 (k+1)).2+1+1+1+1)).2+1+1:=dw (by omega) (by omega);have w9:IntKind.i64.wrap ((mL mI v[i].2.2.2.2.1 ((mL mI v[i].2.1.1 (k+1)).2+1+1+1+1)).2+1+1+1)=(mL mI v[i].2.2.2.2.1 ((mL mI v[i].2.1.1 (k+1)).2+1+1+1+1)).2+1+1+1:=dw (by omega) (by omega);rw[R5,aR hi,aN (by omega)];simp only[cond_true,Option.bind_some,aD hi,pq hi,List.set_set,Int.toNat_natCast,w0,s1,w2,w3,t4,w4,t5,w5,s6,w7,w8,w9]
 try rfl
theorem afZ(x:List al)(k:Int)(h0:0<=k)(hk:(mL mN x k).2<=1000000000000000000)(hz:zL zN x<=68719476736):zT (mL mN x k).1 k=some (((mL mN x k).2,()),()):=by
 rw[afY];refine vf mN zN (λy k=>(oo y k).1) (λv k i=>yt v k i) (λx k=>(da oo x k).1) x k h0 hk (Nat.le_trans (df _ x) hz) (λy hy=>Nat.le_trans (dp _ hy) hz) (λv k i hi y hy hl h0 hk hz=>?_) (λv k=>by rw[R0,aV];rfl);have q1:=iq y.2.1.1 (k+1);have q6:=iq y.2.2.2.2.1 ((mL mI y.2.1.1 (k+1)).2+1+1+1+1);have c7:(mL mI y.2.2.2.2.1 ((mL mI y.2.1.1 (k+1)).2+1+1+1+1)).2+1+1+1<=1000000000000000000:=hk;have c8:zI y.2.1.1+zB y.2.2.1+zB y.2.2.2.1+zI y.2.2.2.2.1<=68719476736:=by have ft:zN y<=68719476736:=hz;simp only[zN,zA]at ft;omega
 have w0:IntKind.i64.wrap (k+1)=k+1:=dw (by omega) (by omega);have s1:=zS y.2.1.1 (k+1) (by omega) (by omega) (by unfold zI at *;omega);have n1:decide ((mL mI y.2.1.1 (k+1)).2<0)=false:=decide_eq_false (by omega);have w2:IntKind.i64.wrap ((mL mI y.2.1.1 (k+1)).2+1)=(mL mI y.2.1.1 (k+1)).2+1:=dw (by omega) (by omega);have w3:IntKind.i64.wrap ((mL mI y.2.1.1 (k+1)).2+1+1)=(mL mI y.2.1.1 (k+1)).2+1+1:=dw (by omega) (by omega);have t4:=rA ((mL mI y.2.1.1 (k+1)).2+1+1) (by omega) (by omega);have w4:IntKind.i64.wrap ((mL mI y.2.1.1 (k+1)).2+1+1+1)=(mL mI y.2.1.1 (k+1)).2+1+1+1:=dw (by omega) (by omega);have t5:=rA ((mL mI y.2.1.1 (k+1)).2+1+1+1) (by omega) (by omega);have w5:IntKind.i64.wrap ((mL mI y.2.1.1 (k+1)).2+1+1+1+1)=(mL mI y.2.1.1 (k+1)).2+1+1+1+1:=dw (by omega) (by omega);have s6:=zS y.2.2.2.2.1 ((mL mI y.2.1.1 (k+1)).2+1+1+1+1) (by omega) (by omega) (by unfold zI at *;omega);have n6:decide ((mL mI y.2.2.2.2.1 ((mL mI y.2.1.1 (k+1)).2+1+1+1+1)).2<0)=false:=decide_eq_false (by omega);have w7:IntKind.i64.wrap ((mL mI y.2.2.2.2.1 ((mL mI y.2.1.1 (k+1)).2+1+1+1+1)).2+1)=(mL mI y.2.2.2.2.1 ((mL mI y.2.1.1 (k+1)).2+1+1+1+1)).2+1:=dw (by omega) (by omega);have w8:IntKind.i64.wrap ((mL mI y.2.2.2.2.1 ((mL mI y.2.1.1 (k+1)).2+1+1+1+1)).2+1+1)=(mL mI y.2.2.2.2.1 ((mL mI y.2.1.1 (k+1)).2+1+1+1+1)).2+1+1:=dw (by omega) (by omega);have w9:IntKind.i64.wrap ((mL mI y.2.2.2.2.1 ((mL mI y.2.1.1 (k+1)).2+1+1+1+1)).2+1+1+1)=(mL mI y.2.2.2.2.1 ((mL mI y.2.1.1 (k+1)).2+1+1+1+1)).2+1+1+1:=dw (by omega) (by omega);rw[R0,aR hi,aD hi,hy,aN (by omega)];simp only[mN,cond_true,Option.bind_some,bne_self_eq_false,beq_self_eq_true,Bool.not_true,cond_false,w0,s1,n1,w2,w3,t4,w4,t5,w5,s6,n6,w7,w8,w9]
noncomputable def mP(x:ah)(k:Int):ah×Int:=(((k,(mL mA x.1.2 (k+1)).1),(mL (mL mI) x.2 ((mL mA x.1.2 (k+1)).2)).1),(mL (mL mI) x.2 ((mL mA x.1.2 (k+1)).2)).2)
theorem p5:Md mP zP:=λx k=>by
 have q1:=da ni x.1.2 (k+1);have q2:=da p4 x.2 ((mL mA x.1.2 (k+1)).2);have hz:zP x=zL zA x.1.2+zL zI x.2:=by simp only[zP,zC]<;>omega
 unfold mP;simp only[];omega
theorem age(x:List ah)(k:Int)(h0:0<=k)(hk:(mL mP x k).2<=1000000000000000000)(hz:zL zP x<=68719476736):z7 x k=some (((mL mP x k).2,()),(mL mP x k).1,()):=by
 rw[agd];refine p3 mP zP (λy k=>(p5 y k).1) (λv k i=>yC v k i) (λx k=>(da p5 x k).1) x k h0 hk (Nat.le_trans (df _ x) hz) (λy hy=>Nat.le_trans (dp _ hy) hz) (λv k i hi hl h0 hk hz=>?_) (λv k=>by rw[R8,aV];rfl);have q1:=da ni v[i].1.2 (k+1);have q2:=da p4 v[i].2 ((mL mA v[i].1.2 (k+1)).2);have c7:(mL (mL mI) v[i].2 ((mL mA v[i].1.2 (k+1)).2)).2<=1000000000000000000:=hk;have c8:zL zA v[i].1.2+zL zI v[i].2<=68719476736:=by have ft:zP v[i]<=68719476736:=hz;simp only[zP,zC]at ft;omega
 have w0:IntKind.i64.wrap (k+1)=k+1:=dw (by omega) (by omega);have s1:=S7 v[i].1.2 (k+1) (by omega) (by omega) (by omega);have s2:=af6 v[i].2 ((mL mA v[i].1.2 (k+1)).2) (by omega) (by omega) (by omega);rw[R8,aR hi,aN (by omega)];simp only[cond_true,Option.bind_some,aD hi,pq hi,List.set_set,Int.toNat_natCast,w0,s1,s2]
 try rfl
theorem af1(x:List ah)(k:Int)(h0:0<=k)(hk:(mL mP x k).2<=1000000000000000000)(hz:zL zP x<=68719476736):zU (mL mP x k).1 k=some (((mL mP x k).2,()),()):=by
 rw[af0];refine vf mP zP (λy k=>(p5 y k).1) (λv k i=>yu v k i) (λx k=>(da p5 x k).1) x k h0 hk (Nat.le_trans (df _ x) hz) (λy hy=>Nat.le_trans (dp _ hy) hz) (λv k i hi y hy hl h0 hk hz=>?_) (λv k=>by rw[R1,aV];rfl);have q1:=da ni y.1.2 (k+1);have q2:=da p4 y.2 ((mL mA y.1.2 (k+1)).2);have c7:(mL (mL mI) y.2 ((mL mA y.1.2 (k+1)).2)).2<=1000000000000000000:=hk;have c8:zL zA y.1.2+zL zI y.2<=68719476736:=by have ft:zP y<=68719476736:=hz;simp only[zP,zC]at ft;omega
 have w0:IntKind.i64.wrap (k+1)=k+1:=dw (by omega) (by omega);have s1:=afU y.1.2 (k+1) (by omega) (by omega) (by omega);have n1:decide ((mL mA y.1.2 (k+1)).2<0)=false:=decide_eq_false (by omega);have s2:=afW y.2 ((mL mA y.1.2 (k+1)).2) (by omega) (by omega) (by omega);have n2:decide ((mL (mL mI) y.2 ((mL mA y.1.2 (k+1)).2)).2<0)=false:=decide_eq_false (by omega);rw[R1,aR hi,aD hi,hy,aN (by omega)];simp only[mP,cond_true,Option.bind_some,bne_self_eq_false,beq_self_eq_true,Bool.not_true,cond_false,w0,s1,n1,s2,n2]
noncomputable def tV(x:fm)(k:Int):fm×Int:=(((mL mN x.1 k).1,(mL mP x.2 ((mL mN x.1 k).2)).1),(mL mP x.2 ((mL mN x.1 k).2)).2)
theorem tdV(x:fm)(k:Int):k<=(tV x k).2/\(tV x k).2<=k+12*zV x:=by
 have q0:=da oo x.1 k;have q1:=da p5 x.2 ((mL mN x.1 k).2);have hz:zV x=zL zN x.1+zL zP x.2:=rfl;unfold tV;simp only[];omega
theorem agi(x:fm)(k:Int)(h0:0<=k)(hk:(tV x k).2<=1000000000000000000)(hz:zV x<=68719476736):Gq x k=some (((tV x k).2,()),(tV x k).1,()):=by
 have q0:=da oo x.1 k;have q1:=da p5 x.2 ((mL mN x.1 k).2);have c7:(mL mP x.2 ((mL mN x.1 k).2)).2<=1000000000000000000:=hk;have c8:zL zN x.1+zL zP x.2<=68719476736:=hz;have s0:=S8 x.1 k (by omega) (by omega) (by omega);have s1:=age x.2 ((mL mN x.1 k).2) (by omega) (by omega) (by omega);rw[agh];simp only[tV,Option.bind_some,cond_false,s0,s1]
theorem af3(x:fm)(k:Int)(h0:0<=k)(hk:(tV x k).2<=1000000000000000000)(hz:zV x<=68719476736):zW (tV x k).1 k=some (((tV x k).2,()),()):=by
 have q0:=da oo x.1 k;have q1:=da p5 x.2 ((mL mN x.1 k).2);have c7:(mL mP x.2 ((mL mN x.1 k).2)).2<=1000000000000000000:=hk;have c8:zL zN x.1+zL zP x.2<=68719476736:=hz;have s0:=afZ x.1 k (by omega) (by omega) (by omega);have n0:decide ((mL mN x.1 k).2<0)=false:=decide_eq_false (by omega);have s1:=af1 x.2 ((mL mN x.1 k).2) (by omega) (by omega) (by omega);have n1:decide ((mL mP x.2 ((mL mN x.1 k).2)).2<0)=false:=decide_eq_false (by omega);rw[af2];simp only[tV,Option.bind_some,cond_false,s0,n0,s1,n1]
def gA(a:aa):Prop:=a.1.length<=68719476736
def gC(c:aB):Prop:=c.2.length<=68719476736/\∀a∈c.2,gA a
def gR(r:Rw):Prop:=r.1.size<=68719476736/\gC r.2
def gL(r:Rel):Prop:=r.1.size<=68719476736/\r.2.2.length<=68719476736/\∀y∈r.2.2,gR y
theorem UG{x:ByteArray}(h:i<x.data.toList.length):my x (i:Int)=some ((x.data.toList[i].toNat:Nat):Int):=by
 unfold my;rw[if_pos (by omega)];have h':i<x.size:=by simpa using h
 simp only[Int.toNat_natCast];rw[show x[i]?=some x[i]from getElem?_pos x i h'];simp only[Option.map_some];congr 3
def iE(x:ByteArray)(a b:Int):Bool:=x.data.toList.all (λc => !(decide (((c.toNat:Nat):Int)<a)) && !(decide (((c.toNat:Nat):Int)>b)))&&(decide (1<=(x.size:Int))&&decide ((x.size:Int)<=6))
theorem sS(x:ByteArray):x.size=x.data.toList.length:=by simp
theorem kU(a b c:Int):iG a b c=some ((decide (b<=a)&&decide (a<=c),()),()):=by
 rw[ae3];by_cases h:a>=b
 ·simp[h]
 ·simp[h]
theorem Gh(x:ByteArray)(a b:Int)(hl:x.size<=68719476736):ru x a b=some ((iE x a b,()),()):=by
 rw[afs];have:=kX x.data.toList (λc => !(decide (((c.toNat:Nat):Int)<a)) && !(decide (((c.toNat:Nat):Int)>b))) (some ((false,()),())) (some ((decide (1<=(x.size:Int))&&decide ((x.size:Int)<=6),()),())) (λi=>tX x a b i) (by rw[<-sS];exact hl) (λi hi=>by
  have hb:i<x.size:=by rw[sS];exact hi
  rw[RL,UG hi,aN (by omega)];simp only[aR hb,cond_true,Option.bind_some];cases decide (((x.data.toList[i].toNat:Nat):Int)<a)<;>cases decide (((x.data.toList[i].toNat:Nat):Int)>b)<;>rfl) (by rw[RL,<-sS,aV,kU];rfl) x.data.toList.length 0 (by omega)
 simp only[List.drop_zero,Int.natCast_zero]at this;rw[show tX x a b 0=_ from this];unfold iE;cases x.data.toList.all _<;>rfl
theorem SI(x:ByteArray)(a b:Int):uh x a b=some ((iE x a b,()),()):=by
 rw[aen];unfold iE;by_cases h1:(x.size:Int)<1
 ·have:¬(1<=(x.size:Int)):=by omega
  simp[h1,this]
 ·by_cases h2:(x.size:Int)>6
  ·have:¬((x.size:Int)<=6):=by omega
   simp only[h1,h2,decide_false,decide_true,cond_false,cond_true,this,Bool.and_false]
  ·have e1:1<=(x.size:Int):=by omega
   have e2:(x.size:Int)<=6:=by omega
   simp only[h1,h2,decide_false,cond_false,e1,e2,decide_true,Bool.and_self,Bool.and_true];have:=kX x.data.toList (λc => !(decide (((c.toNat:Nat):Int)<a)) && !(decide (((c.toNat:Nat):Int)>b))) (some ((false,()),())) (some ((true,()),())) (λi=>tM x a b i) (by rw[<-sS];omega) (λi hi=>by
    have hb:i<x.size:=by rw[sS];exact hi
    rw[QX,UG hi,aN (by omega)];simp only[aR hb,cond_true,Option.bind_some];cases decide (((x.data.toList[i].toNat:Nat):Int)<a)<;>cases decide (((x.data.toList[i].toNat:Nat):Int)>b)<;>rfl) (by rw[QX,<-sS,aV];rfl) x.data.toList.length 0 (by omega)
   simp only[List.drop_zero,Int.natCast_zero]at this;rw[show tM x a b 0=_ from this];cases x.data.toList.all _<;>rfl
theorem ael(x:ByteArray):F3 x=some ((iE x 65 90,()),()):=by
 rw[aek,SI];rfl
theorem SH(x:ByteArray):y8 x=some ((iE x 97 122,()),()):=by
 rw[aej,SI];rfl
def dc(a:Int):Bool:=decide (-400000000<=a)&&decide (a<=400000000)
theorem SP(a:Int):zg a=some ((dc a,()),()):=by
 rw[aeK,kU,Option.bind_some];rfl
theorem Sq(a:Int):yS a=some ((dc a,()),()):=by
 rw[adC];unfold dc;by_cases h:a >= -400000000
 ·simp[h]
 ·simp[h]
theorem adV{a:Int}(h:dc a=true):q8 a=some (((a.natAbs:Int),()),()):=by
 simp only[dc,Bool.and_eq_true,decide_eq_true_eq]at h;rw[FU];by_cases h0:a<0
 ·simp only[h0,decide_true,cond_true];rw[ca (by omega) (by omega)];congr 3;omega
 ·simp only[h0,decide_false,cond_false];congr 3;omega
theorem adU(a:Nat):q8 (a:Int)=some (((a:Int),()),()):=by
 rw[FU];have:decide ((a:Int)<0)=false:=by simp
 rw[this,cond_false]
theorem SS{a:Int}(h:dc a=true):uq a=some (((a.natAbs:Int),()),()):=by
 simp only[dc,Bool.and_eq_true,decide_eq_true_eq]at h;rw[SR];rw[ca (by omega) (by omega)];simp only[cond_true];congr 3;split<;>omega
theorem D6:∀(n:Nat) (a b:Int),b.natAbs<=n->0<=a->0<=b->xI a b=some ((((Nat.gcd a.natAbs b.natAbs:Nat):Int),()),())
 | n,a,b,hn,ha,hb=>by
  rw[acd];by_cases h0:b=0
  ·subst h0;simp only[bne_self_eq_false,cond_false];simp;omega
  ·have:(b != 0)=true:=by simpa using h0
   rw[this,cond_true,cond_true];have av:a.natAbs % b.natAbs<b.natAbs:=Nat.mod_lt _ (by omega);have hm:=Int.natAbs_tmod a b;cases n with
   | zero=>omega
   | succ n =>
    rw[D6 n b (Int.tmod a b) (by omega) hb (Int.tmod_nonneg _ ha),hm];congr 4;rw[Nat.gcd_comm a.natAbs,Nat.gcd_rec b.natAbs a.natAbs,Nat.gcd_comm]
 termination_by n=>n
theorem Sx(a:Nat){b:Int}(hb:dc b=true):oM (a:Int) b=some ((((Nat.gcd a b.natAbs:Nat):Int),()),()):=by
 rw[Sw,adU,adV hb];simp only[Option.bind_some];rw[D6 _ _ _ (Nat.le_refl _) (by omega) (by omega)];simp
def gl(x:List Int)(g:Nat):Nat:=x.foldl (λg y=>Nat.gcd g y.natAbs) g
theorem UM:∀(x:List Int) (g h:Nat),gl x (Nat.gcd g h)=Nat.gcd (gl x g) h
 | [],_,_=>rfl
 | y::x,g,h=>by
  change gl x (Nat.gcd (Nat.gcd g h) y.natAbs)=Nat.gcd (gl x (Nat.gcd g y.natAbs)) h;rw[show Nat.gcd (Nat.gcd g h) y.natAbs=Nat.gcd (Nat.gcd g y.natAbs) h by rw[Nat.gcd_assoc,Nat.gcd_comm h,<-Nat.gcd_assoc],UM x]
theorem IE(x:List Int)(k:Nat):gl x k=Nat.gcd (gl x 0) k:=by
 rw[<-UM,Nat.gcd_zero_left]
theorem Eh(x:List Int)(i:Int):∀(n:Nat) (a b:Int),b.natAbs<=n->0<=a->0<=b->yb x a i b=qX x ((Nat.gcd a.natAbs b.natAbs:Nat):Int) (IntKind.i64.wrap (i+1))
 | n,a,b,hn,ha,hb=>by
  rw[aci];by_cases h0:b=0
  ·subst h0;simp only[bne_self_eq_false,cond_false];congr 1;simp;omega
  ·have:(b != 0)=true:=by simpa using h0
   rw[this,cond_true,cond_true];have av:a.natAbs % b.natAbs<b.natAbs:=Nat.mod_lt _ (by omega);have hm:=Int.natAbs_tmod a b;cases n with
   | zero=>omega
   | succ n =>
    rw[Eh x i n b (Int.tmod a b) (by omega) hb (Int.tmod_nonneg _ ha),hm];congr 2;rw[Nat.gcd_comm a.natAbs,Nat.gcd_rec b.natAbs a.natAbs,Nat.gcd_comm]
 termination_by n=>n
theorem Rx(x:List Int)(hl:x.length<=68719476736)(hx:∀y∈x,dc y=true):∀(n i g:Nat),n+i=x.length->qX x (g:Int) (i:Int)=some ((((gl (x.drop i) g:Nat):Int),()),())
 | 0,i,g,hn=>by
  obtain rfl:i=x.length:=by omega
  rw[ya,aV,List.drop_eq_nil_of_le (by omega)];rfl
 | n+1,i,g,hn=>by
  have hi:i<x.length:=by omega
  rw[ya,aR hi,aD hi,cond_true,Option.bind_some,SS (hx _ (List.getElem_mem hi)),Option.bind_some,Eh x i _ _ _ (Nat.le_refl _) (Int.natCast_nonneg _) (Int.natCast_nonneg _),aN (by omega),Rx x hl hx n (i+1) _ (by omega),List.drop_eq_getElem_cons hi];simp only[Int.natAbs_natCast];rfl
theorem SY(x:List Int)(k:Int)(hl:x.length<=68719476736)(hx:∀y∈x,dc y=true)(hk:dc k=true):oS x k=some ((((gl x k.natAbs:Nat):Int),()),()):=by
 rw[SX,SS hk,Option.bind_some];have:=Rx x hl hx x.length 0 k.natAbs (by omega);simpa using this
theorem QT(x:List Int)(hl:x.length<=68719476736)(hx:∀y∈x,dc y=true):∀(n i g:Nat),n+i=x.length->tL x (g:Int) x (x.length:Int) (i:Int)=some ((((gl (x.drop i) g:Nat):Int),()),())
 | 0,i,g,hn=>by
  obtain rfl:i=x.length:=by omega
  rw[xP,aV,List.drop_eq_nil_of_le (by omega)];rfl
 | n+1,i,g,hn=>by
  have hi:i<x.length:=by omega
  rw[xP,aR hi,aD hi,cond_true,Option.bind_some,Sx _ (hx _ (List.getElem_mem hi)),Option.bind_some,aN (by omega),QT x hl hx n (i+1) _ (by omega),List.drop_eq_getElem_cons hi];rfl
theorem SE(x:List Int)(hl:x.length<=68719476736)(hx:∀y∈x,dc y=true):l9 x=some ((((gl x 0:Nat):Int),()),()):=by
 rw[SD];have:=QT x hl hx x.length 0 0 (by omega);simpa using this
def bK(a:aa):Bool := !(decide ((a.1.length:Int)>4))&&(dc a.2.1&&(a.1.all dc&&decide (((gl a.1 a.2.1.natAbs:Nat):Int)<=1)))
theorem rh(a:aa):mb a=some ((bK a,()),()):=by
 rw[aeD,SP];unfold bK;cases h:decide ((a.1.length:Int)>4)with
 | true=>rfl
 | false =>
  have hl:a.1.length<=68719476736:=by simp at h;omega
  simp only[cond_false,Option.bind_some,Bool.not_false,Bool.true_and];cases hk:dc a.2.1 with
  | false=>rfl
  | true =>
   simp only[Bool.not_true,cond_false,Bool.true_and];have:=kX a.1 dc (some ((false,()),())) (qS a (a.1.length:Int)) (λi=>qS a i) hl (λi hi=>by
    rw[Rc,aD hi,aN (by omega)];simp only[aR hi,cond_true,Option.bind_some,SP];cases dc a.1[i]<;>rfl) rfl a.1.length 0 (by omega)
   simp only[List.drop_zero,Int.natCast_zero]at this;rw[show qS a 0=_ from this];cases ha:a.1.all dc with
   | false=>rfl
   | true =>
    rw[cond_true,Rc,aV,cond_false,SY a.1 _ hl (List.all_eq_true.1 ha) hk];rfl
theorem nK(a:aa):ke a=some ((bK a,()),()):=by
 rw[adv,Sq];unfold bK;cases h:decide ((a.1.length:Int)>4)with
 | true=>rfl
 | false =>
  have hl:a.1.length<=68719476736:=by simp at h;omega
  simp only[cond_false,Option.bind_some,Bool.not_false,Bool.true_and];cases hk:dc a.2.1 with
  | false=>rfl
  | true =>
   simp only[Bool.not_true,cond_false,Bool.true_and];have:=kX a.1 dc (some ((false,()),())) (qM a a.1 (a.1.length:Int) (a.1.length:Int)) (λi=>qM a a.1 (a.1.length:Int) i) hl (λi hi=>by
    rw[Qx,aD hi,aN (by omega)];simp only[aR hi,cond_true,Option.bind_some,Sq];cases dc a.1[i]<;>rfl) rfl a.1.length 0 (by omega)
   simp only[List.drop_zero,Int.natCast_zero]at this;rw[show qM a a.1 (a.1.length:Int) 0=_ from this];cases ha:a.1.all dc with
   | false=>rfl
   | true =>
    rw[cond_true,Qx,aV,cond_false,SE a.1 hl (List.all_eq_true.1 ha),Option.bind_some,Sx _ hk,Option.bind_some,<-IE];rfl
def bH(c:aB):Bool:=c.2.all (λa=>bK a && !((a.1.length:Int) != c.1))&&(decide (0<=c.1)&&decide (c.1<=4)&&decide ((c.2.length:Int)<=16))
theorem ui(c:aB)(hl:c.2.length<=68719476736):nL c=some ((bH c,()),()):=by
 rw[aeE];have:=kX c.2 (λa=>bK a && !((a.1.length:Int) != c.1)) (some ((false,()),())) (qT c (c.2.length:Int)) (λi=>qT c i) hl (λi hi=>by
  rw[Re,aD hi,aN (by omega)];simp only[aR hi,cond_true,Option.bind_some,rh];cases bK c.2[i]<;>cases ((c.2[i].1.length:Int) != c.1)<;>rfl) rfl c.2.length 0 (by omega)
 simp only[List.drop_zero,Int.natCast_zero]at this;rw[show qT c 0=_ from this,Re,aV,kU];unfold bH;cases c.2.all _<;>cases (decide (0<=c.1)&&decide (c.1<=4))<;>rfl
theorem oK(c:aB):kT c=some ((bH c,()),()):=by
 rw[adw];unfold bH;by_cases h1:c.1<0
 ·have:¬(0<=c.1):=by omega
  simp[h1,this]
 by_cases h2:c.1>4
 ·have:¬(c.1<=4):=by omega
  simp[h1,h2,this]
 by_cases h3:(c.2.length:Int)>16
 ·have:¬((c.2.length:Int)<=16):=by omega
  simp only[h1,h2,h3,this,decide_false,decide_true,cond_false,cond_true,Bool.and_false]
 ·have e1:0<=c.1:=by omega
  have e2:c.1<=4:=by omega
  have e3:(c.2.length:Int)<=16:=by omega
  simp only[h1,h2,h3,e1,e2,e3,decide_false,decide_true,cond_false,Bool.and_self,Bool.and_true];have:=kX c.2 (λa=>bK a && !((a.1.length:Int) != c.1)) (some ((false,()),())) (some ((true,()),())) (λi=>tA c c.2 (c.2.length:Int) i) (by omega) (λi hi=>by
   rw[Qy,aD hi,aN (by omega)];simp only[aR hi,cond_true,Option.bind_some,nK];cases bK c.2[i]<;>cases ((c.2[i].1.length:Int) != c.1)<;>rfl) (by rw[Qy,aV];rfl) c.2.length 0 (by omega)
  simp only[List.drop_zero,Int.natCast_zero]at this;rw[show tA c c.2 (c.2.length:Int) 0=_ from this];cases c.2.all _<;>rfl
def wO(d:Int)(r:Rw):Bool:=iE r.1 97 122&&(bH r.2 && !(r.2.1 != d))
def qg(r:Rel):Bool:=iE r.1 65 90&&(decide (0<=r.2.1)&&decide (r.2.1<=4)&&(decide ((r.2.2.length:Int)<=8)&&r.2.2.all (wO r.2.1)))
theorem aeO(r:Rel)(h:gL r):zi r=some ((qg r,()),()):=by
 obtain⟨h0,hl,hg⟩:=h;rw[aeN];have:=kX r.2.2 (wO r.2.1) (some ((false,()),())) (qW r (r.2.2.length:Int)) (λi=>qW r i) hl (λi hi=>by
  have Cr:=hg _ (List.getElem_mem hi);rw[Rl,aD hi,aN (by omega)];simp only[aR hi,cond_true,Option.bind_some,Gh _ _ _ Cr.1,ui _ Cr.2.1];unfold wO;cases iE r.2.2[i].1 97 122<;>cases bH r.2.2[i].2<;>cases (r.2.2[i].2.1 != r.2.1)<;>rfl) rfl r.2.2.length 0 (by omega)
 simp only[List.drop_zero,Int.natCast_zero]at this;rw[show qW r 0=_ from this,Rl,aV,kU,Gh _ _ _ h0];unfold qg;cases r.2.2.all _<;>cases iE r.1 65 90<;>cases (decide (0<=r.2.1)&&decide (r.2.1<=4))<;>cases decide ((r.2.2.length:Int)<=8)<;>rfl
theorem adG(r:Rel):yU r=some ((qg r,()),()):=by
 rw[adF,ael];unfold qg;cases iE r.1 65 90 with
 | false=>rfl
 | true =>
  simp only[Option.bind_some,Bool.not_true,cond_false,Bool.true_and];by_cases h1:r.2.1<0
  ·have:¬(0<=r.2.1):=by omega
   simp[h1,this]
  by_cases h2:r.2.1>4
  ·have:¬(r.2.1<=4):=by omega
   simp[h1,h2,this]
  by_cases h3:(r.2.2.length:Int)>8
  ·have:¬((r.2.2.length:Int)<=8):=by omega
   simp only[h1,h2,h3,this,decide_false,decide_true,cond_false,cond_true,Bool.and_false,Bool.false_and]
  ·have e1:0<=r.2.1:=by omega
   have e2:r.2.1<=4:=by omega
   have e3:(r.2.2.length:Int)<=8:=by omega
   simp only[h1,h2,h3,e1,e2,e3,decide_false,decide_true,cond_false,Bool.and_self,Bool.true_and];have:=kX r.2.2 (wO r.2.1) (some ((false,()),())) (some ((true,()),())) (λi=>tD r r.2.2 (r.2.2.length:Int) i) (by omega) (λi hi=>by
    rw[QD,aD hi,aN (by omega)];simp only[aR hi,cond_true,Option.bind_some,SH,oK];unfold wO;cases iE r.2.2[i].1 97 122<;>cases bH r.2.2[i].2<;>cases (r.2.2[i].2.1 != r.2.1)<;>rfl) (by rw[QD,aV];rfl) r.2.2.length 0 (by omega)
   simp only[List.drop_zero,Int.natCast_zero]at this;rw[show tD r r.2.2 (r.2.2.length:Int) 0=_ from this];cases r.2.2.all _<;>rfl
def named(n:ByteArray)(r:Rel):Bool:=r.1.toList==n.toList
theorem Ga(x:List Rel)(n:ByteArray)(hl:x.length<=68719476736):oP x n=some ((cO (named n) x,()),()):=by
 rw[aeA];exact Iw x (named n) (λi=>some ((i,()),())) (λi=>xS x n i) (λi hi=>by
  rw[Rb,aD hi,aN (by omega)];simp only[aR hi,cond_true,Option.bind_some];rfl) (by rw[Rb,aV];rfl) x.length 0 (by omega) (λj _ h=>by omega)
theorem FQ(x:List Rel)(n:ByteArray)(hl:x.length<=68719476736):q7 x n=some ((cO (named n) x,()),()):=by
 rw[ads];exact Iw x (named n) (λi=>some ((i,()),())) (λi=>xC x n x (x.length:Int) i) (λi hi=>by
  rw[Qw,aD hi,aN (by omega)];simp only[aR hi,cond_true,Option.bind_some];rfl) (by rw[Qw,aV];rfl) x.length 0 (by omega) (λj _ h=>by omega)
theorem aht(p:α->Bool)(x:List α)(i:Nat)(hi:i<x.length)(hp:p x[i]=true):decide (cO p (x.take i)>=0)=(cO p x != (i:Int)):=by
 have h1:x.findIdx p<=i:=Nat.le_of_not_lt λh=>by
  have:=List.not_of_lt_findIdx h;rw[hp]at this;cases this
 have h2:(x.take i).findIdx p=min i (x.findIdx p):=List.findIdx_take;have h3:(x.take i).length=i:=by simp;omega
 unfold cO;rw[h2,h3,if_pos (by omega:x.findIdx p<x.length)];by_cases h:x.findIdx p=i
 ·rw[if_neg (by omega),h];simp
 ·rw[if_pos (by omega)];have e1:((x.findIdx p:Nat):Int)≠(i:Int):=by omega
  have e2:((min i (x.findIdx p):Nat):Int)>=0:=by omega
  simp[e1,e2]
def rD(p:Nat->Bool):Nat->Nat->Bool
 | 0,_=>true
 | n+1,i=>p i&&rD p n (i+1)
theorem JD(l:Nat)(p:Nat->Bool)(F E:Option R)(f:Int->Option R)
  (h1:∀(i:Nat),i<l->f (i:Int)=bif p i then f ((i+1:Nat):Int)else F) (h2:f (l:Int)=E) :
  ∀(n i:Nat),n+i=l->f (i:Int)=bif rD p n i then E else F
 | 0,i,hn=>by
  obtain rfl:i=l:=by omega
  rw[h2];rfl
 | n+1,i,hn=>by
  rw[h1 i (by omega),JD l p F E f h1 h2 n (i+1) (by omega)];cases h:p i<;>simp[rD,h]
def o9(x:List Rel)(i:Nat):Bool:=match x[i]? with
 | some r=>qg r && !(decide (cO (named r.1) (x.take i)>=0))
 | none=>true
def mj(x:List Rel):Bool:=rD (o9 x) x.length 0&&decide ((x.length:Int)<=6)
theorem aeG(x:List Rel)(h:x.length<=68719476736/\∀a∈x,gL a):zd x=some ((mj x,()),()):=by
 obtain⟨hl,hg⟩:=h;rw[aeF];have:=JD x.length (o9 x) (some ((false,()),())) (qU x (x.length:Int)) (λi=>qU x i) (λi hi=>by
  rw[Rf,aD hi,aN (by omega)];have e:(decide ((0:Int)<=(i:Int))&&decide ((i:Int)<=(x.length:Int)))=true:=by simp;omega
  have e2:oP (List.drop (Int.toNat 0) (List.take ((i:Int)).toNat x)) x[i].1=some ((cO (named x[i].1) (x.take i),()),()):=by
   have:List.drop (Int.toNat 0) (List.take ((i:Int)).toNat x)=x.take i:=by simp
   rw[this];exact Ga _ _ (by simp;omega)
  have e0:(decide (0<=0)&&decide ((0:Int)<=(i:Int))&&decide ((i:Int)<=(x.length:Int)))=true:=by simp;omega
  simp only[aR hi,cond_true,Option.bind_some,aeO _ (hg _ (List.getElem_mem hi)),e2];rw[e0];unfold o9;rw[List.getElem?_eq_getElem hi];simp only[];cases qg x[i]<;>cases decide (cO (named x[i].1) (x.take i)>=0)<;>rfl) rfl x.length 0 (by omega)
 simp only[Int.natCast_zero]at this;rw[show qU x 0=_ from this,Rf,aV];unfold mj;cases rD (o9 x) x.length 0<;>rfl
theorem ady(x:List Rel):yP x=some ((mj x,()),()):=by
 rw[adx];unfold mj;by_cases h:(x.length:Int)>6
 ·have:¬((x.length:Int)<=6):=by omega
  simp only[h,this,decide_true,decide_false,cond_true,Bool.and_false]
 ·have e:(x.length:Int)<=6:=by omega
  simp only[h,e,decide_true,decide_false,cond_false,Bool.and_true];have:=JD x.length (o9 x) (some ((false,()),())) (some ((true,()),())) (λi=>tB x x (x.length:Int) i) (λi hi=>by
   rw[Qz,aD hi,aN (by omega)];simp only[aR hi,cond_true,Option.bind_some,adG,FQ _ _ (show x.length<=68719476736 by omega)];unfold o9;rw[List.getElem?_eq_getElem hi];simp only[];rw[aht _ x i hi (by simp[named])];cases qg x[i]<;>cases (cO (named x[i].1) x != (i:Int))<;>rfl) (by rw[Qz,aV];rfl) x.length 0 (by omega)
  simp only[Int.natCast_zero]at this;rw[show tB x x (x.length:Int) 0=_ from this];cases rD (o9 x) x.length 0<;>rfl
theorem Um(p:α->Bool)(x:List α):(decide (cO p x<0)=true)\/(decide (cO p x<0)=false/\∃y,ab x (cO p x)=some y):=by
 unfold cO;by_cases h:x.findIdx p<x.length
 ·right;rw[if_pos h];refine⟨by simp,x[x.findIdx p],aD h⟩
 ·left;rw[if_neg h];decide
def emp(x:ByteArray):Bool:=x.toList==(ByteArray.mk #[]).toList
def oF(a:aa):Bool:=((a.1.length:Int)==0)&&((a.2.1==0) && !a.2.2)
def dS(v:Int):Bool:=decide (0<=v)&&decide (v<=3)
def C6(n:al):Bool:=emp n.2.2.1&&(emp n.2.2.2.1 && !decide ((n.2.2.2.2.1.length:Int)>0))
def JU(x:ByteArray):Bool:=emp x||iE x 97 122
def qh(db:List Rel)(n:al):Bool:=(n.2.2.2.2.1.all dS)&&(!decide (cO (named n.2.2.1) db<0)&&(match ab db (cO (named n.2.2.1) db)with
 | some r=>(r.2.1==(n.2.2.2.2.1.length:Int))&&JU n.2.2.2.1
 | none=>false))
theorem afp(a:aa):Gg a=some ((oF a,()),()):=by
 rw[afo];unfold oF;generalize ((a.1.length:Int)==0)=b1;generalize (a.2.1==0)=b2;cases b1<;>cases b2<;>rfl
theorem aep(a:aa):F5 a=some ((oF a,()),()):=by
 rw[aeo];unfold oF;generalize ((a.1.length:Int)==0)=b1;generalize (a.2.1==0)=b2;cases b1<;>cases b2<;>rfl
theorem F4(v:Int):ug v=some ((dS v,()),()):=by
 rw[aem];unfold dS;by_cases h:v>=0
 ·have:(v<4)=(v<=3):=by apply propext;omega
  simp[h,this]
 ·have:¬0<=v:=by omega
  simp[h]
theorem acj(db:List Rel)(n:al)(hb:zN n<=68719476736):q5 db n (cO (named n.2.2.1) db) 0=some ((qh db n,()),()):=by
 have hz:zN n=zA n.2.1+zB n.2.2.1+zB n.2.2.2.1+zI n.2.2.2.2.1:=rfl;have:=rC n.2.2.2.2.1 dS (some ((false,()),())) (q5 db n (cO (named n.2.2.1) db) (n.2.2.2.2.1.length:Int)) (λi=>q5 db n (cO (named n.2.2.1) db) i) (by unfold zI at hz;omega) (λi hi=>by
  rw[RK,aD hi,aR hi,aN (by unfold zI at hz;omega)];simp only[cond_true,Option.bind_some,kU];change (bif !dS _ then _ else _)=_;cases dS n.2.2.2.2.1[i]<;>rfl) rfl
 rw[this,RK,aV,cond_false];unfold qh;have hd:decide (cO (named n.2.2.1) db>=0) = !decide (cO (named n.2.2.1) db<0):=by
  by_cases h:cO (named n.2.2.1) db<0
  ·have:¬cO (named n.2.2.1) db>=0:=by omega
   simp[h]
  ·have:cO (named n.2.2.1) db>=0:=by omega
   simp[h,this]
 rw[hd,Gh _ _ _ (by unfold zB at hz;omega)];cases n.2.2.2.2.1.all dS with
 | false=>rfl
 | true =>
  rcases Um (named n.2.2.1) db with h|⟨h,r,hr⟩
  ·rw[h];rfl
  ·rw[h,hr];simp only[Bool.not_false,cond_true,Option.bind_some,Bool.true_and];unfold JU emp;generalize (r.2.1==(n.2.2.2.2.1.length:Int))=b1;generalize (ByteArray.toList n.2.2.2.1==(ByteArray.mk #[]).toList)=b2;cases b1<;>cases b2<;>rfl
def lI(db:List Rel)(n:al):Bool:=bif n.1==0 then bK n.2.1&&((n.2.1.1.length:Int)==4)else bif n.1==1 then qh db n else (decide (2<=n.1)&&decide (n.1<=6))&&dS n.2.2.2.2.2.1
theorem aca(db:List Rel)(n:al)(hd:db.length<=68719476736)(hb:zN n<=68719476736):eY db n=some ((lI db n,()),()):=by
 rw[ab9,rh,Ga _ _ hd];simp only[Option.bind_some,acj db n hb,kU];unfold lI dS;generalize (n.1==0)=b0;generalize (n.1==1)=b1;generalize (bK n.2.1)=b2;generalize (decide (2<=n.1)&&decide (n.1<=6))=b3;cases b0<;>cases b1<;>cases b2<;>cases b3<;>rfl
def gW(n:al):Bool:=((n.1==3||n.1==4)||n.2.2.2.2.2.2.2==0)&&(!decide (n.1<=1)||n.2.2.2.2.2.2.1==0)
def tf(n:al):Bool:=(n.1==5||n.1==6)||n.2.2.2.2.2.1==0
theorem ab8(db:List Rel)(n:al)(hd:db.length<=68719476736)(hb:zN n<=68719476736):qK db n=some ((tf n&&(gW n&&lI db n),()),()):=by
 rw[ab7,aca db n hd hb];unfold tf gW;simp only[bne];generalize (n.1==5)=b5;generalize (n.1==6)=b6;generalize (n.1==3)=b3;generalize (n.1==4)=b4;generalize (decide (n.1<=1))=b1;generalize (n.2.2.2.2.2.1==0)=c1;generalize (n.2.2.2.2.2.2.1==0)=c2;generalize (n.2.2.2.2.2.2.2==0)=c3;cases b5<;>cases b6<;>cases b3<;>cases b4<;>cases b1<;>cases c1<;>cases c2<;>cases c3<;>rfl
def fL(db:List Rel)(n:al):Bool:=(n.1==0||oF n.2.1)&&((n.1==1||C6 n)&&(tf n&&(gW n&&lI db n)))
theorem afr(db:List Rel)(n:al)(hd:db.length<=68719476736)(hb:zN n<=68719476736):zw db n=some ((fL db n,()),()):=by
 rw[afq,ab8 db n hd hb,afp];unfold fL C6 emp;simp only[bne,Option.bind_some];generalize (n.1==0)=b0;generalize (n.1==1)=b1;generalize oF n.2.1=b2;generalize (ByteArray.toList n.2.2.1==(ByteArray.mk #[]).toList)=b3;generalize (ByteArray.toList n.2.2.2.1==(ByteArray.mk #[]).toList)=b4;generalize (decide ((n.2.2.2.2.1.length:Int)>0))=b5;generalize (tf n&&(gW n&&lI db n))=b6;cases b0<;>cases b1<;>cases b2<;>cases b3<;>cases b4<;>cases b5<;>rfl
theorem ab0(n:al)(hb:n.2.2.2.2.1.length<=68719476736):xw n=some ((n.2.2.2.2.1.all dS,()),()):=by
 rw[abZ];have:=rC n.2.2.2.2.1 dS (some ((false,()),())) (some ((true,()),())) (λi=>xR n n.2.2.2.2.1 (n.2.2.2.2.1.length:Int) i) hb (λi hi=>by
  rw[QW,aD hi,aR hi,aN (by omega)];simp only[cond_true,Option.bind_some,F4];cases dS n.2.2.2.2.1[i]<;>rfl) (by rw[QW,aV];rfl)
 rw[this];cases n.2.2.2.2.1.all dS<;>rfl
def sq(db:List Rel)(n:al):Bool:=bif n.1==0 then (n.2.2.2.2.2.1==0)&&(bK n.2.1&&((n.2.1.1.length:Int)==4))else bif n.1==1 then (n.2.2.2.2.2.1==0)&&qh db n else bif n.1==5||n.1==6 then dS n.2.2.2.2.2.1 else n.2.2.2.2.2.1==0
theorem ab3(db:List Rel)(n:al)(hd:db.length<=68719476736)(hb:zN n<=68719476736):xx db n=some ((sq db n,()),()):=by
 have hz:zN n=zA n.2.1+zB n.2.2.1+zB n.2.2.2.1+zI n.2.2.2.2.1:=rfl;rw[ab2,nK,FQ _ _ hd,SH,ab0 n (by unfold zI at hz;omega),Pf,Pf,F4];simp only[Option.bind_some,bne];unfold sq qh JU emp;rcases Um (named n.2.2.1) db with h|⟨h,r,hr⟩
 ·rw[h];generalize (n.1==0)=b0;generalize (n.1==1)=b1;generalize (n.1==5)=b5;generalize (n.1==6)=b6;generalize (n.2.2.2.2.2.1==0)=c1;generalize (bK n.2.1)=b2;generalize (n.2.2.2.2.1.all dS)=b3;cases b0<;>cases b1<;>cases b5<;>cases b6<;>cases c1<;>cases b2<;>cases b3<;>rfl
 ·rw[h,hr];simp only[Option.bind_some];generalize (n.1==0)=b0;generalize (n.1==1)=b1;generalize (n.1==5)=b5;generalize (n.1==6)=b6;generalize (n.2.2.2.2.2.1==0)=c1;generalize (bK n.2.1)=b2;generalize (n.2.2.2.2.1.all dS)=b3;generalize (r.2.1==(n.2.2.2.2.1.length:Int))=c2;generalize (ByteArray.toList n.2.2.2.1==(ByteArray.mk #[]).toList)=c3;generalize iE n.2.2.2.1 97 122=c4;cases b0<;>cases b1<;>cases b5<;>cases b6<;>cases c1<;>cases b2<;>cases b3<;>cases c2<;>cases c3<;>cases c4<;>rfl
def uY(db:List Rel)(n:al):Bool:=(n.1==0||oF n.2.1)&&((n.1==1||C6 n)&&sq db n)
theorem aef(db:List Rel)(n:al)(hd:db.length<=68719476736)(hb:zN n<=68719476736):y6 db n=some ((uY db n,()),()):=by
 rw[aee,ab1,ab3 db n hd hb,aep];unfold uY C6 emp;simp only[bne,Option.bind_some];generalize (n.1==0)=b0;generalize (n.1==1)=b1;generalize oF n.2.1=b2;generalize (ByteArray.toList n.2.2.1==(ByteArray.mk #[]).toList)=b3;generalize (ByteArray.toList n.2.2.2.1==(ByteArray.mk #[]).toList)=b4;generalize (decide ((n.2.2.2.2.1.length:Int)>0))=b5;generalize sq db n=b6;cases b0<;>cases b1<;>cases b2<;>cases b3<;>cases b4<;>cases b5<;>rfl
theorem Yp(db:List Rel)(n:al):fL db n=(uY db n&&(gW n&&(decide (0<=n.1)&&decide (n.1<=6)))):=by
 unfold fL uY;have key:(tf n&&(gW n&&lI db n))=(sq db n&&(gW n&&(decide (0<=n.1)&&decide (n.1<=6)))):=by
  unfold tf lI sq;by_cases h0:n.1=0
  ·rw[h0];cases (n.2.2.2.2.2.1==0)<;>cases gW n<;>cases (bK n.2.1&&((n.2.1.1.length:Int)==4))<;>rfl
  by_cases h1:n.1=1
  ·rw[h1];cases (n.2.2.2.2.2.1==0)<;>cases gW n<;>cases qh db n<;>rfl
  by_cases h2:2<=n.1/\n.1<=6
  ·have e0:(n.1==0)=false:=by simpa using h0
   have e1:(n.1==1)=false:=by simpa using h1
   have e2:decide (2<=n.1)=true:=by simp[h2.1]
   have e3:decide (n.1<=6)=true:=by simp[h2.2]
   have e4:decide (0<=n.1)=true:=by simp;omega
   rw[e0,e1,e2,e3,e4];by_cases h5:n.2.2.2.2.2.1=0
   ·rw[h5];cases (n.1==5)<;>cases (n.1==6)<;>cases gW n<;>rfl
   ·have e5:(n.2.2.2.2.2.1==0)=false:=by simpa using h5
    rw[e5];cases (n.1==5)<;>cases (n.1==6)<;>cases gW n<;>cases dS n.2.2.2.2.2.1<;>rfl
  ·have e0:(n.1==0)=false:=by simpa using h0
   have e1:(n.1==1)=false:=by simpa using h1
   have e2:(decide (2<=n.1)&&decide (n.1<=6))=false:=by
    rw[Bool.and_eq_false_iff];by_cases h:2<=n.1
    ·right;simp;omega
    ·left;simp;omega
   have e3:(decide (0<=n.1)&&decide (n.1<=6))=false:=by
    rw[Bool.and_eq_false_iff];by_cases h:0<=n.1
    ·right;simp;omega
    ·left;simp;omega
   rw[e0,e1,e2,e3];simp
 rw[key];simp only[Bool.and_assoc]
def ar(k:Int):Nat:=bif k==3||k==4 then 2 else bif decide (k>1)then 1 else 0
def eT(n:al)(i:Int)(T:List Int):Option (List Int):=match ar n.1,T with
 | 0,T=>some (i::T)
 | 1,r::T=>bif r==n.2.2.2.2.2.2.1 then some (i::T)else none
 | 2,r::s::T=>bif r==n.2.2.2.2.2.2.2 then bif s==n.2.2.2.2.2.2.1 then some (i::T)else none else none
 | _,_=>none
def lb(db:List Rel):List al->Int->List Int->Bool
 | [],_,T=>(T.length:Int)==1
 | n::l,i,T=>bif fL db n then (match eT n i T with
  | some T'=>lb db l (i+1) T'
  | none=>false)else false
theorem Tn(k:Int):ar k=0\/ar k=1\/ar k=2:=by
 unfold ar;cases (k==3||k==4)<;>cases decide (k>1)<;>simp
theorem ahK(x:List α){i:Int}(h:i<0):ab x i=none:=by
 unfold ab;rw[if_neg (by omega)]
theorem rS(x:List α){i:Int}(j:Nat)(h:i=(j:Int))(hj:j<x.length):ab x i=some x[j]:=by
 subst h;exact aD hj
theorem UJ(T:List α)(r:α):ab (r::T).reverse (((r::T).reverse.length:Int) - 1)=some r:=by
 rw[rS _ T.length (by simp) (by simp)];simp
theorem ahJ(T:List α)(r s:α):ab (r::s::T).reverse (((r::s::T).reverse.length:Int) - 2)=some s:=by
 rw[rS _ T.length (by simp<;>omega) (by simp<;>omega)];simp[List.getElem_append]
theorem DW(db:List Rel)(f:List al)(T U:List Int)(i:Nat)(m:Nat)(hi:i<=1000000)(hT:(U.reverse++T.reverse).length<=1000000)(hm:U.length=m):
  nI db f (T.reverse++U.reverse) (i:Int) (m:Int) ((T.reverse++U.reverse).length:Int)=qV db f ((i:Int)::T).reverse ((i+1:Nat):Int):=by
 have hl:(T.reverse++U.reverse).length=T.length+m:=by simp[hm]
 have hle:T.length+m<=1000000:=by simp at hT;omega
 rw[ab6,hl,ca (by omega) (by omega)];have e1:((T.length+m:Nat):Int) - (m:Int)=(T.length:Int):=by omega
 rw[e1,aN (by omega)];have e2:(List.drop (Int.toNat 0) (List.take (Int.toNat (T.length:Int)) (T.reverse++U.reverse)))=T.reverse:=by
  rw[Int.toNat_natCast];simp
 rw[e2];have d1:decide ((0:Int)<=(T.length:Int))=true:=by simp
 have d2:decide ((T.length:Int)<=((T.length+m:Nat):Int))=true:=decide_eq_true (by omega);have d3:decide ((0+T.reverse.length)*8<=140737488355328)=true:=by simp;omega
 have d4:decide ((T.reverse.length+1)*8<=140737488355328)=true:=by simp;omega
 rw[d1,d2,d3,d4];simp
theorem ab5(db:List Rel)(f:List al)(T:List Int)(i:Nat)(h:i<f.length)(hl:f.length<=1000000)(hT:T.length<=i):
  kd db f T.reverse (i:Int) ((ar f[i].1:Nat):Int)=match eT f[i] i T with
   | some T'=>qV db f T'.reverse ((i+1:Nat):Int)
   | none=>some ((false,()),()):=by
 rw[ab4];unfold eT;rcases Tn f[i].1 with hm|hm|hm
 ·rw[hm];have d:decide ((T.reverse.length:Int)<((0:Nat):Int))=false:=by simp
  have:=DW db f T [] i 0 (by omega) (by simp;omega) rfl;simp only[List.reverse_nil,List.append_nil]at this;rw[d];exact this
 ·rw[hm];cases T with
  | nil=>rfl
  | cons r T =>
   have d:decide (((r::T).reverse.length:Int)<((1:Nat):Int))=false:=decide_eq_false (by simp only[List.length_reverse,List.length_cons];omega);have hw:IntKind.i64.wrap (((r::T).reverse.length:Int) - 1)=((r::T).reverse.length:Int) - 1:=ca (by simp only[List.length_reverse,List.length_cons];omega) (by simp only[List.length_reverse,List.length_cons]at hT ⊢;omega);have:=DW db f T [r] i 1 (by omega) (by simp only[List.length_append,List.length_reverse,List.length_cons,List.length_nil]at hT ⊢;omega) rfl;rw[show T.reverse++[r].reverse=(r::T).reverse by simp]at this;rw[d,hw,UJ,aD h];simp only[cond_false,Option.bind_some];change (bif r != f[i].2.2.2.2.2.2.1 then _ else nI db f (r::T).reverse (i:Int) ((1:Nat):Int) ((r::T).reverse.length:Int))=_;rw[this];simp only[bne];cases (r==f[i].2.2.2.2.2.2.1)<;>rfl
 ·rw[hm]
  match T,hT with
  | [],_=>rfl
  | [r],_=>rfl
  | r::s::T,hT =>
   have d:decide (((r::s::T).reverse.length:Int)<((2:Nat):Int))=false:=decide_eq_false (by simp only[List.length_reverse,List.length_cons];omega);have hw:IntKind.i64.wrap (((r::s::T).reverse.length:Int) - 1)=((r::s::T).reverse.length:Int) - 1:=ca (by simp only[List.length_reverse,List.length_cons];omega) (by simp only[List.length_reverse,List.length_cons]at hT ⊢;omega);have hw2:IntKind.i64.wrap (((r::s::T).reverse.length:Int) - 2)=((r::s::T).reverse.length:Int) - 2:=ca (by simp only[List.length_reverse,List.length_cons];omega) (by simp only[List.length_reverse,List.length_cons]at hT ⊢;omega);have:=DW db f T [r,s] i 2 (by omega) (by simp only[List.length_append,List.length_reverse,List.length_cons,List.length_nil]at hT ⊢;omega) rfl;rw[show T.reverse++[r,s].reverse=(r::s::T).reverse by simp]at this;rw[d,hw,hw2,UJ,ahJ,aD h];simp only[cond_false,Option.bind_some];change (bif r != f[i].2.2.2.2.2.2.2 then _ else bif s != f[i].2.2.2.2.2.2.1 then _ else nI db f (r::s::T).reverse (i:Int) ((2:Nat):Int) ((r::s::T).reverse.length:Int))=_;rw[this];simp only[bne];cases (r==f[i].2.2.2.2.2.2.2)<;>cases (s==f[i].2.2.2.2.2.2.1)<;>rfl
theorem anw{n:al}{i:Int}{T T':List Int}(h:eT n i T=some T'):T'.length<=T.length+1:=by
 unfold eT at h;split at h
 ·injection h with h;subst h;simp
 ·rename_i r T0 _;cases hc:(r==n.2.2.2.2.2.2.1)with
  | true=>rw[hc]at h;injection h with h;subst h;simp
  | false=>rw[hc]at h;cases h
 ·rename_i r s T0 _;cases hc:(r==n.2.2.2.2.2.2.2)with
  | true =>
   rw[hc]at h;cases hs:(s==n.2.2.2.2.2.2.1)with
   | true=>rw[hs]at h;injection h with h;subst h;simp
   | false=>rw[hs]at h;cases h
  | false=>rw[hc]at h;cases h
 ·cases h
theorem Rj(db:List Rel)(f:List al)(hd:db.length<=68719476736)(hf:∀n∈f,zN n<=68719476736)(hl:f.length<=1000000):
  ∀(n i:Nat) (T:List Int),n+i=f.length->T.length<=i->qV db f T.reverse (i:Int)=some ((lb db (f.drop i) i T,()),())
 | 0,i,T,hn,hT=>by
  obtain rfl:i=f.length:=by omega
  rw[Ri,aV,List.drop_eq_nil_of_le (by omega),List.length_reverse];rfl
 | n+1,i,T,hn,hT=>by
  have hi:i<f.length:=by omega
  rw[Ri,aR hi,aD hi,List.drop_eq_getElem_cons hi];simp only[cond_true,Option.bind_some,afr db _ hd (hf _ (List.getElem_mem hi))];unfold lb;cases fL db f[i]with
  | false=>rfl
  | true =>
   simp only[Bool.not_true,cond_false,cond_true];have e:(bif f[i].1==3 then kd db f T.reverse (i:Int) 2 else bif f[i].1==4 then kd db f T.reverse (i:Int) 2 else bif decide (f[i].1>1)then kd db f T.reverse (i:Int) 1 else kd db f T.reverse (i:Int) 0)=kd db f T.reverse (i:Int) ((ar f[i].1:Nat):Int):=by
    unfold ar;cases (f[i].1==3)<;>cases (f[i].1==4)<;>cases decide (f[i].1>1)<;>rfl
   rw[e,ab5 db f T i hi hl hT];cases hs:eT f[i] (i:Int) T with
   | none=>rfl
   | some T' =>
    have:=anw hs;simp only[];rw[Rj db f hd hf hl n (i+1) T' (by omega) (by omega)];simp
def eX(st:List Int):List Int->Int->Prop
 | [],nx=>nx = -1
 | r::T,nx=>r=nx/\∃(j:Nat) (v:Int),r=(j:Int)/\st[j]?=some v/\0<=v/\v<=r/\eX st T (v - 1)
theorem eX.set{st:List Int}{v:Int}:∀{T:List Int} {nx:Int},eX st T nx->nx<i->eX (st.set i v) T nx
 | [],nx,h,_=>h
 | r::T,nx,h,hi=>by
  simp only[eX]at h ⊢;obtain⟨h1,j,w,h2,h3,h4,h5,h6⟩:=h;refine⟨h1,j,w,h2,?_,h4,h5,eX.set h6 (by omega)⟩;rw[List.getElem?_set_ne (by omega)];exact h3
theorem aew(k:Int):F7 k=some ((bif k==0||k==1 then 0 else bif k==2||(k==5||k==6)then 1 else bif k==3||k==4 then 2 else -1,()),()):=by
 rw[aev];cases (k==0)<;>cases (k==1)<;>cases (k==2)<;>cases (k==5)<;>cases (k==6)<;>cases (k==3)<;>cases (k==4)<;>rfl
theorem amN(x:α)(k:α->Option β):(some x).bind k=k x:=rfl
theorem QB(db:List Rel)(f:List al)(hd:db.length<=68719476736)(hf:∀n∈f,zN n<=68719476736)(hl:f.length<=1000000)(h0:f.length≠0):
  ∀(n i:Nat) (st T:List Int),n+i=f.length->st.length=f.length->eX st T ((i:Int) - 1)->tC db f st f (f.length:Int) (i:Int)=some ((lb db (f.drop i) i T,()),())
 | 0,i,st,T,hn,a6,hT=>by
  obtain rfl:i=f.length:=by omega
  rw[QA,aV,List.drop_eq_nil_of_le (by omega),ca (by omega) (by omega)];cases T with
  | nil=>simp only[eX]at hT;omega
  | cons r T =>
   simp only[eX]at hT;obtain⟨h1,j,v,h2,h3,h4,h5,h6⟩:=hT;obtain⟨hj,h3⟩:=List.getElem?_eq_some_iff.1 h3;rw[rS (i:=(f.length:Int) - 1) st j (by omega) hj,h3];simp only[cond_false,Option.bind_some,lb];congr 3;cases T with
   | nil =>
    simp only[eX]at h6;have:v=0:=by omega
    simp[this]
   | cons s T =>
    simp only[eX]at h6;have:v≠0:=by omega
    have e1:(v==0)=false:=by simpa using this
    have e2:(((r::s::T).length:Int)==1)=false:=by simp;omega
    rw[e1,e2]
 | n+1,i,st,T,hn,a6,hT=>by
  have hi:i<f.length:=by omega
  have oc:i<st.length:=by omega
  have hw:IntKind.i64.wrap ((i:Int) - 1)=(i:Int) - 1:=ca (by omega) (by omega);rw[QA,aR hi,aD hi,List.drop_eq_getElem_cons hi,aD oc,hw];simp only[cond_true,Option.bind_some,aef db _ hd (hf _ (List.getElem_mem hi)),aew,abY,aN (show i<=1000000000000 by omega),amN,Int.toNat_natCast];unfold lb;rw[Yp];generalize hN:f[i]=N;cases uY db N with
  | false=>rfl
  | true =>
   simp only[Bool.not_true,cond_false,Bool.true_and];have pA:∀(v:Int) (T':List Int),0<=v->v<=(i:Int)->eX st T' (v - 1)->v - 1<(i:Int)->tC db f (st.set i v) f (f.length:Int) ((i+1:Nat):Int)=some ((lb db (f.drop (i+1)) ((i+1:Nat):Int) ((i:Int)::T'),()),()):=by
    intro v T' Jt hv hc av;refine QB db f hd hf hl h0 n (i+1) _ _ (by omega) (by simpa using a6) ?_;simp only[eX];refine⟨by omega,i,v,rfl,by simp[oc],Jt,hv,hc.set av⟩
   have ah4:((i:Int)+1)=((i+1:Nat):Int):=by omega
   rw[ah4];by_cases su:N.1=0\/N.1=1
   ·have e1:(N.1==0||N.1==1)=true:=by simpa using su
    have e2:ar N.1=0:=by rcases su with h|h<;>rw[h]<;>rfl
    have e3:((N.1==3||N.1==4)||N.2.2.2.2.2.2.2==0)=(N.2.2.2.2.2.2.2==0):=by rcases su with h|h<;>rw[h]<;>rfl
    have e4:decide (N.1<=1)=true:=by rcases su with h|h<;>rw[h]<;>rfl
    have e5:(decide (0<=N.1)&&decide (N.1<=6))=true:=by rcases su with h|h<;>rw[h]<;>rfl
    have e6:eT N (i:Int) T=some ((i:Int)::T):=by unfold eT;rw[e2];rfl
    unfold gW;rw[e1,e3,e4,e5,e6,pA (i:Int) T (by omega) (by omega) hT (by omega)];simp only[bne];cases (N.2.2.2.2.2.2.1==0)<;>cases (N.2.2.2.2.2.2.2==0)<;>rfl
   ·by_cases k1:N.1=2\/N.1=5\/N.1=6
    ·have e0:(N.1==0||N.1==1)=false:=by rcases k1 with h|h|h<;>rw[h]<;>rfl
     have e1:(N.1==2||(N.1==5||N.1==6))=true:=by rcases k1 with h|h|h<;>rw[h]<;>rfl
     have e2:ar N.1=1:=by rcases k1 with h|h|h<;>rw[h]<;>rfl
     have e3:((N.1==3||N.1==4)||N.2.2.2.2.2.2.2==0)=(N.2.2.2.2.2.2.2==0):=by rcases k1 with h|h|h<;>rw[h]<;>rfl
     have e4:decide (N.1<=1)=false:=by rcases k1 with h|h|h<;>rw[h]<;>rfl
     have e5:(decide (0<=N.1)&&decide (N.1<=6))=true:=by rcases k1 with h|h|h<;>rw[h]<;>rfl
     unfold gW;rw[e0,e1,e3,e4,e5];cases T with
     | nil =>
      simp only[eX]at hT;have ei:((i:Int)==0)=true:=by simp;omega
      have e6:eT N (i:Int) []=none:=by unfold eT;rw[e2];rfl
      rw[ei,e6];cases (N.2.2.2.2.2.2.2==0)<;>rfl
     | cons r T =>
      simp only[eX]at hT;obtain⟨h1,j,v,h2,h3,h4,h5,h6⟩:=hT;obtain⟨hj,h3⟩:=List.getElem?_eq_some_iff.1 h3;have ei:((i:Int)==0)=false:=by simp;omega
      have e6:eT N (i:Int) (r::T)=bif r==N.2.2.2.2.2.2.1 then some ((i:Int)::T)else none:=by unfold eT;rw[e2];rfl
      have e7:(N.2.2.2.2.2.2.1==(i:Int) - 1)=(r==N.2.2.2.2.2.2.1):=by rw[<-h1,Bool.eq_iff_iff];simp only[beq_iff_eq];exact eq_comm
      rw[ei,e6,rS (i:=(i:Int) - 1) st j (by omega) hj,h3];simp only[bne,e7,Option.bind_some];rw[pA v T h4 (by omega) h6 (by omega)];cases (N.2.2.2.2.2.2.2==0)<;>cases (r==N.2.2.2.2.2.2.1)<;>rfl
    ·by_cases k2:N.1=3\/N.1=4
     ·have e0:(N.1==0||N.1==1)=false:=by rcases k2 with h|h<;>rw[h]<;>rfl
      have e1:(N.1==2||(N.1==5||N.1==6))=false:=by rcases k2 with h|h<;>rw[h]<;>rfl
      have e2:ar N.1=2:=by rcases k2 with h|h<;>rw[h]<;>rfl
      have e3:(N.1==3||N.1==4)=true:=by rcases k2 with h|h<;>rw[h]<;>rfl
      have e4:decide (N.1<=1)=false:=by rcases k2 with h|h<;>rw[h]<;>rfl
      have e5:(decide (0<=N.1)&&decide (N.1<=6))=true:=by rcases k2 with h|h<;>rw[h]<;>rfl
      unfold gW;rw[e0,e1,e3,e4,e5];cases T with
      | nil =>
       simp only[eX]at hT;have ei:((i:Int)==0)=true:=by simp;omega
       have e6:eT N (i:Int) []=none:=by unfold eT;rw[e2];rfl
       rw[ei,e6];rfl
      | cons r T =>
       simp only[eX]at hT;obtain⟨h1,j,v,h2,h3,h4,h5,h6⟩:=hT;obtain⟨hj,h3⟩:=List.getElem?_eq_some_iff.1 h3;have ei:((i:Int)==0)=false:=by simp;omega
       have e7:(N.2.2.2.2.2.2.2==(i:Int) - 1)=(r==N.2.2.2.2.2.2.2):=by rw[<-h1,Bool.eq_iff_iff];simp only[beq_iff_eq];exact eq_comm
       rw[ei,rS (i:=(i:Int) - 1) st j (by omega) hj,h3];simp only[bne,e7,Option.bind_some];cases T with
       | nil =>
        simp only[eX]at h6;have ev:(v==0)=true:=by simp;omega
        have e6:eT N (i:Int) [r]=none:=by unfold eT;rw[e2];rfl
        rw[ev,e6];cases (r==N.2.2.2.2.2.2.2)<;>rfl
       | cons s T =>
        have Cb:=h6;simp only[eX]at Cb;obtain⟨g1,j2,v2,g2,g3,g4,g5,g6⟩:=Cb;obtain⟨vr,g3⟩:=List.getElem?_eq_some_iff.1 g3;have ev:(v==0)=false:=by simp;omega
        have e6:eT N (i:Int) (r::s::T)=bif r==N.2.2.2.2.2.2.2 then bif s==N.2.2.2.2.2.2.1 then some ((i:Int)::T)else none else none:=by unfold eT;rw[e2];rfl
        rw[ev,e6,ca (x:=v - 1) (by omega) (by omega)];have e8:(N.2.2.2.2.2.2.1==v - 1)=(s==N.2.2.2.2.2.2.1):=by rw[<-g1,Bool.eq_iff_iff];simp only[beq_iff_eq];exact eq_comm
        simp only[e8];cases hs:(s==N.2.2.2.2.2.2.1)with
        | false=>cases (r==N.2.2.2.2.2.2.2)<;>rfl
        | true =>
         rw[beq_iff_eq]at hs;rw[<-hs,rS st j2 g2 vr,g3];simp only[Option.bind_some];rw[pA v2 T g4 (by omega) g6 (by omega)];cases (r==N.2.2.2.2.2.2.2)<;>rfl
     ·have e0:(N.1==0||N.1==1)=false:=by simpa using su
      have e1:(N.1==2||(N.1==5||N.1==6))=false:=by simpa using k1
      have e2:(N.1==3||N.1==4)=false:=by simpa using k2
      have e5:(decide (0<=N.1)&&decide (N.1<=6))=false:=by
       rw[Bool.and_eq_false_iff];by_cases h:0<=N.1
       ·right;simp;omega
       ·left;simp;omega
      rw[e0,e1,e2,e5];simp
def fJ(db:List Rel)(f:List al):Bool:=mj db&&((decide (1<=(f.length:Int))&&decide ((f.length:Int)<=12))&&lb db f 0 [])
theorem ahj{db:List Rel}(h:mj db=true):db.length<=6:=by
 unfold mj at h;simp only[Bool.and_eq_true,decide_eq_true_eq]at h;omega
theorem aeJ(db:List Rel)(f:List al)(hd:db.length<=68719476736/\∀a∈db,gL a)(hf:∀n∈f,zN n<=68719476736):ze db f=some ((fJ db f,()),()):=by
 rw[aeI,aeG db hd,kU];simp only[Option.bind_some];unfold fJ;cases hb:mj db with
 | false=>rfl
 | true =>
  cases hc:(decide (1<=(f.length:Int))&&decide ((f.length:Int)<=12))with
  | false=>rfl
  | true =>
   simp only[Bool.and_eq_true,decide_eq_true_eq]at hc;have:=Rj db f hd.1 hf (by omega) f.length 0 [] (by omega) (by simp);simp only[List.drop_zero,Int.natCast_zero,List.reverse_nil]at this;simp only[Bool.not_true,cond_false,Bool.true_and];exact this
theorem adB(db:List Rel)(f:List al)(hf:∀n∈f,zN n<=68719476736):yR db f=some ((fJ db f,()),()):=by
 rw[adA,ady db];simp only[Option.bind_some];unfold fJ;cases hb:mj db with
 | false=>rfl
 | true =>
  have Ck:=ahj hb;by_cases h1:(f.length:Int)<1
  ·have:decide (1<=(f.length:Int))=false:=by simp;omega
   simp[h1,this]
  ·by_cases h2:(f.length:Int)>12
   ·have:decide ((f.length:Int)<=12)=false:=by simp;omega
    simp[h1,h2,this]
   ·have e1:decide (1<=(f.length:Int))=true:=by simp;omega
    have e2:decide ((f.length:Int)<=12)=true:=by simp;omega
    rw[nm f 8 (by omega) (by omega) (by omega)];have:=QB db f (by omega) hf (by omega) (by omega) f.length 0 (List.replicate f.length 0) [] (by omega) (by simp) (by simp[eX]);simp only[List.drop_zero,Int.natCast_zero]at this;simp only[h1,h2,decide_false,e1,e2,Bool.not_true,cond_false,Bool.true_and];exact this
theorem ahC(h:zA a<=68719476736):gA a:=h
theorem ahD(h:zC c<=68719476736):gC c:=⟨Nat.le_trans (df _ _) h,λa ha=>ahC (Nat.le_trans (dp _ ha) h)⟩
theorem ahF{r:Rw}(h:zR r<=68719476736):gR r:=by
 have hz:zR r=zB r.1+zC r.2:=rfl;exact⟨by unfold zB at hz;omega,ahD (by omega)⟩
theorem ahE{r:Rel}(h:zQ r<=68719476736):gL r:=by
 have hz:zQ r=zB r.1+zL zR r.2.2:=rfl;exact⟨by unfold zB at hz;omega,Nat.le_trans (df _ _) (Nat.le_trans (Nat.le_add_left _ _) (hz▸h)),λa ha=>ahF (Nat.le_trans (dp _ ha) (by omega))⟩
theorem IC{x:List Rel}(h:zL zQ x<=68719476736):x.length<=68719476736/\∀a∈x,gL a:=⟨Nat.le_trans (df _ _) h,λa ha=>ahE (Nat.le_trans (dp _ ha) h)⟩
theorem UA{f:List al}(h:zL zN f<=68719476736):∀n∈f,zN n<=68719476736:=λn hn=>Nat.le_trans (dp _ hn) h
def fM(n:al):Bool := !(n.1==2) && !(n.1==6)
theorem aeM(db:List Rel)(f:List al)(hd:zL zQ db<=68719476736)(hf:zL zN f<=68719476736):zh db f=some ((fJ db f&&f.all fM,()),()):=by
 have hl:f.length<=68719476736:=Nat.le_trans (df _ _) hf;rw[aeL];rw[rC f fM (some ((false,()),())) (tN db f (f.length:Int)) (λi=>tN db f i) hl (λi hi=>by
  rw[Rk,aD hi,aR hi,aN (by omega)];simp only[cond_true,Option.bind_some];unfold fM;cases (f[i].1==2)<;>cases (f[i].1==6)<;>rfl) rfl]
 rw[Rk,aV,aeJ db f (IC hd) (UA hf)];cases f.all fM<;>cases fJ db f<;>rfl
theorem adE(db:List Rel)(f:List al)(hf:zL zN f<=68719476736):yT db f=some ((fJ db f&&f.all fM,()),()):=by
 have hl:f.length<=68719476736:=Nat.le_trans (df _ _) hf;rw[adD,adB db f (UA hf)];have:=rC f fM (some ((false,()),())) (some ((true,()),())) (λi=>xD f f (f.length:Int) i) hl (λi hi=>by
  rw[QC,aD hi,aR hi,aN (by omega)];simp only[cond_true,Option.bind_some];unfold fM;cases (f[i].1==2)<;>cases (f[i].1==6)<;>rfl) (by rw[QC,aV];rfl)
 simp only[Option.bind_some,this];cases f.all fM<;>cases fJ db f<;>rfl
theorem aqH(s:ah):zP s=zC s.1+zL zI s.2:=rfl
theorem aqI(v:fm):zV v=zL zN v.1+zL zP v.2:=rfl
theorem Ti{a:Int}(h:a.natAbs<=4000000000000000000):q8 a=some (((a.natAbs:Int),()),()):=by
 rw[FU];by_cases h0:a<0
 ·simp only[h0,decide_true,cond_true];rw[ca (by omega) (by omega)];congr 3;omega
 ·simp only[h0,decide_false,cond_false];congr 3;omega
theorem Th{a:Int}(h:a.natAbs<=4000000000000000000):uq a=some (((a.natAbs:Int),()),()):=by
 rw[SR];rw[ca (by omega) (by omega)];simp only[cond_true];congr 3;split<;>omega
theorem tdiv_le(a b:Int):(a.tdiv b).natAbs<=a.natAbs:=by
 rw[Int.natAbs_tdiv];exact Nat.div_le_self _ _
theorem Sv{a b:Int}(ha:a.natAbs<=4000000000000000000)(hb:b.natAbs<=4000000000000000000):oM a b=some ((((Nat.gcd a.natAbs b.natAbs:Nat):Int),()),()):=by
 rw[Sw,Ti ha,Ti hb];simp only[Option.bind_some];rw[D6 _ _ _ (Nat.le_refl _) (by omega) (by omega)];simp
theorem Kw{a b:Int}(ha:a.natAbs<=400000000)(hb:b.natAbs<=400000000):(a*b).natAbs<=160000000000000000:=by
 rw[Int.natAbs_mul];exact Nat.mul_le_mul ha hb
theorem Le{a b:Int}(ha:a.natAbs<=400000000)(hb:b.natAbs<=400000000):IntKind.i64.wrap (a*b)=a*b:=by
 have:=Kw ha hb;exact ca (by omega) (by omega)
def dt:List Int->List Int->Int
 | x::xs,y::ys=>if x=y then dt xs ys else if x<y then -1 else 1
 | _,_=>0
theorem ng:∀x:List Int,dt x x=0
 | []=>rfl
 | x::xs=>by simp[dt,ng xs]
theorem XB:∀{x y:List Int},x.length=y.length->dt x y=0->x=y
 | [],[],_,_=>rfl
 | x::xs,y::ys,hl,h=>by
  simp only[dt]at h;split at h
  ·rename_i e;rw[e,XB (by simpa using hl) h]
  ·split at h<;>omega
theorem lK:∀x y:List Int,dt y x = -dt x y
 | [],[]=>rfl
 | [],_::_=>rfl
 | _::_,[]=>rfl
 | x::xs,y::ys=>by
  simp only[dt];by_cases h:x=y
  ·rw[if_pos h,if_pos h.symm,lK xs ys]
  ·rw[if_neg h,if_neg (Ne.symm h)];by_cases h2:x<y
   ·rw[if_pos h2,if_neg (by omega)];rfl
   ·rw[if_neg h2,if_pos (by omega)]
theorem XD(x y:List Int):dt x y = -1\/dt x y=0\/dt x y=1:=by
 induction x generalizing y with
 | nil=>cases y<;>simp[dt]
 | cons a x ih =>
  cases y with
  | nil=>simp[dt]
  | cons b y =>
   simp only[dt];split
   ·exact ih y
   ·split<;>simp
theorem v8:∀{x y z:List Int},dt x y<0->dt y z<0->dt x z<0
 | [],_,_,h,_=>by simp[dt]at h
 | _::_,[],_,h,_=>by simp[dt]at h
 | _::_,_::_,[],_,h=>by simp[dt]at h
 | x::xs,y::ys,z::zs,h1,h2=>by
  simp only[dt]at h1 h2 ⊢;by_cases e1:x=y
  ·subst e1;rw[if_pos rfl]at h1;by_cases e2:x=z
   ·rw[if_pos e2]at h2 ⊢;exact v8 h1 h2
   ·rw[if_neg e2]at h2 ⊢;exact h2
  ·rw[if_neg e1]at h1;have h1:x<y:=by
    by_cases h:x<y
    ·exact h
    ·rw[if_neg h]at h1;omega
   by_cases e2:y=z
   ·subst e2;rw[if_neg e1,if_pos h1];omega
   ·rw[if_neg e2]at h2;have h2:y<z:=by
     by_cases h:y<z
     ·exact h
     ·rw[if_neg h]at h2;omega
    rw[if_neg (by omega),if_pos (by omega)];omega
def jU(a b:Int):Int:=if a<b then -1 else if b<a then 1 else 0
theorem ams{a1 a2 b1 b2 c1 c2:Int}(h1:0<a2)(h2:0<b2)(h3:0<c2)(x:a1*b2<b1*a2)(y:b1*c2<c1*b2):a1*c2<c1*a2:=by
 have p:=Int.mul_lt_mul_of_pos_right x h3;have q:=Int.mul_lt_mul_of_pos_right y h1;have:a1*c2*b2<c1*a2*b2:=by
  have e1:a1*c2*b2=a1*b2*c2:=by rw[Int.mul_assoc,Int.mul_comm c2,<-Int.mul_assoc]
  have e2:c1*a2*b2=c1*b2*a2:=by rw[Int.mul_assoc,Int.mul_comm a2,<-Int.mul_assoc]
  have e3:b1*a2*c2=b1*c2*a2:=by rw[Int.mul_assoc,Int.mul_comm a2,<-Int.mul_assoc]
  omega
 exact Int.lt_of_mul_lt_mul_right this (Int.le_of_lt h2)
theorem qe{a1 a2 b1 b2 c1 c2:Int}(h1:0<a2)(h2:0<b2)(h3:0<c2)(x:a1*b2<=b1*a2)(y:b1*c2<=c1*b2):a1*c2<=c1*a2:=by
 have p:=Int.mul_le_mul_of_nonneg_right x (Int.le_of_lt h3);have q:=Int.mul_le_mul_of_nonneg_right y (Int.le_of_lt h1);have:a1*c2*b2<=c1*a2*b2:=by
  have e1:a1*c2*b2=a1*b2*c2:=by rw[Int.mul_assoc,Int.mul_comm c2,<-Int.mul_assoc]
  have e2:c1*a2*b2=c1*b2*a2:=by rw[Int.mul_assoc,Int.mul_comm a2,<-Int.mul_assoc]
  have e3:b1*a2*c2=b1*c2*a2:=by rw[Int.mul_assoc,Int.mul_comm a2,<-Int.mul_assoc]
  omega
 exact Int.le_of_mul_le_mul_right this h2
def dD(a:aa):Int:=if gl a.1 0=0 then 1 else (gl a.1 0:Nat)
def dv(a:aa):List Int:=a.1.map (λx=>x.tdiv (dD a))
def bb(a b:aa):Int:=dt (dv a) (dv b)
def di(a b:aa):Int:=if jU (a.2.1*dD b) (b.2.1*dD a)≠0 then jU (a.2.1*dD b) (b.2.1*dD a)else if a.2.2=b.2.2 then 0 else if a.2.2=true then 1 else -1
def ey(a b:aa):Int:=if bb a b≠0 then bb a b else di a b
def cS(n:Nat)(a:aa):Prop:=bK a=true/\a.1.length=n/\gl a.1 0≠0
theorem nQ(a:aa):0<dD a:=by
 unfold dD;split
 ·omega
 ·have:0<gl a.1 0:=Nat.pos_of_ne_zero (by assumption);exact Int.natCast_pos.2 this
theorem jy(a:aa):(dv a).length=a.1.length:=by simp[dv]
theorem jY(ha:a.1.length=n)(hb:b.1.length=n):bb a b=0↔dv a=dv b:=by
 constructor
 ·intro h;exact XB (by rw[jy,jy,ha,hb]) h
 ·intro h;unfold bb;rw[h,ng]
theorem amR{a b:Int}:jU a b<0↔a<b:=by
 unfold jU;split
 ·simp;assumption
 ·split<;>simp<;>omega
theorem KL{a b:Int}:jU a b=0↔a=b:=by
 unfold jU;split
 ·simp;omega
 ·split<;>simp<;>omega
theorem wV{a b:aa}:di a b<0↔a.2.1*dD b<b.2.1*dD a\/(a.2.1*dD b=b.2.1*dD a/\a.2.2=false/\b.2.2=true):=by
 unfold di;by_cases h:jU (a.2.1*dD b) (b.2.1*dD a)=0
 ·rw[if_neg (by simpa using h)];have e:=KL.1 h;rw[e];cases a.2.2<;>cases b.2.2<;>simp
 ·rw[if_pos h,amR];have e:a.2.1*dD b≠b.2.1*dD a:=λe=>h (KL.2 e);constructor
  ·exact .inl
  ·rintro (h|h)
   ·exact h
   ·exact absurd h.1 e
theorem mh:ey a b<0↔bb a b<0\/(bb a b=0/\di a b<0):=by
 unfold ey;split
 ·rename_i h;constructor
  ·exact .inl
  ·rintro (h2|h2)
   ·exact h2
   ·exact absurd h2.1 h
 ·rename_i h;have h:bb a b=0:=by simpa using h
  rw[h];simp
theorem ID:∀(x:List Int) (g:Nat),(gl x g) ∣ g/\∀y∈x,gl x g ∣ y.natAbs
 | [],g=>⟨Nat.dvd_refl _,by simp⟩
 | a::x,g=>by
  obtain⟨h1,h2⟩:=ID x (Nat.gcd g a.natAbs);have e:gl (a::x) g=gl x (Nat.gcd g a.natAbs):=rfl;rw[e];refine⟨Nat.dvd_trans h1 (Nat.gcd_dvd_left _ _),λy hy=>?_⟩;rcases List.mem_cons.1 hy with rfl|hy
  ·exact Nat.dvd_trans h1 (Nat.gcd_dvd_right _ _)
  ·exact h2 y hy
theorem TO(a:aa):a.1=(dv a).map (· * dD a):=by
 unfold dv;rw[List.map_map];have:∀y∈a.1,((· * dD a) ∘ λx=>x.tdiv (dD a)) y=y:=by
  intro y hy;simp only[Function.comp];unfold dD;split
  ·simp
  ·exact Int.tdiv_mul_cancel (Int.natAbs_dvd_natAbs.1 (by simpa using (ID a.1 0).2 y hy))
 conv=>lhs;rw[<-List.map_id a.1]
 exact (List.map_congr_left λy hy=>(this y hy).symm)
theorem ag4(ha:cS n a)(hb:cS n b)(h1:dv a=dv b)(h2:a.2.1*dD b=b.2.1*dD a)(h3:a.2.2=b.2.2):a=b:=by
 have TU:∀{a:aa},cS n a->∃g:Nat,dD a=(g:Int)/\Nat.Coprime g a.2.1.natAbs/\0<g:=by
  intro a h;refine⟨gl a.1 0,by unfold dD;rw[if_neg h.2.2],?_,Nat.pos_of_ne_zero h.2.2⟩;have:=h.1;unfold bK at this;simp only[Bool.and_eq_true,decide_eq_true_eq]at this;have h4:=this.2.2.2;rw[IE]at h4;have h5:Nat.gcd (gl a.1 0) a.2.1.natAbs<=1:=by omega
  have h6:0<Nat.gcd (gl a.1 0) a.2.1.natAbs:=Nat.gcd_pos_of_pos_left _ (Nat.pos_of_ne_zero h.2.2);unfold Nat.Coprime;omega
 obtain⟨g,e1,c1,p1⟩:=TU ha;obtain⟨k,e2,c2,p2⟩:=TU hb;rw[e1,e2]at h2;have h4:a.2.1.natAbs*k=b.2.1.natAbs*g:=by
  have:=congrArg Int.natAbs h2;simpa[Int.natAbs_mul]using this
 have d1:g ∣ k:=c1.dvd_of_dvd_mul_left (by rw[h4];exact Nat.dvd_mul_left _ _);have d2:k ∣ g:=c2.dvd_of_dvd_mul_left (by rw[<-h4];exact Nat.dvd_mul_left _ _);have e:g=k:=Nat.dvd_antisymm d1 d2;subst e;have h5:a.2.1=b.2.1:=Int.eq_of_mul_eq_mul_right (by omega) h2;have h6:a.1=b.1:=by rw[TO a,TO b,h1,e1,e2]
 obtain⟨a1,a2,a3⟩:=a;obtain⟨b1,b2,b3⟩:=b;simp only at h3 h5 h6;rw[h3,h5,h6]
theorem Zd{c:aa}(h1:di a b<0)(h2:di b c<0):di a c<0:=by
 rw[wV]at *
 have pa:=nQ a;have pb:=nQ b;have pc:=nQ c;rcases h1 with h1|⟨h1,h3,h4⟩
 ·rcases h2 with h2|⟨h2,h5,h6⟩
  ·exact .inl (ams pa pb pc h1 h2)
  ·left;have:=qe pa pb pc (Int.le_of_lt h1) (Int.le_of_eq h2);rcases Int.lt_or_eq_of_le this with h|h
   ·exact h
   ·exfalso;have:=qe (a1:=b.2.1) (a2:=dD b) (b1:=c.2.1) (b2:=dD c) (c1:=a.2.1) (c2:=dD a) pb pc pa (Int.le_of_eq h2) (Int.le_of_eq h.symm);omega
 ·rcases h2 with h2|⟨h2,h5,h6⟩
  ·left;have:=qe pa pb pc (Int.le_of_eq h1) (Int.le_of_lt h2);rcases Int.lt_or_eq_of_le this with h|h
   ·exact h
   ·exfalso;have:=qe (a1:=c.2.1) (a2:=dD c) (b1:=a.2.1) (b2:=dD a) (c1:=b.2.1) (c2:=dD b) pc pa pb (Int.le_of_eq h.symm) (Int.le_of_eq h1);omega
  ·rw[h4]at h5;cases h5
theorem K3{c:aa}(h1:¬di a b<0)(h2:¬di b c<0):¬di a c<0:=by
 rw[wV]at *
 have pa:=nQ a;have pb:=nQ b;have pc:=nQ c;have UR:b.2.1*dD a<=a.2.1*dD b:=by have:=not_or.1 h1;omega
 have US:c.2.1*dD b<=b.2.1*dD c:=by have:=not_or.1 h2;omega
 have h3:=qe (a1:=c.2.1) (a2:=dD c) (b1:=b.2.1) (b2:=dD b) (c1:=a.2.1) (c2:=dD a) pc pb pa US UR
 rintro (h|⟨h,h4,h5⟩)
 ·omega
 ·have e1:a.2.1*dD b=b.2.1*dD a:=by
   have:=qe (a1:=a.2.1) (a2:=dD a) (b1:=c.2.1) (b2:=dD c) (c1:=b.2.1) (c2:=dD b) pa pc pb (Int.le_of_eq h) US;omega
  have e2:b.2.1*dD c=c.2.1*dD b:=by
   have:=qe (a1:=b.2.1) (a2:=dD b) (b1:=a.2.1) (b2:=dD a) (c1:=c.2.1) (c2:=dD c) pb pa pc UR (Int.le_of_eq h);omega
  cases hb:b.2.2
  ·exact h2 (.inr ⟨e2,hb,h5⟩)
  ·exact h1 (.inr ⟨e1,h4,hb⟩)
theorem sW(a:aa):¬di a a<0:=by
 rw[wV]
 rintro (h|⟨_,h1,h2⟩)
 ·omega
 ·rw[h1]at h2;cases h2
theorem Db{n:Nat}:oJ (cS n) ey:=by
 have key:∀{x y:aa},cS n x->cS n y->bb x y=0->dv x=dv y:=λhx hy h=>(jY hx.2.1 hy.2.1).1 h;refine⟨λx hx h=>?_,λx y z hx hy hz h1 h2=>?_,λx y z hx hy hz h1 h2 h=>?_,λx y hx hy h1 h2=>?_⟩
 ·rw[mh]at h;have e:bb x x=0:=ng _;rw[e]at h;rcases h with h|h
  ·omega
  ·exact sW x h.2
 ·rw[mh]at *
  rcases h1 with h1|⟨h1,h3⟩
  ·rcases h2 with h2|⟨h2,h4⟩
   ·exact .inl (v8 h1 h2)
   ·left;have:=key hy hz h2;unfold bb at *
    rw[<-this];exact h1
  ·have e1:=key hx hy h1;rcases h2 with h2|⟨h2,h4⟩
   ·left;unfold bb at *
    rw[e1];exact h2
   ·right;refine⟨?_,Zd h3 h4⟩;unfold bb at *
    rw[e1];exact h2
 ·rw[mh]at *
  have h1:=not_or.1 h1;have h2:=not_or.1 h2;have f1:=lK (dv x) (dv y);have f2:=lK (dv y) (dv z);have f3:=lK (dv x) (dv z);have v1:=XD (dv x) (dv y);have v2:=XD (dv y) (dv z);have u1:=h1.1;have u2:=h2.1;unfold bb at u1 u2;by_cases w1:bb x y=0
  ·have e1:=key hx hy w1;have s1:¬di x y<0:=λh=>h1.2 ⟨w1,h⟩;by_cases w2:bb y z=0
   ·have e2:=key hy hz w2;have s2:¬di y z<0:=λh=>h2.2 ⟨w2,h⟩;rcases h with h|h
    ·unfold bb at h;rw[e1,e2,ng]at h;omega
    ·exact K3 s1 s2 h.2
   ·have:bb x z=bb y z:=by unfold bb;rw[e1]
    rw[this]at h;rcases h with h|h
    ·exact h2.1 h
    ·exact w2 h.1
  ·have g1:dt (dv y) (dv x)<0:=by unfold bb at w1;omega
   by_cases w2:bb y z=0
   ·have e2:=key hy hz w2;have:bb x z=bb x y:=by unfold bb;rw[e2]
    rw[this]at h;rcases h with h|h
    ·exact h1.1 h
    ·exact w1 h.1
   ·have g2:dt (dv z) (dv y)<0:=by unfold bb at w2;omega
    have g3:=v8 g2 g1;unfold bb at h;omega
 ·rw[mh]at *
  have h1:=not_or.1 h1;have h2:=not_or.1 h2;have f1:=lK (dv x) (dv y);have w:bb x y=0:=by
   have a1:=h1.1;have a2:=h2.1;unfold bb at *
   omega
  have w':bb y x=0:=by unfold bb at *;omega
  have s1:¬di x y<0:=λh=>h1.2 ⟨w,h⟩;have s2:¬di y x<0:=λh=>h2.2 ⟨w',h⟩;rw[wV]at s1 s2;have s1:=not_or.1 s1;have s2:=not_or.1 s2;have e:x.2.1*dD y=y.2.1*dD x:=by omega
  refine ag4 hx hy (key hx hy w) e ?_;have t1:¬(x.2.2=false/\y.2.2=true):=λh=>s1.2 ⟨e,h⟩;have t2:¬(y.2.2=false/\x.2.2=true):=λh=>s2.2 ⟨e.symm,h⟩;cases kC:x.2.2<;>cases sk:y.2.2<;>simp_all
structure jn (n:Nat) (S l:List aa):Prop where
 sorted:S.Pairwise λx y=>bb x y<0
 sub:∀s∈S,s∈l
 rM:∀a∈l,∃s∈S,bb s a=0/\¬di s a<0
theorem Lc(h:bb a b=0):bb b a=0:=by
 have:=lK (dv a) (dv b);unfold bb at *;omega
theorem Tx{S':List aa}(hV:∀a∈l,cS n a)(hm:∀a,a∈l↔a∈l')(h:jn n S l)(h':jn n S' l'):∀s∈S,s∈S':=by
 intro s hs;have bc:=h.sub s hs;obtain⟨t,ht,w1,s1⟩:=h'.rM s ((hm s).1 bc);have V1:=(hm t).2 (h'.sub t ht);obtain⟨u,hu,w2,s2⟩:=h.rM t V1;have ks:=hV s bc;have kt:=hV t V1;have ku:=hV u (h.sub u hu);have e1:dv t=dv s:=(jY kt.2.1 ks.2.1).1 w1;have e2:dv u=dv t:=(jY ku.2.1 kt.2.1).1 w2;have w3:bb u s=0:=(jY ku.2.1 ks.2.1).2 (e2.trans e1);have hus:u=s:=by
  apply Classical.byContradiction;intro bh;have key:∀{a b:aa},a∈S->b∈S->a≠b->bb a b<0\/bb b a<0:=by
   intro a b ha hb bh;obtain⟨i,hi,rfl⟩:=List.getElem_of_mem ha;obtain⟨j,hj,rfl⟩:=List.getElem_of_mem hb;rcases Nat.lt_trichotomy i j with mF|mF|mF
   ·exact .inl (List.pairwise_iff_getElem.1 h.sorted i j hi hj mF)
   ·subst mF;exact absurd rfl bh
   ·exact .inr (List.pairwise_iff_getElem.1 h.sorted j i hj hi mF)
  rcases key hu hs bh with h1|h1
  ·omega
  ·have:=Lc w3;omega
 subst hus;have o:=@Db n;have:t=u:=o.Hv t u kt ku (λhc=>by
  rw[mh]at hc;rcases hc with hc|hc
  ·omega
  ·exact s1 hc.2) (λhc=>by
  rw[mh]at hc;rcases hc with hc|hc
  ·omega
  ·exact s2 hc.2)
 rw[<-this];exact ht
theorem ag8{S':List aa}(hV:∀a∈l,cS n a)(hm:∀a,a∈l↔a∈l')(h:jn n S l)(h':jn n S' l'):S=S':=by
 have nd:∀{S l:List aa},jn n S l->S.Nodup:=by
  intro S l h;refine h.sorted.imp λ{a b} iO he=>?_;subst he;have:bb a a=0:=ng _;omega
 have hp:S.Perm S':=(List.perm_ext_iff_of_nodup (nd h) (nd h')).2 λa=>⟨Tx hV hm h h' a,Tx (λa ha=>hV a ((hm a).2 ha)) (λa=>(hm a).symm) h' h a⟩;refine List.Perm.eq_of_pairwise (le:=λx y=>bb x y<0) (λa b _ _ h1 h2=>?_) h.sorted h'.sorted hp;have:=lK (dv a) (dv b);unfold bb at *;omega
def fb:List aa->List aa
 | []=>[]
 | [a]=>[a]
 | a::b::l=>if bb a b=0 then fb (b::l)else a::fb (b::l)
theorem Xy:∀(l:List aa),(∀a∈l,cS n a)->l.Pairwise (λx y=>¬ey y x<0)->jn n (fb l) l
 | [],_,_=>⟨List.Pairwise.nil,λs h=>h,by simp⟩
 | [a],_,_=>⟨by simp[fb],λs h=>h,λx hx=>⟨a,by simp[fb],by
   rw[List.mem_singleton.1 hx];exact⟨ng _,sW a⟩⟩⟩
 | a::b::l,hV,hP=>by
  have lh:=List.pairwise_cons.1 hP;have ih:=Xy (b::l) (λx hx=>hV x (List.mem_cons_of_mem _ hx)) lh.2;have ka:=hV a (by simp);have kb:=hV b (by simp);have up:∀x∈b::l,¬bb x a<0:=λx hx h=>lh.1 x hx (mh.2 (.inl h));by_cases hw:bb a b=0
  ·have e:fb (a::b::l)=fb (b::l):=by simp[fb,hw]
   rw[e];refine⟨ih.sorted,λs hs=>List.mem_cons_of_mem _ (ih.sub s hs),λx hx=>?_⟩;rcases List.mem_cons.1 hx with rfl|hx
   ·obtain⟨s,hs,w1,s1⟩:=ih.rM b (by simp);have ks:=hV s (List.mem_cons_of_mem _ (ih.sub s hs));have e1:dv s=dv b:=(jY ks.2.1 kb.2.1).1 w1;have e2:dv x=dv b:=(jY ka.2.1 kb.2.1).1 hw;refine⟨s,hs,(jY ks.2.1 ka.2.1).2 (e1.trans e2.symm),?_⟩;have s2:¬di b x<0:=λh=>lh.1 b (by simp) (mh.2 (.inr ⟨Lc hw,h⟩));exact K3 s1 s2
   ·exact ih.rM x hx
  ·have e:fb (a::b::l)=a::fb (b::l):=by simp[fb,hw]
   rw[e];have iO:bb a b<0:=by
    have h1:=up b (by simp);have:=lK (dv a) (dv b);unfold bb at *;omega
   refine⟨List.pairwise_cons.2 ⟨λx hx=>?_,ih.sorted⟩,λs hs=>?_,λx hx=>?_⟩
   ·have oi:=ih.sub x hx;rcases List.mem_cons.1 oi with rfl|oi
    ·exact iO
    ·have r4:¬bb x b<0:=λh=>(List.pairwise_cons.1 lh.2).1 x oi (mh.2 (.inl h));have kx:=hV x (by simp[oi]);have f:=lK (dv x) (dv b);by_cases h0:bb b x=0
     ·have e3:dv b=dv x:=(jY kb.2.1 kx.2.1).1 h0;unfold bb at iO ⊢;rw[<-e3];exact iO
     ·have h2:bb b x<0:=by unfold bb at *;omega
      exact v8 iO h2
   ·rcases List.mem_cons.1 hs with rfl|hs
    ·simp
    ·exact List.mem_cons_of_mem _ (ih.sub s hs)
   ·rcases List.mem_cons.1 hx with rfl|hx
    ·exact⟨x,by simp,ng _,sW x⟩
    ·obtain⟨s,hs,h⟩:=ih.rM x hx;exact⟨s,List.mem_cons_of_mem _ hs,h⟩
def cT:List aa->aa->List aa
 | [],a=>[a]
 | s::S,a=>if bb s a<0 then s::cT S a else if bb s a=0 then (if di s a<0 then a::S else s::S)else a::s::S
theorem sL(a:aa):∀(S:List aa),∀s∈cT S a,s∈S\/s=a
 | [],s,h=>by simp[cT]at h;exact .inr h
 | t::S,s,h=>by
  simp only[cT]at h;split at h
  ·rcases List.mem_cons.1 h with rfl|h
   ·simp
   ·rcases sL a S s h with h|h
    ·exact .inl (List.mem_cons_of_mem _ h)
    ·exact .inr h
  ·split at h
   ·split at h
    ·rcases List.mem_cons.1 h with rfl|h
     ·exact .inr rfl
     ·exact .inl (List.mem_cons_of_mem _ h)
    ·exact .inl h
   ·rcases List.mem_cons.1 h with rfl|h
    ·exact .inr rfl
    ·exact .inl h
theorem YH(ka:cS n a):∀(S:List aa),(∀s∈S,cS n s)->(∃s∈cT S a,bb s a=0/\¬di s a<0)/\∀t∈S,∃s∈cT S a,bb s t=0/\¬di s t<0
 | [],_=>⟨⟨a,by simp[cT],ng _,sW a⟩,by simp⟩
 | t::S,hV=>by
  obtain⟨h1,h2⟩:=YH ka S (λs hs=>hV s (List.mem_cons_of_mem _ hs));have kt:=hV t (by simp);have self:∀x:aa,bb x x=0/\¬di x x<0:=λx=>⟨ng _,sW x⟩;simp only[cT];split
  ·obtain⟨s,hs,hh⟩:=h1;refine⟨⟨s,List.mem_cons_of_mem _ hs,hh⟩,λu hu=>?_⟩;rcases List.mem_cons.1 hu with rfl|hu
   ·exact⟨u,by simp,self u⟩
   ·obtain⟨s,hs,hh⟩:=h2 u hu;exact⟨s,List.mem_cons_of_mem _ hs,hh⟩
  ·split
   ·rename_i hw;split
    ·rename_i a6;refine⟨⟨a,by simp,self a⟩,λu hu=>?_⟩;rcases List.mem_cons.1 hu with rfl|hu
     ·refine⟨a,by simp,Lc hw,λh=>?_⟩;exact sW a (Zd h a6)
     ·exact⟨u,List.mem_cons_of_mem _ hu,self u⟩
    ·rename_i a6;exact⟨⟨t,by simp,hw,a6⟩,λu hu=>⟨u,hu,self u⟩⟩
   ·exact⟨⟨a,by simp,self a⟩,λu hu=>⟨u,List.mem_cons_of_mem _ hu,self u⟩⟩
theorem YI(ka:cS n a):∀(S:List aa),(∀s∈S,cS n s)->S.Pairwise (λx y=>bb x y<0)->(cT S a).Pairwise λx y=>bb x y<0
 | [],_,_=>by simp[cT]
 | t::S,hV,hP=>by
  have lh:=List.pairwise_cons.1 hP;have kt:=hV t (by simp);simp only[cT];split
  ·rename_i hw;refine List.pairwise_cons.2 ⟨λx hx=>?_,YI ka S (λs hs=>hV s (List.mem_cons_of_mem _ hs)) lh.2⟩;rcases sL a S x hx with hx|rfl
   ·exact lh.1 x hx
   ·exact hw
  ·rename_i hw;split
   ·rename_i V3;have e:dv t=dv a:=(jY kt.2.1 ka.2.1).1 V3;split
    ·refine List.pairwise_cons.2 ⟨λx hx=>?_,lh.2⟩;have:=lh.1 x hx;unfold bb at this ⊢;rw[<-e];exact this
    ·exact hP
   ·rename_i V3;have h1:bb a t<0:=by
     have:=lK (dv t) (dv a);unfold bb at *;omega
    refine List.pairwise_cons.2 ⟨λx hx=>?_,hP⟩;rcases List.mem_cons.1 hx with rfl|hx
    ·exact h1
    ·exact v8 h1 (lh.1 x hx)
theorem amq(ka:cS n a)(hV:∀a∈l,cS n a)(h:jn n S l):jn n (cT S a) (l++[a]):=by
 have hS:∀s∈S,cS n s:=λs hs=>hV s (h.sub s hs);obtain⟨d1,d2⟩:=YH ka S hS;refine⟨YI ka S hS h.sorted,λs hs=>?_,λx hx=>?_⟩
 ·rcases sL a S s hs with hs|rfl
  ·exact List.mem_append_left _ (h.sub s hs)
  ·simp
 ·rcases List.mem_append.1 hx with hx|hx
  ·obtain⟨s,hs,w1,s1⟩:=h.rM x hx;obtain⟨t,ht,w2,s2⟩:=d2 s hs;have kx:=hV x hx;have ks:=hS s hs;have kt:cS n t:=by
    rcases sL a S t ht with h|rfl
    ·exact hS t h
    ·exact ka
   have e1:=(jY ks.2.1 kx.2.1).1 w1;have e2:=(jY kt.2.1 ks.2.1).1 w2;exact⟨t,ht,(jY kt.2.1 kx.2.1).2 (e2.trans e1),K3 s2 s1⟩
  ·rw[List.mem_singleton.1 hx];exact d1
theorem Ur:∀(l m S:List aa),(∀a∈l,cS n a)->(∀a∈m,cS n a)->jn n S m->jn n (l.foldl cT S) (m++l)
 | [],m,S,_,_,h=>by simpa using h
 | a::l,m,S,hl,hm,h=>by
  have ka:=hl a (by simp);have:=Ur l (m++[a]) (cT S a) (λx hx=>hl x (List.mem_cons_of_mem _ hx)) (λx hx=>by
   rcases List.mem_append.1 hx with hx|hx
   ·exact hm x hx
   ·rw[List.mem_singleton.1 hx];exact ka) (amq ka hm h)
  simpa using this
theorem alO{n:Nat}(hV:∀a∈l,cS n a)(hm:∀a,a∈l↔a∈l'):fb (eS ey l)=l'.foldl cT []:=by
 have hp:=qk ey l;have h1:jn n (fb (eS ey l)) (eS ey l):=Xy _ (λa ha=>hV a (hp.mem_iff.1 ha)) (KO Db hV);have h2:jn n (l'.foldl cT []) ([]++l'):=Ur l' [] [] (λa ha=>hV a ((hm a).2 ha)) (by simp) ⟨List.Pairwise.nil,by simp,by simp⟩;rw[List.nil_append]at h2;exact ag8 (λa ha=>hV a (hp.mem_iff.1 ha)) (λa=>(hp.mem_iff).trans (hm a)) h1 h2
theorem gi(h:bK a=true):a.1.length<=4/\dc a.2.1=true/\∀y∈a.1,dc y=true:=by
 unfold bK at h;simp only[Bool.and_eq_true,Bool.not_eq_true',decide_eq_false_iff_not,List.all_eq_true]at h;exact⟨by omega,h.2.1,h.2.2.1⟩
theorem C8(h:dc y=true):-400000000<=y/\y<=400000000:=by
 unfold dc at h;simpa using h
theorem UN:∀(x:List Int) (g:Nat),(∀y∈x,dc y=true)->g<=400000000->gl x g<=400000000
 | [],g,_,hg=>hg
 | a::x,g,h,hg=>by
  have e:gl (a::x) g=gl x (Nat.gcd g a.natAbs):=rfl;rw[e];refine UN x _ (λy hy=>h y (List.mem_cons_of_mem _ hy)) ?_;have hb:=C8 (h a (by simp));by_cases h0:g=0
  ·subst h0;rw[Nat.gcd_zero_left];omega
  ·exact Nat.le_trans (Nat.gcd_le_left _ (Nat.pos_of_ne_zero h0)) hg
theorem ahi(h:bK a=true):dD a<=400000000:=by
 have:=UN a.1 0 (gi h).2.2 (by omega);unfold dD;split<;>omega
theorem CV(a:aa):(bif true then if 1<((gl a.1 0:Nat):Int)then ((gl a.1 0:Nat):Int)else 1 else if ((gl a.1 0:Nat):Int)<1 then ((gl a.1 0:Nat):Int)else 1)=dD a:=by
 simp only[cond_true];unfold dD;by_cases h:gl a.1 0=0
 ·rw[if_pos h,h];rfl
 ·rw[if_neg h];by_cases h2:1<((gl a.1 0:Nat):Int)
  ·rw[if_pos h2]
  ·rw[if_neg h2];omega
theorem SF(h:bK a=true):l9 a.1=some ((((gl a.1 0:Nat):Int),()),()):=SE a.1 (by have:=(gi h).1;omega) (gi h).2.2
theorem SG(h:bK a=true):y7 a=some ((gl a.1 0 != 0,()),()):=by
 rw[aeg,SF h];simp only[Option.bind_some];congr 3;cases hg:gl a.1 0 with
 | zero=>rfl
 | succ n=>simp;omega
theorem y5(h:bK a=true):rb a=some ((dD a,()),()):=by
 rw[aea,SF h];simp only[Option.bind_some];unfold dD;cases hg:gl a.1 0 with
 | zero=>rfl
 | succ n =>
  have:(((n+1:Nat):Int)==0)=false:=by simp;omega
  rw[this];rfl
theorem zo(h:bK a=true):rm a=some ((((gl a.1 0:Nat):Int),()),()):=by
 rw[ae7,SY a.1 0 (by have:=(gi h).1;omega) (gi h).2.2 (by decide)];rfl
theorem ahL:∀(x:List Int),gl x 0=0↔∀y∈x,y=0:=by
 intro x;constructor
 ·intro h y hy;have:=(ID x 0).2 y hy;rw[h]at this;have:=Nat.eq_zero_of_zero_dvd this;omega
 ·intro h;induction x with
  | nil=>rfl
  | cons a x ih =>
   have e:gl (a::x) 0=gl x (Nat.gcd 0 a.natAbs):=rfl;rw[e,h a (by simp)];exact ih λy hy=>h y (List.mem_cons_of_mem _ hy)
theorem SV(a:aa)(hl:a.1.length<=68719476736):ur a=some ((gl a.1 0==0,()),()):=by
 rw[ae5];rw[rC a.1 (λy=>y==0) (some ((false,()),())) (some ((true,()),())) (λi=>xZ a i) hl (λi hi=>by
  rw[Ru,aR hi,aD hi,aN (by omega)];simp only[cond_true,Option.bind_some,bne];cases a.1[i]==0<;>rfl) (by rw[Ru,aV];rfl)]
 have e:a.1.all (λy=>y==0)=(gl a.1 0==0):=by
  rw[Bool.eq_iff_iff,List.all_eq_true,beq_iff_eq,ahL];simp
 rw[e];cases gl a.1 0==0<;>rfl
theorem Ds{D:Int}(h:dc y=true):IntKind.i64.wrap (y.tdiv D)=y.tdiv D:=by
 have:=C8 h;have h2:(y.tdiv D).natAbs<=y.natAbs:=tdiv_le y D;exact ca (by omega) (by omega)
theorem SM(a b:Int):zc a b=some ((jU a b,()),()):=by
 rw[aez];unfold jU;by_cases h1:a<b
 ·rw[if_pos h1,decide_eq_true h1];rfl
 ·rw[if_neg h1,decide_eq_false h1];by_cases h2:b<a
  ·have:a>b:=h2;rw[if_pos h2,decide_eq_true this];rfl
  ·have:¬a>b:=h2;rw[if_neg h2,decide_eq_false this];rfl
theorem XC{x y:List Int}{i:Nat}(hx:i<x.length)(hy:i<y.length):dt (x.drop i) (y.drop i)=if x[i]=y[i]then dt (x.drop (i+1)) (y.drop (i+1))else if x[i]<y[i]then -1 else 1:=by
 rw[List.drop_eq_getElem_cons hx,List.drop_eq_getElem_cons hy];rfl
theorem BX(a:aa):(dD a != 0)=true:=by
 have:=nQ a;simp;omega
theorem QP(ha:bK a=true)(hb:bK b=true)(hl:a.1.length=b.1.length):∀(n i:Nat),n+i=a.1.length ->
  xJ a b (dD a) (dD b) (a.1.length:Int) (i:Int)=some ((dt ((dv a).drop i) ((dv b).drop i),()),())
 | 0,i,hn=>by
  obtain rfl:i=a.1.length:=by omega
  rw[QO,aV];have e1:(dv a).drop a.1.length=[]:=List.drop_eq_nil_of_le (by rw[jy];omega);rw[e1];rfl
 | n+1,i,hn=>by
  have hi:i<a.1.length:=by omega
  have ez:i<b.1.length:=by omega
  have na:=(gi ha).2.2 _ (List.getElem_mem hi);have nb:=(gi hb).2.2 _ (List.getElem_mem ez);rw[QO,aR hi,aD hi,aD ez,BX,BX,aN (by have:=(gi ha).1;omega)];simp only[cond_true,Option.bind_some];rw[Ds na,Ds nb,SM];simp only[Option.bind_some];rw[QP ha hb hl n (i+1) (by omega),XC (i:=i) (by rw[jy];exact hi) (by rw[jy];exact ez)];have e1:(dv a)[i]'(by rw[jy];exact hi)=a.1[i].tdiv (dD a):=by simp[dv]
  have e2:(dv b)[i]'(by rw[jy];exact ez)=b.1[i].tdiv (dD b):=by simp[dv]
  rw[e1,e2];generalize a.1[i].tdiv (dD a)=x;generalize b.1[i].tdiv (dD b)=y;by_cases h:x=y
  ·rw[if_pos h,KL.2 h];rfl
  ·rw[if_neg h];unfold jU;by_cases h1:x<y
   ·rw[if_pos h1,if_pos h1];rfl
   ·rw[if_neg h1,if_neg h1,if_pos (by omega)];rfl
theorem Sy(ha:bK a=true)(hb:bK b=true)(hl:a.1.length=b.1.length):ub a b=some ((bb a b,()),()):=by
 rw[adZ,y5 ha,y5 hb];simp only[Option.bind_some];have:=QP ha hb hl a.1.length 0 (by omega);rw[Int.natCast_zero]at this;rw[this];rfl
theorem Rz(ha:bK a=true)(hb:bK b=true)(hl:a.1.length=b.1.length):∀(n i:Nat),n+i=a.1.length ->
  yc a b (dD a) (dD b) (i:Int)=some ((dt ((dv a).drop i) ((dv b).drop i),()),())
 | 0,i,hn=>by
  obtain rfl:i=a.1.length:=by omega
  rw[Ry,aV];have e1:(dv a).drop a.1.length=[]:=List.drop_eq_nil_of_le (by rw[jy];omega);rw[e1];rfl
 | n+1,i,hn=>by
  have hi:i<a.1.length:=by omega
  have ez:i<b.1.length:=by omega
  have na:=(gi ha).2.2 _ (List.getElem_mem hi);have nb:=(gi hb).2.2 _ (List.getElem_mem ez);rw[Ry,aR hi,aR ez,aD hi,aD ez,BX,BX,aN (by have:=(gi ha).1;omega)];simp only[cond_true,Option.bind_some];rw[Ds na,Ds nb,Rz ha hb hl n (i+1) (by omega),XC (i:=i) (by rw[jy];exact hi) (by rw[jy];exact ez)];have e1:(dv a)[i]'(by rw[jy];exact hi)=a.1[i].tdiv (dD a):=by simp[dv]
  have e2:(dv b)[i]'(by rw[jy];exact ez)=b.1[i].tdiv (dD b):=by simp[dv]
  rw[e1,e2];generalize a.1[i].tdiv (dD a)=x;generalize b.1[i].tdiv (dD b)=y;by_cases h:x=y
  ·rw[if_pos h,h];simp
  ·rw[if_neg h];have e:(x != y)=true:=by simpa using h
   rw[e,cond_true];by_cases h1:x<y
   ·rw[if_pos h1,decide_eq_true h1];rfl
   ·rw[if_neg h1,decide_eq_false h1];rfl
theorem afc(ha:bK a=true)(hb:bK b=true)(hl:a.1.length=b.1.length):rq a b=some ((bb a b,()),()):=by
 rw[afb,zo ha,zo hb];simp only[Option.bind_some];rw[CV,CV];have:=Rz ha hb hl a.1.length 0 (by omega);rw[Int.natCast_zero]at this;rw[this];rfl
theorem C4(ha:bK a=true)(hb:bK b=true):IntKind.i64.wrap (a.2.1*dD b)=a.2.1*dD b:=by
 have h1:=C8 (gi ha).2.1;have h2:=nQ b;have h3:=ahi hb;exact Le (by omega) (by omega)
theorem ae9(ha:bK a=true)(hb:bK b=true):zp a b=some ((!decide (di a b<0),()),()):=by
 rw[ae8,zo ha,zo hb];simp only[Option.bind_some];rw[CV,CV,C4 ha hb,C4 hb ha];have hs:=@wV a b;generalize a.2.1*dD b=x at *
 generalize b.2.1*dD a=y at *
 by_cases h1:x>y
 ·have:¬di a b<0:=λh=>by
   rcases hs.1 h with h|h<;>omega
  rw[decide_eq_true h1,decide_eq_false this];rfl
 ·rw[decide_eq_false h1];by_cases h2:x=y
  ·subst h2;simp only[cond_false,beq_self_eq_true,cond_true];cases h3:a.2.2
   ·cases h4:b.2.2
    ·have:¬di a b<0:=λh=>by
      rcases hs.1 h with h|h
      ·omega
      ·rw[h4]at h;exact absurd h.2.2 (by simp)
     rw[decide_eq_false this];rfl
    ·have:di a b<0:=hs.2 (.inr ⟨rfl,h3,h4⟩);rw[decide_eq_true this];rfl
   ·have:¬di a b<0:=λh=>by
     rcases hs.1 h with h|h
     ·omega
     ·rw[h3]at h;exact absurd h.2.1 (by simp)
    rw[decide_eq_false this];rfl
  ·have e:(x==y)=false:=by simpa using h2
   have:di a b<0:=hs.2 (.inl (by omega));rw[e,decide_eq_true this];rfl
theorem adq(ha:bK a=true)(hb:bK b=true)(hl:a.1.length=b.1.length):Sm a b=some ((ey a b,()),()):=by
 have e0:((a.1.length:Int) != (b.1.length:Int))=false:=by rw[hl];simp
 rw[adp,nK,nK,ha,hb,e0,Sy ha hb hl,y5 ha,y5 hb];simp only[Option.bind_some,Bool.not_true,cond_false];rw[C4 ha hb,C4 hb ha,SM];simp only[Option.bind_some];unfold ey di;by_cases h:bb a b=0
 ·rw[h];simp only[bne_self_eq_false,cond_false,ne_eq,not_true_eq_false,if_false];by_cases h2:jU (a.2.1*dD b) (b.2.1*dD a)=0
  ·rw[h2];simp only[bne_self_eq_false,cond_false,not_true_eq_false,if_false];cases a.2.2<;>cases b.2.2<;>rfl
  ·have e:(jU (a.2.1*dD b) (b.2.1*dD a) != 0)=true:=by simpa using h2
   rw[e,if_pos h2];rfl
 ·have e:(bb a b != 0)=true:=by simpa using h
  rw[e,if_pos h];rfl
theorem wX(h:n<=68719476736):decide ((0+n)*8<=140737488355328)=true:=by simp;omega
theorem gv{c:Nat}(h:n<=68719476736)(hc:c<=1000):decide ((n+1)*c<=140737488355328)=true:=by
 have:=Nat.mul_le_mul (show n+1<=68719476737 by omega) hc;simp;omega
theorem Ge(a:aa)(h:a.1.length<=68719476736):uv a=some ((a,()),()):=by
 rw[afd,wX h];rfl
theorem uc(a:aa)(h:a.1.length<=68719476736):q9 a=some ((a,()),()):=by
 rw[ad0,SA,wX h];rfl
theorem Il(l:List α):l.drop (Int.toNat 0)=l:=rfl
theorem Yn(h1:n<=m)(h2:m<=1000000):(decide ((0:Nat)<=0)&&decide (0<=(n:Int))&&decide ((n:Int)<=(m:Int)))=true:=by simp;omega
theorem Yo(h1:n<=m):(decide (0<=(n:Int))&&decide ((n:Int)<=(m:Int))&&decide ((m:Int)<=(m:Int)))=true:=by simp;omega
theorem amP{S:List α}(hi:i<S.length)(a:α):S.set i a=S.take i++a::S.drop (i+1):=by
 rw[List.set_eq_take_append_cons_drop,if_pos hi]
theorem Xz(hS:S.length<=1000000)(i:Nat):decide ((0+(List.drop (Int.toNat 0) (S.take i)).length)*40<=140737488355328)=true/\decide (((List.drop (Int.toNat 0) (S.take i)).length+1)*40<=140737488355328)=true /\
  ∀a:aa,decide (((List.drop (Int.toNat 0) (S.take i)++[a]).length+(S.drop i).length)*40<=140737488355328)=true:=by
 rw[Il];refine⟨?_,?_,λa=>?_⟩<;>simp only[List.length_append,List.length_take,List.length_drop,List.length_singleton,decide_eq_true_eq]<;>omega
theorem RI(ka:cS n a)(hV:∀s∈S,cS n s)(hS:S.length<=1000000):∀(m i:Nat),m+i=S.length ->
  yf S a (i:Int)=some ((S.take i++cT (S.drop i) a,()),())
 | 0,i,hm=>by
  obtain rfl:i=S.length:=by omega
  obtain⟨l1,l2,l3⟩:=Xz hS S.length;have l3:=l3 a;rw[RH,aV,Int.toNat_natCast];have et:S.take S.length=S:=List.take_of_length_le (Nat.le_refl _);simp only[cond_false,Yn (Nat.le_refl _) hS,Yo (Nat.le_refl S.length),et,cond_true]at l1 l2 l3 ⊢;rw[l1,l2,l3,Il];simp[cT]
 | m+1,i,hm=>by
  have hi:i<S.length:=by omega
  have ks:=hV _ (List.getElem_mem hi);have hl:S[i].1.length=a.1.length:=ks.2.1.trans ka.2.1.symm;have ajl:=afc ks.1 ka.1 hl;have aje:=ae9 ks.1 ka.1;obtain⟨l1,l2,l3⟩:=Xz hS i;have l3:=l3 a;have et:S.take S.length=S:=List.take_of_length_le (Nat.le_refl _);have l4:decide ((0+S.length)*40<=140737488355328)=true:=by simp;omega
  rw[RH,aR hi,aD hi,aN (by omega),Int.toNat_natCast];simp only[cond_true,Option.bind_some,ajl,aje,Yn (Nat.le_of_lt hi) hS,Yo (Nat.le_of_lt hi),et,l1,l2,l3,l4];rw[List.drop_eq_getElem_cons hi];simp only[cT];by_cases w:bb S[i] a<0
  ·rw[decide_eq_true w,if_pos w,cond_true,RI ka hV hS m (i+1) (by omega)];have e:S.take (i+1)=S.take i++[S[i]]:=by rw[List.take_add_one,List.getElem?_eq_getElem hi];rfl
   rw[e,List.append_assoc];rfl
  ·rw[decide_eq_false w,if_neg w,cond_false];by_cases w0:bb S[i] a=0
   ·have e:(bb S[i] a==0)=true:=by simpa using w0
    rw[e,if_pos w0,cond_true];by_cases st:di S[i] a<0
    ·rw[decide_eq_true st,if_pos st];simp only[Bool.not_true,cond_false];rw[amP hi]
    ·rw[decide_eq_false st,if_neg st];simp only[Bool.not_false,cond_true];rw[<-List.drop_eq_getElem_cons hi,List.take_append_drop]
   ·have e:(bb S[i] a==0)=false:=by simpa using w0
    rw[e,if_neg w0,cond_false,Il];simp
theorem afl(ka:cS n a)(hV:∀s∈S,cS n s)(hS:S.length<=1000000):zu S a=some ((cT S a,()),()):=by
 rw[afk];have:=RI ka hV hS S.length 0 (by omega);rw[Int.natCast_zero]at this;rw[this];simp
theorem Kz(a:aa):∀S:List aa,(cT S a).length<=S.length+1
 | []=>by simp[cT]
 | s::S=>by
  have:=Kz a S;simp only[cT];split
  ·simp;omega
  ·split
   ·split<;>simp
   ·simp
theorem amr(ka:cS n a)(hV:∀s∈S,cS n s):∀s∈cT S a,cS n s:=λs hs=>by
 rcases sL a S s hs with h|rfl
 ·exact hV s h
 ·exact ka
def fG(a:aa):Bool:=gl a.1 0==0&&(decide (a.2.1>0)||(a.2.1==0&&a.2.2))
def eu(a:aa):Bool:=gl a.1 0 != 0
def jO(d:Int):aB:=(d,[(List.replicate d.toNat (0:Int),1,false)])
def cu(d:Int)(l:List aa):aB:=bif l.any fG then jO d else (d,(l.filter eu).foldl cT [])
def bn(n:Nat)(a:aa):Prop:=bK a=true/\a.1.length=n
theorem Ko{n:Nat}(h:bn n a)(hv:eu a=true):cS n a:=⟨h.1,h.2,by unfold eu at hv;simpa using hv⟩
theorem XY(h0:0<=d)(h1:d<=1000):(decide (0<=d)&&decide (d<=d)&&decide (d*8<=140737488355328)&&decide (d<=9223372036854775807))=true:=by simp;omega
theorem Gf(h0:0<=d)(h1:d<=1000):zr d=some ((jO d,()),()):=by
 rw[afi,XY h0 h1];rfl
theorem F1(h0:0<=d)(h1:d<=1000):uf d=some ((jO d,()),()):=by
 rw[aed,XY h0 h1];rfl
theorem ye(h0:0<=d)(h1:d<=1000){l:List aa}(hV:∀a∈l,bn n a)(hl:l.length<=1000)(z:aB):∀(m i:Nat) (S:List aa),m+i=l.length->(∀s∈S,cS n s)->S.length<=i ->
  tW d l z (d,S) (i:Int)=some ((bif (l.drop i).any fG then jO d else (d,((l.drop i).filter eu).foldl cT S),()),())
 | 0,i,S,hm,_,_=>by
  obtain rfl:i=l.length:=by omega
  rw[RG,aV,List.drop_eq_nil_of_le (Nat.le_refl _)];rfl
 | m+1,i,S,hm,hS,hSl=>by
  have hi:i<l.length:=by omega
  have kv:=hV _ (List.getElem_mem hi);have h4:=(gi kv.1).1;rw[RG,aR hi,aD hi,aN (by omega)];simp only[cond_true,Option.bind_some];rw[SV _ (by omega),List.drop_eq_getElem_cons hi,List.any_cons,List.filter_cons];simp only[Option.bind_some];have ih:=λS h1 h2=>ye h0 h1 hV hl z m (i+1) S (by omega);cases hg:gl l[i].1 0==0
  ·have hv:eu l[i]=true:=by unfold eu bne;rw[hg];rfl
   have hb:fG l[i]=false:=by unfold fG;rw[hg];rfl
   have ka:=Ko kv hv;rw[hv,hb,cond_false,Ge _ (by omega)];simp only[Option.bind_some];rw[afl ka hS (by omega)];simp only[Option.bind_some];have:=ye h0 h1 hV hl z m (i+1) (cT S l[i]) (by omega) (amr ka hS) (by have:=Kz l[i] S;omega);rw[this];rfl
  ·have hv:eu l[i]=false:=by unfold eu bne;rw[hg];rfl
   rw[hv,cond_true,afa];have e1:fG l[i]=(decide (l[i].2.1>0)||(l[i].2.1==0&&l[i].2.2)):=by unfold fG;rw[hg];rfl
   rw[e1];have:=ye h0 h1 hV hl z m (i+1) S (by omega) hS (by omega);by_cases c1:l[i].2.1<0
   ·have c2:¬l[i].2.1>0:=by omega
    have c3:(l[i].2.1==0)=false:=by simp;omega
    rw[decide_eq_true c1,decide_eq_false c2,c3];simp only[cond_true,Option.bind_some,Bool.not_true,cond_false,Bool.false_and,Bool.or_self,Bool.false_or];rw[this];rfl
   ·rw[decide_eq_false c1];by_cases c3:l[i].2.1=0
    ·have c4:(l[i].2.1==0)=true:=by simpa using c3
     have c2:¬l[i].2.1>0:=by omega
     rw[decide_eq_false c2,c4];cases l[i].2.2
     ·simp only[cond_false,cond_true,Option.bind_some,Bool.not_true,Bool.not_false,Bool.and_false,Bool.or_self,Bool.false_or];rw[this];rfl
     ·simp only[cond_false,cond_true,Option.bind_some,Bool.not_true,Bool.not_false,Bool.and_true,Bool.or_true,Bool.true_or];rw[Gf h0 h1];rfl
    ·have c4:(l[i].2.1==0)=false:=by simpa using c3
     have c2:l[i].2.1>0:=by omega
     rw[decide_eq_true c2,c4];simp only[cond_false,cond_true,Option.bind_some,Bool.not_false,Bool.true_or];rw[Gf h0 h1];rfl
theorem zt{n:Nat}{d:Int}(h0:0<=d)(h1:d<=1000){l:List aa}(hV:∀a∈l,bn n a)(hl:l.length<=1000):oT d l=some ((cu d l,()),()):=by
 rw[afj];have:=ye h0 h1 hV hl (0,[]) l.length 0 [] (by omega) (by simp) (by simp);rw[Int.natCast_zero]at this;rw[this];rfl
abbrev td:Ty:=.pair (.slice 3 ak) (.pair ak aM)
theorem H6(ha:bn n a)(hb:bn n b):ny (a,(b,()))=some ((fH td ny a b,()),()) /\
  fH td ny a b=ey a b:=by
 have h:ny (a,(b,()))=some ((ey a b,()),()):=adq ha.1 hb.1 (ha.2.trans hb.2.symm);have e:fH td ny a b=ey a b:=by
  unfold fH;rw[h]
 exact⟨by rw[e];exact h,e⟩
theorem alX{V:α->Prop}{cf cg:α->α->Int}(h:oJ V cf){W:α->Prop}(hW:∀x,W x->V x)(he:∀x y,W x->W y->cg x y=cf x y):oJ W cg:=by
 refine⟨λx hx=>?_,λx y z hx hy hz h1 h2=>?_,λx y z hx hy hz h1 h2=>?_,λx y hx hy h1 h2=>?_⟩
 ·rw[he x x hx hx];exact h.irrefl x (hW x hx)
 ·rw[he _ _ hx hy]at h1;rw[he _ _ hy hz]at h2;rw[he _ _ hx hz];exact h.trans x y z (hW _ hx) (hW _ hy) (hW _ hz) h1 h2
 ·rw[he _ _ hx hy]at h1;rw[he _ _ hy hz]at h2;rw[he _ _ hx hz];exact h.ntrans x y z (hW _ hx) (hW _ hy) (hW _ hz) h1 h2
 ·rw[he _ _ hx hy]at h1;rw[he _ _ hy hx]at h2;exact h.Hv x y (hW _ hx) (hW _ hy) h1 h2
theorem amW{K:List aa}(hV:∀a∈K,cS n a)(hl:K.length<=1000000):
  S1 K (Value.func (Fn.func 168) #[] #[])=some ((),eS ey K,()):=by
 have hv:∀a∈K,bn n a:=λa ha=>⟨(hV a ha).1,(hV a ha).2.1⟩;have hO:oJ (λa=>a∈K) (fH td ny):=
  alX (@Db n) (λa ha=>hV a ha) (λx y hx hy=>(H6 (hv x hx) (hv y hy)).2)
 have hs:eS ey K=eS (fH td ny) K:=by
  have hp:=qk ey K;refine Y3 hO (λa ha=>ha) hp ?_;have:=KO (@Db n) hV;refine List.Pairwise.imp_of_mem (λ{a b} ha hb h=>?_) this;rw[(H6 (hv b (hp.mem_iff.1 hb)) (hv a (hp.mem_iff.1 ha))).2];exact h
 show sV 66 td 2 168 _ (K,(Value.func (Fn.func 168) #[] #[],()))=_;unfold sV;rw[if_pos ⟨rfl,⟨λa ha b hb=>(H6 (hv a ha) (hv b hb)).1,hO⟩,Nat.lt_of_le_of_lt hl (by decide)⟩];rw[hs];rfl
theorem Q0{d:Int}{K:List aa}(hV:∀a∈K,cS n a)(hl:K.length<=1000)(z:aB):∀(m i:Nat) (out:List aa),m+i=K.length->out.length<=i ->
  qP z ((i:Int),K) (d,out) (K.length:Int) (i:Int)=some (((d,out++fb (K.drop i)),()),())
 | 0,i,out,hm,_=>by
  obtain rfl:i=K.length:=by omega
  rw[QZ];dsimp only;rw[aV,List.drop_eq_nil_of_le (Nat.le_refl _),cond_false];simp[fb]
 | m+1,i,out,hm,ho=>by
  have hi:i<K.length:=by omega
  have k1:=hV _ (List.getElem_mem hi);have ei:((i:Int)+1)=((i+1:Nat):Int):=by omega
  have dd:(V.dead.idle&&decide ((i:Int)<=(i:Int)))=true:=by simp[V.idle,V.aJ]
  have sz:decide ((out.length+1)*40<=140737488355328)=true:=gv (by omega) (by omega);rw[QZ];dsimp only;rw[aR hi,aD hi,dd,aN (by omega),sz,ei];simp only[cond_true,Option.bind_some];have ih:=λout h=>Q0 (d:=d) hV hl z m (i+1) out (by omega) h;by_cases h2:i+1<K.length
  ·have k2:=hV _ (List.getElem_mem h2);have e2:decide (((i+1:Nat):Int)<=((i+1:Nat):Int))=true:=by simp
   rw[aR h2,aD h2,e2];simp only[cond_true,Option.bind_some];rw[Sy k1.1 k2.1 (k1.2.1.trans k2.2.1.symm)];simp only[Option.bind_some];rw[List.drop_eq_getElem_cons hi,List.drop_eq_getElem_cons h2];simp only[fb];rw[<-List.drop_eq_getElem_cons h2];by_cases w:bb K[i] K[i+1]=0
   ·have e:(bb K[i] K[i+1]==0)=true:=by simpa using w
    rw[e,if_pos w,cond_true,ih out (by omega)]
   ·have e:(bb K[i] K[i+1]==0)=false:=by simpa using w
    rw[e,if_neg w,cond_false,ih (out++[K[i]]) (by simp;omega),List.append_assoc];rfl
  ·have hz:i+1=K.length:=by omega
   have e2:decide (((i+1:Nat):Int)<(K.length:Int))=false:=by simp;omega
   rw[e2,cond_false,ih (out++[K[i]]) (by simp;omega),List.drop_eq_getElem_cons hi,List.drop_eq_nil_of_le (by omega)];simp[fb]
def Km(d:Int)(l:List aa):aB:=bif l.any fG then jO d else (d,fb (eS ey (l.filter eu)))
theorem Ea{d:Int}(h0:0<=d)(h1:d<=1000)(hV:∀a∈l,bn n a)(hl:l.length<=1000)(z:aB):∀(m i:Nat) (K:List aa),m+i=l.length->(∀s∈K,cS n s)->K.length<=i ->
  qQ d l z K l (l.length:Int) (i:Int)=some ((bif (l.drop i).any fG then jO d else (d,fb (eS ey (K++(l.drop i).filter eu))),()),())
 | 0,i,K,hm,hK,hKl=>by
  obtain rfl:i=l.length:=by omega
  rw[Q1,aV,List.drop_eq_nil_of_le (Nat.le_refl _),cond_false,amW hK (by omega)];simp only[Option.bind_some,List.any_nil,cond_false,List.filter_nil,List.append_nil];have hp:=qk ey K;have:=Q0 (d:=d) (K:=eS ey K) (λa ha=>hK a (hp.mem_iff.1 ha)) (by rw[hp.length_eq];omega) z (eS ey K).length 0 [] (by omega) (by simp);rw[Int.natCast_zero]at this;rw[this];simp
 | m+1,i,K,hm,hK,hKl=>by
  have hi:i<l.length:=by omega
  have kv:=hV _ (List.getElem_mem hi);have h4:=(gi kv.1).1;rw[Q1,aR hi,aD hi,aN (by omega)];simp only[cond_true,Option.bind_some];rw[SG kv.1,List.drop_eq_getElem_cons hi,List.any_cons,List.filter_cons];simp only[Option.bind_some];cases hg:gl l[i].1 0==0
  ·have hv:eu l[i]=true:=by unfold eu bne;rw[hg];rfl
   have cH:(gl l[i].1 0 != 0)=true:=hv;have hb:fG l[i]=false:=by unfold fG;rw[hg];rfl
   have ka:=Ko kv hv;rw[hv,cH,hb,Bool.not_true,cond_false,uc _ (by omega)];simp only[Option.bind_some];rw[gv (by omega) (by omega),cond_true];have:=Ea h0 h1 hV hl z m (i+1) (K++[l[i]]) (by omega) (λs hs=>by
    rcases List.mem_append.1 hs with h|h
    ·exact hK s h
    ·rw[List.mem_singleton.1 h];exact ka) (by simp;omega)
   rw[this];simp
  ·have hv:eu l[i]=false:=by unfold eu bne;rw[hg];rfl
   have cH:(gl l[i].1 0 != 0)=false:=hv;rw[hv,cH,Bool.not_false,cond_true];have e1:fG l[i]=(decide (l[i].2.1>0)||(l[i].2.1==0&&l[i].2.2)):=by unfold fG;rw[hg];rfl
   rw[e1];have:=Ea h0 h1 hV hl z m (i+1) K (by omega) hK (by omega);cases c1:decide (l[i].2.1>0)
   ·cases c2:l[i].2.1==0
    ·simp only[cond_false,Bool.false_and,Bool.or_self,Bool.false_or];rw[this];rfl
    ·cases c3:l[i].2.2
     ·simp only[cond_false,cond_true,Bool.and_false,Bool.or_self,Bool.false_or];rw[this];rfl
     ·simp only[cond_false,cond_true,Bool.and_true,Bool.or_true,Bool.true_or];rw[F1 h0 h1];rfl
   ·simp only[cond_true,Bool.true_or];rw[F1 h0 h1];rfl
theorem aeu(h0:0<=d)(h1:d<=1000)(hV:∀a∈l,bn n a)(hl:l.length<=1000):oO d l=some ((Km d l,()),()):=by
 rw[aet];have:=Ea h0 h1 hV hl (0,[]) l.length 0 [] (by omega) (by simp) (by simp);rw[Int.natCast_zero]at this;rw[this];rfl
theorem norm_eq{n:Nat}(hV:∀a∈l,bn n a)(hm:∀a,a∈l↔a∈l'):Km d l=cu d l':=by
 have e1:l.any fG=l'.any fG:=by
  rw[Bool.eq_iff_iff,List.any_eq_true,List.any_eq_true];exact⟨λ⟨x,hx,h⟩=>⟨x,(hm x).1 hx,h⟩,λ⟨x,hx,h⟩=>⟨x,(hm x).2 hx,h⟩⟩
 have e2:fb (eS ey (l.filter eu))=(l'.filter eu).foldl cT []:=alO (n:=n) (λa ha=>Ko (hV a (List.mem_filter.1 ha).1) (List.mem_filter.1 ha).2) (λa=>by
  rw[List.mem_filter,List.mem_filter,hm a])
 unfold Km cu;rw[e1,e2]
theorem UE{g:Nat}(hg:g<=4000000000000000000)(hy:y.natAbs<=4000000000000000000):Nat.gcd g y.natAbs<=4000000000000000000:=by
 by_cases h0:g=0
 ·subst h0;rw[Nat.gcd_zero_left];exact hy
 ·exact Nat.le_trans (Nat.gcd_le_left _ (Nat.pos_of_ne_zero h0)) hg
theorem UL:∀(x:List Int) (g:Nat),(∀y∈x,y.natAbs<=4000000000000000000)->g<=4000000000000000000->gl x g<=4000000000000000000
 | [],g,_,hg=>hg
 | a::x,g,h,hg=>UL x (Nat.gcd g a.natAbs) (λy hy=>h y (List.mem_cons_of_mem _ hy)) (UE hg (h a (by simp)))
theorem Rv(x:List Int)(hl:x.length<=68719476736)(hx:∀y∈x,y.natAbs<=4000000000000000000):∀(n i g:Nat),n+i=x.length->qX x (g:Int) (i:Int)=some ((((gl (x.drop i) g:Nat):Int),()),())
 | 0,i,g,hn=>by
  obtain rfl:i=x.length:=by omega
  rw[ya,aV,List.drop_eq_nil_of_le (by omega)];rfl
 | n+1,i,g,hn=>by
  have hi:i<x.length:=by omega
  rw[ya,aR hi,aD hi,cond_true,Option.bind_some,Th (hx _ (List.getElem_mem hi)),Option.bind_some,Eh x i _ _ _ (Nat.le_refl _) (Int.natCast_nonneg _) (Int.natCast_nonneg _),aN (by omega),Rv x hl hx n (i+1) _ (by omega),List.drop_eq_getElem_cons hi];simp only[Int.natAbs_natCast];rfl
theorem ae6(x:List Int)(k:Int)(hl:x.length<=68719476736)(hx:∀y∈x,y.natAbs<=4000000000000000000)(hk:k.natAbs<=4000000000000000000):oS x k=some ((((gl x k.natAbs:Nat):Int),()),()):=by
 rw[SX,Th hk,Option.bind_some];have:=Rv x hl hx x.length 0 k.natAbs (by omega);simpa using this
theorem QS(x:List Int)(hl:x.length<=68719476736)(hx:∀y∈x,y.natAbs<=4000000000000000000):∀(n i g:Nat),n+i=x.length->g<=4000000000000000000->tL x (g:Int) x (x.length:Int) (i:Int)=some ((((gl (x.drop i) g:Nat):Int),()),())
 | 0,i,g,hn,_=>by
  obtain rfl:i=x.length:=by omega
  rw[xP,aV,List.drop_eq_nil_of_le (by omega)];rfl
 | n+1,i,g,hn,hg=>by
  have hi:i<x.length:=by omega
  have hy:=hx _ (List.getElem_mem hi);rw[xP,aR hi,aD hi,cond_true,Option.bind_some,Sv (by simpa using hg) hy,Option.bind_some,aN (by omega)];simp only[Int.natAbs_natCast];rw[QS x hl hx n (i+1) _ (by omega) (UE hg hy),List.drop_eq_getElem_cons hi];rfl
theorem aeb(x:List Int)(hl:x.length<=68719476736)(hx:∀y∈x,y.natAbs<=4000000000000000000):l9 x=some ((((gl x 0:Nat):Int),()),()):=by
 rw[SD];have:=QS x hl hx x.length 0 0 (by omega) (by omega);simpa using this
def iA(g:Nat):Int:=if g=0 then 1 else (g:Int)
def fx(x:List Int)(k:Int)(st:Bool):aa×Bool :=
 bif bK (x.map (λy=>y.tdiv (iA (gl x k.natAbs))),k.tdiv (iA (gl x k.natAbs)),st)then ((x.map (λy=>y.tdiv (iA (gl x k.natAbs))),k.tdiv (iA (gl x k.natAbs)),st),true)else (([],0,false),false)
theorem Yq(g:Nat):(iA g != 0)=true:=by
 unfold iA;split
 ·rfl
 ·simp;omega
theorem aly(g:Nat):(bif true then if 1<(g:Int)then (g:Int)else 1 else if (g:Int)<1 then (g:Int)else 1)=iA g:=by
 simp only[cond_true];unfold iA;by_cases h:g=0
 ·rw[if_pos h,h];rfl
 ·rw[if_neg h];by_cases h2:1<(g:Int)
  ·rw[if_pos h2]
  ·rw[if_neg h2];omega
theorem w6{D:Int}(h:y.natAbs<=4000000000000000000):IntKind.i64.wrap (y.tdiv D)=y.tdiv D:=by
 have h2:(y.tdiv D).natAbs<=y.natAbs:=tdiv_le y D;exact ca (by omega) (by omega)
theorem Ul(x:List α)(g:α->β)(E:List β->Option R)(f:List β->Int->Option R)
  (h1:∀(i:Nat) (hi:i<x.length) (v:List β),v.length=x.length->f v (i:Int)=f (v.set i (g x[i])) ((i+1:Nat):Int)) (h2:∀v,v.length=x.length->f v (x.length:Int)=E v) :
  ∀(n i:Nat) (v:List β),n+i=x.length->v.length=x.length->f v (i:Int)=E (v.take i++(x.drop i).map g)
 | 0,i,v,hn,hv=>by
  obtain rfl:i=x.length:=by omega
  rw[h2 v hv,List.take_of_length_le (by omega),List.drop_eq_nil_of_le (by omega)];simp
 | n+1,i,v,hn,hv=>by
  have hi:i<x.length:=by omega
  rw[h1 i hi v hv,Ul x g E f h1 h2 n (i+1) _ (by omega) (by simpa using hv)];congr 1;have e1:(v.set i (g x[i])).take (i+1)=v.take i++[g x[i]]:=by
   rw[List.take_add_one,List.take_set_of_le (by omega)];simp[hv,hi]
  rw[e1,List.append_assoc,List.drop_eq_getElem_cons hi,List.map_cons];rfl
theorem Is(x:List α)(g:α->β)(E:List β->Option R)(f:List β->Int->Option R)
  (h1:∀(i:Nat) (hi:i<x.length) (v:List β),v.length=x.length->f v (i:Int)=f (v.set i (g x[i])) ((i+1:Nat):Int)) (h2:∀v,v.length=x.length->f v (x.length:Int)=E v) (v:List β) (hv:v.length=x.length):f v 0=E (x.map g):=by
 have:=Ul x g E f h1 h2 x.length 0 v (by omega) hv;rw[Int.natCast_zero]at this;rw[this];simp
theorem oZ(x:List α)(g:α->β)(E:List β->Option R)(f:List β->Int->Option R)
  (h1:∀(i:Nat) (hi:i<x.length) (o:List β),o.length=i->f o (i:Int)=f (o++[g x[i]]) ((i+1:Nat):Int)) (h2:∀o,f o (x.length:Int)=E o):f [] 0=E (x.map g):=by
 have key:∀(n i:Nat) (o:List β),n+i=x.length->o.length=i->f o (i:Int)=E (o++(x.drop i).map g):=by
  intro n;induction n with
  | zero =>
   intro i o hn ho;obtain rfl:i=x.length:=by omega
   rw[h2,List.drop_eq_nil_of_le (by omega)];simp
  | succ n ih =>
   intro i o hn ho;have hi:i<x.length:=by omega
   rw[h1 i hi o ho,ih (i+1) _ (by omega) (by simp;omega),List.drop_eq_getElem_cons hi,List.map_cons,List.append_assoc];rfl
 have:=key x.length 0 [] (by omega) rfl;rw[Int.natCast_zero]at this;rw[this];simp
theorem SK{x:List Int}{k:Int}{st:Bool}(hl:x.length<=1000)(hx:∀y∈x,y.natAbs<=4000000000000000000)(hk:k.natAbs<=4000000000000000000):ma x k st=some (((fx x k st).1,(fx x k st).2,()),()):=by
 have hg:=UL x 0 hx (by omega);have iR:=nm (R:=Option ((aa×Bool×PUnit)×PUnit)) x 8 (by omega) (by omega) (by omega);have loop:∀D:Int,(D != 0)=true->qO x ([],0,false) D (List.replicate x.length (0:Int),k.tdiv D,st) x (x.length:Int) 0=(bif bK (x.map (λy=>y.tdiv D),k.tdiv D,st)then some (((x.map (λy=>y.tdiv D),k.tdiv D,st),true,()),())else some ((([],0,false),false,()),())):=by
  intro D hD;refine Is x (λy=>y.tdiv D) (λv=>(bif bK (v,k.tdiv D,st)then some (((v,k.tdiv D,st),true,()),())else some ((([],0,false),false,()),()))) (λv i=>qO x ([],0,false) D (v,k.tdiv D,st) x (x.length:Int) i) (λi hi v hv=>?_) (λv hv=>?_) _ (by simp)
  ·rw[QY,aR hi,aD hi,aN (by omega),hD];simp only[cond_true,Option.bind_some];rw[aD (by omega),w6 (hx _ (List.getElem_mem hi)),Int.toNat_natCast];simp only[Option.bind_some]
  ·rw[QY,aV,cond_false,nK];simp only[Option.bind_some];cases bK (v,k.tdiv D,st)<;>rfl
 rw[aer,aeb x (by omega) hx];simp only[Option.bind_some];rw[Sv (by simpa using hg) hk];simp only[Option.bind_some,Int.natAbs_natCast];rw[<-IE];unfold fx;by_cases h0:gl x k.natAbs=0
 ·have e:iA (gl x k.natAbs)=1:=by unfold iA;rw[if_pos h0]
  rw[e,h0];have e2:(((0:Nat):Int)==0)=true:=rfl;rw[e2,cond_true,iR,w6 hk,loop 1 rfl];cases bK (x.map (λy=>y.tdiv 1),k.tdiv 1,st)<;>rfl
 ·have e:iA (gl x k.natAbs)=((gl x k.natAbs:Nat):Int):=by unfold iA;rw[if_neg h0]
  have e2:(((gl x k.natAbs:Nat):Int)==0)=false:=by simpa using h0
  have e3:(((gl x k.natAbs:Nat):Int) != 0)=true:=by simpa using h0
  rw[e,e2,cond_false,iR,e3,cond_true,w6 hk,loop _ e3];cases bK (x.map (λy=>y.tdiv ((gl x k.natAbs:Nat):Int)),k.tdiv ((gl x k.natAbs:Nat):Int),st)<;>rfl
theorem SU{x:List Int}{k:Int}{st:Bool}(hl:x.length<=1000)(hx:∀y∈x,y.natAbs<=4000000000000000000)(hk:k.natAbs<=4000000000000000000):mc x k st=some (((fx x k st).1,(fx x k st).2,()),()):=by
 have loop:∀D:Int,(D != 0)=true->tS x ([],0,false) D ([],k.tdiv D,st) 0=(bif bK (x.map (λy=>y.tdiv D),k.tdiv D,st)then some (((x.map (λy=>y.tdiv D),k.tdiv D,st),true,()),())else some ((([],0,false),false,()),())):=by
  intro D hD;refine oZ x (λy=>y.tdiv D) (λv=>(bif bK (v,k.tdiv D,st)then some (((v,k.tdiv D,st),true,()),())else some ((([],0,false),false,()),()))) (λv i=>tS x ([],0,false) D (v,k.tdiv D,st) i) (λi hi v hv=>?_) (λv=>?_)
  ·have hs:decide ((v.length+1)*8<=140737488355328)=true:=gv (by omega) (by omega);rw[Rt,aR hi,aD hi,aN (by omega),hD];simp only[cond_true,Option.bind_some];rw[hs,cond_true,w6 (hx _ (List.getElem_mem hi))]
  ·rw[Rt,aV,cond_false,rh];simp only[Option.bind_some];cases bK (v,k.tdiv D,st)<;>rfl
 rw[ae4,ae6 x k (by omega) hx hk];simp only[Option.bind_some];rw[aly,Yq,cond_true,w6 hk,loop _ (Yq _)];unfold fx;cases bK _<;>rfl
theorem XZ{x:List Int}{k:Int}{st:Bool}(h:(fx x k st).2=true):bn x.length (fx x k st).1:=by
 unfold fx at *
 cases ha:bK (x.map (λy=>y.tdiv (iA (gl x k.natAbs))),k.tdiv (iA (gl x k.natAbs)),st)
 ·rw[ha]at h;cases h
 ·exact⟨ha,by simp⟩
theorem Ut:∀(l S:List aa),(l.foldl cT S).length<=S.length+l.length
 | [],S=>by simp
 | a::l,S=>by
  have:=Ut l (cT S a);have h2:=Kz a S;simp only[List.foldl_cons,List.length_cons];omega
theorem Iz:∀(l S:List aa),∀s∈l.foldl cT S,s∈S\/s∈l
 | [],S,s,h=>.inl h
 | a::l,S,s,h=>by
  rcases Iz l (cT S a) s h with h|h
  ·rcases sL a S s h with h|rfl
   ·exact .inl h
   ·exact .inr (by simp)
  ·exact .inr (by simp[h])
theorem DH(f:α->Nat)(n:Nat):∀l:List α,(∀a∈l,f a<=n)->zL f l<=l.length*(n+1)
 | [],_=>by simp[zL]
 | a::l,h=>by
  have h1:=h a (by simp);have h2:=DH f n l (λb hb=>h b (by simp[hb]));simp only[zL,List.length_cons,List.map_cons,List.sum_cons,Nat.add_mul,Nat.one_mul]at h2 ⊢;omega
theorem alU(h:bn n a):zA a<=4:=by
 have:=(gi h.1).1;unfold zA zI;exact this
def xl:aB:=(0,[])
def bu(a:aa)(v:Nat):Int:=a.1.getD v 0
def iv(a:aa)(p:Int)(b:aa)(q:Int):aa×Bool:=fx (List.zipWith (λx y=>p*x+q*y) a.1 b.1) (p*a.2.1+q*b.2.1) (a.2.2&&p != 0||b.2.2&&q != 0)
def jM(d:Int)(l:List aa):aB×Bool:=bif decide ((cu d l).2.length>16)then (xl,false)else (cu d l,true)
def gb(v:Nat)(a:aa):List aa->List aa->Option (List aa)
 | [],o=>some o
 | b::l,o=>bif decide (bu b v>=0)then gb v a l o else bif (iv a (0 - bu b v) b (bu a v)).2 then gb v a l (o++[(iv a (0 - bu b v) b (bu a v)).1])else none
def jb(v:Nat)(L:List aa):List aa->List aa->Option (List aa)
 | [],o=>some o
 | a::l,o=>bif decide (bu a v<=0)then jb v L l o else match gb v a L o with
  | some o=>jb v L l o
  | none=>none
def uU(v:Nat)(L:List aa):Option (List aa):=jb v L L (L.filter λa=>bu a v==0)
def dM(c:aB)(v:Nat):aB×Bool:=match uU v c.2 with
 | some l=>jM c.1 l
 | none=>(xl,false)
def nT:Nat->aB->Option aB
 | 0,c=>some c
 | n+1,c=>bif (dM c n).2 then nT n (dM c n).1 else none
def Ip(c:aB):Bool×Bool:=match nT c.1.toNat c with
 | some r=>(decide (r.2.length>0),true)
 | none=>(false,false)
def iL(c:aB):Bool×Bool:=bif bH c then Ip (cu c.1 c.2)else (false,false)
def ix(a:aa):aa×Bool:=bif bK a then ((a.1.map (λx=>0 - x),0 - a.2.1,!a.2.2),true)else (([],0,false),false)
def en(a b:aB):aB×Bool:=bif bH a&&(bH b&&a.1==b.1)then jM a.1 (a.2++b.2)else (xl,false)
def jJ(c:aB)(a:aa):Bool×Bool:=bif (ix a).2&&(en c ((a.1.length:Int),[(ix a).1])).2 then iL (en c ((a.1.length:Int),[(ix a).1])).1 else (false,false)
def kF(d:Int):List aa->List aa->Option (List aa)
 | pre,[]=>some pre
 | pre,a::post=>bif (jJ (d,pre++post) a).2 then (bif (jJ (d,pre++post) a).1 then kF d pre post else kF d (pre++[a]) post)else none
def oq(c:aB):Option aB:=bif (iL c).2 then (bif (iL c).1 then some (jO c.1)else (kF c.1 [] c.2).map λl=>(c.1,l))else none
def kE(c:aB):Option aB:=bif bH c then oq (cu c.1 c.2)else none
theorem cA:bH c=true↔(∀a∈c.2,bn c.1.toNat a)/\0<=c.1/\c.1<=4/\c.2.length<=16:=by
 unfold bH bn;simp only[Bool.and_eq_true,List.all_eq_true,decide_eq_true_eq,Bool.not_eq_true',bne_eq_false_iff_eq];constructor
 ·rintro⟨h1,⟨h2,h3⟩,h4⟩
  exact⟨λa ha=>⟨(h1 a ha).1,by have:=(h1 a ha).2;omega⟩,h2,h3,by omega⟩
 ·rintro⟨h1,h2,h3,h4⟩
  exact⟨λa ha=>⟨(h1 a ha).1,by have:=(h1 a ha).2;omega⟩,⟨h2,h3⟩,by omega⟩
theorem alN(d:Int)(l:List aa):(cu d l).2.length<=max 1 l.length:=by
 unfold cu;cases l.any fG with
 | true=>simp[jO];omega
 | false =>
  have h1:=Ut (l.filter eu) [];have h2:=List.length_filter_le eu l;simp only[cond_false,List.length_nil]at h1 ⊢;omega
theorem Yj{d:Int}(h0:0<=d)(h1:d<=4):bn d.toNat ((List.replicate d.toNat (0:Int),1,false):aa):=by
 obtain⟨n,rfl⟩:∃n:Nat,d=n:=⟨d.toNat,by omega⟩;have:n=0\/n=1\/n=2\/n=3\/n=4:=by omega
 refine⟨?_,by simp⟩;rcases this with rfl|rfl|rfl|rfl|rfl<;>decide
theorem Yk{d:Int}(hd:d=n)(h1:d<=4)(h:∀a∈l,bn n a):∀a∈(cu d l).2,bn n a:=by
 intro a ha;unfold cu at ha;cases hb:l.any fG with
 | true =>
  rw[hb]at ha;simp only[cond_true,jO,List.mem_singleton]at ha;subst ha;have:=Yj (d:=d) (by omega) h1
  rwa [show d.toNat=n by omega]at this ⊢
 | false =>
  rw[hb]at ha;rcases Iz _ _ a ha with h2|h2
  ·cases h2
  ·exact h a (List.mem_filter.1 h2).1
theorem iy(d:Int)(l:List aa):(cu d l).1=d:=by
 unfold cu;cases l.any fG<;>rfl
theorem sF(h:bH c=true):bH (cu c.1 c.2)=true:=by
 obtain⟨h1,h2,h3,h4⟩:=cA.1 h;rw[cA,iy];exact⟨Yk (by omega) h3 h1,h2,h3,by have:=alN c.1 c.2;omega⟩
theorem XE{l:List aa}(h0:0<=d)(h1:d<=4)(h:∀a∈l,bn d.toNat a)(hk:(jM d l).2=true):bH (jM d l).1=true/\(jM d l).1=cu d l:=by
 unfold jM at *
 cases hc:decide ((cu d l).2.length>16)with
 | true=>rw[hc]at hk;cases hk
 | false =>
  refine⟨?_,rfl⟩;rw[cond_false,cA,iy];exact⟨Yk (by omega) h1 h,h0,h1,Nat.le_of_not_lt (of_decide_eq_false hc)⟩
theorem XN{a b:aB}(h:(en a b).2=true):bH (en a b).1=true/\(en a b).1=cu a.1 (a.2++b.2)/\bH a=true/\bH b=true/\a.1=b.1:=by
 unfold en at *
 cases hc:bH a&&(bH b&&a.1==b.1)with
 | false=>rw[hc]at h;cases h
 | true =>
  rw[hc]at h;simp only[Bool.and_eq_true,beq_iff_eq]at hc;obtain⟨ha,hb,hd⟩:=hc;have a1:=cA.1 ha;have b1:=cA.1 hb;have:=XE (l:=a.2++b.2) a1.2.1 a1.2.2.1 (λx hx=>by
   rcases List.mem_append.1 hx with hx|hx
   ·exact a1.1 x hx
   ·rw[hd];exact b1.1 x hx) h
  exact⟨this.1,this.2,ha,hb,hd⟩
theorem alA(ha:bn n a)(hb:bn n b)(h:(iv a p b q).2=true):bn n (iv a p b q).1:=by
 have:=XZ h
 rwa [List.length_zipWith,ha.2,hb.2,Nat.min_self]at this
theorem wo(ha:bn n a):∀(l o r:List aa),(∀x∈l,bn n x)->(∀x∈o,bn n x)->gb v a l o=some r->∀x∈r,bn n x
 | [],o,r,_,ho,h=>by simp only[gb,Option.some.injEq]at h;subst h;exact ho
 | b::l,o,r,hl,ho,h=>by
  simp only[gb]at h;have dI:∀x∈l,bn n x:=λx hx=>hl x (by simp[hx]);cases hc:decide (bu b v>=0)with
  | true=>rw[hc]at h;exact wo ha l o r dI ho h
  | false =>
   rw[hc]at h;cases hm:(iv a (0 - bu b v) b (bu a v)).2 with
   | false=>rw[hm]at h;cases h
   | true =>
    rw[hm]at h;refine wo ha l _ r dI (λx hx=>?_) h;rcases List.mem_append.1 hx with hx|hx
    ·exact ho x hx
    ·rw[List.mem_singleton.1 hx];exact alA ha (hl b (by simp)) hm
theorem J9{L:List aa}(hL:∀x∈L,bn n x):∀(l o r:List aa),(∀x∈l,bn n x)->(∀x∈o,bn n x)->jb v L l o=some r->∀x∈r,bn n x
 | [],o,r,_,ho,h=>by simp only[jb,Option.some.injEq]at h;subst h;exact ho
 | a::l,o,r,hl,ho,h=>by
  simp only[jb]at h;have dI:∀x∈l,bn n x:=λx hx=>hl x (by simp[hx]);cases hc:decide (bu a v<=0)with
  | true=>rw[hc]at h;exact J9 hL l o r dI ho h
  | false =>
   rw[hc,cond_false]at h;cases hm:gb v a L o with
   | none=>rw[hm]at h;cases h
   | some o2 =>
    rw[hm]at h;exact J9 hL l o2 r dI (wo (hl a (by simp)) L o o2 hL ho hm) h
theorem ahl{L r:List aa}(hL:∀x∈L,bn n x)(h:uU v L=some r):∀x∈r,bn n x :=
 J9 hL L _ r hL (λx hx=>hL x (List.mem_filter.1 hx).1) h
theorem Im(hc:bH c=true)(h:(dM c v).2=true):bH (dM c v).1=true/\(dM c v).1.1=c.1:=by
 obtain⟨h1,h2,h3,h4⟩:=cA.1 hc;unfold dM at *
 cases hd:uU v c.2 with
 | none=>rw[hd]at h;cases h
 | some l =>
  rw[hd]at h;have:=XE h2 h3 (ahl h1 hd) h;exact⟨this.1,by rw[this.2,iy]⟩
abbrev Qt:=_root_.Rat
def dot:List Int->List Qt->Qt
 | c::cs,x::xs=>(c:Qt)*x+dot cs xs
 | _,_=>0
def lhs(a:aa)(x:List Qt):Qt:=dot a.1 x+(a.2.1:Qt)
theorem Yl(h:dc y=true):y.natAbs<=400000000:=by
 have:=C8 h;omega
theorem eD(h:bn n a):(∀y∈a.1,y.natAbs<=400000000)/\a.2.1.natAbs<=400000000/\a.1.length<=4:=by
 obtain⟨h1,h2,h3⟩:=gi h.1;exact⟨λy hy=>Yl (h3 y hy),Yl h2,h1⟩
def nj(a:aa)(p:Int)(b:aa)(q:Int):List Int:=List.zipWith (λx y=>p*x+q*y) a.1 b.1
theorem J8(a:aa)(p:Int)(b:aa)(q:Int):(List.zip a.1 b.1).map (λz=>p*z.1+q*z.2)=nj a p b q:=by
 unfold nj List.zip;rw[List.map_zipWith]
theorem sy{x:Int}(hp:p.natAbs<=400000000)(hq:q.natAbs<=400000000)(hx:x.natAbs<=400000000)(hy:y.natAbs<=400000000):
  (p*x+q*y).natAbs<=400000000000000000/\IntKind.i64.wrap (IntKind.i64.wrap (p*x)+IntKind.i64.wrap (q*y))=p*x+q*y:=by
 have h1:=Kw hp hx;have h2:=Kw hq hy;rw[Le hp hx,Le hq hy];exact⟨by omega,ca (by omega) (by omega)⟩
theorem XU(ha:bn n a)(hb:bn n b)(hp:p.natAbs<=400000000)(hq:q.natAbs<=400000000):
  (nj a p b q).length<=1000/\(∀y∈nj a p b q,y.natAbs<=4000000000000000000)/\(p*a.2.1+q*b.2.1).natAbs<=4000000000000000000:=by
 obtain⟨a1,a2,a3⟩:=eD ha;obtain⟨b1,b2,b3⟩:=eD hb;refine⟨by unfold nj;rw[List.length_zipWith];omega,λy hy=>?_,?_⟩
 ·rw[<-J8]at hy;obtain⟨⟨u,v⟩,hz,rfl⟩:=List.mem_map.1 hy;have hm:=List.of_mem_zip hz;have:=(sy hp hq (a1 u hm.1) (b1 v hm.2)).1;dsimp only;omega
 ·have:=(sy hp hq a2 b2).1;omega
theorem Zw(ha:bn n a)(hb:bn n b)(hi:i<(List.zip a.1 b.1).length):∃(h1:i<a.1.length) (h2:i<b.1.length),(List.zip a.1 b.1)[i]=(a.1[i],b.1[i]):=by
 rw[List.length_zip]at hi;exact⟨by omega,by omega,by simp⟩
theorem DI(ha:bn n a)(hb:bn n b):(List.zip a.1 b.1).length=a.1.length:=by
 rw[List.length_zip,ha.2,hb.2,Nat.min_self]
theorem aeR(ha:bn n a)(hb:bn n b)(hp:0<=p)(Cy:p<=400000000)(hq:0<=q)(hq2:q<=400000000):zk a p b q=some (((iv a p b q).1,(iv a p b q).2,()),()):=by
 obtain⟨a1,a2,a3⟩:=eD ha;obtain⟨b1,b2,b3⟩:=eD hb;have pF:p.natAbs<=400000000:=by omega
 have pH:q.natAbs<=400000000:=by omega
 obtain⟨m1,m2,m3⟩:=XU ha hb pF pH;have hlen:(((a.1.length:Nat):Int) != ((b.1.length:Nat):Int))=false:=by rw[ha.2,hb.2];simp
 have sg:(decide (0<=p)&&decide (p<=400000000))=true:=by simp;omega
 have ai8:(decide (0<=q)&&decide (q<=400000000))=true:=by simp;omega
 rw[aeQ,rh,rh,kU,kU,ha.1,hb.1,hlen,sg,ai8];simp only[Option.bind_some,Bool.not_true,cond_false];have loop:=oZ (List.zip a.1 b.1) (λz=>p*z.1+q*z.2) (λo=>tO p q a b ([],0,false) o (((List.zip a.1 b.1).length:Nat):Int)) (λo i=>tO p q a b ([],0,false) o i) (λi hi o ho=>by
  obtain⟨h1,h2,hz⟩:=Zw ha hb hi;have hd:decide ((o.length+1)*8<=140737488355328)=true:=gv (by omega) (by omega);rw[Rm,aR h1,cond_true,aD h1,aD h2];simp only[Option.bind_some];rw[hd,cond_true,(sy pF pH (a1 _ (List.getElem_mem h1)) (b1 _ (List.getElem_mem h2))).2,aN (by omega),hz]) (λo=>rfl)
 rw[loop,J8,DI ha hb,Rm,aV,cond_false,(sy pF pH a2 b2).2];have hm:=λst=>SU (st:=st) m1 m2 m3;have e1:decide (p>0)=(p != 0):=by rw[Bool.eq_iff_iff];simp;omega
 have e2:decide (q>0)=(q != 0):=by rw[Bool.eq_iff_iff];simp;omega
 rw[hm,hm,hm,e1,e2];unfold iv;show _=some (((fx (nj a p b q) (p*a.2.1+q*b.2.1) (a.2.2&&p != 0||b.2.2&&q != 0)).1,(fx (nj a p b q) (p*a.2.1+q*b.2.1) (a.2.2&&p != 0||b.2.2&&q != 0)).2,()),());cases a.2.2<;>cases b.2.2<;>cases hp0:(p != 0)<;>cases hq0:(q != 0)<;>rfl
theorem adL(ha:bn n a)(hb:bn n b)(hp:0<=p)(Cy:p<=400000000)(hq:0<=q)(hq2:q<=400000000):yX a p b q=some (((iv a p b q).1,(iv a p b q).2,()),()):=by
 obtain⟨a1,a2,a3⟩:=eD ha;obtain⟨b1,b2,b3⟩:=eD hb;have pF:p.natAbs<=400000000:=by omega
 have pH:q.natAbs<=400000000:=by omega
 obtain⟨m1,m2,m3⟩:=XU ha hb pF pH;have hlen:(((a.1.length:Nat):Int) != ((b.1.length:Nat):Int))=false:=by rw[ha.2,hb.2];simp
 have c1:decide (p<0)=false:=by simp;omega
 have c2:decide (p>400000000)=false:=by simp;omega
 have c3:decide (q<0)=false:=by simp;omega
 have c4:decide (q>400000000)=false:=by simp;omega
 rw[adK,nK,nK,ha.1,hb.1,hlen,c1,c2,c3,c4];simp only[Option.bind_some,Bool.not_true,cond_false];have iR:=nm (R:=Option ((aa×Bool×PUnit)×PUnit)) a.1 8 (by omega) (by omega) (by omega);rw[iR,List.length_replicate];have loop:=Is (List.zip a.1 b.1) (λz=>p*z.1+q*z.2) (λo=>tF p q a b ([],0,false) o (a.1.length:Int) (((List.zip a.1 b.1).length:Nat):Int)) (λo i=>tF p q a b ([],0,false) o (a.1.length:Int) i) (λi hi o ho=>by
  obtain⟨h1,h2,hz⟩:=Zw ha hb hi;rw[DI ha hb]at ho;rw[QF,aR h1,cond_true,aD h1,aD h2,aD (show i<o.length by omega)];simp only[Option.bind_some];rw[(sy pF pH (a1 _ (List.getElem_mem h1)) (b1 _ (List.getElem_mem h2))).2,aN (by omega),hz,Int.toNat_natCast]) (λo _=>rfl) (List.replicate a.1.length (0:Int)) (by rw[List.length_replicate,DI ha hb])
 rw[loop,J8,DI ha hb,QF,aV,cond_false,(sy pF pH a2 b2).2];have hm:=λst=>SK (st:=st) m1 m2 m3;rw[hm,hm,hm];unfold iv;show _=some (((fx (nj a p b q) (p*a.2.1+q*b.2.1) (a.2.2&&p != 0||b.2.2&&q != 0)).1,(fx (nj a p b q) (p*a.2.1+q*b.2.1) (a.2.2&&p != 0||b.2.2&&q != 0)).2,()),());cases a.2.2<;>cases b.2.2<;>cases hp0:(p != 0)<;>cases hq0:(q != 0)<;>rfl
def gz(r:aB×Bool):Option ((aB×Bool×PUnit)×PUnit):=some ((r.1,r.2,()),())
theorem F6(h0:0<=d)(h1:d<=1000)(hV:∀a∈l,bn n a)(hl:l.length<=1000):oO d l=some ((cu d l,()),()):=by
 rw[aeu h0 h1 hV hl,norm_eq hV (λa=>Iff.rfl)]
theorem SJ{n:Nat}(h0:0<=d)(h1:d<=1000)(hV:∀a∈l,bn n a)(hl:l.length<=1000):za d l=gz (jM d l):=by
 rw[aeq,F6 h0 h1 hV hl];simp only[Option.bind_some];unfold jM;have e:decide ((((cu d l).2.length:Nat):Int)>16)=decide ((cu d l).2.length>16):=by rw[Bool.eq_iff_iff];simp;omega
 rw[e];cases decide ((cu d l).2.length>16)<;>rfl
theorem abX{k:Int}(h0:0<=k)(h1:k<=1000000):Gi none k=some (([],()),()):=by
 have w0:IntKind.i64.wrap (k - IntKind.i64.wrap (0 - 0))=k:=by
  have:IntKind.i64.wrap (0 - 0)=0:=by decide
  rw[this,Int.sub_zero,ca (by omega) (by omega)]
 rw[afu,w0];have c1:decide (k<0)=false:=by simp;omega
 rw[c1,cond_false];by_cases hk:k>0
 ·have c2:decide (k>0)=true:=by simpa using hk
  have c3:decide (0<k)=true:=by simpa using hk
  have c4:decide (aH.sz≠0)=true:=by decide
  have c5:decide (k*((40:Nat):Int)<=140737488355328)=true:=by simp;omega
  have c6:decide (k<=140737488355328)=true:=by simp;omega
  rw[c2,c4,c6,cond_true];show (bif (true&&true&&decide (k*((40:Nat):Int)<=140737488355328)&&true)then some (([],()),())else none)=some (([],()),());rw[c5];rfl
 ·have c2:decide (k>0)=false:=by simpa using hk
  rw[c2,cond_false]
theorem Lt{x y:List aa}(hx:x.length<=1000)(hy:y.length<=1000):ux [x,y]=some ((x++y,()),()):=by
 have g0:ab [x,y] 0=some x:=rfl;have g1:ab [x,y] 1=some y:=rfl;have w1:IntKind.i64.wrap (0+1)=1:=by decide
 have w2:IntKind.i64.wrap (1+1)=2:=by decide
 have s1:IntKind.i64.wrap (0+(x.length:Int))=x.length:=by rw[Int.zero_add];exact ca (by omega) (by omega)
 have s2:IntKind.i64.wrap ((x.length:Int)+(y.length:Int))=((x.length+y.length:Nat):Int):=ca (by omega) (by omega);have n1:decide ((x.length:Int)<0)=false:=decide_eq_false (by omega);have n2:decide (((x.length+y.length:Nat):Int)<0)=false:=decide_eq_false (by omega);rw[aft];show yh [x,y] 0 [x,y] 2 0=_;rw[El,show decide ((0:Int)<2)=true from rfl,cond_true,g0];simp only[Option.bind_some];rw[s1,n1,cond_false,w1,El,show decide ((1:Int)<2)=true from rfl,cond_true,g1];simp only[Option.bind_some];rw[s2,n2,cond_false,w2,El,show decide ((2:Int)<2)=false from rfl,cond_false,abX (by omega) (by omega)];simp only[Option.bind_some];show yg [x,y] [] [x,y] 2 0=_;have d1:decide ((([]:List aa).length+x.length)*40<=140737488355328)=true:=by simp;omega
 have d2:decide ((x.length+y.length)*40<=140737488355328)=true:=by simp;omega
 rw[Ek,show decide ((0:Int)<2)=true from rfl,cond_true,g0];simp only[Option.bind_some];rw[d1,cond_true,w1,List.nil_append,Ek,show decide ((1:Int)<2)=true from rfl,cond_true,g1];simp only[Option.bind_some];rw[d2,cond_true,w2,Ek,show decide ((2:Int)<2)=false from rfl,cond_false]
theorem Uy(a b:aB):(a.1 != b.1) = !(a.1==b.1):=rfl
theorem SQ(a b:aB)(ha:a.2.length<=68719476736)(hb:b.2.length<=68719476736):zj a b=gz (en a b):=by
 rw[aeP,ui a ha,ui b hb];simp only[Option.bind_some];unfold en;cases h1:bH a with
 | false=>rfl
 | true =>
  cases h2:bH b with
  | false=>rfl
  | true =>
   rw[Uy];cases h3:a.1==b.1 with
   | false=>rfl
   | true =>
    obtain⟨a1,a2,a3,a4⟩:=cA.1 h1;obtain⟨b1,b2,b3,b4⟩:=cA.1 h2;have hd:a.1=b.1:=by simpa using h3
    have c1:decide ((0+a.2.length)*40<=140737488355328)=true:=by simp;omega
    have c2:decide ((a.2.length+b.2.length)*40<=140737488355328)=true:=by simp;omega
    have hn:=zt (n:=a.1.toNat) (d:=a.1) a2 (by omega) (l:=a.2++b.2) (λx hx=>by
     rcases List.mem_append.1 hx with hx|hx
     ·exact a1 x hx
     ·rw[hd];exact b1 x hx) (by rw[List.length_append];omega)
    simp only[Bool.not_true,cond_false,Bool.and_self,cond_true];rw[c1,cond_true,c2,cond_true,hn];simp only[Option.bind_some];unfold jM;have e:decide ((((cu a.1 (a.2++b.2)).2.length:Nat):Int)>16)=decide ((cu a.1 (a.2++b.2)).2.length>16):=by rw[Bool.eq_iff_iff];simp;omega
    rw[e];cases decide ((cu a.1 (a.2++b.2)).2.length>16)<;>rfl
theorem Sr(a b:aB):yV a b=gz (en a b):=by
 rw[adH,oK a,oK b];simp only[Option.bind_some];unfold en;cases h1:bH a with
 | false=>rfl
 | true =>
  cases h2:bH b with
  | false=>rfl
  | true =>
   rw[Uy];cases h3:a.1==b.1 with
   | false=>rfl
   | true =>
    obtain⟨a1,a2,a3,a4⟩:=cA.1 h1;obtain⟨b1,b2,b3,b4⟩:=cA.1 h2;have hd:a.1=b.1:=by simpa using h3
    simp only[Bool.not_true,cond_false,Bool.and_self,cond_true];rw[Lt (by omega) (by omega)];simp only[Option.bind_some];rw[SJ (n:=a.1.toNat) a2 (by omega) (λx hx=>by
     rcases List.mem_append.1 hx with hx|hx
     ·exact a1 x hx
     ·rw[hd];exact b1 x hx) (by rw[List.length_append];omega)]
    rfl
theorem wz(h:y.natAbs<=400000000):IntKind.i64.wrap (0 - y)=0 - y:=ca (by omega) (by omega)
def BS(r:aa×Bool):Option ((aa×Bool×PUnit)×PUnit):=some ((r.1,r.2,()),())
theorem aeT(a:aa):zl a=BS (ix a):=by
 rw[aeS,rh];simp only[Option.bind_some];unfold ix;cases h:bK a with
 | false=>rfl
 | true =>
  obtain⟨a1,a2,a3⟩:=eD ⟨h,rfl⟩;simp only[Bool.not_true,cond_false,cond_true];rw[wz a2];refine (oZ a.1 (λy=>0 - y) (λo=>some (((o,0 - a.2.1,!a.2.2),true,()),())) (λo i=>xU a ([],0,false) (o,0 - a.2.1,!a.2.2) i) (λi hi o ho=>?_) (λo=>?_))
  ·have hd:decide ((o.length+1)*8<=140737488355328)=true:=gv (by omega) (by omega);rw[Rn,aR hi,cond_true,aD hi];simp only[Option.bind_some];rw[hd,cond_true,wz (a1 _ (List.getElem_mem hi)),aN (by omega)]
  ·rw[Rn,aV];rfl
theorem adN(a:aa):yY a=BS (ix a):=by
 rw[adM,nK];simp only[Option.bind_some];unfold ix;cases h:bK a with
 | false=>rfl
 | true =>
  obtain⟨a1,a2,a3⟩:=eD ⟨h,rfl⟩;have iR:=nm (R:=Option ((aa×Bool×PUnit)×PUnit)) a.1 8 (by omega) (by omega) (by omega);simp only[Bool.not_true,cond_false,cond_true];rw[iR,wz a2];refine Is a.1 (λy=>0 - y) (λo=>some (((o,0 - a.2.1,!a.2.2),true,()),())) (λo i=>xE a ([],0,false) (o,0 - a.2.1,!a.2.2) a.1 (a.1.length:Int) i) (λi hi o ho=>?_) (λo _=>?_) _ (by simp)
  ·rw[QG,aR hi,cond_true,aD hi];simp only[Option.bind_some];rw[aD (show i<o.length by omega)];simp only[Option.bind_some];rw[wz (a1 _ (List.getElem_mem hi)),aN (by omega),Int.toNat_natCast]
  ·rw[QG,aV];rfl
theorem drop_cons{x:List α}(h:i<x.length):x.drop i=x[i]::x.drop (i+1):=List.drop_eq_getElem_cons h
theorem o5(h:bn n a)(hv:v<n):ab a.1 (v:Int)=some (bu a v):=by
 have hl:v<a.1.length:=by rw[h.2];exact hv
 rw[aD hl];unfold bu;rw[List.getD_eq_getElem?_getD,List.getElem?_eq_getElem hl];rfl
theorem Tv{v:Nat}(h:bn n a):(bu a v).natAbs<=400000000:=by
 unfold bu;rw[List.getD_eq_getElem?_getD];cases hg:a.1[v]? with
 | none=>simp
 | some y=>exact (eD h).1 y (List.mem_of_getElem? hg)
theorem C0:∀(l o r:List aa),gb v a l o=some r->r.length<=o.length+l.length
 | [],o,r,h=>by simp only[gb,Option.some.injEq]at h;subst h;simp
 | b::l,o,r,h=>by
  simp only[gb]at h;cases hc:decide (bu b v>=0)with
  | true =>
   rw[hc]at h;have:=C0 l o r h;simp only[List.length_cons];omega
  | false =>
   rw[hc]at h;cases hm:(iv a (0 - bu b v) b (bu a v)).2 with
   | false=>rw[hm]at h;cases h
   | true =>
    rw[hm]at h;have:=C0 l _ r h;simp only[List.length_append,List.length_cons,List.length_nil]at this ⊢;omega
def B1:Option ((aB×Bool×PUnit)×PUnit):=some ((xl,false,()),())
theorem XW{v:Nat}(ha:bn n a)(hb:bn n b)(h1:0<bu a v)(h2:bu b v<0):
  IntKind.i64.wrap (0 - bu b v)=0 - bu b v/\0<=0 - bu b v/\0 - bu b v<=400000000/\0<=bu a v/\bu a v<=400000000:=by
 have n1:=Tv (v:=v) ha;have n2:=Tv (v:=v) hb;exact⟨wz n2,by omega,by omega,by omega,by omega⟩
theorem RC{v:Nat}(hv:v<n)(c z:aB)(hL:∀a∈c.2,bn n a)(hl:c.2.length<=16)(hi:i<c.2.length):∀(m k:Nat) (o:List aa),m+k=c.2.length->o.length+m<=10000 ->
  qY (v:Int) c z o (i:Int) (k:Int)=match (bif decide (bu (c.2[i]) v<=0)then some o else gb v (c.2[i]) (c.2.drop k) o)with
   | some r=>qZ (v:Int) c z r ((i+1:Nat):Int)
   | none=>B1
 | 0,k,o,hm,ho=>by
  have e:(bif decide (bu (c.2[i]) v<=0)then some o else gb v (c.2[i]) (c.2.drop k) o)=some o:=by
   rw[List.drop_eq_nil_of_le (by omega)];cases decide (bu (c.2[i]) v<=0)<;>rfl
  have av:decide ((k:Int)<(c.2.length:Int))=false:=decide_eq_false (by omega);rw[e,RB,av,cond_false,aN (by omega)]
 | m+1,k,o,hm,ho=>by
  have hk:k<c.2.length:=by omega
  have ki:=hL _ (List.getElem_mem hi);have kk:=hL _ (List.getElem_mem hk);have ih:=λo ho=>RC hv c z hL hl hi m (k+1) o (by omega) ho;rw[RB,aR hk,cond_true,aD hi,aD hk];simp only[Option.bind_some];rw[o5 ki hv,o5 kk hv];simp only[Option.bind_some];rw[aN (by omega)];cases h1:decide (bu (c.2[i]) v<=0)with
  | true =>
   rw[cond_true,ih o (by omega),h1];rfl
  | false =>
   have p1:=of_decide_eq_false h1;rw[cond_false,drop_cons hk];simp only[gb];cases h2:decide (bu (c.2[k]) v>=0)with
   | true =>
    rw[cond_true,ih o (by omega),h1];rfl
   | false =>
    have p2:=of_decide_eq_false h2;obtain⟨e1,e2,e3,e4,e5⟩:=XW (v:=v) ki kk (by omega) (by omega);rw[cond_false,e1,aeR ki kk e2 e3 e4 e5];simp only[Option.bind_some];cases hmx:(iv (c.2[i]) (0 - bu (c.2[k]) v) (c.2[k]) (bu (c.2[i]) v)).2 with
    | false=>rfl
    | true =>
     have hd:decide ((o.length+1)*40<=140737488355328)=true:=gv (by omega) (by omega);simp only[Bool.not_true,cond_false,cond_true];rw[hd,cond_true,ih _ (by simp;omega),h1];rfl
theorem Ei(hv:v<n)(c z:aB)(h0:0<=c.1)(h4:c.1<=4)(hL:∀a∈c.2,bn n a)(hl:c.2.length<=16):∀(m i:Nat) (o:List aa),m+i=c.2.length->o.length<=16+i*16->(∀a∈o,bn n a) ->
  qZ (v:Int) c z o (i:Int)=match jb v c.2 (c.2.drop i) o with
   | some r=>gz (jM c.1 r)
   | none=>B1
 | 0,i,o,hm,ho,hV=>by
  have av:decide ((i:Int)<(c.2.length:Int))=false:=decide_eq_false (by omega);rw[RE,av,cond_false,List.drop_eq_nil_of_le (by omega),zt h0 (by omega) hV (by omega)];simp only[Option.bind_some,jb];unfold jM;have e:decide ((((cu c.1 o).2.length:Nat):Int)>16)=decide ((cu c.1 o).2.length>16):=by rw[Bool.eq_iff_iff];simp;omega
  rw[e];cases decide ((cu c.1 o).2.length>16)<;>rfl
 | m+1,i,o,hm,ho,hV=>by
  have hi:i<c.2.length:=by omega
  have:=RC hv c z hL hl hi c.2.length 0 o (by omega) (by omega);rw[Int.natCast_zero]at this;rw[RE,aR hi,cond_true,this,List.drop_zero,drop_cons hi];simp only[jb];cases h1:decide (bu (c.2[i]) v<=0)with
  | true =>
   simp only[cond_true];exact Ei hv c z h0 h4 hL hl m (i+1) o (by omega) (by omega) hV
  | false =>
   simp only[cond_false];cases hx:gb v (c.2[i]) c.2 o with
   | none=>rfl
   | some r =>
    have hr:=C0 _ _ _ hx;exact Ei hv c z h0 h4 hL hl m (i+1) r (by omega) (by omega) (wo (hL _ (List.getElem_mem hi)) _ _ _ hL hV hx)
theorem S0(hc:bH c=true)(hv:v<c.1.toNat):uw c (v:Int)=gz (dM c v):=by
 obtain⟨hL,h0,h4,hl⟩:=cA.1 hc;have key:∀(m i:Nat) (o:List aa),m+i=c.2.length->o.length<=i->tT (v:Int) c (0,[]) o (i:Int)=qZ (v:Int) c (0,[]) (o++(c.2.drop i).filter λa=>bu a v==0) 0:=by
  intro m;induction m with
  | zero =>
   intro i o hm ho;have av:decide ((i:Int)<(c.2.length:Int))=false:=decide_eq_false (by omega);rw[RD,av,cond_false,List.drop_eq_nil_of_le (by omega)];simp
  | succ m ih =>
   intro i o hm ho;have hi:i<c.2.length:=by omega
   have ki:=hL _ (List.getElem_mem hi);have hd:decide ((o.length+1)*40<=140737488355328)=true:=gv (by omega) (by omega);rw[RD,aR hi,cond_true,aD hi];simp only[Option.bind_some];rw[o5 ki hv];simp only[Option.bind_some];rw[hd,aN (by omega),drop_cons hi];cases hz:bu (c.2[i]) v==0 with
   | true =>
    rw[cond_true,cond_true,ih (i+1) _ (by omega) (by simp;omega),List.filter_cons_of_pos (p:=λa=>bu a v==0) hz,List.append_assoc];rfl
   | false =>
    rw[cond_false,ih (i+1) _ (by omega) (by omega),List.filter_cons_of_neg (p:=λa=>bu a v==0) (by rw[hz];simp)]
 have k0:=key c.2.length 0 [] (by omega) (by simp);rw[Int.natCast_zero,List.nil_append,List.drop_zero]at k0;have hf:=List.length_filter_le (λa=>bu a v==0) c.2;have k1:=Ei hv c (0,[]) h0 h4 hL hl c.2.length 0 (c.2.filter λa=>bu a v==0) (by omega) (by omega) (λa ha=>hL a (List.mem_filter.1 ha).1);rw[Int.natCast_zero,List.drop_zero]at k1;rw[aff,k0,k1];unfold dM uU;cases jb v c.2 c.2 (c.2.filter λa=>bu a v==0)<;>rfl
theorem Qv{v:Nat}(hv:v<n)(c z:aB){L:List aa}(hL:∀a∈L,bn n a)(hl:L.length<=16)(ha:bn n a)(hp:0<bu a v){i:Nat}(hi:i<=1000):∀(m k:Nat) (o:List aa),m+k=L.length->o.length+m<=10000 ->
  tu (v:Int) c z o a L (L.length:Int) (i:Int) L (L.length:Int) (k:Int)=match gb v a (L.drop k) o with
   | some r=>oG (v:Int) c z r L (L.length:Int) ((i+1:Nat):Int)
   | none=>B1
 | 0,k,o,hm,ho=>by
  have av:decide ((k:Int)<(L.length:Int))=false:=decide_eq_false (by omega);rw[Qs,av,cond_false,List.drop_eq_nil_of_le (by omega),aN (by omega)];rfl
 | m+1,k,o,hm,ho=>by
  have hk:k<L.length:=by omega
  have kk:=hL _ (List.getElem_mem hk);have ih:=λo ho=>Qv hv c z hL hl ha hp hi m (k+1) o (by omega) ho;rw[Qs,aR hk,cond_true,aD hk];simp only[Option.bind_some];rw[o5 kk hv,o5 ha hv];simp only[Option.bind_some];rw[aN (by omega),drop_cons hk];simp only[gb];cases h2:decide (bu (L[k]) v>=0)with
  | true =>
   rw[cond_true,ih o (by omega)];rfl
  | false =>
   have p2:=of_decide_eq_false h2;obtain⟨e1,e2,e3,e4,e5⟩:=XW (v:=v) ha kk hp (by omega);rw[cond_false,e1,adL ha kk e2 e3 e4 e5];simp only[Option.bind_some];cases hmx:(iv a (0 - bu (L[k]) v) (L[k]) (bu a v)).2 with
   | false=>rfl
   | true =>
    have hd:decide ((o.length+1)*40<=140737488355328)=true:=gv (by omega) (by omega);simp only[Bool.not_true,cond_false,cond_true];rw[hd,cond_true,ih _ (by simp;omega)]
theorem D7(hv:v<n)(c z:aB)(h0:0<=c.1)(h4:c.1<=4)(hL:∀a∈c.2,bn n a)(hl:c.2.length<=16):∀(m i:Nat) (o:List aa),m+i=c.2.length->o.length<=16+i*16->(∀a∈o,bn n a) ->
  oG (v:Int) c z o c.2 (c.2.length:Int) (i:Int)=match jb v c.2 (c.2.drop i) o with
   | some r=>gz (jM c.1 r)
   | none=>B1
 | 0,i,o,hm,ho,hV=>by
  have av:decide ((i:Int)<(c.2.length:Int))=false:=decide_eq_false (by omega);rw[Qr,av,cond_false,List.drop_eq_nil_of_le (by omega),SJ h0 (by omega) hV (by omega)];rfl
 | m+1,i,o,hm,ho,hV=>by
  have hi:i<c.2.length:=by omega
  have ki:=hL _ (List.getElem_mem hi);rw[Qr,aR hi,cond_true,aD hi];simp only[Option.bind_some];rw[o5 ki hv];simp only[Option.bind_some];rw[aN (by omega),drop_cons hi];simp only[jb];cases h1:decide (bu (c.2[i]) v<=0)with
  | true =>
   simp only[cond_true];exact D7 hv c z h0 h4 hL hl m (i+1) o (by omega) (by omega) hV
  | false =>
   have p1:=of_decide_eq_false h1;have:=Qv hv c z hL hl ki (by omega) (i:=i) (by omega) c.2.length 0 o (by omega) (by omega);rw[Int.natCast_zero,List.drop_zero]at this;simp only[cond_false];rw[this];cases hx:gb v (c.2[i]) c.2 o with
   | none=>rfl
   | some r =>
    have hr:=C0 _ _ _ hx;exact D7 hv c z h0 h4 hL hl m (i+1) r (by omega) (by omega) (wo ki _ _ _ hL hV hx)
theorem Sn(hc:bH c=true){v:Nat}(hv:v<c.1.toNat):tY c (v:Int)=gz (dM c v):=by
 obtain⟨hL,h0,h4,hl⟩:=cA.1 hc;have key:∀(m i:Nat) (o:List aa),m+i=c.2.length->o.length<=i->tw (v:Int) c (0,[]) o c.2 (c.2.length:Int) (i:Int)=oG (v:Int) c (0,[]) (o++(c.2.drop i).filter λa=>bu a v==0) c.2 (c.2.length:Int) 0:=by
  intro m;induction m with
  | zero =>
   intro i o hm ho;have av:decide ((i:Int)<(c.2.length:Int))=false:=decide_eq_false (by omega);rw[Qu,av,cond_false,List.drop_eq_nil_of_le (by omega)];simp
  | succ m ih =>
   intro i o hm ho;have hi:i<c.2.length:=by omega
   have ki:=hL _ (List.getElem_mem hi);have hd:decide ((o.length+1)*40<=140737488355328)=true:=gv (by omega) (by omega);rw[Qu,aR hi,cond_true,aD hi];simp only[Option.bind_some];rw[o5 ki hv];simp only[Option.bind_some];rw[hd,aN (by omega),drop_cons hi];cases hz:bu (c.2[i]) v==0 with
   | true =>
    rw[cond_true,cond_true,ih (i+1) _ (by omega) (by simp;omega),List.filter_cons_of_pos (p:=λa=>bu a v==0) hz,List.append_assoc];rfl
   | false =>
    rw[cond_false,ih (i+1) _ (by omega) (by omega),List.filter_cons_of_neg (p:=λa=>bu a v==0) (by rw[hz];simp)]
 have k0:=key c.2.length 0 [] (by omega) (by simp);rw[Int.natCast_zero,List.nil_append,List.drop_zero]at k0;have hf:=List.length_filter_le (λa=>bu a v==0) c.2;have k1:=D7 hv c (0,[]) h0 h4 hL hl c.2.length 0 (c.2.filter λa=>bu a v==0) (by omega) (by omega) (λa ha=>hL a (List.mem_filter.1 ha).1);rw[Int.natCast_zero,List.drop_zero]at k1;have c1:decide ((v:Int)<0)=false:=decide_eq_false (by omega);have c2:decide ((v:Int)>=c.1)=false:=decide_eq_false (by omega);rw[adr,oK,hc];simp only[Option.bind_some,Bool.not_true,cond_false];rw[c1,c2,cond_false,cond_false,k0,k1];unfold dM uU;cases jb v c.2 c.2 (c.2.filter λa=>bu a v==0)<;>rfl
def nE(r:Bool×Bool):Option ((Bool×Bool×PUnit)×PUnit):=some ((r.1,r.2,()),())
theorem XA(l:List aa):decide (((l.length:Nat):Int)>0)=decide (l.length>0):=by rw[Bool.eq_iff_iff];simp
theorem Rh:∀(n:Nat) (c:aB),bH c=true->n<=c.1.toNat->xT c ((n:Int) - 1)=nE (match nT n c with
   | some r=>(decide (r.2.length>0),true)
   | none=>(false,false))
 | 0,c,hc,hn=>by
  rw[Rg,show decide ((((0:Nat):Int) - 1)>=0)=false from rfl,cond_false,XA];rfl
 | n+1,c,hc,hn=>by
  have h4:=(cA.1 hc).2.2.1;have e:(((n+1:Nat):Int) - 1)=(n:Int):=by omega
  have ln:decide ((n:Int)>=0)=true:=decide_eq_true (by omega);rw[e,Rg,ln,cond_true,S0 hc (by omega)];unfold gz;simp only[Option.bind_some,nT];cases hd:(dM c n).2 with
  | false=>rfl
  | true =>
   have k:=Im hc hd;simp only[Bool.not_true,cond_false,cond_true];rw[show IntKind.i64.wrap ((n:Int) - 1)=(n:Int) - 1 from ca (by omega) (by omega)];exact Rh n _ k.1 (by rw[k.2];omega)
theorem SO(c:aB)(hl:c.2.length<=68719476736):uj c=nE (iL c):=by
 rw[aeH,ui c hl];simp only[Option.bind_some];unfold iL;cases hc:bH c with
 | false=>rfl
 | true =>
  obtain⟨h1,h2,h3,h4⟩:=cA.1 hc;simp only[Bool.not_true,cond_false,cond_true];rw[zt h2 (by omega) h1 (by omega)];simp only[Option.bind_some];have:=Rh c.1.toNat (cu c.1 c.2) (sF hc) (by rw[iy];omega);rw[show IntKind.i64.wrap (c.1 - 1)=((c.1.toNat:Nat):Int) - 1 by rw[ca (by omega) (by omega)];omega,this];unfold Ip;rw[iy]
  all_goals (cases nT c.1.toNat (cu c.1 c.2)<;>rfl)
theorem Q4:∀(n:Nat) (c:aB) (l:List aB),bH c=true->n<=c.1.toNat->n<l.length->l.length<=100->l[n]?=some c ->
  (nT n c=none/\oH l ((n:Int) - 1)=some (([],false,()),()))\/∃r l',nT n c=some r/\oH l ((n:Int) - 1)=some ((l',true,()),())/\l'[0]?=some r
 | 0,c,l,hc,hn,hl,lq,hg=>by
  refine .inr ⟨c,l,rfl,?_,hg⟩;rw[Q5];rfl
 | n+1,c,l,hc,hn,hl,lq,hg=>by
  have h4:=(cA.1 hc).2.2.1;have e:(((n+1:Nat):Int) - 1)=(n:Int):=by omega
  have ln:decide ((n:Int)>=0)=true:=decide_eq_true (by omega);have Cr:ab l ((n+1:Nat):Int)=some c:=by
   rw[aD hl];rw[List.getElem?_eq_getElem hl]at hg;exact hg
  have aic:=Sn hc (v:=n) (by omega);rw[e];have heq:oH l (n:Int)=bif !(dM c n).2 then some (([],false,()),())else oH (l.set n (dM c n).1) ((n:Int) - 1):=by
   rw[Q5,ln,cond_true,aN (by omega),Cr];simp only[Option.bind_some];rw[aic];unfold gz;simp only[Option.bind_some];rw[aD (show n<l.length by omega)];simp only[Option.bind_some];rw[show IntKind.i64.wrap ((n:Int) - 1)=(n:Int) - 1 from ca (by omega) (by omega),Int.toNat_natCast]
  rw[heq];simp only[nT];cases hd:(dM c n).2 with
  | false=>exact .inl ⟨rfl,rfl⟩
  | true =>
   have k:=Im hc hd;simp only[Bool.not_true,cond_false,cond_true];exact Q4 n _ _ k.1 (by rw[k.2];omega) (by rw[List.length_set];omega) (by rw[List.length_set];exact lq) (by rw[List.getElem?_set_self (by omega)])
theorem Sp(c:aB):yQ c=nE (iL c):=by
 rw[adz,aex,oK c];simp only[Option.bind_some];unfold iL;cases hc:bH c with
 | false=>rfl
 | true =>
  obtain⟨h1,h2,h3,h4⟩:=cA.1 hc;obtain⟨n,hn⟩:∃n:Nat,c.1=n:=⟨c.1.toNat,by omega⟩;have w1:IntKind.i64.wrap (c.1+1)=c.1+1:=ca (by omega) (by omega);have w2:IntKind.i64.wrap (c.1 - 1)=((n:Nat):Int) - 1:=by rw[ca (by omega) (by omega)];omega
  have iR:(decide (0<=c.1+1)&&decide (c.1+1<=c.1+1)&&decide ((c.1+1)*((32:Nat):Int)<=140737488355328)&&decide (c.1+1<=9223372036854775807))=true:=by simp;omega
  have VB:(decide (0<=c.1+1)&&decide (c.1+1<=c.1+1)&&decide ((c.1+1)*32<=140737488355328)&&decide (c.1+1<=9223372036854775807))=true:=iR;have VA:(decide (0<=c.1+1)&&decide (c.1+1<=c.1+1)&&decide ((c.1+1)*((32:Nat):(Ty.int IntKind.i64).den)<=140737488355328)&&decide (c.1+1<=9223372036854775807))=true:=iR;simp only[Bool.not_true,cond_false,cond_true];rw[w1,w2,F6 h2 (by omega) h1 (by omega)];simp only[Option.bind_some];have sh:(List.replicate (c.1+1).toNat ((0,[]):aB)).length=n+1:=by rw[List.length_replicate];omega
  have vl:ab (List.replicate (c.1+1).toNat ((0,[]):aB)) c.1=some (0,[]):=by
   rw[hn,aD (by rw[<-hn,sh];omega)];simp
  have key:=Q4 n (cu c.1 c.2) ((List.replicate (c.1+1).toNat ((0,[]):aB)).set n (cu c.1 c.2)) (sF hc) (by rw[iy];omega) (by rw[List.length_set,sh];omega) (by rw[List.length_set,sh];omega) (by rw[List.getElem?_set_self (by rw[sh];omega)]);have V2:Int.toNat c.1=n:=by omega
  rw[vl];simp only[Option.bind_some];rw[V2];unfold Ip;rw[iy,show c.1.toNat=n from V2];rcases key with⟨k1,k2⟩|⟨r,l',k1,k2,k3⟩
  ·rw[k1,k2]
   first|(rw[VB];rfl)|(rw[VA];rfl)|(rw[iR];rfl)
  ·rw[k1,k2];have jE:0<l'.length:=by
    rw[List.getElem?_eq_some_iff]at k3;exact k3.1
   have hgr:ab l' 0=some r:=by
    have:=aD (xs:=l') jE;rw[Int.natCast_zero]at this;rw[this];rw[List.getElem?_eq_getElem jE]at k3;exact k3
   first|rw[VB]|rw[VA]|rw[iR]
   simp only[cond_true,Option.bind_some,Bool.not_true,cond_false];rw[hgr];simp only[Option.bind_some];rw[XA];rfl
theorem alH(a:aa)(h:(ix a).2=true):(ix a).1.1.length=a.1.length:=by
 unfold ix at *
 cases ha:bK a with
 | false=>rw[ha]at h;cases h
 | true=>simp
theorem aeC(c:aB)(a:aa)(hl:c.2.length<=68719476736):Gb c a=nE (jJ c a):=by
 rw[aeB,aeT];unfold BS;simp only[Option.bind_some];rw[SQ c _ hl (by simp)];unfold gz;simp only[Option.bind_some];unfold jJ;cases h1:(ix a).2 with
 | false=>rfl
 | true =>
  simp only[Bool.not_true,cond_false,Bool.true_and];cases h2:(en c ((a.1.length:Int),[(ix a).1])).2 with
  | false=>rfl
  | true =>
   have m:=XN h2;have ml:=(cA.1 m.1).2.2.2;simp only[Bool.not_true,cond_false,cond_true];rw[SO _ (by omega)];rfl
theorem adu(c:aB)(a:aa):FR c a=nE (jJ c a):=by
 rw[adt,adN];unfold BS;simp only[Option.bind_some];unfold jJ;cases h1:(ix a).2 with
 | false=>rfl
 | true =>
  simp only[Bool.not_true,cond_false,Bool.true_and];rw[alH a h1,Sr];unfold gz;simp only[Option.bind_some];cases h2:(en c ((a.1.length:Int),[(ix a).1])).2 with
  | false=>rfl
  | true =>
   simp only[Bool.not_true,cond_false,cond_true];rw[Sp];rfl
theorem Ic(h:bH c=true):rr c=some ((c,()),())/\ud c=some ((c,()),()):=by
 obtain⟨h1,h2,h3,h4⟩:=cA.1 h;have pv:∀a∈c.2,a.1.length<=68719476736:=λa ha=>by have:=(eD (h1 a ha)).2.2;omega
 constructor
 ·rw[afe];have:=oZ c.2 id (λo=>some (((c.1,o),()),())) (λo i=>yd c (0,[]) (c.1,o) i) (λi hi o ho=>by
   have hd:decide ((o.length+1)*40<=140737488355328)=true:=gv (by omega) (by omega);rw[RA,aR hi,cond_true,aD hi];simp only[Option.bind_some];rw[Ge _ (pv _ (List.getElem_mem hi))];simp only[Option.bind_some];rw[hd,cond_true,aN (by omega)];rfl) (λo=>by rw[RA,aV];rfl)
  rw[this,List.map_id]
 ·rw[Sz];have iR:(decide ((0:Int)<=0)&&decide (0<=(c.2.length:Int))&&decide ((c.2.length:Int)*((40:Nat):Int)<=140737488355328)&&decide ((c.2.length:Int)<=9223372036854775807))=true:=by simp;omega
  have this:=oZ c.2 id (λo=>some (((c.1,o),()),())) (λo i=>qN c (0,[]) (c.1,o) c.2 (c.2.length:Int) i) (λi hi o ho=>by
   have hd:decide ((o.length+1)*40<=140737488355328)=true:=gv (by omega) (by omega);rw[xK,aR hi,cond_true,aD hi];simp only[Option.bind_some];rw[uc _ (pv _ (List.getElem_mem hi))];simp only[Option.bind_some];rw[hd,cond_true,aN (by omega)];rfl) (λo=>by rw[xK,aV];rfl)
  refine Eq.trans (b:=(bif (decide ((0:Int)<=0)&&decide (0<=(c.2.length:Int))&&decide ((c.2.length:Int)*((40:Nat):Int)<=140737488355328)&&decide ((c.2.length:Int)<=9223372036854775807))then qN c (0,[]) (c.1,[]) c.2 (c.2.length:Int) 0 else none)) rfl ?_;rw[iR,cond_true,this,List.map_id]
theorem ahd(h:bH c=true):zC c<=80:=by
 obtain⟨h1,h2,h3,h4⟩:=cA.1 h;have:=DH zA 4 c.2 (λa ha=>alU (h1 a ha));have h5:c.2.length*5<=16*5:=Nat.mul_le_mul_right _ h4;show zL zA c.2<=80;omega
theorem Uq(x:List α)(h:α->List β)(hh:∀a,(h a).length<=1)(E:List β->Option R)(f:List β->Int->Option R)
  (h1:∀(i:Nat) (hi:i<x.length) (o:List β),o.length<=i->f o (i:Int)=f (o++h x[i]) ((i+1:Nat):Int)) (h2:∀o,f o (x.length:Int)=E o) :
  ∀(n i:Nat) (o:List β),n+i=x.length->o.length<=i->f o (i:Int)=E (o++(x.drop i).flatMap h)
 | 0,i,o,hn,_=>by
  obtain rfl:i=x.length:=by omega
  rw[h2,List.drop_eq_nil_of_le (by omega)];simp
 | n+1,i,o,hn,ho=>by
  have hi:i<x.length:=by omega
  have:=hh x[i];rw[h1 i hi o ho,Uq x h hh E f h1 h2 n (i+1) _ (by omega) (by simp;omega),List.drop_eq_getElem_cons hi,List.flatMap_cons,List.append_assoc]
theorem ahv(x:List α)(h:α->List β)(hh:∀a,(h a).length<=1)(E:List β->Option R)(f:List β->Int->Option R)
  (h1:∀(i:Nat) (hi:i<x.length) (o:List β),o.length<=i->f o (i:Int)=f (o++h x[i]) ((i+1:Nat):Int)) (h2:∀o,f o (x.length:Int)=E o):f [] 0=E (x.flatMap h):=by
 have:=Uq x h hh E f h1 h2 x.length 0 [] (by omega) (by simp);rw[Int.natCast_zero]at this;rw[this];simp
theorem ahy(g:α->β)(x:List α):x.flatMap (λa=>[g a])=x.map g:=by
 induction x with
 | nil=>rfl
 | cons a l ih=>rw[List.flatMap_cons,ih];rfl
theorem wK(x:List α)(g:α->β)(E:List β->Option R)(f:List β->Int->Option R)
  (h1:∀(i:Nat) (hi:i<x.length) (o:List β),o.length<=i->f o (i:Int)=f (o++[g x[i]]) ((i+1:Nat):Int)) (h2:∀o,f o (x.length:Int)=E o):f [] 0=E (x.map g):=by
 have:=ahv x (λa=>[g a]) (λ_=>by simp) E f h1 h2;rw[this,ahy]
theorem FX(a:List Int)(h:a.length<=68719476736):ue a=some ((a,()),()):=by
 rw[SA,wX h];rfl
theorem wh(x:List α):x.map (λa=>a)=x:=by induction x with
 | nil=>rfl
 | cons a l ih=>simp
theorem XX(x:List α)(c:Int)(hl:x.length<=68719476736)(h0:0<=c)(hc:c<=1000):(decide ((0:Nat)<=0)&&decide ((0:Int)<=(x.length:Int))&&decide ((x.length:Int)*c<=140737488355328)&&decide ((x.length:Int)<=9223372036854775807))=true:=by
 have h1:(x.length:Int)*c<=(x.length:Int)*1000:=Int.mul_le_mul_of_nonneg_left hc (by omega);have h2:(x.length:Int)*c<=140737488355328:=by omega
 simp only[h2,decide_true,Bool.and_true,Bool.and_eq_true,decide_eq_true_eq];omega
theorem ad1(c:aB)(h:zC c<=68719476736):ud c=some ((c,()),()):=by
 have hl:c.2.length<=68719476736:=Nat.le_trans (df _ _) h;rw[Sz,XX c.2 40 hl (by omega) (by omega),cond_true];have e:List.replicate (Int.toNat 0) (([],0,false):aa)=[]:=rfl;rw[e];rw[wK c.2 (λa=>a) (λo=>some (((c.1,o),()),())) (λo i=>qN c (0,[]) (c.1,o) c.2 (c.2.length:Int) i) (λi hi o ho=>by
  rw[xK,aR hi,aD hi,aN (by omega)];simp only[cond_true,Option.bind_some];rw[uc _ (Nat.le_trans (dp zA (List.getElem_mem hi)) h)];simp only[Option.bind_some];rw[gv (by omega) (by omega),cond_true]) (λo=>by rw[xK,aV];rfl),wh]
theorem zn(l:List (List Int))(h:zL zI l<=68719476736):oR l=some ((l,()),()):=by
 have hl:l.length<=68719476736:=Nat.le_trans (df _ _) h;rw[ae2];rw[wK l (λa=>a) (λo=>some ((o,()),())) (λo i=>xY l o i) (λi hi o ho=>by
  rw[Rs,aR hi,aD hi,aN (by omega)];simp only[cond_true,Option.bind_some];have hz:l[i].length<=68719476736:=Nat.le_trans (dp zI (List.getElem_mem hi)) h;rw[wX hz,cond_true,gv (by omega) (by omega),cond_true]) (λo=>by rw[Rs,aV];rfl),wh]
theorem SC(l:List (List Int))(h:zL zI l<=68719476736):oN [l]=some ((l,()),()):=by
 have hl:l.length<=68719476736:=Nat.le_trans (df _ _) h;rw[SB,tJ];have e1:decide ((0:Int)<(([l]:List (List (List Int))).length:Int))=true:=by simp
 have e2:ab [l] 0=some l:=rfl;rw[e1,e2,cond_true,Option.bind_some];rw[wK l (λa=>a) (λo=>some ((o,()),())) (λo i=>tK [l] o l [l] (([l]:List (List (List Int))).length:Int) 0 l (l.length:Int) i) (λi hi o ho=>by
  rw[xM,aR hi,aD hi,aN (by omega)];simp only[cond_true,Option.bind_some];rw[FX _ (Nat.le_trans (dp zI (List.getElem_mem hi)) h)];simp only[Option.bind_some];rw[gv (by omega) (by omega),cond_true]) (λo=>by
   rw[xM,aV,cond_false,tJ];rfl),wh]
theorem ad8(s:ah)(h:zP s<=68719476736):FY s=some ((s,()),()):=by
 have hz:zP s=zC s.1+zL zI s.2:=rfl;rw[ad7,ad1 s.1 (by omega)];simp only[Option.bind_some];rw[SC s.2 (by omega)];rfl
theorem ad3(n:al)(h:zN n<=68719476736):FW n=some ((n,()),()):=by
 have hz:zN n=zA n.2.1+zB n.2.2.1+zB n.2.2.2.1+zI n.2.2.2.2.1:=rfl;rw[ad2,uc n.2.1 (show zA n.2.1<=68719476736 by omega)];simp only[Option.bind_some];rw[FX n.2.2.2.2.1 (by unfold zI at hz;omega)];rfl
theorem ad5(f:List al)(h:zL zN f<=68719476736):y4 f=some ((f,()),()):=by
 have hl:f.length<=68719476736:=Nat.le_trans (df _ _) h;rw[ad4,XX f 128 hl (by omega) (by omega),cond_true];have e:List.replicate (Int.toNat 0) ((0,([],0,false),ByteArray.empty,ByteArray.empty,[],0,0,0):al)=[]:=rfl;rw[e];rw[wK f (λa=>a) (λo=>some ((o,()),())) (λo i=>xL f o f (f.length:Int) i) (λi hi o ho=>by
  rw[QQ,aR hi,aD hi,aN (by omega)];simp only[cond_true,Option.bind_some];rw[ad3 _ (Nat.le_trans (dp zN (List.getElem_mem hi)) h)];simp only[Option.bind_some];rw[gv (by omega) (by omega),cond_true]) (λo=>by rw[QQ,aV];rfl),wh]
theorem afn(f:List al)(h:zL zN f<=68719476736)(hw:∀n∈f,cZ sI n):zv [] f=some ((f,()),()):=by
 have hl:f.length<=68719476736:=Nat.le_trans (df _ _) h;rw[afm];have e0:((([]:List al).length:Nat):Int)=0:=rfl;rw[e0];rw[wK f (λa=>a) (λo=>some ((o,()),())) (λo i=>lZ o f 0 i) (λi hi o ho=>by
  have hz:=Nat.le_trans (dp zN (List.getElem_mem hi)) h;have JB:zN f[i]=zA f[i].2.1+zB f[i].2.2.1+zB f[i].2.2.2.1+zI f[i].2.2.2.2.1:=rfl;have hn:=hw _ (List.getElem_mem hi);have m0:IntKind.i64.min = -9223372036854775808:=by decide
  have m1:IntKind.i64.max=9223372036854775807:=by decide
  have wa:IntKind.i64.wrap (f[i].2.2.2.2.2.2.1+0)=f[i].2.2.2.2.2.2.1:=by
   have this:IntKind.i64.min<=f[i].2.2.2.2.2.2.1/\f[i].2.2.2.2.2.2.1<=IntKind.i64.max:=hn.2.2.2.2.2.2.1;rw[m0,m1]at this;rw[Int.add_zero];exact ca this.1 this.2
  have wb:IntKind.i64.wrap (f[i].2.2.2.2.2.2.2+0)=f[i].2.2.2.2.2.2.2:=by
   have this:IntKind.i64.min<=f[i].2.2.2.2.2.2.2/\f[i].2.2.2.2.2.2.2<=IntKind.i64.max:=hn.2.2.2.2.2.2.2;rw[m0,m1]at this;rw[Int.add_zero];exact ca this.1 this.2
  rw[RJ,aR hi,aD hi,aN (by omega)];simp only[cond_true,Option.bind_some];rw[Ge (f[i]).2.1 (show zA (f[i]).2.1<=68719476736 by omega)];simp only[Option.bind_some];rw[wX (by unfold zI at JB;omega),cond_true,wa,wb,gv (by omega) (by omega)];simp only[cond_true];cases decide (f[i].1>1)<;>cases f[i].1==3<;>cases f[i].1==4<;>rfl) (λo=>by rw[RJ,aV];rfl),wh]
theorem J6(d:Int):∀(post pre r:List aa),kF d pre post=some r->(∀a∈r,a∈pre\/a∈post)/\r.length<=pre.length+post.length
 | [],pre,r,h=>by
  unfold kF at h;cases h;exact⟨λa ha=>.inl ha,by simp⟩
 | a::post,pre,r,h=>by
  unfold kF at h;cases h1:(jJ (d,pre++post) a).2 with
  | false=>rw[h1]at h;cases h
  | true =>
   rw[h1,cond_true]at h;cases h2:(jJ (d,pre++post) a).1 with
   | true =>
    rw[h2,cond_true]at h;obtain⟨k1,k2⟩:=J6 d post pre r h;exact⟨λb hb=>(k1 b hb).imp id (List.mem_cons_of_mem _),by rw[List.length_cons];omega⟩
   | false =>
    rw[h2,cond_false]at h;obtain⟨k1,k2⟩:=J6 d post (pre++[a]) r h;refine⟨λb hb=>?_,by rw[List.length_append,List.length_singleton]at k2;rw[List.length_cons];omega⟩;rcases k1 b hb with k|k
    ·rcases List.mem_append.1 k with k|k
     ·exact .inl k
     ·exact .inr (List.mem_cons.2 (.inl (List.mem_singleton.1 k)))
    ·exact .inr (List.mem_cons_of_mem _ k)
theorem alM(h0:0<=d)(h1:d<=4):bH (jO d)=true :=
 cA.2 ⟨λa ha=>by rw[List.mem_singleton.1 ha];exact Yj h0 h1,h0,h1,by simp[jO]⟩
theorem XP{m:aB}(hc:bH c=true)(h:oq c=some m):bH m=true/\m.1=c.1/\∀a∈m.2,a∈(jO c.1).2\/a∈c.2:=by
 obtain⟨k1,k2,k3,k4⟩:=cA.1 hc;unfold oq at h;cases h1:(iL c).2 with
 | false=>rw[h1]at h;cases h
 | true =>
  rw[h1,cond_true]at h;cases h2:(iL c).1 with
  | true=>rw[h2,cond_true]at h;cases h;exact⟨alM k2 k3,rfl,λa ha=>.inl ha⟩
  | false =>
   rw[h2,cond_false]at h;cases h3:kF c.1 [] c.2 with
   | none=>rw[h3]at h;cases h
   | some l =>
    rw[h3]at h;cases h;obtain⟨j1,j2⟩:=J6 _ _ _ _ h3;have j3:∀a∈l,a∈c.2:=λa ha=>(j1 a ha).resolve_left (by simp);exact⟨cA.2 ⟨λa ha=>k1 a (j3 a ha),k2,k3,by simpa using Nat.le_trans j2 (by simpa using k4)⟩,rfl,λa ha=>.inr (j3 a ha)⟩
theorem CY{m:aB}(h:kE c=some m):bH c=true/\bH m=true/\m.1=c.1:=by
 unfold kE at h;cases hc:bH c with
 | false=>rw[hc]at h;cases h
 | true =>
  rw[hc,cond_true]at h;have:=XP (sF hc) h;exact⟨rfl,this.1,by rw[this.2.1,iy]⟩
def rO(c:aB):Bool:=match c.2 with
 | [a] => !eu a
 | _=>false
def B0(c:aB):Bool:=match c.2 with
 | [a] => !eu a&&(a.2.1==1 && !a.2.2)
 | _=>false
theorem alz{m:aB}(h:kE c=some m):B0 m=rO m:=by
 obtain⟨hc,hm,_⟩:=CY h;unfold kE at h;rw[hc,cond_true]at h;have hs:=(XP (sF hc) h).2.2;have hn:∀a∈m.2,eu a=true\/a=(List.replicate c.1.toNat (0:Int),1,false):=by
  intro a ha;rcases hs a ha with k|k
  ·rw[iy]at k;exact .inr (List.mem_singleton.1 k)
  ·unfold cu at k;cases hb:c.2.any fG with
   | true=>rw[hb,cond_true]at k;exact .inr (List.mem_singleton.1 k)
   | false =>
    rw[hb,cond_false]at k;rcases Iz _ _ _ k with k|k
    ·simp at k
    ·exact .inl (List.mem_filter.1 k).2
 unfold B0 rO
 match gH:m.2 with
 | []=>rfl
 | [a] =>
  dsimp only;rcases hn a (by rw[gH];exact List.mem_singleton.2 rfl)with k|k
  ·rw[k];rfl
  ·rw[k];simp
 | a::b::l=>rfl
def ff(l:List ah)(c:aB)(f:List (List Int)):Option (List ah):=
 match kE c with
 | none=>none
 | some m=>bif decide (l.length>=24)then none else bif rO m then some l else some (l++[(m,f)])
def iu:Option aB->Option ((aB×Bool×PUnit)×PUnit)
 | some m=>some ((m,true,()),())
 | none=>some ((xl,false,()),())
theorem TX(pre:List α)(a:α)(post:List α):List.drop (Int.toNat 0) (List.take ((pre.length:Int)).toNat (pre++a::post))=pre:=by
 rw[Int.toNat_natCast,List.take_left];rfl
theorem TW(pre:List α)(a:α)(post:List α)(h:pre.length<=1000):List.drop (IntKind.i64.wrap ((pre.length:Int)+1)).toNat (List.take (pre++a::post).length (pre++a::post))=post:=by
 rw[aN (by omega),Int.toNat_natCast,List.take_length,show pre++a::post=(pre++[a])++post by simp];exact List.drop_left' (by simp)
theorem Tt(pre:List α)(a:α)(post:List α)(h:pre.length<=1000):
  (decide ((0:Nat)<=0)&&decide (0<=(pre.length:Int))&&decide ((pre.length:Int)<=((pre++a::post).length:Int)))=true /\
  (decide (0<=IntKind.i64.wrap ((pre.length:Int)+1))&&decide (IntKind.i64.wrap ((pre.length:Int)+1)<=((pre++a::post).length:Int))&&decide (((pre++a::post).length:Int)<=((pre++a::post).length:Int)))=true /\
  decide ((pre.length:Int)<((pre++a::post).length:Int))=true/\ab (pre++a::post) (pre.length:Int)=some a:=by
 rw[aN (by omega)];refine⟨by simp;omega,by simp;omega,by simp;omega,?_⟩;rw[aD (by simp)];simp
theorem Ej(h0:0<=d)(h4:d<=4)(x z:aB)(hx:x.1=d):∀(post pre:List aa),(∀a∈pre++post,bn d.toNat a)->(pre++post).length<=16 ->
  tU x z (d,pre++post) (pre.length:Int)=iu ((kF d pre post).map λl=>(d,l))
 | [],pre,_,_=>by
  rw[RF,List.append_nil,aV,cond_false];rfl
 | a::post,pre,hk,hl=>by
  have hp:pre.length<=16:=by rw[List.length_append]at hl;omega
  have hq:(pre++post).length<=16:=by rw[List.length_append,List.length_cons]at hl;rw[List.length_append];omega
  have aI:∀b∈pre++post,bn d.toNat b:=λb hb=>hk b (by
   rcases List.mem_append.1 hb with h|h
   ·exact List.mem_append_left _ h
   ·exact List.mem_append_right _ (List.mem_cons_of_mem _ h))
  have px:bH (d,pre++post)=true:=cA.2 ⟨aI,h0,h4,hq⟩;obtain⟨e1,e2,e3,e4⟩:=Tt pre a post (by omega);rw[RF];dsimp only;rw[e3,cond_true,e1,cond_true,TX,TW pre a post (by omega),e2,cond_true,e4,hx];have d1:decide ((0+pre.length)*40<=140737488355328)=true:=decide_eq_true (by omega);have d2:decide ((pre.length+post.length)*40<=140737488355328)=true:=decide_eq_true (by rw[List.length_append]at hq;omega);rw[d1,cond_true,d2,cond_true];simp only[Option.bind_some];rw[aeC _ _ (by show (pre++post).length<=_;omega)];unfold kF nE;simp only[Option.bind_some];cases h1:(jJ (d,pre++post) a).2 with
  | false=>rfl
  | true =>
   simp only[Bool.not_true,cond_false,cond_true];cases h2:(jJ (d,pre++post) a).1 with
   | true =>
    simp only[cond_true];rw[(Ic px).1];simp only[Option.bind_some];exact Ej h0 h4 x z hx post pre aI hq
   | false =>
    simp only[cond_false];rw[aN (by omega)];have:=Ej h0 h4 x z hx post (pre++[a]) (by simpa using hk) (by simpa using hl);rw[show (pre++[a])++post=pre++a::post by simp,show (pre++[a]).length=pre.length+1 by simp]at this;exact this
theorem afh{x:aB}(h:bH x=true):zq x=iu (oq x):=by
 obtain⟨k1,k2,k3,k4⟩:=cA.1 h;rw[afg,SO _ (by omega)];unfold oq nE;simp only[Option.bind_some];cases h1:(iL x).2 with
 | false=>rfl
 | true =>
  simp only[Bool.not_true,cond_false,cond_true];cases h2:(iL x).1 with
  | true =>
   simp only[cond_true];rw[Gf k2 (by omega)];rfl
  | false =>
   simp only[cond_false];rw[(Ic h).1];simp only[Option.bind_some];exact Ej k2 k3 x (0,[]) rfl x.2 [] (by simpa using k1) (by simpa using k4)
theorem D9(h0:0<=d)(h4:d<=4)(x z:aB)(hx:x.1=d):∀(post pre:List aa),(∀a∈pre++post,bn d.toNat a)->(pre++post).length<=16 ->
  tE x z (d,pre++post) (pre.length:Int)=iu ((kF d pre post).map λl=>(d,l))
 | [],pre,_,_=>by
  rw[QE,List.append_nil,aV,cond_false];rfl
 | a::post,pre,hk,hl=>by
  have hp:pre.length<=16:=by rw[List.length_append]at hl;omega
  have hq:(pre++post).length<=16:=by rw[List.length_append,List.length_cons]at hl;rw[List.length_append];omega
  have hpo:post.length<=16:=by rw[List.length_append]at hq;omega
  have aI:∀b∈pre++post,bn d.toNat b:=λb hb=>hk b (by
   rcases List.mem_append.1 hb with h|h
   ·exact List.mem_append_left _ h
   ·exact List.mem_append_right _ (List.mem_cons_of_mem _ h))
  obtain⟨e1,e2,e3,e4⟩:=Tt pre a post (by omega);rw[QE];dsimp only;rw[e3,cond_true,e1,cond_true,TX,TW pre a post (by omega),e2,cond_true,e4,hx,Lt (by omega) (by omega)];simp only[Option.bind_some];rw[adu]
  conv=>rhs;unfold kF
  unfold nE;simp only[Option.bind_some];cases h1:(jJ (d,pre++post) a).2 with
  | false=>rfl
  | true =>
   simp only[Bool.not_true,cond_false,cond_true];cases h2:(jJ (d,pre++post) a).1 with
   | true =>
    simp only[cond_true];exact D9 h0 h4 x z hx post pre aI hq
   | false =>
    simp only[cond_false];rw[aN (by omega)];have:=D9 h0 h4 x z hx post (pre++[a]) (by simpa using hk) (by simpa using hl);rw[show (pre++[a])++post=pre++a::post by simp,show (pre++[a]).length=pre.length+1 by simp]at this;exact this
theorem adJ(c:aB):yW c=iu (kE c):=by
 rw[adI,adP,oK];unfold kE;simp only[Option.bind_some];cases hc:bH c with
 | false=>rfl
 | true =>
  obtain⟨k1,k2,k3,k4⟩:=cA.1 hc;have hn:=sF hc;obtain⟨j1,j2,j3,j4⟩:=cA.1 hn;rw[iy]at j1;simp only[Bool.not_true,cond_false,cond_true];rw[F6 k2 (by omega) k1 (by omega)];simp only[Option.bind_some,Bool.not_true,cond_false];rw[Sp];unfold oq nE;simp only[Option.bind_some];cases h1:(iL (cu c.1 c.2)).2 with
  | false=>rfl
  | true =>
   simp only[Bool.not_true,cond_false,cond_true];cases h2:(iL (cu c.1 c.2)).1 with
   | true =>
    simp only[cond_true];rw[F1 k2 (by omega),iy];rfl
   | false =>
    simp only[cond_false];have:=D9 k2 k3 c (0,[]) rfl (cu c.1 c.2).2 [] (by simpa using j1) (by simpa using j4);rw[iy];refine Eq.trans ?_ this;rw[List.nil_append];congr 1;exact Prod.ext (iy _ _) rfl
theorem aei(h:bH c=true):F2 c=some ((B0 c,()),()):=by
 obtain⟨k1,k2,k3,k4⟩:=cA.1 h;rw[aeh];unfold B0
 match hc:c.2 with
 | []=>rfl
 | [a] =>
  have ha:bK a=true:=(k1 a (by rw[hc];exact List.mem_singleton.2 rfl)).1;have g0:ab [a] 0=some a:=rfl;rw[show (((([a]:List aa).length:Nat):Int)==1)=true from rfl,cond_true,g0];simp only[Option.bind_some];rw[SG ha];simp only[Option.bind_some];unfold eu;cases (gl a.1 0 != 0)<;>simp only[Bool.not_true,Bool.not_false,cond_true,cond_false,Bool.false_and,Bool.true_and];cases a.2.1==1<;>rfl
 | a::b::l =>
  have:((((a::b::l:List aa).length:Nat):Int)==1)=false:=by
   rw[beq_eq_false_iff_ne];simp only[List.length_cons];omega
  rw[this];rfl
def gf:Option (List ah)->Option ((List ah×Bool×PUnit)×PUnit)
 | some r=>some ((r,true,()),())
 | none=>some (([],false,()),())
theorem UF(n:Nat):decide ((n:Int)>=24)=decide (n>=24):=by rw[Bool.eq_iff_iff];simp;omega
theorem zm{l:List ah}{f:List (List Int)}(hc:bH c=true)(hl:l.length<=24):oQ l c f=gf (ff l c f):=by
 obtain⟨k1,k2,k3,k4⟩:=cA.1 hc;have hn:=sF hc;rw[aeZ,zt k2 (by omega) k1 (by omega)];simp only[Option.bind_some];rw[afh hn];unfold ff;have hm:kE c=oq (cu c.1 c.2):=by unfold kE;rw[hc];rfl
 rw[hm];cases h1:oq (cu c.1 c.2)with
 | none=>rfl
 | some m =>
  obtain⟨m1,m2,m3,m4⟩:=cA.1 (CY (hm.trans h1)).2.1;unfold iu;simp only[Option.bind_some,Bool.not_true,cond_false];rw[UF];cases h2:decide (l.length>=24)with
  | true=>rfl
  | false =>
   simp only[cond_false];have d1:decide ((0+l.length)*56<=140737488355328)=true:=decide_eq_true (by omega);have d2:decide ((l.length+1)*56<=140737488355328)=true:=decide_eq_true (by omega);rw[d1,cond_true,d2,cond_true];unfold rO eu
   match gH:m.2 with
   | []=>rfl
   | [a] =>
    have ha:=eD (m1 a (by rw[gH];exact List.mem_singleton.2 rfl));have g0:ab [a] 0=some a:=rfl;rw[show (((([a]:List aa).length:Nat):Int)==1)=true from rfl,cond_true,g0];simp only[Option.bind_some];rw[SV _ (by omega)];simp only[Option.bind_some];rw[show (!(gl a.1 0 != 0))=(gl a.1 0==0)by simp[bne]];cases gl a.1 0==0<;>rfl
   | a::b::t =>
    have:((((a::b::t:List aa).length:Nat):Int)==1)=false:=by
     rw[beq_eq_false_iff_ne];simp only[List.length_cons];omega
    rw[this];rfl
theorem y3{l:List ah}{f:List (List Int)}(hl:l.length<=24):oL l c f=gf (ff l c f):=by
 rw[adW,adJ];unfold ff;cases h1:kE c with
 | none=>rfl
 | some m =>
  unfold iu;simp only[Option.bind_some,Bool.not_true,cond_false];rw[UF];cases h2:decide (l.length>=24)with
  | true=>rfl
  | false =>
   simp only[cond_false];rw[aei (CY h1).2.1,alz h1];have d2:decide ((l.length+1)*56<=140737488355328)=true:=decide_eq_true (by omega);simp only[Option.bind_some];rw[d2,cond_true];cases rO m<;>rfl
def jR(a:List Int):List Int->Nat->List Int->Option (List Int)
 | [],_,o=>some o
 | v::vs,i,o=>bif dS v then jR a vs (i+1) (o.set v.toNat (o.getD v.toNat 0+a.getD i 0))else none
def lP(vars:List Int):List aa->List aa->Option (List aa)
 | [],o=>some o
 | a::l,o=>match jR a.1 vars 0 (List.replicate (Int.toNat 4) (0:Int))with
  | none=>none
  | some x=>bif (fx x a.2.1 a.2.2).2 then lP vars l (o++[(fx x a.2.1 a.2.2).1])else none
def lO(c:aB)(vars:List Int):Option aB:=bif bH c&&((vars.length:Int)==c.1)then (lP vars c.2 []).map λl=>((4:Int),l)else none
theorem Dg(a:List Int)(ha:∀y∈a,y.natAbs<=400000000):∀(vs:List Int) (i:Nat) (o r:List Int) (n:Nat),o.length=4->(∀y∈o,y.natAbs<=400000000*n)->jR a vs i o=some r->r.length=4/\∀y∈r,y.natAbs<=400000000*(n+vs.length)
 | [],i,o,r,n,h1,h2,h=>by
  unfold jR at h;cases h;exact⟨h1,by simpa using h2⟩
 | v::vs,i,o,r,n,h1,h2,h=>by
  unfold jR at h;cases hv:dS v with
  | false=>rw[hv]at h;cases h
  | true =>
   rw[hv,cond_true]at h;have key:∀y∈o.set v.toNat (o.getD v.toNat 0+a.getD i 0),y.natAbs<=400000000*(n+1):=by
    intro y hy;rcases List.mem_or_eq_of_mem_set hy with hy|rfl
    ·have:=h2 y hy;omega
    ·have e1:(o.getD v.toNat 0).natAbs<=400000000*n:=by
      rw[List.getD_eq_getElem?_getD];cases hg:o[v.toNat]? with
      | none=>simp
      | some z=>exact h2 z (List.mem_of_getElem? hg)
     have e2:(a.getD i 0).natAbs<=400000000:=by
      rw[List.getD_eq_getElem?_getD];cases hg:a[i]? with
      | none=>simp
      | some z=>exact ha z (List.mem_of_getElem? hg)
     omega
   have:=Dg a ha vs (i+1) _ r (n+1) (by simpa using h1) key h;refine⟨this.1,λy hy=>?_⟩;have:=this.2 y hy;rw[List.length_cons];omega
theorem YB{a o:List Int}{v:Int}{i:Nat}(hv:dS v=true)(ho:o.length=4)(hi:i<a.length):
  ab o v=some (o.getD v.toNat 0)/\ab a (i:Int)=some (a.getD i 0):=by
 unfold dS at hv;simp only[Bool.and_eq_true,decide_eq_true_eq]at hv;have av:v.toNat<o.length:=by omega
 refine⟨?_,?_⟩
 ·have:=aD (xs:=o) (i:=v.toNat) av;rw[show ((v.toNat:Nat):Int)=v by omega]at this;rw[this,List.getD_eq_getElem?_getD,List.getElem?_eq_getElem av];rfl
 ·rw[aD hi,List.getD_eq_getElem?_getD,List.getElem?_eq_getElem hi];rfl
theorem YA(vars:List Int):∀(l o r:List aa),(∀a∈o,bn 4 a)->(∀a∈l,∀y∈a.1,y.natAbs<=400000000)->lP vars l o=some r->(∀a∈r,bn 4 a)/\r.length=o.length+l.length
 | [],o,r,h1,_,h=>by
  unfold lP at h;cases h;exact⟨h1,rfl⟩
 | a::l,o,r,h1,hn,h=>by
  unfold lP at h;cases hp:jR a.1 vars 0 (List.replicate (Int.toNat 4) (0:Int))with
  | none=>rw[hp]at h;cases h
  | some x =>
   rw[hp]at h;dsimp only at h;cases hm:(fx x a.2.1 a.2.2).2 with
   | false=>rw[hm]at h;cases h
   | true =>
    rw[hm,cond_true]at h;have hx:=Dg a.1 (hn a (List.mem_cons_self ..)) vars 0 _ x 0 (by simp) (by simp[List.mem_replicate]) hp;have hk:=XZ hm;rw[hx.1]at hk;have:=YA vars l _ r (λb hb=>by
     rcases List.mem_append.1 hb with hb|hb
     ·exact h1 b hb
     ·rw[List.mem_singleton.1 hb];exact hk) (λb hb=>hn b (List.mem_cons_of_mem _ hb)) h
    refine⟨this.1,?_⟩;rw[this.2,List.length_append,List.length_singleton,List.length_cons];omega
theorem Df{r:aB}{vars:List Int}(h:lO c vars=some r):bH r=true/\r.1=4:=by
 unfold lO at h;cases hc:bH c&&((vars.length:Int)==c.1)with
 | false=>rw[hc]at h;cases h
 | true =>
  rw[hc,cond_true]at h;have hc:=(Bool.and_eq_true_iff.1 hc).1;obtain⟨k1,k2,k3,k4⟩:=cA.1 hc;cases hl:lP vars c.2 []with
  | none=>rw[hl]at h;cases h
  | some l =>
   rw[hl]at h;cases h;have:=YA vars c.2 [] l (by simp) (λa ha=>(eD (k1 a ha)).1) hl;exact⟨cA.2 ⟨this.1,by show (0:Int)<=4;omega,by show (4:Int)<=4;omega,by show l.length<=16;rw[this.2];simpa using k4⟩,rfl⟩
theorem RN(vars:List Int)(c z x6:aB)(hk:k<c.2.length)(ha:bn n (c.2[k]))(hv:vars.length=n):∀(m i:Nat) (o:List Int),m+i=vars.length->o.length=4->(∀y∈o,y.natAbs<=400000000*i) ->
  tP vars c z x6 (k:Int) o (i:Int)=match jR (c.2[k]).1 (vars.drop i) i o with
   | none=>iu none
   | some x=>tP vars c z x6 (k:Int) x (vars.length:Int)
 | 0,i,o,hm,ho,hb=>by
  obtain rfl:i=vars.length:=by omega
  rw[List.drop_length];rfl
 | m+1,i,o,hm,ho,hb=>by
  have hi:i<vars.length:=by omega
  have hn:vars.length<=4:=by have:=(eD ha).2.2;have h2:=ha.2;omega
  rw[drop_cons hi]
  conv=>rhs;unfold jR
  rw[Rp,aR hi,cond_true,aD hi];simp only[Option.bind_some];rw[kU];simp only[Option.bind_some];show (bif !dS vars[i]then _ else _)=_;cases CC:dS vars[i]with
  | false=>rfl
  | true =>
   obtain⟨s1,s2⟩:=YB (a:=(c.2[k]).1) (o:=o) (i:=i) CC ho (by rw[ha.2];omega);simp only[Bool.not_true,cond_false,cond_true];rw[s1];simp only[Option.bind_some];rw[aD hk];simp only[Option.bind_some];rw[s2];simp only[Option.bind_some];have e1:(o.getD (vars[i]).toNat 0).natAbs<=400000000*i:=by
    rw[List.getD_eq_getElem?_getD];cases hg:o[(vars[i]).toNat]? with
    | none=>simp
    | some z=>exact hb z (List.mem_of_getElem? hg)
   have e2:((c.2[k]).1.getD i 0).natAbs<=400000000:=by
    rw[List.getD_eq_getElem?_getD];cases hg:(c.2[k]).1[i]? with
    | none=>simp
    | some z=>exact (eD ha).1 z (List.mem_of_getElem? hg)
   rw[ca (by omega) (by omega),aN (by omega)];refine RN vars c z x6 hk ha hv m (i+1) _ (by omega) (by simpa using ho) (λy hy=>?_);rcases List.mem_or_eq_of_mem_set hy with hy|rfl
   ·have:=hb y hy;omega
   ·omega
theorem RM(vars:List Int)(c z:aB)(hc:∀a∈c.2,bn n a)(hl:c.2.length<=16)(hv:vars.length=n):∀(m k:Nat) (o:List aa),m+k=c.2.length->o.length=k ->
  xV vars c z (4,o) (k:Int)=iu ((lP vars (c.2.drop k) o).map λl=>((4:Int),l))
 | 0,k,o,hm,ho=>by
  obtain rfl:k=c.2.length:=by omega
  rw[Ro,aV,cond_false,List.drop_length];rfl
 | m+1,k,o,hm,ho=>by
  have hk:k<c.2.length:=by omega
  have ha:=hc _ (List.getElem_mem hk);have hn:vars.length<=4:=by have:=(eD ha).2.2;have h2:=ha.2;omega
  rw[Ro,aR hk,cond_true,drop_cons hk];have h9:=RN vars c z (4,o) hk ha hv vars.length 0 (List.replicate (Int.toNat 4) (0:Int)) rfl (by simp) (by simp[List.mem_replicate]);rw[List.drop_zero,Int.natCast_zero]at h9;rw[h9];unfold lP;cases hp:jR (c.2[k]).1 vars 0 (List.replicate (Int.toNat 4) (0:Int))with
  | none=>rfl
  | some x =>
   have hx:=Dg (c.2[k]).1 (eD ha).1 vars 0 _ x 0 (by simp) (by simp[List.mem_replicate]) hp;dsimp only;rw[Rp,aV,cond_false,aD hk];simp only[Option.bind_some];rw[SU (by rw[hx.1];omega) (λy hy=>by have:=hx.2 y hy;omega) (by have:=(eD ha).2.1;omega)];simp only[Option.bind_some];cases gH:(fx x (c.2[k]).2.1 (c.2[k]).2.2).2 with
   | false=>rfl
   | true =>
    simp only[Bool.not_true,cond_false,cond_true];have d:decide ((o.length+1)*40<=140737488355328)=true:=decide_eq_true (by omega);rw[d,cond_true,aN (by omega)];exact RM vars c z hc hl hv m (k+1) _ (by omega) (by simp[ho])
theorem aeW(c:aB)(vars:List Int)(hl:c.2.length<=68719476736):uk c vars=iu (lO c vars):=by
 rw[aeV,ui _ hl];unfold lO;simp only[Option.bind_some];cases hc:bH c with
 | false=>rfl
 | true =>
  obtain⟨k1,k2,k3,k4⟩:=cA.1 hc;simp only[Bool.not_true,cond_false,Bool.true_and,bne];cases hv:((vars.length:Int)==c.1)with
  | false=>rfl
  | true =>
   simp only[Bool.not_true,cond_false,cond_true];have hv:=beq_iff_eq.1 hv;have:=RM vars c (0,[]) k1 k4 (by omega) c.2.length 0 [] rfl rfl
   rwa [List.drop_zero]at this
theorem Q3(vars:List Int)(c z x6:aB)(a:aa)(ha:bn n a)(hv:vars.length=n)(L:List aa)(b:Int)(k:Int):∀(m i:Nat) (o:List Int),m+i=vars.length->o.length=4->(∀y∈o,y.natAbs<=400000000*i) ->
  tG vars c z x6 a o L b k vars (vars.length:Int) (i:Int)=match jR a.1 (vars.drop i) i o with
   | none=>iu none
   | some x=>tG vars c z x6 a x L b k vars (vars.length:Int) (vars.length:Int)
 | 0,i,o,hm,ho,hb=>by
  obtain rfl:i=vars.length:=by omega
  rw[List.drop_length];rfl
 | m+1,i,o,hm,ho,hb=>by
  have hi:i<vars.length:=by omega
  have hn:vars.length<=4:=by have:=(eD ha).2.2;have h2:=ha.2;omega
  rw[drop_cons hi]
  conv=>rhs;unfold jR
  rw[QI,aR hi,cond_true,aD hi];simp only[Option.bind_some];rw[F4];simp only[Option.bind_some];cases CC:dS vars[i]with
  | false=>rfl
  | true =>
   obtain⟨s1,s2⟩:=YB (a:=a.1) (o:=o) (i:=i) CC ho (by rw[ha.2];omega);simp only[Bool.not_true,cond_false,cond_true];rw[s1];simp only[Option.bind_some];rw[s2];simp only[Option.bind_some];have e1:(o.getD (vars[i]).toNat 0).natAbs<=400000000*i:=by
    rw[List.getD_eq_getElem?_getD];cases hg:o[(vars[i]).toNat]? with
    | none=>simp
    | some z=>exact hb z (List.mem_of_getElem? hg)
   have e2:(a.1.getD i 0).natAbs<=400000000:=by
    rw[List.getD_eq_getElem?_getD];cases hg:a.1[i]? with
    | none=>simp
    | some z=>exact (eD ha).1 z (List.mem_of_getElem? hg)
   rw[ca (by omega) (by omega),aN (by omega)];refine Q3 vars c z x6 a ha hv L b k m (i+1) _ (by omega) (by simpa using ho) (λy hy=>?_);rcases List.mem_or_eq_of_mem_set hy with hy|rfl
   ·have:=hb y hy;omega
   ·omega
theorem Q2(vars:List Int)(c z:aB)(hc:∀a∈c.2,bn n a)(hl:c.2.length<=16)(hv:vars.length=n):∀(m k:Nat) (o:List aa),m+k=c.2.length->o.length=k ->
  xF vars c z (4,o) c.2 (c.2.length:Int) (k:Int)=iu ((lP vars (c.2.drop k) o).map λl=>((4:Int),l))
 | 0,k,o,hm,ho=>by
  obtain rfl:k=c.2.length:=by omega
  rw[QH,aV,cond_false,List.drop_length];rfl
 | m+1,k,o,hm,ho=>by
  have hk:k<c.2.length:=by omega
  have ha:=hc _ (List.getElem_mem hk);have hn:vars.length<=4:=by have:=(eD ha).2.2;have h2:=ha.2;omega
  rw[QH,aR hk,cond_true,drop_cons hk,aD hk];simp only[Option.bind_some];have h9:=Q3 vars c z (4,o) (c.2[k]) ha hv c.2 (c.2.length:Int) (k:Int) vars.length 0 (List.replicate (Int.toNat 4) (0:Int)) rfl (by simp) (by simp[List.mem_replicate]);rw[List.drop_zero,Int.natCast_zero]at h9;rw[h9];unfold lP;cases hp:jR (c.2[k]).1 vars 0 (List.replicate (Int.toNat 4) (0:Int))with
  | none=>rfl
  | some x =>
   have hx:=Dg (c.2[k]).1 (eD ha).1 vars 0 _ x 0 (by simp) (by simp[List.mem_replicate]) hp;dsimp only;rw[QI,aV,cond_false];rw[SK (by rw[hx.1];omega) (λy hy=>by have:=hx.2 y hy;omega) (by have:=(eD ha).2.1;omega)];simp only[Option.bind_some];cases gH:(fx x (c.2[k]).2.1 (c.2[k]).2.2).2 with
   | false=>rfl
   | true =>
    simp only[Bool.not_true,cond_false,cond_true];have d:decide ((o.length+1)*40<=140737488355328)=true:=decide_eq_true (by omega);rw[d,cond_true,aN (by omega)];exact Q2 vars c z hc hl hv m (k+1) _ (by omega) (by simp[ho])
theorem adR(c:aB)(vars:List Int):tZ c vars=iu (lO c vars):=by
 rw[adQ,oK];unfold lO;simp only[Option.bind_some];cases hc:bH c with
 | false=>rfl
 | true =>
  obtain⟨k1,k2,k3,k4⟩:=cA.1 hc;simp only[Bool.not_true,cond_false,Bool.true_and,bne];cases hv:((vars.length:Int)==c.1)with
  | false=>rfl
  | true =>
   simp only[Bool.not_true,cond_false,cond_true];have hv:=beq_iff_eq.1 hv;have:=Q2 vars c (0,[]) k1 k4 (by omega) c.2.length 0 [] rfl rfl
   rwa [List.drop_zero]at this
def gp(p:List Int):Prop:=∃a b,p=[a,b]/\0<=b/\b<=68719476736
theorem IF{p:List Int}(h:gp p):p.length<=2:=by
 obtain⟨a,b,rfl,_⟩:=h;simp
theorem IG{k:Int}(hi:i<=68719476736):∀p∈[[k,(i:Int)]],gp p:=λp hp=>by
 rw[List.mem_singleton.1 hp];exact⟨k,i,rfl,by omega,by omega⟩
def okF(k:Nat)(s:ah):Prop:=bH s.1=true/\s.1.1=4/\s.2.length<=k/\∀p∈s.2,gp p
def bU(k:Nat)(l:List ah):Prop:=l.length<=24/\∀s∈l,okF k s
theorem okF.mono{s:ah}(h:okF k s)(hm:k<=m):okF m s:=⟨h.1,h.2.1,Nat.le_trans h.2.2.1 hm,h.2.2.2⟩
theorem bU.mono{l:List ah}(h:bU k l)(hm:k<=m):bU m l:=⟨h.1,λs hs=>(h.2 s hs).mono hm⟩
theorem qb{s:ah}(h:okF k s):zL zI s.2<=k*3/\zP s<=80+k*3:=by
 have h1:=DH zI 2 s.2 (λp hp=>IF (h.2.2.2 p hp));have h2:s.2.length*3<=k*3:=Nat.mul_le_mul_right _ h.2.2.1;have h3:=ahd h.1;rw[aqH];omega
theorem Gd{l:List ah}(h:bU k l)(hk:k<=1000000):rk l=some ((l,()),()):=by
 rw[ae0];have:=oZ l id (λo=>some ((o,()),())) (λo i=>xX l o i) (λi hi o ho=>by
  have hs:=h.2 _ (List.getElem_mem hi);have hz:=(qb hs).1;have hd:decide ((o.length+1)*56<=140737488355328)=true:=decide_eq_true (by have:=h.1;omega);rw[Rr,aR hi,cond_true,aD hi];simp only[Option.bind_some];rw[(Ic hs.1).1];simp only[Option.bind_some];rw[zn _ (by omega)];simp only[Option.bind_some];rw[hd,cond_true,aN (by have:=h.1;omega)];rfl) (λo=>by rw[Rr,aV];rfl)
 rw[this,List.map_id]
theorem FZ{l:List ah}(h:bU k l)(hk:k<=1000000):ra l=some ((l,()),()):=by
 rw[ad9];have:=oZ l id (λo=>some ((o,()),())) (λo i=>xN l o l (l.length:Int) i) (λi hi o ho=>by
  have hs:=h.2 _ (List.getElem_mem hi);have hz:=(qb hs).2;have hd:decide ((o.length+1)*56<=140737488355328)=true:=decide_eq_true (by have:=h.1;omega);rw[QR,aR hi,cond_true,aD hi];simp only[Option.bind_some];rw[ad8 _ (by omega)];simp only[Option.bind_some];rw[hd,cond_true,aN (by have:=h.1;omega)];rfl) (λo=>by rw[QR,aV];rfl)
 rw[this,List.map_id]
theorem D8(x0 x9:List (List (List Int)))(c L:List (List Int))(aX j:Int)(hL:∀p∈L,p.length<=1000):∀(m i:Nat) (o:List (List Int)),m+i=L.length->o.length+m<=10000000->i+m<=10000000 ->
  tK x0 o c x9 aX j L (L.length:Int) (i:Int)=tI x0 (o++L.drop i) x9 aX (IntKind.i64.wrap (j+1))
 | 0,i,o,hm,ho,ez=>by
  obtain rfl:i=L.length:=by omega
  rw[xM,aV,cond_false,List.drop_length,List.append_nil]
 | m+1,i,o,hm,ho,ez=>by
  have hi:i<L.length:=by omega
  have hd:decide ((o.length+1)*24<=140737488355328)=true:=decide_eq_true (by omega);rw[xM,aR hi,cond_true,aD hi];simp only[Option.bind_some];rw[FX _ (by have:=hL _ (List.getElem_mem hi);omega)];simp only[Option.bind_some];rw[hd,cond_true,aN (by omega),D8 x0 x9 c L aX j hL m (i+1) _ (by omega) (by simp;omega) (by omega),drop_cons hi,List.append_assoc];rfl
theorem ad6{l m:List (List Int)}(hl:l.length<=1000000)(hm:m.length<=1000000)(h1:∀p∈l,p.length<=2)(h2:∀p∈m,p.length<=2):oN [l,m]=some ((l++m,()),()):=by
 have w1:IntKind.i64.wrap (0+1)=1:=by decide
 have w2:IntKind.i64.wrap (1+1)=2:=by decide
 rw[SB];show tI [l,m] [] [l,m] 2 0=_;rw[tJ,show decide ((0:Int)<2)=true from rfl,cond_true,show ab [l,m] 0=some l from rfl];simp only[Option.bind_some];have e1:=D8 [l,m] [l,m] l l 2 0 (λp hp=>by have:=h1 p hp;omega) l.length 0 [] (by omega) (by simp;omega) (by omega);rw[Int.natCast_zero]at e1;rw[e1,List.drop_zero,List.nil_append,w1,tJ,show decide ((1:Int)<2)=true from rfl,cond_true,show ab [l,m] 1=some m from rfl];simp only[Option.bind_some];have e2:=D8 [l,m] [l,m] m m 2 1 (λp hp=>by have:=h2 p hp;omega) m.length 0 l (by omega) (by omega) (by omega);rw[Int.natCast_zero]at e2;rw[e2,List.drop_zero,w2,tJ,show decide ((2:Int)<2)=false from rfl,cond_false]
theorem lU{l:List ah}{f:List (List Int)}(hl:bU k l)(hc:c.1=4)(hf:f.length<=k)(hf2:∀p∈f,gp p)(h:ff l c f=some r):bU k r:=by
 unfold ff at h;cases hm:kE c with
 | none=>rw[hm]at h;cases h
 | some m =>
  rw[hm]at h;dsimp only at h;obtain⟨_,m1,m2⟩:=CY hm;cases h1:decide (l.length>=24)with
  | true=>rw[h1]at h;cases h
  | false =>
   rw[h1,cond_false]at h;have h2:¬l.length>=24:=of_decide_eq_false h1;cases h3:rO m with
   | true=>rw[h3,cond_true]at h;cases h;exact hl
   | false =>
    rw[h3,cond_false]at h;cases h;refine⟨by rw[List.length_append,List.length_singleton];omega,λs hs=>?_⟩;rcases List.mem_append.1 hs with k|k
    ·exact hl.2 s k
    ·rw[List.mem_singleton.1 k];exact⟨m1,m2.trans hc,hf,hf2⟩
def nB(K:List (List ah)):Option (List ah)->Option ((List ah×Bool×PUnit)×List (List ah)×PUnit)
 | some r=>some ((r,true,()),K,())
 | none=>some (([],false,()),K,())
def sT(n:al)(r:Rw):Bool := !emp n.2.2.2.1 && !(r.1.toList==n.2.2.2.1.toList)
def lT(n:al)(k:Int):List Rw->Nat->List ah->Option (List ah)
 | [],_,o=>some o
 | r::l,i,o=>bif sT n r then lT n k l (i+1) o else match lO r.2 n.2.2.2.2.1 with
  | none=>none
  | some c=>match ff o c [[k,(i:Int)]]with
   | none=>none
   | some o=>lT n k l (i+1) o
theorem KG{n:al}{k:Int}{b:Nat}(hb:1<=b):∀(l:List Rw) (i:Nat) (o r:List ah),i+l.length<=68719476736->bU b o->lT n k l i o=some r->bU b r
 | [],i,o,r,hz,ho,h=>by
  unfold lT at h;cases h;exact ho
 | x::l,i,o,r,hz,ho,h=>by
  have c8:i+1+l.length<=68719476736:=by rw[List.length_cons]at hz;omega
  unfold lT at h;cases h1:sT n x with
  | true=>rw[h1,cond_true]at h;exact KG hb l _ o r c8 ho h
  | false =>
   rw[h1,cond_false]at h;cases h2:lO x.2 n.2.2.2.2.1 with
   | none=>rw[h2]at h;cases h
   | some c =>
    rw[h2]at h;dsimp only at h;cases h3:ff o c [[k,(i:Int)]]with
    | none=>rw[h3]at h;cases h
    | some o2 =>
     rw[h3]at h;exact KG hb l _ o2 r c8 (lU ho (Df h2).2 (by simpa using hb) (IG (by omega)) h3) h
theorem Y2(n:al)(r:Rw)(A B:R):(bif !ByteArray.toList n.2.2.2.1==(ByteArray.mk #[]).toList then (bif !ByteArray.toList r.1==ByteArray.toList n.2.2.2.1 then A else B)else B)=bif sT n r then A else B:=by
 unfold sT emp;cases (ByteArray.toList n.2.2.2.1==(ByteArray.mk #[]).toList)<;>rfl
theorem ace(db:List Rel)(K:List (List ah))(n:al)(k:Int)(rl:Rel)(hk:ab db k=some rl)(i:Int):nJ db K n [] false k i=nB K none:=by
 rw[Ed,hk];simp only[Option.bind_some,cond_false];cases decide (i<((rl.2.2.length:Nat):Int))<;>rfl
theorem Ec{db:List Rel}{K:List (List ah)}{n:al}{k:Int}{rl:Rel}{b:Nat}(hb:1<=b)(hk:ab db k=some rl)(hz:rl.2.2.length<=68719476736)(hr:∀r∈rl.2.2,r.2.2.length<=68719476736):∀(m i:Nat) (o:List ah),m+i=rl.2.2.length->bU b o ->
  nJ db K n o true k (i:Int)=nB K (lT n k (rl.2.2.drop i) i o)
 | 0,i,o,hm,ho=>by
  obtain rfl:i=rl.2.2.length:=by omega
  rw[Ed,hk];simp only[Option.bind_some];rw[aV,cond_false,List.drop_length];rfl
 | m+1,i,o,hm,ho=>by
  have hi:i<rl.2.2.length:=by omega
  rw[Ed,hk];simp only[Option.bind_some];rw[aR hi,cond_true,cond_true,aD hi,drop_cons hi];simp only[Option.bind_some];rw[Y2];unfold lT;cases h1:sT n rl.2.2[i]with
  | true =>
   rw[cond_true,cond_true,aN (by omega)];exact Ec hb hk hz hr m (i+1) o (by omega) ho
  | false =>
   rw[cond_false,cond_false,aeW _ _ (hr _ (List.getElem_mem hi))];cases h2:lO rl.2.2[i].2 n.2.2.2.2.1 with
   | none=>rfl
   | some c =>
    unfold iu;simp only[Option.bind_some,Bool.not_true,cond_false];rw[zm (Df h2).1 ho.1];cases h3:ff o c [[k,(i:Int)]]with
    | none =>
     show nJ db K n [] false k _=_;rw[ace db K n k rl hk]
    | some o2 =>
     unfold gf;simp only[Option.bind_some];rw[aN (by omega)];exact Ec hb hk hz hr m (i+1) o2 (by omega) (lU ho (Df h2).2 (by simpa using hb) (IG (by omega)) h3)
theorem Eb{db:List Rel}{n:al}{k:Int}{L:List Rw}{b:Nat}(hb:1<=b)(hz:L.length<=68719476736):∀(m i:Nat) (o:List ah),m+i=L.length->bU b o ->
  qR db n o k db L (L.length:Int) (i:Int)=gf (lT n k (L.drop i) i o)
 | 0,i,o,hm,ho=>by
  obtain rfl:i=L.length:=by omega
  rw[Q6,aV,cond_false,List.drop_length];rfl
 | m+1,i,o,hm,ho=>by
  have hi:i<L.length:=by omega
  rw[Q6,aR hi,cond_true,aD hi,drop_cons hi];simp only[Option.bind_some];rw[Y2];unfold lT;cases h1:sT n L[i]with
  | true =>
   rw[cond_true,cond_true,aN (by omega)];exact Eb hb hz m (i+1) o (by omega) ho
  | false =>
   rw[cond_false,cond_false,adR];cases h2:lO L[i].2 n.2.2.2.2.1 with
   | none=>rfl
   | some c =>
    unfold iu;simp only[Option.bind_some,Bool.not_true,cond_false];rw[y3 ho.1];cases h3:ff o c [[k,(i:Int)]]with
    | none=>rfl
    | some o2 =>
     unfold gf;simp only[Option.bind_some,Bool.not_true,cond_false];rw[aN (by omega)];exact Eb hb hz m (i+1) o2 (by omega) (lU ho (Df h2).2 (by simpa using hb) (IG (by omega)) h3)
def jt(x:ah):List ah->List ah->Option (List ah)
 | [],o=>some o
 | y::l,o=>bif (en x.1 y.1).2 then (match ff o (en x.1 y.1).1 (x.2++y.2)with
  | none=>none
  | some o=>jt x l o)else none
def mf(b:List ah):List ah->List ah->Option (List ah)
 | [],o=>some o
 | x::l,o=>match jt x b o with
  | none=>none
  | some o=>mf b l o
def mq(v:Nat):List ah->List ah->Option (List ah)
 | [],o=>some o
 | x::l,o=>bif (dM x.1 v).2 then (match ff o (dM x.1 v).1 x.2 with
  | none=>none
  | some o=>mq v l o)else none
theorem CX{y:ah}(hx:x.1.1=4)(h:(en x.1 y.1).2=true):bH (en x.1 y.1).1=true/\(en x.1 y.1).1.1=4:=by
 obtain⟨h1,h2,_⟩:=XN h;refine⟨h1,?_⟩;rw[h2,iy,hx]
theorem rI{y:ah}(hx:okF k x)(hy:okF k y):(x.2++y.2).length<=2*k/\∀p∈x.2++y.2,gp p:=by
 have h1:=hx.2.2.1;have h2:=hy.2.2.1;refine⟨by rw[List.length_append];omega,λp hp=>?_⟩;rcases List.mem_append.1 hp with h|h
 ·exact hx.2.2.2 p h
 ·exact hy.2.2.2 p h
theorem BQ(hx:okF k x):∀(l o r:List ah),(∀y∈l,okF k y)->bU (2*k) o->jt x l o=some r->bU (2*k) r
 | [],o,r,_,ho,h=>by
  unfold jt at h;cases h;exact ho
 | y::l,o,r,hl,ho,h=>by
  unfold jt at h;cases h1:(en x.1 y.1).2 with
  | false=>rw[h1]at h;cases h
  | true =>
   rw[h1,cond_true]at h;cases h2:ff o (en x.1 y.1).1 (x.2++y.2)with
   | none=>rw[h2]at h;cases h
   | some o2 =>
    rw[h2]at h;have hy:=hl y (List.mem_cons_self ..);exact BQ hx l o2 r (λz hz=>hl z (List.mem_cons_of_mem _ hz)) (lU ho (CX hx.2.1 h1).2 (rI hx hy).1 (rI hx hy).2 h2) h
theorem Tl{b:List ah}(hb:∀y∈b,okF k y):∀(l o r:List ah),(∀y∈l,okF k y)->bU (2*k) o->mf b l o=some r->bU (2*k) r
 | [],o,r,_,ho,h=>by
  unfold mf at h;cases h;exact ho
 | x::l,o,r,hl,ho,h=>by
  unfold mf at h;cases h1:jt x b o with
  | none=>rw[h1]at h;cases h
  | some o2 =>
   rw[h1]at h;exact Tl hb l o2 r (λz hz=>hl z (List.mem_cons_of_mem _ hz)) (BQ (hl x (List.mem_cons_self ..)) b o o2 hb ho h1) h
theorem BZ(hx:bH x.1=true/\x.1.1=4)(h:(dM x.1 v).2=true):bH (dM x.1 v).1=true/\(dM x.1 v).1.1=4:=by
 have:=Im hx.1 h;exact⟨this.1,this.2.trans hx.2⟩
theorem Uh:∀(l o r:List ah),(∀y∈l,okF k y)->bU k o->mq v l o=some r->bU k r
 | [],o,r,_,ho,h=>by
  unfold mq at h;cases h;exact ho
 | x::l,o,r,hl,ho,h=>by
  unfold mq at h;have hx:=hl x (List.mem_cons_self ..);cases h1:(dM x.1 v).2 with
  | false=>rw[h1]at h;cases h
  | true =>
   rw[h1,cond_true]at h;cases h2:ff o (dM x.1 v).1 x.2 with
   | none=>rw[h2]at h;cases h
   | some o2 =>
    rw[h2]at h;exact Uh l o2 r (λz hz=>hl z (List.mem_cons_of_mem _ hz)) (lU ho (BZ ⟨hx.1,hx.2.1⟩ h1).2 hx.2.2.1 hx.2.2.2 h2) h
theorem acf(K:List (List ah))(n:al)(a b:List ah)(i:Int):oI K n [] false a b i=nB K none:=by
 rw[Ee];cases decide (i<((a.length:Nat):Int))<;>rfl
theorem acg(K:List (List ah))(n:al)(a b:List ah)(i j:Int):tQ K n [] false a b i j=nB K none:=by
 rw[Ef,acf];cases decide (j<((b.length:Nat):Int))<;>rfl
theorem Q9{K:List (List ah)}{n:al}{a b:List ah}(hk:k<=1000000)(hb:bU k b)(hi:i<a.length)(hx:okF k a[i]):∀(m j:Nat) (o:List ah),m+j=b.length->bU (2*k) o ->
  tQ K n o true a b (i:Int) (j:Int)=match jt a[i] (b.drop j) o with
   | none=>nB K none
   | some o=>oI K n o true a b (IntKind.i64.wrap ((i:Int)+1))
 | 0,j,o,hm,ho=>by
  obtain rfl:j=b.length:=by omega
  rw[Ef,aV,cond_false,List.drop_length];rfl
 | m+1,j,o,hm,ho=>by
  have hj:j<b.length:=by omega
  have vr:j<=24:=by have:=hb.1;omega
  have hy:=hb.2 _ (List.getElem_mem hj);have c1:=(cA.1 hx.1).2.2.2;have c2:=(cA.1 hy.1).2.2.2;rw[Ef,aR hj,cond_true,cond_true,aD hi,aD hj,drop_cons hj];simp only[Option.bind_some];rw[SQ _ _ (by omega) (by omega)];unfold jt gz;simp only[Option.bind_some];cases h1:(en a[i].1 b[j].1).2 with
  | false=>rfl
  | true =>
   have z1:=(qb hx).1;have z2:=(qb hy).1;have l1:=hx.2.2.1;have l2:=hy.2.2.1;simp only[Bool.not_true,cond_false,cond_true];rw[zn _ (by omega)];simp only[Option.bind_some];rw[zn _ (by omega)];simp only[Option.bind_some];have hd:decide ((a[i].2.length+b[j].2.length)*24<=140737488355328)=true:=decide_eq_true (by omega);rw[hd,cond_true,zm (CX hx.2.1 h1).1 ho.1];cases h2:ff o (en a[i].1 b[j].1).1 (a[i].2++b[j].2)with
   | none=>exact acg K n a b _ _
   | some o2 =>
    unfold gf;simp only[Option.bind_some];rw[aN (by omega)];exact Q9 hk hb hi hx m (j+1) o2 (by omega) (lU ho (CX hx.2.1 h1).2 (rI hx hy).1 (rI hx hy).2 h2)
theorem Q8{K:List (List ah)}{n:al}{a b:List ah}(hk:k<=1000000)(ha:bU k a)(hb:bU k b):∀(m i:Nat) (o:List ah),m+i=a.length->bU (2*k) o ->
  oI K n o true a b (i:Int)=nB K (mf b (a.drop i) o)
 | 0,i,o,hm,ho=>by
  obtain rfl:i=a.length:=by omega
  rw[Ee,aV,cond_false,List.drop_length];rfl
 | m+1,i,o,hm,ho=>by
  have hi:i<a.length:=by omega
  have ez:i<=24:=by have:=ha.1;omega
  have hx:=ha.2 _ (List.getElem_mem hi);have UU:=Q9 (K:=K) (n:=n) hk hb hi hx b.length 0 o rfl ho;rw[List.drop_zero,Int.natCast_zero]at UU;rw[Ee,aR hi,cond_true,cond_true,UU,drop_cons hi];unfold mf;cases h1:jt a[i] b o with
  | none=>rfl
  | some o2 =>
   dsimp only;rw[aN (by omega)];exact Q8 hk ha hb m (i+1) o2 (by omega) (BQ hx b o o2 hb.2 ho h1)
theorem QL{x0 b:List ah}{x14:List ah}{x15 x16:Int}(hk:k<=1000000)(hb:bU k b)(hx:okF k x):∀(m j:Nat) (o:List ah),m+j=b.length->bU (2*k) o ->
  xH x0 b o x x14 x15 x16 b (b.length:Int) (j:Int)=match jt x (b.drop j) o with
   | none=>gf none
   | some o=>tH x0 b o x14 x15 (IntKind.i64.wrap (x16+1))
 | 0,j,o,hm,ho=>by
  obtain rfl:j=b.length:=by omega
  rw[QN,aV,cond_false,List.drop_length];rfl
 | m+1,j,o,hm,ho=>by
  have hj:j<b.length:=by omega
  have vr:j<=24:=by have:=hb.1;omega
  have hy:=hb.2 _ (List.getElem_mem hj);rw[QN,aR hj,cond_true,aD hj,drop_cons hj];simp only[Option.bind_some];rw[Sr];unfold jt gz;simp only[Option.bind_some];cases h1:(en x.1 b[j].1).2 with
  | false=>rfl
  | true =>
   have l1:=hx.2.2.1;have l2:=hy.2.2.1;simp only[Bool.not_true,cond_false,cond_true];rw[ad6 (by omega) (by omega) (λp hp=>IF (hx.2.2.2 p hp)) (λp hp=>IF (hy.2.2.2 p hp))];simp only[Option.bind_some];rw[y3 ho.1];cases h2:ff o (en x.1 b[j].1).1 (x.2++b[j].2)with
   | none=>rfl
   | some o2 =>
    unfold gf;simp only[Option.bind_some,Bool.not_true,cond_false];rw[aN (by omega)];exact QL hk hb hx m (j+1) o2 (by omega) (lU ho (CX hx.2.1 h1).2 (rI hx hy).1 (rI hx hy).2 h2)
theorem QK{a b:List ah}(hk:k<=1000000)(ha:bU k a)(hb:bU k b):∀(m i:Nat) (o:List ah),m+i=a.length->bU (2*k) o ->
  tH a b o a (a.length:Int) (i:Int)=gf (mf b (a.drop i) o)
 | 0,i,o,hm,ho=>by
  obtain rfl:i=a.length:=by omega
  rw[QM,aV,cond_false,List.drop_length];rfl
 | m+1,i,o,hm,ho=>by
  have hi:i<a.length:=by omega
  have ez:i<=24:=by have:=ha.1;omega
  have hx:=ha.2 _ (List.getElem_mem hi);have h6:=QL (x0:=a) (x14:=a) (x15:=(a.length:Int)) (x16:=(i:Int)) hk hb hx b.length 0 o rfl ho;rw[List.drop_zero,Int.natCast_zero]at h6;rw[QM,aR hi,cond_true,aD hi,drop_cons hi];simp only[Option.bind_some];rw[h6];unfold mf;cases h1:jt a[i] b o with
  | none=>rfl
  | some o2 =>
   dsimp only;rw[aN (by omega)];exact QK hk ha hb m (i+1) o2 (by omega) (BQ hx b o o2 hb.2 ho h1)
theorem ach(K:List (List ah))(n:al)(a:List ah)(i:Int):tR K n [] false a i=nB K none:=by
 rw[Eg];cases decide (i<((a.length:Nat):Int))<;>rfl
theorem Ra{K:List (List ah)}{n:al}{a:List ah}{v:Nat}(hk:k<=1000000)(hv:n.2.2.2.2.2.1=(v:Int))(vQ:v<4)(ha:bU k a):∀(m i:Nat) (o:List ah),m+i=a.length->bU k o ->
  tR K n o true a (i:Int)=nB K (mq v (a.drop i) o)
 | 0,i,o,hm,ho=>by
  obtain rfl:i=a.length:=by omega
  rw[Eg,aV,cond_false,List.drop_length];rfl
 | m+1,i,o,hm,ho=>by
  have hi:i<a.length:=by omega
  have ez:i<=24:=by have:=ha.1;omega
  have hx:=ha.2 _ (List.getElem_mem hi);rw[Eg,aR hi,cond_true,cond_true,aD hi,drop_cons hi];simp only[Option.bind_some];rw[hv,S0 hx.1 (by rw[hx.2.1];exact vQ)];unfold mq gz;simp only[Option.bind_some];cases h1:(dM a[i].1 v).2 with
  | false=>rfl
  | true =>
   have z1:=(qb hx).1;simp only[Bool.not_true,cond_false,cond_true];rw[zn _ (by omega)];simp only[Option.bind_some];rw[zm (BZ ⟨hx.1,hx.2.1⟩ h1).1 ho.1];cases h2:ff o (dM a[i].1 v).1 a[i].2 with
   | none=>exact ach K n a _
   | some o2 =>
    unfold gf;simp only[Option.bind_some];rw[aN (by omega)];exact Ra hk hv vQ ha m (i+1) o2 (by omega) (lU ho (BZ ⟨hx.1,hx.2.1⟩ h1).2 hx.2.2.1 hx.2.2.2 h2)
theorem QU{a:List ah}{v:Nat}(hk:k<=1000000)(vQ:v<4)(ha:bU k a):∀(m i:Nat) (o:List ah),m+i=a.length->bU k o ->
  xQ a (v:Int) o a (a.length:Int) (i:Int)=gf (mq v (a.drop i) o)
 | 0,i,o,hm,ho=>by
  obtain rfl:i=a.length:=by omega
  rw[QV,aV,cond_false,List.drop_length];rfl
 | m+1,i,o,hm,ho=>by
  have hi:i<a.length:=by omega
  have ez:i<=24:=by have:=ha.1;omega
  have hx:=ha.2 _ (List.getElem_mem hi);rw[QV,aR hi,cond_true,aD hi,drop_cons hi];simp only[Option.bind_some];rw[Sn hx.1 (by rw[hx.2.1];exact vQ)];unfold mq gz;simp only[Option.bind_some];cases h1:(dM a[i].1 v).2 with
  | false=>rfl
  | true =>
   have z1:=(qb hx).1;simp only[Bool.not_true,cond_false,cond_true];rw[SC _ (by omega)];simp only[Option.bind_some];rw[y3 ho.1];cases h2:ff o (dM a[i].1 v).1 a[i].2 with
   | none=>rfl
   | some o2 =>
    unfold gf;simp only[Option.bind_some,Bool.not_true,cond_false];rw[aN (by omega)];exact QU hk vQ ha m (i+1) o2 (by omega) (lU ho (BZ ⟨hx.1,hx.2.1⟩ h1).2 hx.2.2.1 hx.2.2.2 h2)
def eO(K:List (List ah))(a:Int):List ah:=K.getD a.toNat []
theorem vZ{a:Int}(h0:0<=a)(h1:a<K.length):ab K a=some (eO K a):=by
 have av:a.toNat<K.length:=by omega
 have:=aD (xs:=K) (i:=a.toNat) av;rw[show ((a.toNat:Nat):Int)=a by omega]at this;rw[this];unfold eO;rw[List.getD_eq_getElem?_getD,List.getElem?_eq_getElem av];rfl
theorem iY{K:List (List ah)}(hK:∀l∈K,bU k l)(a:Int):bU k (eO K a):=by
 unfold eO;rw[List.getD_eq_getElem?_getD];cases hg:K[a.toNat]? with
 | none=>exact⟨by simp,by simp⟩
 | some l=>exact hK l (List.mem_of_getElem? hg)
def nq(db:List Rel)(n:al)(K:List (List ah)):Option (List ah):=
 bif n.1==0 then ff [] (4,[n.2.1]) []
 else bif n.1==1 then (match ab db (cO (named n.2.2.1) db)with
  | some r=>lT n (cO (named n.2.2.1) db) r.2.2 0 []
  | none=>none)
 else bif n.1==3 then mf (eO K n.2.2.2.2.2.2.2) (eO K n.2.2.2.2.2.2.1) []
 else bif n.1==4 then (bif decide ((eO K n.2.2.2.2.2.2.1++eO K n.2.2.2.2.2.2.2).length<=24)then some (eO K n.2.2.2.2.2.2.1++eO K n.2.2.2.2.2.2.2)else none)
 else mq n.2.2.2.2.2.1.toNat (eO K n.2.2.2.2.2.2.1) []
theorem kinds{db:List Rel}{n:al}(h:fL db n=true)(hp:fM n=true):n.1=0\/n.1=1\/n.1=3\/n.1=4\/n.1=5:=by
 rw[Yp]at h;unfold fM at hp;simp only[Bool.and_eq_true,decide_eq_true_eq,Bool.not_eq_true',beq_eq_false_iff_ne]at h hp;omega
theorem alj{db:List Rel}{n:al}(h:fL db n=true)(h0:n.1=0):bH (4,[n.2.1])=true/\n.2.1.1.length=4:=by
 unfold fL lI at h;simp only[Bool.and_eq_true]at h;have h5:=h.2.2.2.2;rw[h0]at h5;simp only[beq_self_eq_true,cond_true,Bool.and_eq_true,beq_iff_eq]at h5;have hl:n.2.1.1.length=4:=by omega
 exact⟨cA.2 ⟨λa ha=>by rw[List.mem_singleton.1 ha];exact⟨h5.1,hl⟩,by show (0:Int)<=4;omega,by show (4:Int)<=4;omega,by simp⟩,hl⟩
theorem ali{db:List Rel}{n:al}(h:fL db n=true)(h1:n.1=1):∃r,ab db (cO (named n.2.2.1) db)=some r:=by
 unfold fL lI at h;simp only[Bool.and_eq_true]at h;have h5:=h.2.2.2.2;rw[h1]at h5;simp only[show ((1:Int)==0)=false from rfl,beq_self_eq_true,cond_true,cond_false]at h5;unfold qh at h5;cases hg:ab db (cO (named n.2.2.1) db)with
 | some r=>exact⟨r,rfl⟩
 | none=>rw[hg]at h5;simp at h5
theorem alh{db:List Rel}{n:al}(h:fL db n=true)(h1:n.1=5):0<=n.2.2.2.2.2.1/\n.2.2.2.2.2.1<=3:=by
 unfold fL lI at h;simp only[Bool.and_eq_true]at h;have h5:=h.2.2.2.2;rw[h1]at h5;simp only[show ((5:Int)==0)=false from rfl,show ((5:Int)==1)=false from rfl,cond_false,Bool.and_eq_true]at h5;unfold dS at h5;simpa using h5.2
theorem lM(k:Nat):bU k []:=⟨by simp,by simp⟩
theorem UK{x:List α}{i:Int}{y:α}(h:ab x i=some y):y∈x:=by
 by_cases h0:0<=i
 ·by_cases av:i.toNat<x.length
  ·have:=aD (xs:=x) av;rw[show ((i.toNat:Nat):Int)=i by omega,h]at this;injection this with this;rw[this];exact List.getElem_mem av
  ·exfalso;have:ab x i=none:=by
    unfold ab
    first
    | rw[if_neg (by omega)]
    | (simp;omega)
   rw[h]at this;cases this
 ·exfalso;rw[ahK x (by omega)]at h;cases h
theorem Kj{db:List Rel}{n:al}(hd:zL zQ db<=68719476736)(hk:1<=k)(hK:∀l∈K,bU k l)(h:nq db n K=some r):bU (2*k) r:=by
 unfold nq at h;cases h0:n.1==0 with
 | true =>
  rw[h0,cond_true]at h;exact lU (lM _) rfl (by simp) (by simp) h
 | false =>
  rw[h0,cond_false]at h;cases h1:n.1==1 with
  | true =>
   rw[h1,cond_true]at h;cases hg:ab db (cO (named n.2.2.1) db)with
   | none=>rw[hg]at h;cases h
   | some rl=>rw[hg]at h;exact KG (by omega) _ _ _ _ (by have:=((IC hd).2 rl (UK hg)).2.1;omega) (lM _) h
  | false =>
   rw[h1,cond_false]at h;cases h3:n.1==3 with
   | true =>
    rw[h3,cond_true]at h;exact Tl (iY hK _).2 _ _ _ (iY hK _).2 (lM _) h
   | false =>
    rw[h3,cond_false]at h;cases h4:n.1==4 with
    | true =>
     rw[h4,cond_true]at h;cases h5:decide ((eO K n.2.2.2.2.2.2.1++eO K n.2.2.2.2.2.2.2).length<=24)with
     | false=>rw[h5]at h;cases h
     | true =>
      rw[h5,cond_true]at h;cases h;refine⟨of_decide_eq_true h5,λs hs=>?_⟩;rcases List.mem_append.1 hs with hs|hs
      ·exact ((iY hK _).2 s hs).mono (by omega)
      ·exact ((iY hK _).2 s hs).mono (by omega)
    | false =>
     rw[h4,cond_false]at h;exact (Uh _ _ _ (iY hK _).2 (lM _) h).mono (by omega)
def Out(K:List (List ah))(r:Option (List ah))(e:Option ((List ah×Bool×PUnit)×List (List ah)×PUnit)):Prop:=match r with
 | some r=>e=some ((r,true,()),K,())
 | none=>∃z,e=some ((z,false,()),K,())
theorem FP(K:List (List ah))(r:Option (List ah)):Out K r (nB K r):=by
 cases r with
 | none=>exact⟨[],rfl⟩
 | some r=>rfl
theorem yN(K:List (List ah))(r:Option (List ah)):Out K r ((gf r).bind λy=>some ((y.1.1,y.1.2.1,()),K,())):=by
 cases r with
 | none=>exact⟨[],rfl⟩
 | some r=>rfl
theorem alq(l:List ah):decide ((l.length:Int)<=24)=decide (l.length<=24):=by rw[Bool.eq_iff_iff];simp;omega
theorem Yg{db:List Rel}{n:al}{K:List (List ah)}{k:Nat}(hd:zL zQ db<=68719476736)(hN:fL db n=true)(hp:fM n=true)(Cw:1<=k)(hk:k<=100000)(hK:∀l∈K,bU k l)
  (hA:1<=ar n.1->0<=n.2.2.2.2.2.2.1/\n.2.2.2.2.2.2.1<K.length) (hB:ar n.1=2->0<=n.2.2.2.2.2.2.2/\n.2.2.2.2.2.2.2<K.length) :
  Out K (nq db n K) (uo db n K)/\Out K (nq db n K) (zb db n K):=by
 rw[ae1,aes];unfold nq;rcases kinds hN hp with h|h|h|h|h
 ·obtain⟨hc,hl⟩:=alj hN h;rw[h];simp only[beq_self_eq_true,cond_true];rw[zm hc (by simp),adX,uc _ (by omega)];simp only[Option.bind_some];rw[y3 (by simp)];refine⟨yN K _,?_⟩;cases ff [] (4,[n.2.1]) []with
  | none=>exact⟨[],rfl⟩
  | some r=>rfl
 ·obtain⟨rl,hr⟩:=ali hN h;have hg:=IC hd;have sh:rl∈db:=UK hr;have km:=hg.2 rl sh;rw[h];simp only[show ((1:Int)==0)=false from rfl,beq_self_eq_true,cond_true,cond_false];rw[Ga db _ hg.1,aey,FQ db _ hg.1,hr];simp only[Option.bind_some];rw[hr];simp only[Option.bind_some];have UQ:=Ec (K:=K) (n:=n) Cw hr km.2.1 (λr hx=>(km.2.2 r hx).2.1) rl.2.2.length 0 [] rfl (lM k);have h3:=Eb (db:=db) (n:=n) (k:=cO (named n.2.2.1) db) (L:=rl.2.2) Cw km.2.1 rl.2.2.length 0 [] rfl (lM k);rw[List.drop_zero,Int.natCast_zero]at UQ h3;rw[UQ,h3];exact⟨FP K _,yN K _⟩
 ·obtain⟨a1,a2⟩:=hA (by rw[h];decide);obtain⟨b1,b2⟩:=hB (by rw[h];decide);rw[h];simp only[show ((3:Int)==0)=false from rfl,show ((3:Int)==1)=false from rfl,show ((3:Int)==4)=false from rfl,beq_self_eq_true,cond_true,cond_false];rw[vZ a1 a2,vZ b1 b2];simp only[Option.bind_some];rw[adY];have UT:=Q8 (K:=K) (n:=n) (by omega) (iY hK n.2.2.2.2.2.2.1) (iY hK n.2.2.2.2.2.2.2) (eO K n.2.2.2.2.2.2.1).length 0 [] rfl (lM (2*k));have h3:=QK (by omega) (iY hK n.2.2.2.2.2.2.1) (iY hK n.2.2.2.2.2.2.2) (eO K n.2.2.2.2.2.2.1).length 0 [] rfl (lM (2*k));rw[List.drop_zero,Int.natCast_zero]at UT h3;rw[UT,h3];exact⟨FP K _,yN K _⟩
 ·obtain⟨a1,a2⟩:=hA (by rw[h];decide);obtain⟨b1,b2⟩:=hB (by rw[h];decide);have ka:=iY hK n.2.2.2.2.2.2.1;have kb:=iY hK n.2.2.2.2.2.2.2;rw[h];simp only[show ((4:Int)==0)=false from rfl,show ((4:Int)==1)=false from rfl,show ((4:Int)==3)=false from rfl,beq_self_eq_true,cond_true,cond_false];rw[vZ a1 a2,vZ b1 b2];simp only[Option.bind_some];rw[Gd ka (by omega),Gd kb (by omega),FZ ka (by omega),FZ kb (by omega)];simp only[Option.bind_some];have hz:decide (((eO K n.2.2.2.2.2.2.1).length+(eO K n.2.2.2.2.2.2.2).length)*56<=140737488355328)=true:=decide_eq_true (by have:=ka.1;have:=kb.1;omega);rw[hz,cond_true,alq];cases decide ((eO K n.2.2.2.2.2.2.1++eO K n.2.2.2.2.2.2.2).length<=24)with
  | true=>exact⟨rfl,rfl⟩
  | false=>exact⟨⟨_,rfl⟩,⟨_,rfl⟩⟩
 ·obtain⟨a1,a2⟩:=hA (by rw[h];decide);obtain⟨v1,v2⟩:=alh hN h;have hv:n.2.2.2.2.2.1=((n.2.2.2.2.2.1.toNat:Nat):Int):=by omega
  rw[h];simp only[show ((5:Int)==0)=false from rfl,show ((5:Int)==1)=false from rfl,show ((5:Int)==3)=false from rfl,show ((5:Int)==4)=false from rfl,cond_false];rw[vZ a1 a2];simp only[Option.bind_some];have h6:=Ra (K:=K) (n:=n) (v:=n.2.2.2.2.2.1.toNat) (by omega) hv (by omega) (iY hK n.2.2.2.2.2.2.1) (eO K n.2.2.2.2.2.2.1).length 0 [] rfl (lM k);have h3:=QU (v:=n.2.2.2.2.2.1.toNat) (by omega) (by omega) (iY hK n.2.2.2.2.2.2.1) (eO K n.2.2.2.2.2.2.1).length 0 [] rfl (lM k);rw[List.drop_zero,Int.natCast_zero]at h6 h3;rw[h6,aec,hv,h3];exact⟨FP K _,yN K _⟩
theorem anx{n:al}{i:Int}{T T':List Int}(h:eT n i T=some T')(hi:0<=i)(hT:∀t∈T,0<=t/\t<i):
  (∀t∈T',0<=t/\t<i+1)/\(1<=ar n.1->0<=n.2.2.2.2.2.2.1/\n.2.2.2.2.2.2.1<i)/\(ar n.1=2->0<=n.2.2.2.2.2.2.2/\n.2.2.2.2.2.2.2<i):=by
 unfold eT at h;have up:∀(U:List Int),(∀t∈U,0<=t/\t<i)->∀t∈i::U,0<=t/\t<i+1:=λU hU t ht=>by
  rcases List.mem_cons.1 ht with rfl|ht
  ·omega
  ·have:=hU t ht;omega
 rcases Tn n.1 with e|e|e
 ·rw[e]at h;cases h;exact⟨up T hT,by omega,by omega⟩
 ·rw[e]at h;cases T with
  | nil=>cases h
  | cons r T =>
   cases hr:r==n.2.2.2.2.2.2.1 with
   | false=>simp only[hr,cond_false]at h;cases h
   | true =>
    simp only[hr,cond_true]at h;cases h;have hr:=beq_iff_eq.1 hr;have h1:=hT r (List.mem_cons_self ..);exact⟨up T λt ht=>hT t (List.mem_cons_of_mem _ ht),λ_=>hr▸h1,by omega⟩
 ·rw[e]at h;cases T with
  | nil=>cases h
  | cons r T =>
   cases T with
   | nil=>cases h
   | cons s T =>
    cases hr:r==n.2.2.2.2.2.2.2 with
    | false=>simp only[hr,cond_false]at h;cases h
    | true =>
     simp only[hr,cond_true]at h;cases hs:s==n.2.2.2.2.2.2.1 with
     | false=>simp only[hs,cond_false]at h;cases h
     | true =>
      simp only[hs,cond_true]at h;cases h;have hr:=beq_iff_eq.1 hr;have hs:=beq_iff_eq.1 hs;have h1:=hT r (List.mem_cons_self ..);have h2:=hT s (List.mem_cons_of_mem _ (List.mem_cons_self ..));exact⟨up T λt ht=>hT t (List.mem_cons_of_mem _ (List.mem_cons_of_mem _ ht)),λ_=>hs▸h2,λ_=>hr▸h1⟩
theorem Uv(db:List Rel):∀(l:List al) (i:Int) (T:List Int),lb db l i T=true->0<=i->(∀t∈T,0<=t/\t<i)->∀(j:Nat) (hj:j<l.length),
  fL db l[j]=true/\(1<=ar (l[j]).1->0<=(l[j]).2.2.2.2.2.2.1/\(l[j]).2.2.2.2.2.2.1<i+j)/\(ar (l[j]).1=2->0<=(l[j]).2.2.2.2.2.2.2/\(l[j]).2.2.2.2.2.2.2<i+j)
 | [],_,_,_,_,_,j,hj=>by simp at hj
 | n::l,i,T,h,hi,hT,j,hj=>by
  unfold lb at h;cases h1:fL db n with
  | false=>rw[h1]at h;cases h
  | true =>
   rw[h1,cond_true]at h;cases h2:eT n i T with
   | none=>rw[h2]at h;cases h
   | some T' =>
    rw[h2]at h;dsimp only at h;obtain⟨k1,k2,k3⟩:=anx h2 hi hT;cases j with
    | zero =>
     refine⟨h1,λh=>?_,λh=>?_⟩
     ·have:=k2 h;simp only[List.getElem_cons_zero];omega
     ·have:=k3 h;simp only[List.getElem_cons_zero];omega
    | succ j =>
     have:=Uv db l (i+1) T' h (by omega) k1 j (by simpa using hj);simp only[List.getElem_cons_succ];refine⟨this.1,λh=>?_,λh=>?_⟩
     ·have:=this.2.1 h;omega
     ·have:=this.2.2 h;omega
def me(db:List Rel):List al->List (List ah)->Option (List (List ah))
 | [],K=>some K
 | n::l,K=>match nq db n K with
  | none=>none
  | some r=>me db l (K++[r])
def pX(K:List (List ah)):List ah:=K.getD (K.length - 1) []
theorem Xx(h:K.length≠0)(h2:K.length<=1000):ab K (IntKind.i64.wrap ((K.length:Int) - 1))=some (pX K):=by
 rw[ca (by omega) (by omega)];have:=aD (xs:=K) (i:=K.length - 1) (by omega);rw[show ((K.length - 1:Nat):Int)=(K.length:Int) - 1 by omega]at this;rw[this];unfold pX;rw[List.getD_eq_getElem?_getD,List.getElem?_eq_getElem (by omega)];rfl
theorem JT(hK:∀l∈K,bU k l):bU k (pX K):=by
 unfold pX;rw[List.getD_eq_getElem?_getD];cases hg:K[K.length - 1]? with
 | none=>exact⟨by simp,by simp⟩
 | some l=>exact hK l (List.mem_of_getElem? hg)
theorem sJ{i:Nat}(h:i<=12):1<=2 ^ i/\2 ^ i<=4096 :=
 ⟨Nat.one_le_two_pow,Nat.le_trans (Nat.pow_le_pow_right (by omega) h) (by decide)⟩
theorem DX(hK:∀l∈K,bU (2 ^ i) l)(hr:bU (2*2 ^ i) r):∀l∈K++[r],bU (2 ^ (i+1)) l:=λl hl=>by
 have e:2 ^ (i+1)=2*2 ^ i:=by rw[Nat.pow_succ];omega
 rw[e];rcases List.mem_append.1 hl with h|h
 ·exact (hK l h).mono (by omega)
 ·rw[List.mem_singleton.1 h];exact hr
section
variable{db:List Rel}{f:List al}(hd:zL zQ db<=68719476736)(h0:f.length≠0)(hf:f.length<=12)(n9:∀(j:Nat) (hj:j<f.length),fL db f[j]=true/\fM f[j]=true/\(1<=ar (f[j]).1->0<=(f[j]).2.2.2.2.2.2.1/\(f[j]).2.2.2.2.2.2.1<(j:Int))/\(ar (f[j]).1=2->0<=(f[j]).2.2.2.2.2.2.2/\(f[j]).2.2.2.2.2.2.2<(j:Int)))
include hd h0 hf n9
theorem RO:∀(m i:Nat) (K:List (List ah)),m+i=f.length->K.length=i->(∀l∈K,bU (2 ^ i) l)->xW db f K (i:Int)=gf ((me db (f.drop i) K).map pX)
 | 0,i,K,hm,hl,hK=>by
  obtain rfl:i=f.length:=by omega
  have hp:=sJ hf;rw[Rq,aV,cond_false,List.drop_length,Xx (by omega) (by omega)];simp only[Option.bind_some];rw[Gd (JT hK) (by omega)];rfl
 | m+1,i,K,hm,hl,hK=>by
  have hi:i<f.length:=by omega
  have hp:=sJ (i:=i) (by omega);obtain⟨f1,f2,f3,f4⟩:=n9 i hi;have gI:=(Yg hd f1 f2 hp.1 (by omega) hK (by rw[hl];exact f3) (by rw[hl];exact f4)).1;rw[Rq,aR hi,cond_true,aD hi,drop_cons hi];simp only[Option.bind_some];unfold me;cases hr:nq db f[i] K with
  | none =>
   rw[hr]at gI;obtain⟨z,hz⟩:=gI;rw[hz];rfl
  | some r =>
   rw[hr]at gI;have gI:uo db f[i] K=some ((r,true,()),K,()):=gI;rw[gI];simp only[Option.bind_some,Bool.not_true,cond_false];have kj:decide ((K.length+1)*24<=140737488355328)=true:=decide_eq_true (by omega);rw[kj,cond_true,aN (by omega)];exact RO m (i+1) (K++[r]) (by omega) (by simp[hl]) (DX hK (Kj hd hp.1 hK hr))
theorem Q7:∀(m i:Nat) (K:List (List ah)),m+i=f.length->K.length=i->(∀l∈K,bU (2 ^ i) l)->xG db f K f (f.length:Int) (i:Int)=gf ((me db (f.drop i) K).map pX)
 | 0,i,K,hm,hl,hK=>by
  obtain rfl:i=f.length:=by omega
  have hp:=sJ hf;rw[QJ,aV,cond_false,List.drop_length,Xx (by omega) (by omega)];simp only[Option.bind_some];rw[FZ (JT hK) (by omega)];rfl
 | m+1,i,K,hm,hl,hK=>by
  have hi:i<f.length:=by omega
  have hp:=sJ (i:=i) (by omega);obtain⟨f1,f2,f3,f4⟩:=n9 i hi;have gI:=(Yg hd f1 f2 hp.1 (by omega) hK (by rw[hl];exact f3) (by rw[hl];exact f4)).2;rw[QJ,aR hi,cond_true,aD hi,drop_cons hi];simp only[Option.bind_some];unfold me;cases hr:nq db f[i] K with
  | none =>
   rw[hr]at gI;obtain⟨z,hz⟩:=gI;rw[hz];rfl
  | some r =>
   rw[hr]at gI;have gI:zb db f[i] K=some ((r,true,()),K,()):=gI;rw[gI];simp only[Option.bind_some,Bool.not_true,cond_false];have kj:decide ((K.length+1)*24<=140737488355328)=true:=decide_eq_true (by omega);rw[kj,cond_true,aN (by omega)];exact Q7 m (i+1) (K++[r]) (by omega) (by simp[hl]) (DX hK (Kj hd hp.1 hK hr))
omit h0 n9 in
theorem Tj:∀(m i:Nat) (K:List (List ah)) {R:List (List ah)},m+i=f.length->(∀l∈K,bU (2 ^ i) l)->me db (f.drop i) K=some R->∀l∈R,bU (2 ^ f.length) l
 | 0,i,K,R,hm,hK,h=>by
  obtain rfl:i=f.length:=by omega
  rw[List.drop_length]at h;cases h;exact hK
 | m+1,i,K,R,hm,hK,h=>by
  have hi:i<f.length:=by omega
  have hp:=sJ (i:=i) (by omega);rw[drop_cons hi]at h;unfold me at h;cases hr:nq db f[i] K with
  | none=>rw[hr]at h;cases h
  | some r =>
   rw[hr]at h;exact Tj m (i+1) (K++[r]) (by omega) (DX hK (Kj hd hp.1 hK hr)) h
end
def qp(db:List Rel)(f:List al):Option (List ah):=bif fJ db f&&f.all fM then (me db f []).map pX else none
theorem IA{db:List Rel}{f:List al}(h:(fJ db f&&f.all fM)=true):f.length≠0/\f.length<=12/\∀(j:Nat) (hj:j<f.length),fL db f[j]=true/\fM f[j]=true/\(1<=ar (f[j]).1->0<=(f[j]).2.2.2.2.2.2.1/\(f[j]).2.2.2.2.2.2.1<(j:Int))/\(ar (f[j]).1=2->0<=(f[j]).2.2.2.2.2.2.2/\(f[j]).2.2.2.2.2.2.2<(j:Int)):=by
 rw[Bool.and_eq_true]at h;obtain⟨h1,h2⟩:=h;unfold fJ at h1;simp only[Bool.and_eq_true,decide_eq_true_eq]at h1;obtain⟨_,⟨h3,h4⟩,h5⟩:=h1;refine⟨by omega,by omega,λj hj=>?_⟩;obtain⟨k1,k2,k3⟩:=Uv db f 0 [] h5 (by omega) (by simp) j hj;refine⟨k1,List.all_eq_true.1 h2 _ (List.getElem_mem hj),λh=>?_,λh=>?_⟩
 ·have:=k2 h;omega
 ·have:=k3 h;omega
theorem aeY{db:List Rel}{f:List al}(hd:zL zQ db<=68719476736)(hf:zL zN f<=68719476736):um db f=gf (qp db f):=by
 rw[aeX,aeM db f hd hf];unfold qp;simp only[Option.bind_some];cases h:fJ db f&&f.all fM with
 | false=>rfl
 | true =>
  obtain⟨a1,a2,a3⟩:=IA h;have:=RO hd a1 a2 a3 f.length 0 [] rfl rfl (by simp);rw[List.drop_zero,Int.natCast_zero]at this;simp only[Bool.not_true,cond_false,cond_true];exact this
theorem adT{db:List Rel}{f:List al}(hd:zL zQ db<=68719476736)(hf:zL zN f<=68719476736):ua db f=gf (qp db f):=by
 rw[adS,adE db f hf];unfold qp;simp only[Option.bind_some];cases h:fJ db f&&f.all fM with
 | false=>rfl
 | true =>
  obtain⟨a1,a2,a3⟩:=IA h;have:=Q7 hd a1 a2 a3 f.length 0 [] rfl rfl (by simp);rw[List.drop_zero,Int.natCast_zero]at this;simp only[Bool.not_true,cond_false,cond_true];exact this
theorem anA{db:List Rel}{f:List al}(hd:zL zQ db<=68719476736)(h:qp db f=some r):bU 4096 r:=by
 unfold qp at h;cases hb:fJ db f&&f.all fM with
 | false=>rw[hb]at h;cases h
 | true =>
  obtain⟨a1,a2,a3⟩:=IA hb;rw[hb,cond_true]at h;cases hr:me db f []with
  | none=>rw[hr]at h;cases h
  | some R =>
   rw[hr]at h;cases h;have:=Tj hd a2 f.length 0 [] rfl (by simp) (by rw[List.drop_zero];exact hr);exact (JT this).mono (sJ a2).2
theorem anC{l:List ah}(h:bU k l):zL zP l<=24*(81+k*3):=by
 have:=DH zP (80+k*3) l (λs hs=>(qb (h.2 s hs)).2);have h2:l.length*(80+k*3+1)<=24*(80+k*3+1):=Nat.mul_le_mul_right _ h.1;omega
theorem anB{x:List Rel}{f:List al}(zx:zL zQ x<=68719476736)(zf:zL zN f<=68719476736):∃r ok,um x f=some ((r,ok,()),())/\ua x f=some ((r,ok,()),())/\zL zP r<=1000000:=by
 rw[aeY zx zf,adT zx zf];cases h:qp x f with
 | none=>exact⟨[],false,rfl,rfl,by decide⟩
 | some r =>
  have:=anC (anA zx h);exact⟨r,true,rfl,rfl,by omega⟩
theorem aqA{x:List Rel}{f:List al}(zx:zL zQ x<=68719476736)(zf0:zL zN f<=1048576)(hf:∀n∈f,cZ sI n):∃v ok,Gc x f=some ((v,ok,()),())/\yZ x f=some ((v,ok,()),())/\zV v<=68719476736:=by
 have zf:zL zN f<=68719476736:=by omega
 obtain⟨r,ok,w1,w2,w3⟩:=anB zx zf;rw[aeU,adO,w1,w2];simp only[Option.bind_some];cases ok with
 | false=>exact⟨([],[]),false,rfl,rfl,by decide⟩
 | true =>
  simp only[Bool.not_true,cond_false];rw[afn f zf hf,ad5 f zf];exact⟨(f,r),true,rfl,rfl,by rw[aqI];show zL zN f+zL zP r<=_;omega⟩
theorem alk(x:List Rel)(f:List al)(hx:cZ (.slice 0 Dc) x)(hf:cZ (.slice 0 sI) f):Gj x f=some ((true,()),()):=by
 rw[afv,agu x 1048576 hx (by omega) (by omega)];simp only[Option.bind_some];rcases nA 1048576 (zL zQ x)with⟨e,_⟩|⟨k1,e,a1,d1⟩
 ·rw[e];rfl
 have c1:decide (k1<0)=false:=by simp;omega
 rw[e];simp only[c1,cond_false];rw[agq f k1 hf (by omega) (by omega)];simp only[Option.bind_some];rcases nA k1 (zL zN f)with⟨e,_⟩|⟨k2,e,a2,d2⟩
 ·rw[e];rfl
 have c2:decide (k2<0)=false:=by simp;omega
 rw[e];simp only[c2,cond_false];have zx:zL zQ x<=68719476736:=by omega
 have zf:zL zN f<=68719476736:=by omega
 obtain⟨r,ok,w1,w2,w3⟩:=aqA zx (show zL zN f<=1048576 by omega) hf.2;have q1:=da J5 x 1;have q2:=da oo f (mL mQ x 1).2;have q3:=tdV r 1;have n1:decide ((mL mN f (mL mQ x 1).2).2<0)=false:=decide_eq_false (by omega);have n2:decide ((tV r 1).2<0)=false:=decide_eq_false (by omega);have m1:=aga x 1 (by omega) (by omega) zx;have m2:=S8 f (mL mQ x 1).2 (by omega) (by omega) zf;have m3:=agi r 1 (by omega) (by omega) w3;have m4:=af3 r 1 (by omega) (by omega) w3;rw[agM x zx,Option.bind_some,agI f zf,Option.bind_some];dsimp only;rw[w1,Option.bind_some,Option.bind_some,Option.bind_some,w2,Option.bind_some];dsimp only;rw[S6 r w3,Option.bind_some];simp only[Bool.not_true,cond_false,beq_self_eq_true,Option.bind_some,afH x zx,S5 f zf,m1,m2,n1,S6 r w3,m3,m4,n2,bne_self_eq_false,w2]
end Go.Proofs.YthfgcmoipebheaaGreat.P.It
