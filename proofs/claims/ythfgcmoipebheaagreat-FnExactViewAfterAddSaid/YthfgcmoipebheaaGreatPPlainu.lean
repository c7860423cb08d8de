/- A part of the proof: Plainu. No conditions. -/
import Derived.Test.YthfgcmoipebheaaGreatPIt3u
import Derived.Test.YthfgcmoipebheaaGreatPG8
set_option linter.unusedVariables false
set_option linter.unusedSimpArgs false
namespace Go.Proofs.YthfgcmoipebheaaGreat.P.It
open Am
variable{i k m n v:Nat}{R α β:Type}{a b:aa}{d p q y:Int}{c:az}{S l l':List aa}{K:List (List af)}{s x:af}{r:List af}
theorem bX{x:Int}(h1 : -9223372036854775808<=x)(h2:x<=9223372036854775807):IntKind.i64.wrap x=x:=by
 rw[IntKind.wrap_i64];omega
theorem ay{xs:List α}{i:Nat}(h:i<xs.length):ab xs (i:Int)=some xs[i]:=by
 unfold ab;rw[if_pos (by omega)];simp[h]
theorem aI(h:i<=1000000000000):IntKind.i64.wrap ((i:Int)+1)=((i+1:Nat):Int):=by
 rw[bX]<;>omega
theorem dH{k:Int}(h0:0<=k)(h1:k<=1000000000000000000):IntKind.i64.wrap (k+1)=k+1:=bX (by omega) (by omega)
theorem aN(h:i<n):decide ((i:Int)<(n:Int))=true:=by simp;omega
theorem aR(n:Nat):decide ((n:Int)<(n:Int))=false:=by simp
theorem kX:decide ((-1:Int)<0)=true:=by decide
theorem kT:maxLen=9223372036854775807:=by decide
theorem pN{x:List α}(h:i<x.length)(v:α):ab (x.set i v) (i:Int)=some v:=by
 rw[ay (by simpa using h)];simp
theorem kW{R:Type}(x:List α)(c:Int)(hl:x.length<=68719476736)(h0:0<=c)(hc:c<=1000)(A B:R):(bif decide (0<=(x.length:Int))&&decide ((x.length:Int)<=(x.length:Int))&&decide ((x.length:Int)*c<=140737488355328)&&decide ((x.length:Int)<=9223372036854775807)then A else B)=A:=by
 have h1:(x.length:Int)*c<=68719476736*1000:=Int.mul_le_mul (by omega) hc h0 (by omega);have h2:(x.length:Int)*c<=140737488355328:=by omega
 have h3:(x.length:Int)<=9223372036854775807:=by omega
 simp[h2,h3]
theorem lA(x:List α)(p:α->Bool)(F E:Option R)(f:Int->Option R)(hl:x.length<=68719476736)
  (h1:∀(i:Nat) (h:i<x.length),f (i:Int)=bif p x[i]then f ((i+1:Nat):Int)else F) (h2:f (x.length:Int)=E) :
  ∀(n i:Nat),n+i=x.length->f (i:Int)=bif (x.drop i).all p then E else F
 | 0,i,hn=>by
  obtain rfl:i=x.length:=by omega
  rw[h2,List.drop_eq_nil_of_le (by omega)];rfl
 | n+1,i,hn=>by
  have hi:i<x.length:=by omega
  rw[h1 i hi,lA x p F E f hl h1 h2 n (i+1) (by omega),List.drop_eq_getElem_cons hi,List.all_cons];cases p x[i]<;>rfl
theorem jE(x:List α)(p:α->Bool)(F E:Option R)(f:Int->Option R)(hl:x.length<=68719476736)
  (h1:∀(i:Nat) (h:i<x.length),f (i:Int)=bif p x[i]then f ((i+1:Nat):Int)else F) (h2:f (x.length:Int)=E):f 0=bif x.all p then E else F:=by
 have:=lA x p F E f hl h1 h2 x.length 0 (by omega)
 rwa [List.drop_zero]at this
def cA{α:Type}(p:α->Bool)(x:List α):Int:=if x.findIdx p<x.length then (x.findIdx p:Int)else -1
theorem Kl(x:List α)(p:α->Bool)(r:Int->Option R)(f:Int->Option R)
  (h1:∀(i:Nat) (h:i<x.length),f (i:Int)=bif p x[i]then r (i:Int)else f ((i+1:Nat):Int)) (h2:f (x.length:Int)=r (-1)) :
  ∀(n i:Nat),n+i=x.length->(∀j (h:j<x.length),j<i->p x[j]=false)->f (i:Int)=r (cA p x)
 | 0,i,hn,hp=>by
  obtain rfl:i=x.length:=by omega
  have:x.findIdx p=x.length:=List.findIdx_eq_length.2 (λy hy=>by
   obtain⟨j,hj,rfl⟩:=List.mem_iff_getElem.1 hy;exact hp j hj hj)
  rw[h2];unfold cA;rw[if_neg (by omega)]
 | n+1,i,hn,hp=>by
  have hi:i<x.length:=by omega
  rw[h1 i hi];cases hb:p x[i]with
  | true =>
   have:x.findIdx p=i:=(List.findIdx_eq hi).2 ⟨hb,λj hj=>hp j (by omega) hj⟩;unfold cA;rw[this,if_pos hi];rfl
  | false =>
   rw[cond_false];exact Kl x p r f h1 h2 n (i+1) (by omega) (λj hj cR=>by
    by_cases he:j=i
    ·subst he;exact hb
    ·exact hp j hj (by omega))
def eJ(k:Int)(n:Nat):Int:=if (n:Int)<=k then k - n else -1
theorem eK{k:Int}(h:¬(n:Int)<=k):eJ k n = -1:=if_neg h
theorem mj{k:Int}(h:(n:Int)<=k):eJ k n=k - n:=if_pos h
theorem jo(k:Int)(n:Nat):(eJ k n = -1/\¬(n:Int)<=k)\/∃m,eJ k n=m/\m=k - n/\0<=m:=by
 by_cases h:(n:Int)<=k
 ·exact .inr ⟨_,mj h,rfl,by omega⟩
 ·exact .inl ⟨eK h,h⟩
theorem qK{k:Int}{a b:Nat}{u:R}(h:0<=k - (a:Int)):some ((eJ (k - (a:Int)) b,u),u)=some ((eJ k (a+b),u),u):=by
 congr 3;unfold eJ;by_cases h1:(b:Int)<=k - a
 ·rw[if_pos h1,if_pos (by omega)];omega
 ·rw[if_neg h1,if_neg (by omega)]
def zB(x:ByteArray):Nat:=x.size
def zI(x:List Int):Nat:=x.length
def zL{α:Type}(f:α->Nat)(x:List α):Nat:=x.length+(x.map f).sum
theorem ch(f:α->Nat)(x:List α):x.length<=zL f x:=Nat.le_add_right _ _
theorem cK(f:α->Nat){x:List α}{y:α}(h:y∈x):f y<=zL f x:=by
 have:f y<=(x.map f).sum:=by
  induction x with
  | nil=>cases h
  | cons a l ih =>
   rw[List.map_cons,List.sum_cons];rcases List.mem_cons.1 h with rfl|h
   ·omega
   ·have:=ih h;omega
 unfold zL;omega
theorem qM(x:List α)(W:α->Prop)(g:α->Nat)(S:α->Int->Option ((Int×PUnit)×PUnit))(f:Int->Int->Option ((Int×PUnit)×PUnit))(hl:x.length<=1048576)(hW:∀y∈x,W y)
  (hS:∀y k,W y->0<=k->k<=1048576->S y k=some ((eJ k (g y),()),()))
  (h1:∀(i:Nat) (h:i<x.length) k,f k (i:Int)=(S x[i] k).bind λy=>bif decide (y.1.1<0)then some ((-1,()),())else f y.1.1 ((i+1:Nat):Int)) (h2:∀k,f k (x.length:Int)=some ((k,()),())) :
  ∀(n i:Nat) (k:Int),n+i=x.length->0<=k->k<=1048576->f k (i:Int)=some ((eJ k ((x.drop i).map g).sum,()),())
 | 0,i,k,hn,h0,hk=>by
  obtain rfl:i=x.length:=by omega
  rw[h2,List.drop_eq_nil_of_le (by omega),mj (by simpa using h0)];simp
 | n+1,i,k,hn,h0,hk=>by
  have hi:i<x.length:=by omega
  rw[h1 i hi,hS x[i] k (hW _ (List.getElem_mem hi)) h0 hk,List.drop_eq_getElem_cons hi,List.map_cons,List.sum_cons];simp only[Option.bind_some];rcases jo k (g x[i])with⟨e,a⟩|⟨m,e,a,d⟩
  ·rw[e,kX,cond_true,eK (by omega)]
  ·have c:decide (m<0)=false:=by simp;omega
   rw[e,c,cond_false,qM x W g S f hl hW hS h1 h2 n (i+1) m (by omega) d (by omega),a];exact qK (by omega)
theorem W0(x:List α)(S:α->Option ((α×PUnit)×PUnit))(f:List α->Int->Option ((List α×PUnit)×PUnit))(hl:x.length<=68719476736)(hS:∀y∈x,S y=some ((y,()),()))
  (h1:∀(i:Nat) (h:i<x.length) (v:List α),v.length=x.length->f v (i:Int)=(S x[i]).bind λy=>f (v.set i y.1.1) ((i+1:Nat):Int)) (h2:∀v:List α,f v (x.length:Int)=some ((v,()),())) :
  ∀(n i:Nat) (v:List α),n+i=x.length->v.length=x.length->f v (i:Int)=some ((v.take i++x.drop i,()),())
 | 0,i,v,hn,hv=>by
  obtain rfl:i=x.length:=by omega
  rw[h2,List.take_of_length_le (by omega),List.drop_eq_nil_of_le (by omega),List.append_nil]
 | n+1,i,v,hn,hv=>by
  have hi:i<x.length:=by omega
  rw[h1 i hi v hv,hS _ (List.getElem_mem hi)];simp only[Option.bind_some];rw[W0 x S f hl hS h1 h2 n (i+1) _ (by omega) (by simpa using hv)];congr 3;have e1:(v.set i x[i]).take (i+1)=v.take i++[x[i]]:=by
   rw[List.take_add_one,List.take_set_of_le (by omega)];simp[hv,hi]
  rw[e1,List.append_assoc,List.singleton_append];congr 1;exact (List.drop_eq_getElem_cons hi).symm
theorem pE(x:List α)(S:α->Option ((α×PUnit)×PUnit))(f:List α->Int->Option ((List α×PUnit)×PUnit))(hl:x.length<=68719476736)(hS:∀y∈x,S y=some ((y,()),()))
  (h1:∀(i:Nat) (h:i<x.length) (v:List α),v.length=x.length->f v (i:Int)=(S x[i]).bind λy=>f (v.set i y.1.1) ((i+1:Nat):Int)) (h2:∀v:List α,f v (x.length:Int)=some ((v,()),())) (v:List α) (hv:v.length=x.length) :
  f v 0=some ((x,()),()):=by
 have:=W0 x S f hl hS h1 h2 x.length 0 v (by omega) hv;rw[Int.natCast_zero]at this;rw[this];simp
theorem pI(x:List α)(E:Option R)(f:Int->Option R)(hl:x.length<=68719476736)
  (h1:∀(i:Nat) (h:i<x.length),f (i:Int)=f ((i+1:Nat):Int)) (h2:f (x.length:Int)=E):f 0=E:=by
 have:=jE x (λ_=>true) E E f hl (λi h=>by simpa using h1 i h) h2;rw[this];cases x.all _<;>rfl
def zA(x:aa):Nat:=zI x.1
abbrev xq:Ty:=.agg (.pair (.slice 0 (.int .i64)) (.pair (.int .i64) .bool))
def zC(x:az):Nat:=zL zA x.2
abbrev Mt:Ty:=.agg (.pair (.int .i64) (.slice 0 xq))
def zR(x:Rw):Nat:=zB x.1+zC x.2
abbrev EB:Ty:=.agg (.pair .str Mt)
def zQ(x:Rel):Nat:=zB x.1+zL zR x.2.2
abbrev EA:Ty:=.agg (.pair .str (.pair (.int .i64) (.slice 0 EB)))
def zN(x:ao):Nat:=zA x.2.1+zB x.2.2.1+zB x.2.2.2.1+zI x.2.2.2.2.1
abbrev xr:Ty:=.agg (.pair (.int .i64) (.pair xq (.pair .str (.pair .str (.pair (.slice 0 (.int .i64)) (.pair (.int .i64) (.pair (.int .i64) (.int .i64))))))))
def zP(x:af):Nat:=zC x.1+zL zI x.2
abbrev EC:Ty:=.agg (.pair Mt (.slice 0 (.slice 0 (.int .i64))))
def zV(x:a8):Nat:=zL zN x.1+zL zP x.2
abbrev Mu:Ty:=.agg (.pair (.slice 0 xr) (.slice 0 EC))
theorem Ij(x:List Int)(k:Int)(w:cF (.slice 0 (.int .i64)) x)(h0:0<=k)(hk:k<=1048576):r4 x k=some ((eJ k (zI x),()),()):=by
 have hl:x.length<=maxLen:=w.1;rw[kT]at hl;rw[akj,bX (by omega) (by omega)];by_cases h:k - (x.length:Int)<0
 ·simp only[h,decide_true,cond_true];rw[eK (by unfold zI;omega)]
 ·simp only[h,decide_false,cond_false];rw[mj (by unfold zI;omega)];rfl
theorem aki(x:List (List Int))(k:Int)(w:cF (.slice 0 (.slice 0 (.int .i64))) x)(h0:0<=k)(hk:k<=1048576):A8 x k=some ((eJ k (zL zI x),()),()):=by
 have hl:x.length<=maxLen:=w.1;rw[kT]at hl;rw[akh,bX (by omega) (by omega)];have hz:zL zI x=x.length+(x.map zI).sum:=rfl;by_cases h:k - (x.length:Int)<0
 ·simp only[h,decide_true,cond_true];rw[eK (by rw[hz];omega)]
 ·simp only[h,decide_false,cond_false];have:=qM x (cF (.slice 0 (.int .i64))) zI r4 (λk i=>zn x k i) (by omega) w.2 (λy k w h0 hk=>Ij y k w h0 hk) (λi hi k=>by
   rw[Vd,ay hi,aN hi,aI (by omega)];simp only[cond_true,Option.bind_some]) (λk=>by rw[Vd,aR];rfl) x.length 0 (k - (x.length:Int)) (by omega) (by omega) (by omega)
  rw[Int.natCast_zero]at this;refine this.trans ?_;rw[List.drop_zero,hz,qK (by omega)]
theorem Wb(x:aa)(k:Int)(w:cF xq x)(h0:0<=k)(hk:k<=1048576):vf x k=some ((eJ k (zA x),()),()):=by
 have hz:zA x=zI x.1:=rfl;rw[akf];rw[Ij _ _ w.1 (by omega) (by omega)];simp only[Option.bind_some];rcases jo k (zI x.1)with⟨e1,a1⟩|⟨k1,e1,a1,d1⟩
 ·rw[e1];simp only[kX,cond_true];rw[eK (by rw[hz];omega)]
 have c1:decide (k1<0)=false:=by simp;omega
 rw[e1];simp only[c1,cond_false];rw[mj (by rw[hz];omega)];congr 3<;>(rw[hz];omega)
theorem ake(x:List aa)(k:Int)(w:cF (.slice 0 xq) x)(h0:0<=k)(hk:k<=1048576):A6 x k=some ((eJ k (zL zA x),()),()):=by
 have hl:x.length<=maxLen:=w.1;rw[kT]at hl;rw[akd,bX (by omega) (by omega)];have hz:zL zA x=x.length+(x.map zA).sum:=rfl;by_cases h:k - (x.length:Int)<0
 ·simp only[h,decide_true,cond_true];rw[eK (by rw[hz];omega)]
 ·simp only[h,decide_false,cond_false];have:=qM x (cF xq) zA vf (λk i=>zm x k i) (by omega) w.2 (λy k w h0 hk=>Wb y k w h0 hk) (λi hi k=>by
   rw[Vc,ay hi,aN hi,aI (by omega)];simp only[cond_true,Option.bind_some]) (λk=>by rw[Vc,aR];rfl) x.length 0 (k - (x.length:Int)) (by omega) (by omega) (by omega)
  rw[Int.natCast_zero]at this;refine this.trans ?_;rw[List.drop_zero,hz,qK (by omega)]
theorem Wc(x:az)(k:Int)(w:cF Mt x)(h0:0<=k)(hk:k<=1048576):A7 x k=some ((eJ k (zC x),()),()):=by
 have hz:zC x=zL zA x.2:=rfl;rw[akg];rw[ake _ _ w.2 (by omega) (by omega)];simp only[Option.bind_some];rcases jo k (zL zA x.2)with⟨e1,a1⟩|⟨k1,e1,a1,d1⟩
 ·rw[e1];simp only[kX,cond_true];rw[eK (by rw[hz];omega)]
 have c1:decide (k1<0)=false:=by simp;omega
 rw[e1];simp only[c1,cond_false];rw[mj (by rw[hz];omega)];congr 3<;>(rw[hz];omega)
theorem akv(x:Rw)(k:Int)(w:cF EB x)(h0:0<=k)(hk:k<=1048576):Be x k=some ((eJ k (zR x),()),()):=by
 have hz:zR x=zB x.1+zC x.2:=rfl;rw[aku];have b1:zB x.1<=maxLen:=w.1;rw[kT]at b1;obtain⟨k1,e1,a1⟩:∃m,IntKind.i64.wrap (k - ((ByteArray.size x.1:Nat):Int))=m/\m=k - (zB x.1:Int):=⟨_,bX (by unfold zB at b1;omega) (by unfold zB at b1;omega),rfl⟩;simp only[e1];by_cases d1:k1<0
 ·simp only[d1,decide_true,cond_true];rw[eK (by rw[hz];omega)]
 simp only[d1,decide_false,cond_false];rw[Wc _ _ w.2 (by omega) (by omega)];simp only[Option.bind_some];rcases jo k1 (zC x.2)with⟨e2,a2⟩|⟨k2,e2,a2,d2⟩
 ·rw[e2];simp only[kX,cond_true];rw[eK (by rw[hz];omega)]
 have c2:decide (k2<0)=false:=by simp;omega
 rw[e2];simp only[c2,cond_false];rw[mj (by rw[hz];omega)];congr 3<;>(rw[hz];omega)
theorem akt(x:List Rw)(k:Int)(w:cF (.slice 0 EB) x)(h0:0<=k)(hk:k<=1048576):Bf x k=some ((eJ k (zL zR x),()),()):=by
 have hl:x.length<=maxLen:=w.1;rw[kT]at hl;rw[aks,bX (by omega) (by omega)];have hz:zL zR x=x.length+(x.map zR).sum:=rfl;by_cases h:k - (x.length:Int)<0
 ·simp only[h,decide_true,cond_true];rw[eK (by rw[hz];omega)]
 ·simp only[h,decide_false,cond_false];have:=qM x (cF EB) zR Be (λk i=>zr x k i) (by omega) w.2 (λy k w h0 hk=>akv y k w h0 hk) (λi hi k=>by
   rw[Vg,ay hi,aN hi,aI (by omega)];simp only[cond_true,Option.bind_some]) (λk=>by rw[Vg,aR];rfl) x.length 0 (k - (x.length:Int)) (by omega) (by omega) (by omega)
  rw[Int.natCast_zero]at this;refine this.trans ?_;rw[List.drop_zero,hz,qK (by omega)]
theorem akr(x:Rel)(k:Int)(w:cF EA x)(h0:0<=k)(hk:k<=1048576):Bb x k=some ((eJ k (zQ x),()),()):=by
 have hz:zQ x=zB x.1+zL zR x.2.2:=rfl;rw[akq];have b1:zB x.1<=maxLen:=w.1;rw[kT]at b1;obtain⟨k1,e1,a1⟩:∃m,IntKind.i64.wrap (k - ((ByteArray.size x.1:Nat):Int))=m/\m=k - (zB x.1:Int):=⟨_,bX (by unfold zB at b1;omega) (by unfold zB at b1;omega),rfl⟩;simp only[e1];by_cases d1:k1<0
 ·simp only[d1,decide_true,cond_true];rw[eK (by rw[hz];omega)]
 simp only[d1,decide_false,cond_false];rw[akt _ _ w.2.2 (by omega) (by omega)];simp only[Option.bind_some];rcases jo k1 (zL zR x.2.2)with⟨e2,a2⟩|⟨k2,e2,a2,d2⟩
 ·rw[e2];simp only[kX,cond_true];rw[eK (by rw[hz];omega)]
 have c2:decide (k2<0)=false:=by simp;omega
 rw[e2];simp only[c2,cond_false];rw[mj (by rw[hz];omega)];congr 3<;>(rw[hz];omega)
theorem akp(x:List Rel)(k:Int)(w:cF (.slice 0 EA) x)(h0:0<=k)(hk:k<=1048576):Bc x k=some ((eJ k (zL zQ x),()),()):=by
 have hl:x.length<=maxLen:=w.1;rw[kT]at hl;rw[ako,bX (by omega) (by omega)];have hz:zL zQ x=x.length+(x.map zQ).sum:=rfl;by_cases h:k - (x.length:Int)<0
 ·simp only[h,decide_true,cond_true];rw[eK (by rw[hz];omega)]
 ·simp only[h,decide_false,cond_false];have:=qM x (cF EA) zQ Bb (λk i=>zq x k i) (by omega) w.2 (λy k w h0 hk=>akr y k w h0 hk) (λi hi k=>by
   rw[Vf,ay hi,aN hi,aI (by omega)];simp only[cond_true,Option.bind_some]) (λk=>by rw[Vf,aR];rfl) x.length 0 (k - (x.length:Int)) (by omega) (by omega) (by omega)
  rw[Int.natCast_zero]at this;refine this.trans ?_;rw[List.drop_zero,hz,qK (by omega)]
theorem akn(x:ao)(k:Int)(w:cF xr x)(h0:0<=k)(hk:k<=1048576):A9 x k=some ((eJ k (zN x),()),()):=by
 have hz:zN x=zA x.2.1+zB x.2.2.1+zB x.2.2.2.1+zI x.2.2.2.2.1:=rfl;rw[akm];rw[Wb _ _ w.2.1 (by omega) (by omega)];simp only[Option.bind_some];rcases jo k (zA x.2.1)with⟨e1,a1⟩|⟨k1,e1,a1,d1⟩
 ·rw[e1];simp only[kX,cond_true];rw[eK (by rw[hz];omega)]
 have c1:decide (k1<0)=false:=by simp;omega
 rw[e1];simp only[c1,cond_false];have b2:zB x.2.2.1<=maxLen:=w.2.2.1;rw[kT]at b2;obtain⟨k2,e2,a2⟩:∃m,IntKind.i64.wrap (k1 - ((ByteArray.size x.2.2.1:Nat):Int))=m/\m=k1 - (zB x.2.2.1:Int):=⟨_,bX (by unfold zB at b2;omega) (by unfold zB at b2;omega),rfl⟩;simp only[e2];by_cases d2:k2<0
 ·simp only[d2,decide_true,cond_true];rw[eK (by rw[hz];omega)]
 simp only[d2,decide_false,cond_false];have b3:zB x.2.2.2.1<=maxLen:=w.2.2.2.1;rw[kT]at b3;obtain⟨k3,e3,a3⟩:∃m,IntKind.i64.wrap (k2 - ((ByteArray.size x.2.2.2.1:Nat):Int))=m/\m=k2 - (zB x.2.2.2.1:Int):=⟨_,bX (by unfold zB at b3;omega) (by unfold zB at b3;omega),rfl⟩;simp only[e3];by_cases d3:k3<0
 ·simp only[d3,decide_true,cond_true];rw[eK (by rw[hz];omega)]
 simp only[d3,decide_false,cond_false];rw[Ij _ _ w.2.2.2.2.1 (by omega) (by omega)];simp only[Option.bind_some];rcases jo k3 (zI x.2.2.2.2.1)with⟨e4,a4⟩|⟨k4,e4,a4,d4⟩
 ·rw[e4];simp only[kX,cond_true];rw[eK (by rw[hz];omega)]
 have c4:decide (k4<0)=false:=by simp;omega
 rw[e4];simp only[c4,cond_false];rw[mj (by rw[hz];omega)];congr 3<;>(rw[hz];omega)
theorem akl(x:List ao)(k:Int)(w:cF (.slice 0 xr) x)(h0:0<=k)(hk:k<=1048576):Ba x k=some ((eJ k (zL zN x),()),()):=by
 have hl:x.length<=maxLen:=w.1;rw[kT]at hl;rw[akk,bX (by omega) (by omega)];have hz:zL zN x=x.length+(x.map zN).sum:=rfl;by_cases h:k - (x.length:Int)<0
 ·simp only[h,decide_true,cond_true];rw[eK (by rw[hz];omega)]
 ·simp only[h,decide_false,cond_false];have:=qM x (cF xr) zN A9 (λk i=>zp x k i) (by omega) w.2 (λy k w h0 hk=>akn y k w h0 hk) (λi hi k=>by
   rw[Ve,ay hi,aN hi,aI (by omega)];simp only[cond_true,Option.bind_some]) (λk=>by rw[Ve,aR];rfl) x.length 0 (k - (x.length:Int)) (by omega) (by omega) (by omega)
  rw[Int.natCast_zero]at this;refine this.trans ?_;rw[List.drop_zero,hz,qK (by omega)]
theorem akz(x:af)(k:Int)(w:cF EC x)(h0:0<=k)(hk:k<=1048576):Bg x k=some ((eJ k (zP x),()),()):=by
 have hz:zP x=zC x.1+zL zI x.2:=rfl;rw[aky];rw[Wc _ _ w.1 (by omega) (by omega)];simp only[Option.bind_some];rcases jo k (zC x.1)with⟨e1,a1⟩|⟨k1,e1,a1,d1⟩
 ·rw[e1];simp only[kX,cond_true];rw[eK (by rw[hz];omega)]
 have c1:decide (k1<0)=false:=by simp;omega
 rw[e1];simp only[c1,cond_false];rw[aki _ _ w.2 (by omega) (by omega)];simp only[Option.bind_some];rcases jo k1 (zL zI x.2)with⟨e2,a2⟩|⟨k2,e2,a2,d2⟩
 ·rw[e2];simp only[kX,cond_true];rw[eK (by rw[hz];omega)]
 have c2:decide (k2<0)=false:=by simp;omega
 rw[e2];simp only[c2,cond_false];rw[mj (by rw[hz];omega)];congr 3<;>(rw[hz];omega)
theorem akx(x:List af)(k:Int)(w:cF (.slice 0 EC) x)(h0:0<=k)(hk:k<=1048576):Bh x k=some ((eJ k (zL zP x),()),()):=by
 have hl:x.length<=maxLen:=w.1;rw[kT]at hl;rw[akw,bX (by omega) (by omega)];have hz:zL zP x=x.length+(x.map zP).sum:=rfl;by_cases h:k - (x.length:Int)<0
 ·simp only[h,decide_true,cond_true];rw[eK (by rw[hz];omega)]
 ·simp only[h,decide_false,cond_false];have:=qM x (cF EC) zP Bg (λk i=>zt x k i) (by omega) w.2 (λy k w h0 hk=>akz y k w h0 hk) (λi hi k=>by
   rw[Vh,ay hi,aN hi,aI (by omega)];simp only[cond_true,Option.bind_some]) (λk=>by rw[Vh,aR];rfl) x.length 0 (k - (x.length:Int)) (by omega) (by omega) (by omega)
  rw[Int.natCast_zero]at this;refine this.trans ?_;rw[List.drop_zero,hz,qK (by omega)]
theorem akB(x:a8)(k:Int)(w:cF Mu x)(h0:0<=k)(hk:k<=1048576):Ik x k=some ((eJ k (zV x),()),()):=by
 have hz:zV x=zL zN x.1+zL zP x.2:=rfl;rw[akA];rw[akl _ _ w.1 (by omega) (by omega)];simp only[Option.bind_some];rcases jo k (zL zN x.1)with⟨e1,a1⟩|⟨k1,e1,a1,d1⟩
 ·rw[e1];simp only[kX,cond_true];rw[eK (by rw[hz];omega)]
 have c1:decide (k1<0)=false:=by simp;omega
 rw[e1];simp only[c1,cond_false];rw[akx _ _ w.2 (by omega) (by omega)];simp only[Option.bind_some];rcases jo k1 (zL zP x.2)with⟨e2,a2⟩|⟨k2,e2,a2,d2⟩
 ·rw[e2];simp only[kX,cond_true];rw[eK (by rw[hz];omega)]
 have c2:decide (k2<0)=false:=by simp;omega
 rw[e2];simp only[c2,cond_false];rw[mj (by rw[hz];omega)];congr 3<;>(rw[hz];omega)
theorem Il(x:List Int)(h:zI x<=68719476736):pv x=some ((x,()),()):=by
 have hl:x.length<=68719476736:=h;rw[akI,kW x 8 hl (by omega) (by omega)];exact pE x (λy=>some ((y,()),())) (λv i=>zy x v i) hl (λy _=>rfl) (λi hi v hv=>by
  rw[Vk,aN hi,aI (by omega)];simp only[ay hi,ay (show i<v.length by omega),cond_true,Option.bind_some,Int.toNat_natCast]) (λv=>by rw[Vk,aR];rfl) _ (by simp)
theorem akH(x:List (List Int))(h:zL zI x<=68719476736):Bk x=some ((x,()),()):=by
 have hl:x.length<=68719476736:=Nat.le_trans (ch _ x) h;rw[akG,kW x 24 hl (by omega) (by omega)];exact pE x pv (λv i=>zw x v i) hl (λy hy=>Il y (Nat.le_trans (cK _ hy) h)) (λi hi v hv=>by
  rw[Vj,aN hi,aI (by omega)];simp only[ay hi,ay (show i<v.length by omega),cond_true,Option.bind_some,Int.toNat_natCast]) (λv=>by rw[Vj,aR];rfl) _ (by simp)
theorem We(x:aa)(h:zA x<=68719476736):vg x=some ((x,()),()):=by
 have hz:zA x=zI x.1:=rfl;rw[akE,Il _ (by omega)];rfl
theorem akD(x:List aa)(h:zL zA x<=68719476736):Bi x=some ((x,()),()):=by
 have hl:x.length<=68719476736:=Nat.le_trans (ch _ x) h;rw[akC,kW x 40 hl (by omega) (by omega)];exact pE x vg (λv i=>zu x v i) hl (λy hy=>We y (Nat.le_trans (cK _ hy) h)) (λi hi v hv=>by
  rw[Vi,aN hi,aI (by omega)];simp only[ay hi,ay (show i<v.length by omega),cond_true,Option.bind_some,Int.toNat_natCast]) (λv=>by rw[Vi,aR];rfl) _ (by simp)
theorem Wf(x:az)(h:zC x<=68719476736):Bj x=some ((x,()),()):=by
 have hz:zC x=zL zA x.2:=rfl;rw[akF,akD _ (by omega)];rfl
theorem akU(x:Rw)(h:zR x<=68719476736):Bo x=some ((x,()),()):=by
 have hz:zR x=zB x.1+zC x.2:=rfl;rw[akT,Wf _ (by omega)];rfl
theorem akS(x:List Rw)(h:zL zR x<=68719476736):Bp x=some ((x,()),()):=by
 have hl:x.length<=68719476736:=Nat.le_trans (ch _ x) h;rw[akR,kW x 48 hl (by omega) (by omega)];exact pE x Bo (λv i=>zG x v i) hl (λy hy=>akU y (Nat.le_trans (cK _ hy) h)) (λi hi v hv=>by
  rw[Vn,aN hi,aI (by omega)];simp only[ay hi,ay (show i<v.length by omega),cond_true,Option.bind_some,Int.toNat_natCast]) (λv=>by rw[Vn,aR];rfl) _ (by simp)
theorem akQ(x:Rel)(h:zQ x<=68719476736):Bn x=some ((x,()),()):=by
 have hz:zQ x=zB x.1+zL zR x.2.2:=rfl;rw[akP,akS _ (by omega)];rfl
theorem akO(x:List Rel)(h:zL zQ x<=68719476736):pw x=some ((x,()),()):=by
 have hl:x.length<=68719476736:=Nat.le_trans (ch _ x) h;rw[akN,kW x 48 hl (by omega) (by omega)];exact pE x Bn (λv i=>zF x v i) hl (λy hy=>akQ y (Nat.le_trans (cK _ hy) h)) (λi hi v hv=>by
  rw[Vm,aN hi,aI (by omega)];simp only[ay hi,ay (show i<v.length by omega),cond_true,Option.bind_some,Int.toNat_natCast]) (λv=>by rw[Vm,aR];rfl) _ (by simp)
theorem akM(x:ao)(h:zN x<=68719476736):Bl x=some ((x,()),()):=by
 have hz:zN x=zA x.2.1+zB x.2.2.1+zB x.2.2.2.1+zI x.2.2.2.2.1:=rfl;rw[akL,We _ (by omega),Il _ (by omega)];rfl
theorem akK(x:List ao)(h:zL zN x<=68719476736):Bm x=some ((x,()),()):=by
 have hl:x.length<=68719476736:=Nat.le_trans (ch _ x) h;rw[akJ,kW x 128 hl (by omega) (by omega)];exact pE x Bl (λv i=>zD x v i) hl (λy hy=>akM y (Nat.le_trans (cK _ hy) h)) (λi hi v hv=>by
  rw[Vl,aN hi,aI (by omega)];simp only[ay hi,ay (show i<v.length by omega),cond_true,Option.bind_some,Int.toNat_natCast]) (λv=>by rw[Vl,aR];rfl) _ (by simp)
theorem akY(x:af)(h:zP x<=68719476736):Bq x=some ((x,()),()):=by
 have hz:zP x=zC x.1+zL zI x.2:=rfl;rw[akX,Wf _ (by omega),akH _ (by omega)];rfl
theorem akW(x:List af)(h:zL zP x<=68719476736):Br x=some ((x,()),()):=by
 have hl:x.length<=68719476736:=Nat.le_trans (ch _ x) h;rw[akV,kW x 56 hl (by omega) (by omega)];exact pE x Bq (λv i=>zH x v i) hl (λy hy=>akY y (Nat.le_trans (cK _ hy) h)) (λi hi v hv=>by
  rw[Vo,aN hi,aI (by omega)];simp only[ay hi,ay (show i<v.length by omega),cond_true,Option.bind_some,Int.toNat_natCast]) (λv=>by rw[Vo,aR];rfl) _ (by simp)
theorem ak0(x:a8)(h:zV x<=68719476736):r5 x=some ((x,()),()):=by
 have hz:zV x=zL zN x.1+zL zP x.2:=rfl;rw[akZ,akK _ (by omega),akW _ (by omega)];rfl
theorem Ib(x:List Int)(h:zI x<=68719476736):rY x x=some ((true,()),()):=by
 have hl:x.length<=68719476736:=h;rw[ajw];simp only[bne_self_eq_false,cond_false];refine pI x (some ((true,()),())) (λi=>yZ x x i) hl (λi hi=>?_) ?_
 ·rw[US,aN hi,aI (by omega)];simp only[ay hi,cond_true,Option.bind_some,bne_self_eq_false,beq_self_eq_true,Bool.not_true,cond_false]
 ·rw[US,aR];rfl
theorem ajv(x:List (List Int))(h:zL zI x<=68719476736):AN x x=some ((true,()),()):=by
 have hl:x.length<=68719476736:=Nat.le_trans (ch _ x) h;rw[aju];simp only[bne_self_eq_false,cond_false];refine pI x (some ((true,()),())) (λi=>yY x x i) hl (λi hi=>?_) ?_
 ·rw[UR,aN hi,aI (by omega)];simp only[ay hi,cond_true,Option.bind_some,Ib _ (Nat.le_trans (cK _ (List.getElem_mem hi)) h),Bool.not_true,cond_false]
 ·rw[UR,aR];rfl
theorem V7(x:aa)(h:zA x<=68719476736):AK x x=some ((true,()),()):=by
 have hz:zA x=zI x.1:=rfl;rw[ajs];simp only[bne_self_eq_false,beq_self_eq_true,Bool.not_true,cond_false,Option.bind_some,Ib x.1 (by omega)]
theorem ajr(x:List aa)(h:zL zA x<=68719476736):AL x x=some ((true,()),()):=by
 have hl:x.length<=68719476736:=Nat.le_trans (ch _ x) h;rw[ajq];simp only[bne_self_eq_false,cond_false];refine pI x (some ((true,()),())) (λi=>yX x x i) hl (λi hi=>?_) ?_
 ·rw[UQ,aN hi,aI (by omega)];simp only[ay hi,cond_true,Option.bind_some,V7 _ (Nat.le_trans (cK _ (List.getElem_mem hi)) h),Bool.not_true,cond_false]
 ·rw[UQ,aR];rfl
theorem V8(x:az)(h:zC x<=68719476736):AM x x=some ((true,()),()):=by
 have hz:zC x=zL zA x.2:=rfl;rw[ajt];simp only[bne_self_eq_false,beq_self_eq_true,Bool.not_true,cond_false,Option.bind_some,ajr x.2 (by omega)]
theorem ajI(x:Rw)(h:zR x<=68719476736):Ig x x=some ((true,()),()):=by
 have hz:zR x=zB x.1+zC x.2:=rfl;rw[ajH];simp only[bne_self_eq_false,beq_self_eq_true,Bool.not_true,cond_false,Option.bind_some,V8 x.2 (by omega)]
theorem ajG(x:List Rw)(h:zL zR x<=68719476736):AQ x x=some ((true,()),()):=by
 have hl:x.length<=68719476736:=Nat.le_trans (ch _ x) h;rw[ajF];simp only[bne_self_eq_false,cond_false];refine pI x (some ((true,()),())) (λi=>y5 x x i) hl (λi hi=>?_) ?_
 ·rw[UW,aN hi,aI (by omega)];simp only[ay hi,cond_true,Option.bind_some,ajI _ (Nat.le_trans (cK _ (List.getElem_mem hi)) h),Bool.not_true,cond_false]
 ·rw[UW,aR];rfl
theorem ajE(x:Rel)(h:zQ x<=68719476736):Ie x x=some ((true,()),()):=by
 have hz:zQ x=zB x.1+zL zR x.2.2:=rfl;rw[ajD];simp only[bne_self_eq_false,beq_self_eq_true,Bool.not_true,cond_false,Option.bind_some,ajG x.2.2 (by omega)]
theorem ajC(x:List Rel)(h:zL zQ x<=68719476736):AP x x=some ((true,()),()):=by
 have hl:x.length<=68719476736:=Nat.le_trans (ch _ x) h;rw[ajB];simp only[bne_self_eq_false,cond_false];refine pI x (some ((true,()),())) (λi=>y4 x x i) hl (λi hi=>?_) ?_
 ·rw[UU,aN hi,aI (by omega)];simp only[ay hi,cond_true,Option.bind_some,ajE _ (Nat.le_trans (cK _ (List.getElem_mem hi)) h),Bool.not_true,cond_false]
 ·rw[UU,aR];rfl
theorem ajA(x:ao)(h:zN x<=68719476736):Ic x x=some ((true,()),()):=by
 have hz:zN x=zA x.2.1+zB x.2.2.1+zB x.2.2.2.1+zI x.2.2.2.2.1:=rfl;rw[ajz];simp only[bne_self_eq_false,beq_self_eq_true,Bool.not_true,cond_false,Option.bind_some,V7 x.2.1 (by omega),Ib x.2.2.2.2.1 (by omega)]
theorem ajy(x:List ao)(h:zL zN x<=68719476736):AO x x=some ((true,()),()):=by
 have hl:x.length<=68719476736:=Nat.le_trans (ch _ x) h;rw[ajx];simp only[bne_self_eq_false,cond_false];refine pI x (some ((true,()),())) (λi=>y3 x x i) hl (λi hi=>?_) ?_
 ·rw[UT,aN hi,aI (by omega)];simp only[ay hi,cond_true,Option.bind_some,ajA _ (Nat.le_trans (cK _ (List.getElem_mem hi)) h),Bool.not_true,cond_false]
 ·rw[UT,aR];rfl
theorem ajM(x:af)(h:zP x<=68719476736):Ih x x=some ((true,()),()):=by
 have hz:zP x=zC x.1+zL zI x.2:=rfl;rw[ajL];simp only[bne_self_eq_false,beq_self_eq_true,Bool.not_true,cond_false,Option.bind_some,V8 x.1 (by omega),ajv x.2 (by omega)]
theorem ajK(x:List af)(h:zL zP x<=68719476736):AR x x=some ((true,()),()):=by
 have hl:x.length<=68719476736:=Nat.le_trans (ch _ x) h;rw[ajJ];simp only[bne_self_eq_false,cond_false];refine pI x (some ((true,()),())) (λi=>y6 x x i) hl (λi hi=>?_) ?_
 ·rw[UX,aN hi,aI (by omega)];simp only[ay hi,cond_true,Option.bind_some,ajM _ (Nat.le_trans (cK _ (List.getElem_mem hi)) h),Bool.not_true,cond_false]
 ·rw[UX,aR];rfl
theorem Ii(x:a8)(h:zV x<=68719476736):rZ x x=some ((true,()),()):=by
 have hz:zV x=zL zN x.1+zL zP x.2:=rfl;rw[ajN];simp only[bne_self_eq_false,beq_self_eq_true,Bool.not_true,cond_false,Option.bind_some,ajy x.1 (by omega),ajK x.2 (by omega)]
def mL{α:Type}(m:α->Int->α×Int):List α->Int->List α×Int
 | [],k=>([],k)
 | y::l,k=>((m y k).1::(mL m l (m y k).2).1,(mL m l (m y k).2).2)
def mI(_:Int)(k:Int):Int×Int:=(k,k+1)
def Md{α:Type}(m:α->Int->α×Int)(z:α->Nat):Prop:=∀y k,k<=(m y k).2/\(m y k).2<=k+12*z y+12
theorem dx{m:α->Int->α×Int}{z:α->Nat}(h:Md m z):∀(x:List α) (k:Int),k<=(mL m x k).2/\(mL m x k).2<=k+12*zL z x
 | [],k=>by simp[mL,zL]
 | y::l,k=>by
  have h1:=h y k;have h2:=dx h l (m y k).2;have e:zL z (y::l)=1+z y+zL z l:=by simp only[zL,List.length_cons,List.map_cons,List.sum_cons];omega
  simp only[mL];omega
theorem LY:Md mI (λ_=>0):=λy k=>by unfold mI;simp only[];omega
theorem iC(x:List Int)(k:Int):k<=(mL mI x k).2/\(mL mI x k).2<=k+12*zI x:=by
 have:=dx LY x k;have e:zL (λ_:Int=>0) x=zI x:=by
  unfold zL zI;have:∀l:List Int,(l.map (λ_=>0)).sum=0:=λl=>by induction l<;>simp_all
  rw[this];rfl
 rw[e]at this;exact this
theorem aaY(m:α->Int->α×Int):∀(x:List α) (k:Int),(mL m x k).1.length=x.length
 | [],_=>rfl
 | y::l,k=>by simp only[mL,List.length_cons,aaY m l]
theorem aaZ(m:α->Int->α×Int)(z:α->Nat)(hm:∀y k,k<=(m y k).2)(f:List α->Int->Int->Option ((Int×PUnit)×List α×PUnit))
  (h1:∀(v:List α) (k:Int) (i:Nat) (hi:i<v.length),v.length<=68719476736->0<=k->(m v[i] k).2<=1000000000000000000->z v[i]<=68719476736->f v k (i:Int)=f (v.set i (m v[i] k).1) (m v[i] k).2 ((i+1:Nat):Int))
  (h2:∀v k,f v k (v.length:Int)=some ((k,()),v,())) (np:∀x k,k<=(mL m x k).2) :
  ∀(x pre:List α) (k:Int),0<=k->(mL m x k).2<=1000000000000000000->(pre++x).length<=68719476736->(∀y∈x,z y<=68719476736)->f (pre++x) k (pre.length:Int)=some (((mL m x k).2,()),pre++(mL m x k).1,())
 | [],pre,k,_,_,_,_=>by
  rw[List.append_nil,h2];simp[mL]
 | y::l,pre,k,h0,hk,hl,hz=>by
  have hy:(pre++y::l)[pre.length]'(by simp)=y:=by simp
  have a1:=hm y k;have a2:=np l (m y k).2;simp only[mL]at hk ⊢;rw[h1 (pre++y::l) k pre.length (by simp) hl h0 (by rw[hy];omega) (by rw[hy];exact hz y (by simp)),hy];have e:(pre++y::l).set pre.length (m y k).1=(pre++[(m y k).1])++l:=by simp
  rw[e];have:=aaZ m z hm f h1 h2 np l (pre++[(m y k).1]) (m y k).2 (by omega) hk (by simp at hl ⊢;omega) (λq hq=>hz q (List.mem_cons_of_mem _ hq));rw[List.length_append,List.length_singleton]at this;rw[this,List.append_assoc,List.singleton_append]
theorem qn(m:α->Int->α×Int)(z:α->Nat)(hm:∀y k,k<=(m y k).2)(f:List α->Int->Int->Option ((Int×PUnit)×List α×PUnit))(np:∀x k,k<=(mL m x k).2)(x:List α)(k:Int)(h0:0<=k)(hk:(mL m x k).2<=1000000000000000000)(hl:x.length<=68719476736)(hz:∀y∈x,z y<=68719476736)
  (h1:∀(v:List α) (k:Int) (i:Nat) (hi:i<v.length),v.length<=68719476736->0<=k->(m v[i] k).2<=1000000000000000000->z v[i]<=68719476736->f v k (i:Int)=f (v.set i (m v[i] k).1) (m v[i] k).2 ((i+1:Nat):Int))
  (h2:∀v k,f v k (v.length:Int)=some ((k,()),v,())) :
  f x k 0=some (((mL m x k).2,()),(mL m x k).1,()):=by
 have:=aaZ m z hm f h1 h2 np x [] k h0 hk (by simpa using hl) hz;simpa using this
theorem Yo(m:α->Int->α×Int)(z:α->Nat)(hm:∀y k,k<=(m y k).2)(f:List α->Int->Int->Option ((Int×PUnit)×PUnit))
  (h1:∀(v:List α) (k:Int) (i:Nat) (hi:i<v.length) (y:α),v[i]=(m y k).1->v.length<=68719476736->0<=k->(m y k).2<=1000000000000000000->z y<=68719476736->f v k (i:Int)=f v (m y k).2 ((i+1:Nat):Int))
  (h2:∀v k,f v k (v.length:Int)=some ((k,()),())) (np:∀x k,k<=(mL m x k).2) :
  ∀(x pre:List α) (k:Int),0<=k->(mL m x k).2<=1000000000000000000->(pre++x).length<=68719476736->(∀y∈x,z y<=68719476736)->f (pre++(mL m x k).1) k (pre.length:Int)=some (((mL m x k).2,()),())
 | [],pre,k,_,_,_,_=>by
  simp only[mL,List.append_nil];rw[h2]
 | y::l,pre,k,h0,hk,hl,hz=>by
  have a1:=hm y k;have a2:=np l (m y k).2;simp only[mL]at hk ⊢;rw[h1 _ k pre.length (by simp) y (by simp) (by simp[aaY]at hl ⊢;omega) h0 (by omega) (hz y (by simp))];have:=Yo m z hm f h1 h2 np l (pre++[(m y k).1]) (m y k).2 (by omega) hk (by simp at hl ⊢;omega) (λq hq=>hz q (List.mem_cons_of_mem _ hq));rw[List.length_append,List.length_singleton,List.append_assoc,List.singleton_append]at this;exact this
theorem vT(m:α->Int->α×Int)(z:α->Nat)(hm:∀y k,k<=(m y k).2)(f:List α->Int->Int->Option ((Int×PUnit)×PUnit))(np:∀x k,k<=(mL m x k).2)(x:List α)(k:Int)(h0:0<=k)(hk:(mL m x k).2<=1000000000000000000)(hl:x.length<=68719476736)(hz:∀y∈x,z y<=68719476736)
  (h1:∀(v:List α) (k:Int) (i:Nat) (hi:i<v.length) (y:α),v[i]=(m y k).1->v.length<=68719476736->0<=k->(m y k).2<=1000000000000000000->z y<=68719476736->f v k (i:Int)=f v (m y k).2 ((i+1:Nat):Int))
  (h2:∀v k,f v k (v.length:Int)=some ((k,()),())) :
  f (mL m x k).1 k 0=some (((mL m x k).2,()),()):=by
 have:=Yo m z hm f h1 h2 np x [] k h0 hk (by simpa using hl) hz;simpa using this
theorem acu(b:Int):(strOf [b]).size=1:=rfl
theorem Vb:∀(n:Nat) (k:Int) (s:ByteArray),0<=k->k<10 ^ n->k<=1000000000000000000->s.size+n<=1000->∃r,zl k s=some ((r,()),())
 | 0,k,s,h0,h1,hb,hs=>by
  have hk:k=0:=by simp at h1;omega
  rw[Va,hk];have e:decide ((ByteArray.mk #[109]).size+s.size<=140737488355328)=true:=by
   have:(ByteArray.mk #[109]).size=1:=rfl;rw[this];simp;omega
  simp only[e,cond_true];exact⟨_,rfl⟩
 | n+1,k,s,h0,h1,hb,hs=>by
  rw[Va];by_cases hk:k>0
  ·have e:decide ((strOf [IntKind.u8.wrap (IntKind.i64.wrap (48+k.tmod 10))]).size+s.size<=140737488355328)=true:=by
    rw[acu];simp;omega
   have hq:k.tdiv 10=k / 10:=Int.tdiv_eq_ediv_of_nonneg h0;have h3:(10:Int) ^ (n+1)=10 ^ n*10:=Int.pow_succ _ _;simp only[hk,decide_true,cond_true,e];rw[hq,bX (by omega) (by omega)];exact Vb n (k / 10) _ (by omega) (by omega) (by omega) (by rw[ByteArray.size_append,acu];omega)
  ·have e:decide ((ByteArray.mk #[109]).size+s.size<=140737488355328)=true:=by
    have:(ByteArray.mk #[109]).size=1:=rfl;rw[this];simp;omega
   simp only[hk,decide_false,cond_false,e,cond_true];exact⟨_,rfl⟩
noncomputable def th(k:Int):ByteArray:=match kC k with
 | some r=>r.1.1
 | none=>ByteArray.empty
theorem r3(k:Int)(h0:0<=k)(h1:k<=1000000000000000000):kC k=some ((th k,()),()):=by
 have:∃r,kC k=some ((r,()),()):=by
  rw[akb];by_cases h:k<=0
  ·simp only[h,decide_true,cond_true];exact⟨_,rfl⟩
  ·simp only[h,decide_false,cond_false];have e1:(10:Int) ^ 19=10000000000000000000:=by decide
   have e2:(ByteArray.mk #[]).size=0:=rfl;exact Vb 19 k (ByteArray.mk #[]) h0 (by omega) h1 (by omega)
 obtain⟨r,hr⟩:=this;unfold th;rw[hr]
theorem AZ(x:List Int)(k:Int)(h0:0<=k)(hk:(mL mI x k).2<=1000000000000000000)(hl:x.length<=68719476736):pt x k=some (((mL mI x k).2,()),(mL mI x k).1,()):=by
 rw[aj2];refine qn mI (λ_=>0) (λy k=>(LY y k).1) (λv k i=>zg v k i) (λx k=>(iC x k).1) x k h0 hk hl (λ_ _=>Nat.zero_le _) (λv k i hi hl h0 hk hz=>?_) (λv k=>by rw[U5,aR];rfl);have dp:k+1<=1000000000000000000:=hk;have w0:IntKind.i64.wrap (k+1)=k+1:=dH (by omega) (by omega);rw[U5,aN hi,aI (by omega)];simp only[cond_true,Option.bind_some,ay hi,pN hi,List.set_set,Int.toNat_natCast,w0]
 try rfl
theorem AU(x:List Int)(k:Int)(h0:0<=k)(hk:(mL mI x k).2<=1000000000000000000)(hl:x.length<=68719476736):pr (mL mI x k).1 k=some (((mL mI x k).2,()),()):=by
 rw[ajS];refine vT mI (λ_=>0) (λy k=>(LY y k).1) (λv k i=>za v k i) (λx k=>(iC x k).1) x k h0 hk hl (λ_ _=>Nat.zero_le _) (λv k i hi y hy hl h0 hk hz=>?_) (λv k=>by rw[U0,aR];rfl);have dp:k+1<=1000000000000000000:=hk;have w0:IntKind.i64.wrap (k+1)=k+1:=dH (by omega) (by omega);rw[U0,aN hi,ay hi,hy,aI (by omega)];simp only[mI,cond_true,Option.bind_some,bne_self_eq_false,beq_self_eq_true,Bool.not_true,cond_false,w0]
theorem qo:Md (mL mI) zI:=λx k=>by
 have:=iC x k;omega
theorem aj1(x:List (List Int))(k:Int)(h0:0<=k)(hk:(mL (mL mI) x k).2<=1000000000000000000)(hz:zL zI x<=68719476736):AY x k=some (((mL (mL mI) x k).2,()),(mL (mL mI) x k).1,()):=by
 rw[aj0];refine qn (mL mI) zI (λy k=>(qo y k).1) (λv k i=>zf v k i) (λx k=>(dx qo x k).1) x k h0 hk (Nat.le_trans (ch _ x) hz) (λy hy=>Nat.le_trans (cK _ hy) hz) (λv k i hi hl h0 hk hz=>?_) (λv k=>by rw[U4,aR];rfl);have q0:=iC v[i] k;have dp:(mL mI v[i] k).2<=1000000000000000000:=hk;have s0:=AZ v[i] k (by omega) (by omega) (by have fG:zI v[i]<=68719476736:=hz;unfold zI at fG;omega);rw[U4,aN hi,aI (by omega)];simp only[cond_true,Option.bind_some,ay hi,pN hi,List.set_set,Int.toNat_natCast,s0]
 try rfl
theorem ajR(x:List (List Int))(k:Int)(h0:0<=k)(hk:(mL (mL mI) x k).2<=1000000000000000000)(hz:zL zI x<=68719476736):AT (mL (mL mI) x k).1 k=some (((mL (mL mI) x k).2,()),()):=by
 rw[ajQ];refine vT (mL mI) zI (λy k=>(qo y k).1) (λv k i=>y8 v k i) (λx k=>(dx qo x k).1) x k h0 hk (Nat.le_trans (ch _ x) hz) (λy hy=>Nat.le_trans (cK _ hy) hz) (λv k i hi y hy hl h0 hk hz=>?_) (λv k=>by rw[UZ,aR];rfl);have q0:=iC y k;have dp:(mL mI y k).2<=1000000000000000000:=hk;have s0:=AU y k (by omega) (by omega) (by have fG:zI y<=68719476736:=hz;unfold zI at fG;omega);have n0:decide ((mL mI y k).2<0)=false:=decide_eq_false (by omega);rw[UZ,aN hi,ay hi,hy,aI (by omega)];simp only[cond_true,Option.bind_some,bne_self_eq_false,beq_self_eq_true,Bool.not_true,cond_false,s0,n0]
noncomputable def mA(x:aa)(k:Int):aa×Int:=(((mL mI x.1 k).1,(mL mI x.1 k).2,((mL mI x.1 k).2+1).tmod 3==0),(mL mI x.1 k).2+1+1)
theorem nE:Md mA zA:=λx k=>by
 have q0:=iC x.1 k;have hz:zA x=zI x.1:=rfl;unfold mA;simp only[];omega
theorem V9(x:List aa)(k:Int)(h0:0<=k)(hk:(mL mA x k).2<=1000000000000000000)(hz:zL zA x<=68719476736):ve x k=some (((mL mA x k).2,()),(mL mA x k).1,()):=by
 rw[ajZ];refine qn mA zA (λy k=>(nE y k).1) (λv k i=>ze v k i) (λx k=>(dx nE x k).1) x k h0 hk (Nat.le_trans (ch _ x) hz) (λy hy=>Nat.le_trans (cK _ hy) hz) (λv k i hi hl h0 hk hz=>?_) (λv k=>by rw[U3,aR];rfl);have q0:=iC v[i].1 k;have dp:(mL mI v[i].1 k).2+1+1<=1000000000000000000:=hk;have dq:zI v[i].1<=68719476736:=by have fG:zA v[i]<=68719476736:=hz;simp only[zA]at fG;omega
 have s0:=AZ v[i].1 k (by omega) (by omega) (by unfold zI at *;omega);have w1:IntKind.i64.wrap ((mL mI v[i].1 k).2+1)=(mL mI v[i].1 k).2+1:=dH (by omega) (by omega);have w2:IntKind.i64.wrap ((mL mI v[i].1 k).2+1+1)=(mL mI v[i].1 k).2+1+1:=dH (by omega) (by omega);rw[U3,aN hi,aI (by omega)];simp only[cond_true,Option.bind_some,ay hi,pN hi,List.set_set,Int.toNat_natCast,s0,w1,w2]
 try rfl
theorem ajP(x:List aa)(k:Int)(h0:0<=k)(hk:(mL mA x k).2<=1000000000000000000)(hz:zL zA x<=68719476736):AS (mL mA x k).1 k=some (((mL mA x k).2,()),()):=by
 rw[ajO];refine vT mA zA (λy k=>(nE y k).1) (λv k i=>y7 v k i) (λx k=>(dx nE x k).1) x k h0 hk (Nat.le_trans (ch _ x) hz) (λy hy=>Nat.le_trans (cK _ hy) hz) (λv k i hi y hy hl h0 hk hz=>?_) (λv k=>by rw[UY,aR];rfl);have q0:=iC y.1 k;have dp:(mL mI y.1 k).2+1+1<=1000000000000000000:=hk;have dq:zI y.1<=68719476736:=by have fG:zA y<=68719476736:=hz;simp only[zA]at fG;omega
 have s0:=AU y.1 k (by omega) (by omega) (by unfold zI at *;omega);have n0:decide ((mL mI y.1 k).2<0)=false:=decide_eq_false (by omega);have w1:IntKind.i64.wrap ((mL mI y.1 k).2+1)=(mL mI y.1 k).2+1:=dH (by omega) (by omega);have w2:IntKind.i64.wrap ((mL mI y.1 k).2+1+1)=(mL mI y.1 k).2+1+1:=dH (by omega) (by omega);rw[UY,aN hi,ay hi,hy,aI (by omega)];simp only[mA,cond_true,Option.bind_some,bne_self_eq_false,beq_self_eq_true,Bool.not_true,cond_false,s0,n0,w1,w2]
noncomputable def mR(x:Rw)(k:Int):Rw×Int:=((th k,(k+1,(mL mA x.2.2 (k+1+1)).1)),(mL mA x.2.2 (k+1+1)).2)
theorem Ei:Md mR zR:=λx k=>by
 have q2:=dx nE x.2.2 (k+1+1);have hz:zR x=zB x.1+zL zA x.2.2:=by simp only[zR,zC]<;>omega
 unfold mR;simp only[];omega
theorem aj8(x:List Rw)(k:Int)(h0:0<=k)(hk:(mL mR x k).2<=1000000000000000000)(hz:zL zR x<=68719476736):A3 x k=some (((mL mR x k).2,()),(mL mR x k).1,()):=by
 rw[aj7];refine qn mR zR (λy k=>(Ei y k).1) (λv k i=>zj v k i) (λx k=>(dx Ei x k).1) x k h0 hk (Nat.le_trans (ch _ x) hz) (λy hy=>Nat.le_trans (cK _ hy) hz) (λv k i hi hl h0 hk hz=>?_) (λv k=>by rw[U8,aR];rfl);have q2:=dx nE v[i].2.2 (k+1+1);have dp:(mL mA v[i].2.2 (k+1+1)).2<=1000000000000000000:=hk;have dq:zB v[i].1+zL zA v[i].2.2<=68719476736:=by have fG:zR v[i]<=68719476736:=hz;simp only[zR,zC]at fG;omega
 have t0:=r3 (k) (by omega) (by omega);have w0:IntKind.i64.wrap (k+1)=k+1:=dH (by omega) (by omega);have w1:IntKind.i64.wrap (k+1+1)=k+1+1:=dH (by omega) (by omega);have s2:=V9 v[i].2.2 (k+1+1) (by omega) (by omega) (by omega);rw[U8,aN hi,aI (by omega)];simp only[cond_true,Option.bind_some,ay hi,pN hi,List.set_set,Int.toNat_natCast,t0,w0,w1,s2]
 try rfl
noncomputable def mQ(x:Rel)(k:Int):Rel×Int:=((th k,k+1,(mL mR x.2.2 (k+1+1)).1),(mL mR x.2.2 (k+1+1)).2)
theorem LZ:Md mQ zQ:=λx k=>by
 have q2:=dx Ei x.2.2 (k+1+1);have hz:zQ x=zB x.1+zL zR x.2.2:=rfl;unfold mQ;simp only[];omega
theorem aj6(x:List Rel)(k:Int)(h0:0<=k)(hk:(mL mQ x k).2<=1000000000000000000)(hz:zL zQ x<=68719476736):A2 x k=some (((mL mQ x k).2,()),(mL mQ x k).1,()):=by
 rw[aj5];refine qn mQ zQ (λy k=>(LZ y k).1) (λv k i=>zi v k i) (λx k=>(dx LZ x k).1) x k h0 hk (Nat.le_trans (ch _ x) hz) (λy hy=>Nat.le_trans (cK _ hy) hz) (λv k i hi hl h0 hk hz=>?_) (λv k=>by rw[U7,aR];rfl);have q2:=dx Ei v[i].2.2 (k+1+1);have dp:(mL mR v[i].2.2 (k+1+1)).2<=1000000000000000000:=hk;have dq:zB v[i].1+zL zR v[i].2.2<=68719476736:=by have fG:zQ v[i]<=68719476736:=hz;simp only[zQ]at fG;omega
 have t0:=r3 (k) (by omega) (by omega);have w0:IntKind.i64.wrap (k+1)=k+1:=dH (by omega) (by omega);have w1:IntKind.i64.wrap (k+1+1)=k+1+1:=dH (by omega) (by omega);have s2:=aj8 v[i].2.2 (k+1+1) (by omega) (by omega) (by omega);rw[U7,aN hi,aI (by omega)];simp only[cond_true,Option.bind_some,ay hi,pN hi,List.set_set,Int.toNat_natCast,t0,w0,w1,s2]
 try rfl
noncomputable def mN(x:ao)(k:Int):ao×Int:=((k,((mL mI x.2.1.1 (k+1)).1,(mL mI x.2.1.1 (k+1)).2,((mL mI x.2.1.1 (k+1)).2+1).tmod 3==0),th ((mL mI x.2.1.1 (k+1)).2+1+1),th ((mL mI x.2.1.1 (k+1)).2+1+1+1),(mL mI x.2.2.2.2.1 ((mL mI x.2.1.1 (k+1)).2+1+1+1+1)).1,(mL mI x.2.2.2.2.1 ((mL mI x.2.1.1 (k+1)).2+1+1+1+1)).2,(mL mI x.2.2.2.2.1 ((mL mI x.2.1.1 (k+1)).2+1+1+1+1)).2+1,(mL mI x.2.2.2.2.1 ((mL mI x.2.1.1 (k+1)).2+1+1+1+1)).2+1+1),(mL mI x.2.2.2.2.1 ((mL mI x.2.1.1 (k+1)).2+1+1+1+1)).2+1+1+1)
theorem qp:Md mN zN:=λx k=>by
 have q1:=iC x.2.1.1 (k+1);have q6:=iC x.2.2.2.2.1 ((mL mI x.2.1.1 (k+1)).2+1+1+1+1);have hz:zN x=zI x.2.1.1+zB x.2.2.1+zB x.2.2.2.1+zI x.2.2.2.2.1:=by simp only[zN,zA]<;>omega
 unfold mN;simp only[];omega
theorem aj4(x:List ao)(k:Int)(h0:0<=k)(hk:(mL mN x k).2<=1000000000000000000)(hz:zL zN x<=68719476736):A1 x k=some (((mL mN x k).2,()),(mL mN x k).1,()):=by
 rw[aj3];refine qn mN zN (λy k=>(qp y k).1) (λv k i=>zh v k i) (λx k=>(dx qp x k).1) x k h0 hk (Nat.le_trans (ch _ x) hz) (λy hy=>Nat.le_trans (cK _ hy) hz) (λv k i hi hl h0 hk hz=>?_) (λv k=>by rw[U6,aR];rfl);have q1:=iC v[i].2.1.1 (k+1);have q6:=iC v[i].2.2.2.2.1 ((mL mI v[i].2.1.1 (k+1)).2+1+1+1+1);have dp:(mL mI v[i].2.2.2.2.1 ((mL mI v[i].2.1.1 (k+1)).2+1+1+1+1)).2+1+1+1<=1000000000000000000:=hk;have dq:zI v[i].2.1.1+zB v[i].2.2.1+zB v[i].2.2.2.1+zI v[i].2.2.2.2.1<=68719476736:=by have fG:zN v[i]<=68719476736:=hz;simp only[zN,zA]at fG;omega
 have w0:IntKind.i64.wrap (k+1)=k+1:=dH (by omega) (by omega);have s1:=AZ v[i].2.1.1 (k+1) (by omega) (by omega) (by unfold zI at *;omega);have w2:IntKind.i64.wrap ((mL mI v[i].2.1.1 (k+1)).2+1)=(mL mI v[i].2.1.1 (k+1)).2+1:=dH (by omega) (by omega);have w3:IntKind.i64.wrap ((mL mI v[i].2.1.1 (k+1)).2+1+1)=(mL mI v[i].2.1.1 (k+1)).2+1+1:=dH (by omega) (by omega);have t4:=r3 ((mL mI v[i].2.1.1 (k+1)).2+1+1) (by omega) (by omega);have w4:IntKind.i64.wrap ((mL mI v[i].2.1.1 (k+1)).2+1+1+1)=(mL mI v[i].2.1.1 (k+1)).2+1+1+1:=dH (by omega) (by omega);have t5:=r3 ((mL mI v[i].2.1.1 (k+1)).2+1+1+1) (by omega) (by omega);have w5:IntKind.i64.wrap ((mL mI v[i].2.1.1 (k+1)).2+1+1+1+1)=(mL mI v[i].2.1.1 (k+1)).2+1+1+1+1:=dH (by omega) (by omega);have s6:=AZ v[i].2.2.2.2.1 ((mL mI v[i].2.1.1 (k+1)).2+1+1+1+1) (by omega) (by omega) (by unfold zI at *;omega);have w7:IntKind.i64.wrap ((mL mI v[i].2.2.2.2.1 ((mL mI v[i].2.1.1 (k+1)).2+1+1+1+1)).2+1)=(mL mI v[i].2.2.2.2.1 ((mL mI v[i].2.1.1 (k+1)).2+1+1+1+1)).2+1:=dH (by omega) (by omega);have w8:IntKind.i64.wrap ((mL mI v[i].2.2.2.2.1 ((mL mI v[i].2.1.1 (k+1)).2+1+1+1+1)).2+1+1)=(mL mI v[i].2.2.2.2.1 ((mL mI v[i].2.1.1 (k+1)).2+1+1+1+1)).2+1+1:=dH (by omega) (by omega);have w9:IntKind.i64.wrap ((mL mI v[i].2.2.2.2.1 ((mL mI v[i].2.1.1 (k+1)).2+1+1+1+1)).2+1+1+1)=(mL mI v[i].2.2.2.2.1 ((mL mI v[i].2.1.1 (k+1)).2+1+1+1+1)).2+1+1+1:=dH (by omega) (by omega);rw[U6,aN hi,aI (by omega)];simp only[cond_true,Option.bind_some,ay hi,pN hi,List.set_set,Int.toNat_natCast,w0,s1,w2,w3,t4,w4,t5,w5,s6,w7,w8,w9]
 try rfl
theorem ajU(x:List ao)(k:Int)(h0:0<=k)(hk:(mL mN x k).2<=1000000000000000000)(hz:zL zN x<=68719476736):AV (mL mN x k).1 k=some (((mL mN x k).2,()),()):=by
 rw[ajT];refine vT mN zN (λy k=>(qp y k).1) (λv k i=>zb v k i) (λx k=>(dx qp x k).1) x k h0 hk (Nat.le_trans (ch _ x) hz) (λy hy=>Nat.le_trans (cK _ hy) hz) (λv k i hi y hy hl h0 hk hz=>?_) (λv k=>by rw[U1,aR];rfl);have q1:=iC y.2.1.1 (k+1);have q6:=iC y.2.2.2.2.1 ((mL mI y.2.1.1 (k+1)).2+1+1+1+1);have dp:(mL mI y.2.2.2.2.1 ((mL mI y.2.1.1 (k+1)).2+1+1+1+1)).2+1+1+1<=1000000000000000000:=hk;have dq:zI y.2.1.1+zB y.2.2.1+zB y.2.2.2.1+zI y.2.2.2.2.1<=68719476736:=by have fG:zN y<=68719476736:=hz;simp only[zN,zA]at fG;omega
 have w0:IntKind.i64.wrap (k+1)=k+1:=dH (by omega) (by omega);have s1:=AU y.2.1.1 (k+1) (by omega) (by omega) (by unfold zI at *;omega);have n1:decide ((mL mI y.2.1.1 (k+1)).2<0)=false:=decide_eq_false (by omega);have w2:IntKind.i64.wrap ((mL mI y.2.1.1 (k+1)).2+1)=(mL mI y.2.1.1 (k+1)).2+1:=dH (by omega) (by omega);have w3:IntKind.i64.wrap ((mL mI y.2.1.1 (k+1)).2+1+1)=(mL mI y.2.1.1 (k+1)).2+1+1:=dH (by omega) (by omega);have t4:=r3 ((mL mI y.2.1.1 (k+1)).2+1+1) (by omega) (by omega);have w4:IntKind.i64.wrap ((mL mI y.2.1.1 (k+1)).2+1+1+1)=(mL mI y.2.1.1 (k+1)).2+1+1+1:=dH (by omega) (by omega);have t5:=r3 ((mL mI y.2.1.1 (k+1)).2+1+1+1) (by omega) (by omega);have w5:IntKind.i64.wrap ((mL mI y.2.1.1 (k+1)).2+1+1+1+1)=(mL mI y.2.1.1 (k+1)).2+1+1+1+1:=dH (by omega) (by omega);have s6:=AU y.2.2.2.2.1 ((mL mI y.2.1.1 (k+1)).2+1+1+1+1) (by omega) (by omega) (by unfold zI at *;omega);have n6:decide ((mL mI y.2.2.2.2.1 ((mL mI y.2.1.1 (k+1)).2+1+1+1+1)).2<0)=false:=decide_eq_false (by omega);have w7:IntKind.i64.wrap ((mL mI y.2.2.2.2.1 ((mL mI y.2.1.1 (k+1)).2+1+1+1+1)).2+1)=(mL mI y.2.2.2.2.1 ((mL mI y.2.1.1 (k+1)).2+1+1+1+1)).2+1:=dH (by omega) (by omega);have w8:IntKind.i64.wrap ((mL mI y.2.2.2.2.1 ((mL mI y.2.1.1 (k+1)).2+1+1+1+1)).2+1+1)=(mL mI y.2.2.2.2.1 ((mL mI y.2.1.1 (k+1)).2+1+1+1+1)).2+1+1:=dH (by omega) (by omega);have w9:IntKind.i64.wrap ((mL mI y.2.2.2.2.1 ((mL mI y.2.1.1 (k+1)).2+1+1+1+1)).2+1+1+1)=(mL mI y.2.2.2.2.1 ((mL mI y.2.1.1 (k+1)).2+1+1+1+1)).2+1+1+1:=dH (by omega) (by omega);rw[U1,aN hi,ay hi,hy,aI (by omega)];simp only[mN,cond_true,Option.bind_some,bne_self_eq_false,beq_self_eq_true,Bool.not_true,cond_false,w0,s1,n1,w2,w3,t4,w4,t5,w5,s6,n6,w7,w8,w9]
noncomputable def mP(x:af)(k:Int):af×Int:=(((k,(mL mA x.1.2 (k+1)).1),(mL (mL mI) x.2 ((mL mA x.1.2 (k+1)).2)).1),(mL (mL mI) x.2 ((mL mA x.1.2 (k+1)).2)).2)
theorem qq:Md mP zP:=λx k=>by
 have q1:=dx nE x.1.2 (k+1);have q2:=dx qo x.2 ((mL mA x.1.2 (k+1)).2);have hz:zP x=zL zA x.1.2+zL zI x.2:=by simp only[zP,zC]<;>omega
 unfold mP;simp only[];omega
theorem aka(x:List af)(k:Int)(h0:0<=k)(hk:(mL mP x k).2<=1000000000000000000)(hz:zL zP x<=68719476736):A4 x k=some (((mL mP x k).2,()),(mL mP x k).1,()):=by
 rw[aj9];refine qn mP zP (λy k=>(qq y k).1) (λv k i=>zk v k i) (λx k=>(dx qq x k).1) x k h0 hk (Nat.le_trans (ch _ x) hz) (λy hy=>Nat.le_trans (cK _ hy) hz) (λv k i hi hl h0 hk hz=>?_) (λv k=>by rw[U9,aR];rfl);have q1:=dx nE v[i].1.2 (k+1);have q2:=dx qo v[i].2 ((mL mA v[i].1.2 (k+1)).2);have dp:(mL (mL mI) v[i].2 ((mL mA v[i].1.2 (k+1)).2)).2<=1000000000000000000:=hk;have dq:zL zA v[i].1.2+zL zI v[i].2<=68719476736:=by have fG:zP v[i]<=68719476736:=hz;simp only[zP,zC]at fG;omega
 have w0:IntKind.i64.wrap (k+1)=k+1:=dH (by omega) (by omega);have s1:=V9 v[i].1.2 (k+1) (by omega) (by omega) (by omega);have s2:=aj1 v[i].2 ((mL mA v[i].1.2 (k+1)).2) (by omega) (by omega) (by omega);rw[U9,aN hi,aI (by omega)];simp only[cond_true,Option.bind_some,ay hi,pN hi,List.set_set,Int.toNat_natCast,w0,s1,s2]
 try rfl
theorem ajW(x:List af)(k:Int)(h0:0<=k)(hk:(mL mP x k).2<=1000000000000000000)(hz:zL zP x<=68719476736):AW (mL mP x k).1 k=some (((mL mP x k).2,()),()):=by
 rw[ajV];refine vT mP zP (λy k=>(qq y k).1) (λv k i=>zc v k i) (λx k=>(dx qq x k).1) x k h0 hk (Nat.le_trans (ch _ x) hz) (λy hy=>Nat.le_trans (cK _ hy) hz) (λv k i hi y hy hl h0 hk hz=>?_) (λv k=>by rw[U2,aR];rfl);have q1:=dx nE y.1.2 (k+1);have q2:=dx qo y.2 ((mL mA y.1.2 (k+1)).2);have dp:(mL (mL mI) y.2 ((mL mA y.1.2 (k+1)).2)).2<=1000000000000000000:=hk;have dq:zL zA y.1.2+zL zI y.2<=68719476736:=by have fG:zP y<=68719476736:=hz;simp only[zP,zC]at fG;omega
 have w0:IntKind.i64.wrap (k+1)=k+1:=dH (by omega) (by omega);have s1:=ajP y.1.2 (k+1) (by omega) (by omega) (by omega);have n1:decide ((mL mA y.1.2 (k+1)).2<0)=false:=decide_eq_false (by omega);have s2:=ajR y.2 ((mL mA y.1.2 (k+1)).2) (by omega) (by omega) (by omega);have n2:decide ((mL (mL mI) y.2 ((mL mA y.1.2 (k+1)).2)).2<0)=false:=decide_eq_false (by omega);rw[U2,aN hi,ay hi,hy,aI (by omega)];simp only[mP,cond_true,Option.bind_some,bne_self_eq_false,beq_self_eq_true,Bool.not_true,cond_false,w0,s1,n1,s2,n2]
noncomputable def tV(x:a8)(k:Int):a8×Int:=(((mL mN x.1 k).1,(mL mP x.2 ((mL mN x.1 k).2)).1),(mL mP x.2 ((mL mN x.1 k).2)).2)
theorem tdV(x:a8)(k:Int):k<=(tV x k).2/\(tV x k).2<=k+12*zV x:=by
 have q0:=dx qp x.1 k;have q1:=dx qq x.2 ((mL mN x.1 k).2);have hz:zV x=zL zN x.1+zL zP x.2:=rfl;unfold tV;simp only[];omega
theorem Wa(x:a8)(k:Int)(h0:0<=k)(hk:(tV x k).2<=1000000000000000000)(hz:zV x<=68719476736):A5 x k=some (((tV x k).2,()),(tV x k).1,()):=by
 have q0:=dx qp x.1 k;have q1:=dx qq x.2 ((mL mN x.1 k).2);have dp:(mL mP x.2 ((mL mN x.1 k).2)).2<=1000000000000000000:=hk;have dq:zL zN x.1+zL zP x.2<=68719476736:=hz;have s0:=aj4 x.1 k (by omega) (by omega) (by omega);have s1:=aka x.2 ((mL mN x.1 k).2) (by omega) (by omega) (by omega);rw[akc];simp only[tV,Option.bind_some,cond_false,s0,s1]
theorem ajY(x:a8)(k:Int)(h0:0<=k)(hk:(tV x k).2<=1000000000000000000)(hz:zV x<=68719476736):AX (tV x k).1 k=some (((tV x k).2,()),()):=by
 have q0:=dx qp x.1 k;have q1:=dx qq x.2 ((mL mN x.1 k).2);have dp:(mL mP x.2 ((mL mN x.1 k).2)).2<=1000000000000000000:=hk;have dq:zL zN x.1+zL zP x.2<=68719476736:=hz;have s0:=ajU x.1 k (by omega) (by omega) (by omega);have n0:decide ((mL mN x.1 k).2<0)=false:=decide_eq_false (by omega);have s1:=ajW x.2 ((mL mN x.1 k).2) (by omega) (by omega) (by omega);have n1:decide ((mL mP x.2 ((mL mN x.1 k).2)).2<0)=false:=decide_eq_false (by omega);rw[ajX];simp only[tV,Option.bind_some,cond_false,s0,n0,s1,n1]
def gA(a:aa):Prop:=a.1.length<=68719476736
def gC(c:az):Prop:=c.2.length<=68719476736/\∀a∈c.2,gA a
def gR(r:Rw):Prop:=r.1.size<=68719476736/\gC r.2
def gL(r:Rel):Prop:=r.1.size<=68719476736/\r.2.2.length<=68719476736/\∀y∈r.2.2,gR y
theorem XI{x:ByteArray}(h:i<x.data.toList.length):mW x (i:Int)=some ((x.data.toList[i].toNat:Nat):Int):=by
 unfold mW;rw[if_pos (by omega)];have h':i<x.size:=by simpa using h
 simp only[Int.toNat_natCast];rw[show x[i]?=some x[i]from getElem?_pos x i h'];simp only[Option.map_some];congr 3
def iN(x:ByteArray)(a b:Int):Bool:=x.data.toList.all (λc => !(decide (((c.toNat:Nat):Int)<a)) && !(decide (((c.toNat:Nat):Int)>b)))&&(decide (1<=(x.size:Int))&&decide ((x.size:Int)<=6))
theorem tD(x:ByteArray):x.size=x.data.toList.length:=by simp
theorem jD(a b c:Int):gv a b c=some ((decide (b<=a)&&decide (a<=c),()),()):=by
 rw[aiT];by_cases h:a>=b
 ·simp[h]
 ·simp[h]
theorem H8(x:ByteArray)(a b:Int)(hl:x.size<=68719476736):rW x a b=some ((iN x a b,()),()):=by
 rw[ajm];have:=lA x.data.toList (λc => !(decide (((c.toNat:Nat):Int)<a)) && !(decide (((c.toNat:Nat):Int)>b))) (some ((false,()),())) (some ((decide (1<=(x.size:Int))&&decide ((x.size:Int)<=6),()),())) (λi=>uM x a b i) (by rw[<-tD];exact hl) (λi hi=>by
  have hb:i<x.size:=by rw[tD];exact hi
  rw[UM,XI hi,aI (by omega)];simp only[aN hb,cond_true,Option.bind_some];cases decide (((x.data.toList[i].toNat:Nat):Int)<a)<;>cases decide (((x.data.toList[i].toNat:Nat):Int)>b)<;>rfl) (by rw[UM,<-tD,aR,jD];rfl) x.data.toList.length 0 (by omega)
 simp only[List.drop_zero,Int.natCast_zero]at this;rw[show uM x a b 0=_ from this];unfold iN;cases x.data.toList.all _<;>rfl
theorem VN(x:ByteArray)(a b:Int):uX x a b=some ((iN x a b,()),()):=by
 rw[aia];unfold iN;by_cases h1:(x.size:Int)<1
 ·have:¬(1<=(x.size:Int)):=by omega
  simp[h1,this]
 ·by_cases h2:(x.size:Int)>6
  ·have:¬((x.size:Int)<=6):=by omega
   simp only[h1,h2,decide_false,decide_true,cond_false,cond_true,this,Bool.and_false]
  ·have e1:1<=(x.size:Int):=by omega
   have e2:(x.size:Int)<=6:=by omega
   simp only[h1,h2,decide_false,cond_false,e1,e2,decide_true,Bool.and_self,Bool.and_true];have:=lA x.data.toList (λc => !(decide (((c.toNat:Nat):Int)<a)) && !(decide (((c.toNat:Nat):Int)>b))) (some ((false,()),())) (some ((true,()),())) (λi=>uA x a b i) (by rw[<-tD];omega) (λi hi=>by
    have hb:i<x.size:=by rw[tD];exact hi
    rw[TO,XI hi,aI (by omega)];simp only[aN hb,cond_true,Option.bind_some];cases decide (((x.data.toList[i].toNat:Nat):Int)<a)<;>cases decide (((x.data.toList[i].toNat:Nat):Int)>b)<;>rfl) (by rw[TO,<-tD,aR];rfl) x.data.toList.length 0 (by omega)
   simp only[List.drop_zero,Int.natCast_zero]at this;rw[show uA x a b 0=_ from this];cases x.data.toList.all _<;>rfl
theorem ah6(x:ByteArray):HT x=some ((iN x 65 90,()),()):=by
 rw[ah5,VN];rfl
theorem VM(x:ByteArray):Ag x=some ((iN x 97 122,()),()):=by
 rw[ah4,VN];rfl
def dr(a:Int):Bool:=decide (-400000000<=a)&&decide (a<=400000000)
theorem VU(a:Int):An a=some ((dr a,()),()):=by
 rw[aix,jD,Option.bind_some];rfl
theorem Vv(a:Int):zS a=some ((dr a,()),()):=by
 rw[ahf];unfold dr;by_cases h:a >= -400000000
 ·simp[h]
 ·simp[h]
theorem ahB{a:Int}(h:dr a=true):rM a=some (((a.natAbs:Int),()),()):=by
 simp only[dr,Bool.and_eq_true,decide_eq_true_eq]at h;rw[HH];by_cases h0:a<0
 ·simp only[h0,decide_true,cond_true];rw[bX (by omega) (by omega)];congr 3;omega
 ·simp only[h0,decide_false,cond_false];congr 3;omega
theorem ahA(a:Nat):rM (a:Int)=some (((a:Int),()),()):=by
 rw[HH];have:decide ((a:Int)<0)=false:=by simp
 rw[this,cond_false]
theorem VY{a:Int}(h:dr a=true):u7 a=some (((a.natAbs:Int),()),()):=by
 simp only[dr,Bool.and_eq_true,decide_eq_true_eq]at h;rw[VX];rw[bX (by omega) (by omega)];simp only[cond_true];congr 3;split<;>omega
theorem FF:∀(n:Nat) (a b:Int),b.natAbs<=n->0<=a->0<=b->yu a b=some ((((Nat.gcd a.natAbs b.natAbs:Nat):Int),()),())
 | n,a,b,hn,ha,hb=>by
  rw[afP];by_cases h0:b=0
  ·subst h0;simp only[bne_self_eq_false,cond_false];simp;omega
  ·have:(b != 0)=true:=by simpa using h0
   rw[this,cond_true,cond_true];have ax:a.natAbs % b.natAbs<b.natAbs:=Nat.mod_lt _ (by omega);have hm:=Int.natAbs_tmod a b;cases n with
   | zero=>omega
   | succ n =>
    rw[FF n b (Int.tmod a b) (by omega) hb (Int.tmod_nonneg _ ha),hm];congr 4;rw[Nat.gcd_comm a.natAbs,Nat.gcd_rec b.natAbs a.natAbs,Nat.gcd_comm]
 termination_by n=>n
theorem VC(a:Nat){b:Int}(hb:dr b=true):o9 (a:Int) b=some ((((Nat.gcd a b.natAbs:Nat):Int),()),()):=by
 rw[VB,ahA,ahB hb];simp only[Option.bind_some];rw[FF _ _ _ (Nat.le_refl _) (by omega) (by omega)];simp
def gl(x:List Int)(g:Nat):Nat:=x.foldl (λg y=>Nat.gcd g y.natAbs) g
theorem XO:∀(x:List Int) (g h:Nat),gl x (Nat.gcd g h)=Nat.gcd (gl x g) h
 | [],_,_=>rfl
 | y::x,g,h=>by
  change gl x (Nat.gcd (Nat.gcd g h) y.natAbs)=Nat.gcd (gl x (Nat.gcd g y.natAbs)) h;rw[show Nat.gcd (Nat.gcd g h) y.natAbs=Nat.gcd (Nat.gcd g y.natAbs) h by rw[Nat.gcd_assoc,Nat.gcd_comm h,<-Nat.gcd_assoc],XO x]
theorem Ks(x:List Int)(k:Nat):gl x k=Nat.gcd (gl x 0) k:=by
 rw[<-XO,Nat.gcd_zero_left]
theorem FV(x:List Int)(i:Int):∀(n:Nat) (a b:Int),b.natAbs<=n->0<=a->0<=b->yO x a i b=rH x ((Nat.gcd a.natAbs b.natAbs:Nat):Int) (IntKind.i64.wrap (i+1))
 | n,a,b,hn,ha,hb=>by
  rw[afV];by_cases h0:b=0
  ·subst h0;simp only[bne_self_eq_false,cond_false];congr 1;simp;omega
  ·have:(b != 0)=true:=by simpa using h0
   rw[this,cond_true,cond_true];have ax:a.natAbs % b.natAbs<b.natAbs:=Nat.mod_lt _ (by omega);have hm:=Int.natAbs_tmod a b;cases n with
   | zero=>omega
   | succ n =>
    rw[FV x i n b (Int.tmod a b) (by omega) hb (Int.tmod_nonneg _ ha),hm];congr 2;rw[Nat.gcd_comm a.natAbs,Nat.gcd_rec b.natAbs a.natAbs,Nat.gcd_comm]
 termination_by n=>n
theorem Uw(x:List Int)(hl:x.length<=68719476736)(hx:∀y∈x,dr y=true):∀(n i g:Nat),n+i=x.length->rH x (g:Int) (i:Int)=some ((((gl (x.drop i) g:Nat):Int),()),())
 | 0,i,g,hn=>by
  obtain rfl:i=x.length:=by omega
  rw[yN,aR,List.drop_eq_nil_of_le (by omega)];rfl
 | n+1,i,g,hn=>by
  have hi:i<x.length:=by omega
  rw[yN,aN hi,ay hi,cond_true,Option.bind_some,VY (hx _ (List.getElem_mem hi)),Option.bind_some,FV x i _ _ _ (Nat.le_refl _) (Int.natCast_nonneg _) (Int.natCast_nonneg _),aI (by omega),Uw x hl hx n (i+1) _ (by omega),List.drop_eq_getElem_cons hi];simp only[Int.natAbs_natCast];rfl
theorem V3(x:List Int)(k:Int)(hl:x.length<=68719476736)(hx:∀y∈x,dr y=true)(hk:dr k=true):pn x k=some ((((gl x k.natAbs:Nat):Int),()),()):=by
 rw[V2,VY hk,Option.bind_some];have:=Uw x hl hx x.length 0 k.natAbs (by omega);simpa using this
theorem TI(x:List Int)(hl:x.length<=68719476736)(hx:∀y∈x,dr y=true):∀(n i g:Nat),n+i=x.length->uy x (g:Int) x (x.length:Int) (i:Int)=some ((((gl (x.drop i) g:Nat):Int),()),())
 | 0,i,g,hn=>by
  obtain rfl:i=x.length:=by omega
  rw[yB,aR,List.drop_eq_nil_of_le (by omega)];rfl
 | n+1,i,g,hn=>by
  have hi:i<x.length:=by omega
  rw[yB,aN hi,ay hi,cond_true,Option.bind_some,VC _ (hx _ (List.getElem_mem hi)),Option.bind_some,aI (by omega),TI x hl hx n (i+1) _ (by omega),List.drop_eq_getElem_cons hi];rfl
theorem VJ(x:List Int)(hl:x.length<=68719476736)(hx:∀y∈x,dr y=true):mB x=some ((((gl x 0:Nat):Int),()),()):=by
 rw[VI];have:=TI x hl hx x.length 0 0 (by omega);simpa using this
def bN(a:aa):Bool := !(decide ((a.1.length:Int)>4))&&(dr a.2.1&&(a.1.all dr&&decide (((gl a.1 a.2.1.natAbs:Nat):Int)<=1)))
theorem rS(a:aa):mD a=some ((bN a,()),()):=by
 rw[air,VU];unfold bN;cases h:decide ((a.1.length:Int)>4)with
 | true=>rfl
 | false =>
  have hl:a.1.length<=68719476736:=by simp at h;omega
  simp only[cond_false,Option.bind_some,Bool.not_false,Bool.true_and];cases hk:dr a.2.1 with
  | false=>rfl
  | true =>
   simp only[Bool.not_true,cond_false,Bool.true_and];have:=lA a.1 dr (some ((false,()),())) (rA a (a.1.length:Int)) (λi=>rA a i) hl (λi hi=>by
    rw[T7,ay hi,aI (by omega)];simp only[aN hi,cond_true,Option.bind_some,VU];cases dr a.1[i]<;>rfl) rfl a.1.length 0 (by omega)
   simp only[List.drop_zero,Int.natCast_zero]at this;rw[show rA a 0=_ from this];cases ha:a.1.all dr with
   | false=>rfl
   | true =>
    rw[cond_true,T7,aR,cond_false,V3 a.1 _ hl (List.all_eq_true.1 ha) hk];rfl
theorem n4(a:aa):kA a=some ((bN a,()),()):=by
 rw[ag9,Vv];unfold bN;cases h:decide ((a.1.length:Int)>4)with
 | true=>rfl
 | false =>
  have hl:a.1.length<=68719476736:=by simp at h;omega
  simp only[cond_false,Option.bind_some,Bool.not_false,Bool.true_and];cases hk:dr a.2.1 with
  | false=>rfl
  | true =>
   simp only[Bool.not_true,cond_false,Bool.true_and];have:=lA a.1 dr (some ((false,()),())) (rh a a.1 (a.1.length:Int) (a.1.length:Int)) (λi=>rh a a.1 (a.1.length:Int) i) hl (λi hi=>by
    rw[Te,ay hi,aI (by omega)];simp only[aN hi,cond_true,Option.bind_some,Vv];cases dr a.1[i]<;>rfl) rfl a.1.length 0 (by omega)
   simp only[List.drop_zero,Int.natCast_zero]at this;rw[show rh a a.1 (a.1.length:Int) 0=_ from this];cases ha:a.1.all dr with
   | false=>rfl
   | true =>
    rw[cond_true,Te,aR,cond_false,VJ a.1 hl (List.all_eq_true.1 ha),Option.bind_some,VC _ hk,Option.bind_some,<-Ks];rfl
def bw(c:az):Bool:=c.2.all (λa=>bN a && !((a.1.length:Int) != c.1))&&(decide (0<=c.1)&&decide (c.1<=4)&&decide ((c.2.length:Int)<=16))
theorem rT(c:az)(hl:c.2.length<=68719476736):mE c=some ((bw c,()),()):=by
 rw[ais];have:=lA c.2 (λa=>bN a && !((a.1.length:Int) != c.1)) (some ((false,()),())) (rB c (c.2.length:Int)) (λi=>rB c i) hl (λi hi=>by
  rw[Ua,ay hi,aI (by omega)];simp only[aN hi,cond_true,Option.bind_some,rS];cases bN c.2[i]<;>cases ((c.2[i].1.length:Int) != c.1)<;>rfl) rfl c.2.length 0 (by omega)
 simp only[List.drop_zero,Int.natCast_zero]at this;rw[show rB c 0=_ from this,Ua,aR,jD];unfold bw;cases c.2.all _<;>cases (decide (0<=c.1)&&decide (c.1<=4))<;>rfl
theorem n5(c:az):kB c=some ((bw c,()),()):=by
 rw[aha];unfold bw;by_cases h1:c.1<0
 ·have:¬(0<=c.1):=by omega
  simp[h1,this]
 by_cases h2:c.1>4
 ·have:¬(c.1<=4):=by omega
  simp[h1,h2,this]
 by_cases h3:(c.2.length:Int)>16
 ·have:¬((c.2.length:Int)<=16):=by omega
  simp only[h1,h2,h3,this,decide_false,decide_true,cond_false,cond_true,Bool.and_false]
 ·have e1:0<=c.1:=by omega
  have e2:c.1<=4:=by omega
  have e3:(c.2.length:Int)<=16:=by omega
  simp only[h1,h2,h3,e1,e2,e3,decide_false,decide_true,cond_false,Bool.and_self,Bool.and_true];have:=lA c.2 (λa=>bN a && !((a.1.length:Int) != c.1)) (some ((false,()),())) (some ((true,()),())) (λi=>ud c c.2 (c.2.length:Int) i) (by omega) (λi hi=>by
   rw[Tf,ay hi,aI (by omega)];simp only[aN hi,cond_true,Option.bind_some,n4];cases bN c.2[i]<;>cases ((c.2[i].1.length:Int) != c.1)<;>rfl) (by rw[Tf,aR];rfl) c.2.length 0 (by omega)
  simp only[List.drop_zero,Int.natCast_zero]at this;rw[show ud c c.2 (c.2.length:Int) 0=_ from this];cases c.2.all _<;>rfl
def tr(d:Int)(r:Rw):Bool:=iN r.1 97 122&&(bw r.2 && !(r.2.1 != d))
def la(r:Rel):Bool:=iN r.1 65 90&&(decide (0<=r.2.1)&&decide (r.2.1<=4)&&(decide ((r.2.2.length:Int)<=8)&&r.2.2.all (tr r.2.1)))
theorem aiA(r:Rel)(h:gL r):Ao r=some ((la r,()),()):=by
 obtain⟨h0,hl,hg⟩:=h;rw[aiz];have:=lA r.2.2 (tr r.2.1) (some ((false,()),())) (rE r (r.2.2.length:Int)) (λi=>rE r i) hl (λi hi=>by
  have DM:=hg _ (List.getElem_mem hi);rw[Uh,ay hi,aI (by omega)];simp only[aN hi,cond_true,Option.bind_some,H8 _ _ _ DM.1,rT _ DM.2.1];unfold tr;cases iN r.2.2[i].1 97 122<;>cases bw r.2.2[i].2<;>cases (r.2.2[i].2.1 != r.2.1)<;>rfl) rfl r.2.2.length 0 (by omega)
 simp only[List.drop_zero,Int.natCast_zero]at this;rw[show rE r 0=_ from this,Uh,aR,jD,H8 _ _ _ h0];unfold la;cases r.2.2.all _<;>cases iN r.1 65 90<;>cases (decide (0<=r.2.1)&&decide (r.2.1<=4))<;>cases decide ((r.2.2.length:Int)<=8)<;>rfl
theorem ahi(r:Rel):zT r=some ((la r,()),()):=by
 rw[ahh,ah6];unfold la;cases iN r.1 65 90 with
 | false=>rfl
 | true =>
  simp only[Option.bind_some,Bool.not_true,cond_false,Bool.true_and];by_cases h1:r.2.1<0
  ·have:¬(0<=r.2.1):=by omega
   simp[h1,this]
  by_cases h2:r.2.1>4
  ·have:¬(r.2.1<=4):=by omega
   simp[h1,h2,this]
  by_cases h3:(r.2.2.length:Int)>8
  ·have:¬((r.2.2.length:Int)<=8):=by omega
   simp only[h1,h2,h3,this,decide_false,decide_true,cond_false,cond_true,Bool.and_false,Bool.false_and]
  ·have e1:0<=r.2.1:=by omega
   have e2:r.2.1<=4:=by omega
   have e3:(r.2.2.length:Int)<=8:=by omega
   simp only[h1,h2,h3,e1,e2,e3,decide_false,decide_true,cond_false,Bool.and_self,Bool.true_and];have:=lA r.2.2 (tr r.2.1) (some ((false,()),())) (some ((true,()),())) (λi=>ug r r.2.2 (r.2.2.length:Int) i) (by omega) (λi hi=>by
    rw[Tk,ay hi,aI (by omega)];simp only[aN hi,cond_true,Option.bind_some,VM,n5];unfold tr;cases iN r.2.2[i].1 97 122<;>cases bw r.2.2[i].2<;>cases (r.2.2[i].2.1 != r.2.1)<;>rfl) (by rw[Tk,aR];rfl) r.2.2.length 0 (by omega)
   simp only[List.drop_zero,Int.natCast_zero]at this;rw[show ug r r.2.2 (r.2.2.length:Int) 0=_ from this];cases r.2.2.all _<;>rfl
def named(n:ByteArray)(r:Rel):Bool:=r.1.toList==n.toList
theorem Ak(x:List Rel)(n:ByteArray)(hl:x.length<=68719476736):n9 x n=some ((cA (named n) x,()),()):=by
 rw[aio];exact Kl x (named n) (λi=>some ((i,()),())) (λi=>yF x n i) (λi hi=>by
  rw[T6,ay hi,aI (by omega)];simp only[aN hi,cond_true,Option.bind_some];rfl) (by rw[T6,aR];rfl) x.length 0 (by omega) (λj _ h=>by omega)
theorem HF(x:List Rel)(n:ByteArray)(hl:x.length<=68719476736):rL x n=some ((cA (named n) x,()),()):=by
 rw[ag6];exact Kl x (named n) (λi=>some ((i,()),())) (λi=>yn x n x (x.length:Int) i) (λi hi=>by
  rw[Td,ay hi,aI (by omega)];simp only[aN hi,cond_true,Option.bind_some];rfl) (by rw[Td,aR];rfl) x.length 0 (by omega) (λj _ h=>by omega)
theorem Xm(p:α->Bool)(x:List α)(i:Nat)(hi:i<x.length)(hp:p x[i]=true):decide (cA p (x.take i)>=0)=(cA p x != (i:Int)):=by
 have h1:x.findIdx p<=i:=Nat.le_of_not_lt λh=>by
  have:=List.not_of_lt_findIdx h;rw[hp]at this;cases this
 have h2:(x.take i).findIdx p=min i (x.findIdx p):=List.findIdx_take;have h3:(x.take i).length=i:=by simp;omega
 unfold cA;rw[h2,h3,if_pos (by omega:x.findIdx p<x.length)];by_cases h:x.findIdx p=i
 ·rw[if_neg (by omega),h];simp
 ·rw[if_pos (by omega)];have e1:((x.findIdx p:Nat):Int)≠(i:Int):=by omega
  have e2:((min i (x.findIdx p):Nat):Int)>=0:=by omega
  simp[e1,e2]
def oa(p:Nat->Bool):Nat->Nat->Bool
 | 0,_=>true
 | n+1,i=>p i&&oa p n (i+1)
theorem Lr(l:Nat)(p:Nat->Bool)(F E:Option R)(f:Int->Option R)
  (h1:∀(i:Nat),i<l->f (i:Int)=bif p i then f ((i+1:Nat):Int)else F) (h2:f (l:Int)=E) :
  ∀(n i:Nat),n+i=l->f (i:Int)=bif oa p n i then E else F
 | 0,i,hn=>by
  obtain rfl:i=l:=by omega
  rw[h2];rfl
 | n+1,i,hn=>by
  rw[h1 i (by omega),Lr l p F E f h1 h2 n (i+1) (by omega)];cases h:p i<;>simp[oa,h]
def oj(x:List Rel)(i:Nat):Bool:=match x[i]? with
 | some r=>la r && !(decide (cA (named r.1) (x.take i)>=0))
 | none=>true
def gN(x:List Rel):Bool:=oa (oj x) x.length 0&&decide ((x.length:Int)<=6)
theorem VS(x:List Rel)(h:x.length<=68719476736/\∀a∈x,gL a):uY x=some ((gN x,()),()):=by
 obtain⟨hl,hg⟩:=h;rw[ait];have:=Lr x.length (oj x) (some ((false,()),())) (rC x (x.length:Int)) (λi=>rC x i) (λi hi=>by
  rw[Ub,ay hi,aI (by omega)];have e:(decide ((0:Int)<=(i:Int))&&decide ((i:Int)<=(x.length:Int)))=true:=by simp;omega
  have e2:n9 (List.drop (Int.toNat 0) (List.take ((i:Int)).toNat x)) x[i].1=some ((cA (named x[i].1) (x.take i),()),()):=by
   have:List.drop (Int.toNat 0) (List.take ((i:Int)).toNat x)=x.take i:=by simp
   rw[this];exact Ak _ _ (by simp;omega)
  have e0:(decide (0<=0)&&decide ((0:Int)<=(i:Int))&&decide ((i:Int)<=(x.length:Int)))=true:=by simp;omega
  simp only[aN hi,cond_true,Option.bind_some,aiA _ (hg _ (List.getElem_mem hi)),e2];rw[e0];unfold oj;rw[List.getElem?_eq_getElem hi];simp only[];cases la x[i]<;>cases decide (cA (named x[i].1) (x.take i)>=0)<;>rfl) rfl x.length 0 (by omega)
 simp only[Int.natCast_zero]at this;rw[show rC x 0=_ from this,Ub,aR];unfold gN;cases oa (oj x) x.length 0<;>rfl
theorem Vt(x:List Rel):uO x=some ((gN x,()),()):=by
 rw[ahb];unfold gN;by_cases h:(x.length:Int)>6
 ·have:¬((x.length:Int)<=6):=by omega
  simp only[h,this,decide_true,decide_false,cond_true,Bool.and_false]
 ·have e:(x.length:Int)<=6:=by omega
  simp only[h,e,decide_true,decide_false,cond_false,Bool.and_true];have:=Lr x.length (oj x) (some ((false,()),())) (some ((true,()),())) (λi=>ue x x (x.length:Int) i) (λi hi=>by
   rw[Tg,ay hi,aI (by omega)];simp only[aN hi,cond_true,Option.bind_some,ahi,HF _ _ (show x.length<=68719476736 by omega)];unfold oj;rw[List.getElem?_eq_getElem hi];simp only[];rw[Xm _ x i hi (by simp[named])];cases la x[i]<;>cases (cA (named x[i].1) x != (i:Int))<;>rfl) (by rw[Tg,aR];rfl) x.length 0 (by omega)
  simp only[Int.natCast_zero]at this;rw[show ue x x (x.length:Int) 0=_ from this];cases oa (oj x) x.length 0<;>rfl
theorem Xl(p:α->Bool)(x:List α):(decide (cA p x<0)=true)\/(decide (cA p x<0)=false/\∃y,ab x (cA p x)=some y):=by
 unfold cA;by_cases h:x.findIdx p<x.length
 ·right;rw[if_pos h];refine⟨by simp,x[x.findIdx p],ay h⟩
 ·left;rw[if_neg h];decide
def emp(x:ByteArray):Bool:=x.toList==(ByteArray.mk #[]).toList
def oZ(a:aa):Bool:=((a.1.length:Int)==0)&&((a.2.1==0) && !a.2.2)
def ef(v:Int):Bool:=decide (0<=v)&&decide (v<=3)
def Et(n:ao):Bool:=emp n.2.2.1&&(emp n.2.2.2.1 && !decide ((n.2.2.2.2.1.length:Int)>0))
def LN(x:ByteArray):Bool:=emp x||iN x 97 122
def qC(db:List Rel)(n:ao):Bool:=(n.2.2.2.2.1.all ef)&&(!decide (cA (named n.2.2.1) db<0)&&(match ab db (cA (named n.2.2.1) db)with
 | some r=>(r.2.1==(n.2.2.2.2.1.length:Int))&&LN n.2.2.2.1
 | none=>false))
theorem ajj(a:aa):H7 a=some ((oZ a,()),()):=by
 rw[aji];unfold oZ;generalize ((a.1.length:Int)==0)=b1;generalize (a.2.1==0)=b2;cases b1<;>cases b2<;>rfl
theorem aic(a:aa):HW a=some ((oZ a,()),()):=by
 rw[aib];unfold oZ;generalize ((a.1.length:Int)==0)=b1;generalize (a.2.1==0)=b2;cases b1<;>cases b2<;>rfl
theorem HV(v:Int):uW v=some ((ef v,()),()):=by
 rw[ah9];unfold ef;by_cases h:v>=0
 ·have:(v<4)=(v<=3):=by apply propext;omega
  simp[h,this]
 ·have:¬0<=v:=by omega
  simp[h]
theorem afW(db:List Rel)(n:ao)(hb:zN n<=68719476736):rK db n (cA (named n.2.2.1) db) 0=some ((qC db n,()),()):=by
 have hz:zN n=zA n.2.1+zB n.2.2.1+zB n.2.2.2.1+zI n.2.2.2.2.1:=rfl;have:=jE n.2.2.2.2.1 ef (some ((false,()),())) (rK db n (cA (named n.2.2.1) db) (n.2.2.2.2.1.length:Int)) (λi=>rK db n (cA (named n.2.2.1) db) i) (by unfold zI at hz;omega) (λi hi=>by
  rw[UL,ay hi,aN hi,aI (by unfold zI at hz;omega)];simp only[cond_true,Option.bind_some,jD];change (bif !ef _ then _ else _)=_;cases ef n.2.2.2.2.1[i]<;>rfl) rfl
 rw[this,UL,aR,cond_false];unfold qC;have hd:decide (cA (named n.2.2.1) db>=0) = !decide (cA (named n.2.2.1) db<0):=by
  by_cases h:cA (named n.2.2.1) db<0
  ·have:¬cA (named n.2.2.1) db>=0:=by omega
   simp[h]
  ·have:cA (named n.2.2.1) db>=0:=by omega
   simp[h,this]
 rw[hd,H8 _ _ _ (by unfold zB at hz;omega)];cases n.2.2.2.2.1.all ef with
 | false=>rfl
 | true =>
  rcases Xl (named n.2.2.1) db with h|⟨h,r,hr⟩
  ·rw[h];rfl
  ·rw[h,hr];simp only[Bool.not_false,cond_true,Option.bind_some,Bool.true_and];unfold LN emp;generalize (r.2.1==(n.2.2.2.2.1.length:Int))=b1;generalize (ByteArray.toList n.2.2.2.1==(ByteArray.mk #[]).toList)=b2;cases b1<;>cases b2<;>rfl
def lW(db:List Rel)(n:ao):Bool:=bif n.1==0 then bN n.2.1&&((n.2.1.1.length:Int)==4)else bif n.1==1 then qC db n else (decide (2<=n.1)&&decide (n.1<=6))&&ef n.2.2.2.2.2.1
theorem afM(db:List Rel)(n:ao)(hd:db.length<=68719476736)(hb:zN n<=68719476736):fp db n=some ((lW db n,()),()):=by
 rw[afL,rS,Ak _ _ hd];simp only[Option.bind_some,afW db n hb,jD];unfold lW ef;generalize (n.1==0)=b0;generalize (n.1==1)=b1;generalize (bN n.2.1)=b2;generalize (decide (2<=n.1)&&decide (n.1<=6))=b3;cases b0<;>cases b1<;>cases b2<;>cases b3<;>rfl
def ie(n:ao):Bool:=((n.1==3||n.1==4)||n.2.2.2.2.2.2.2==0)&&(!decide (n.1<=1)||n.2.2.2.2.2.2.1==0)
def tO(n:ao):Bool:=(n.1==5||n.1==6)||n.2.2.2.2.2.1==0
theorem afK(db:List Rel)(n:ao)(hd:db.length<=68719476736)(hb:zN n<=68719476736):re db n=some ((tO n&&(ie n&&lW db n),()),()):=by
 rw[afJ,afM db n hd hb];unfold tO ie;simp only[bne];generalize (n.1==5)=b5;generalize (n.1==6)=b6;generalize (n.1==3)=b3;generalize (n.1==4)=b4;generalize (decide (n.1<=1))=b1;generalize (n.2.2.2.2.2.1==0)=c1;generalize (n.2.2.2.2.2.2.1==0)=c2;generalize (n.2.2.2.2.2.2.2==0)=c3;cases b5<;>cases b6<;>cases b3<;>cases b4<;>cases b1<;>cases c1<;>cases c2<;>cases c3<;>rfl
def fU(db:List Rel)(n:ao):Bool:=(n.1==0||oZ n.2.1)&&((n.1==1||Et n)&&(tO n&&(ie n&&lW db n)))
theorem ajl(db:List Rel)(n:ao)(hd:db.length<=68719476736)(hb:zN n<=68719476736):AJ db n=some ((fU db n,()),()):=by
 rw[ajk,afK db n hd hb,ajj];unfold fU Et emp;simp only[bne,Option.bind_some];generalize (n.1==0)=b0;generalize (n.1==1)=b1;generalize oZ n.2.1=b2;generalize (ByteArray.toList n.2.2.1==(ByteArray.mk #[]).toList)=b3;generalize (ByteArray.toList n.2.2.2.1==(ByteArray.mk #[]).toList)=b4;generalize (decide ((n.2.2.2.2.1.length:Int)>0))=b5;generalize (tO n&&(ie n&&lW db n))=b6;cases b0<;>cases b1<;>cases b2<;>cases b3<;>cases b4<;>cases b5<;>rfl
theorem afC(n:ao)(hb:n.2.2.2.2.1.length<=68719476736):yh n=some ((n.2.2.2.2.1.all ef,()),()):=by
 rw[afB];have:=jE n.2.2.2.2.1 ef (some ((false,()),())) (some ((true,()),())) (λi=>yD n n.2.2.2.2.1 (n.2.2.2.2.1.length:Int) i) hb (λi hi=>by
  rw[TL,ay hi,aN hi,aI (by omega)];simp only[cond_true,Option.bind_some,HV];cases ef n.2.2.2.2.1[i]<;>rfl) (by rw[TL,aR];rfl)
 rw[this];cases n.2.2.2.2.1.all ef<;>rfl
def sX(db:List Rel)(n:ao):Bool:=bif n.1==0 then (n.2.2.2.2.2.1==0)&&(bN n.2.1&&((n.2.1.1.length:Int)==4))else bif n.1==1 then (n.2.2.2.2.2.1==0)&&qC db n else bif n.1==5||n.1==6 then ef n.2.2.2.2.2.1 else n.2.2.2.2.2.1==0
theorem afF(db:List Rel)(n:ao)(hd:db.length<=68719476736)(hb:zN n<=68719476736):yi db n=some ((sX db n,()),()):=by
 have hz:zN n=zA n.2.1+zB n.2.2.1+zB n.2.2.2.1+zI n.2.2.2.2.1:=rfl;rw[afE,n4,HF _ _ hd,VM,afC n (by unfold zI at hz;omega),RH,RH,HV];simp only[Option.bind_some,bne];unfold sX qC LN emp;rcases Xl (named n.2.2.1) db with h|⟨h,r,hr⟩
 ·rw[h];generalize (n.1==0)=b0;generalize (n.1==1)=b1;generalize (n.1==5)=b5;generalize (n.1==6)=b6;generalize (n.2.2.2.2.2.1==0)=c1;generalize (bN n.2.1)=b2;generalize (n.2.2.2.2.1.all ef)=b3;cases b0<;>cases b1<;>cases b5<;>cases b6<;>cases c1<;>cases b2<;>cases b3<;>rfl
 ·rw[h,hr];simp only[Option.bind_some];generalize (n.1==0)=b0;generalize (n.1==1)=b1;generalize (n.1==5)=b5;generalize (n.1==6)=b6;generalize (n.2.2.2.2.2.1==0)=c1;generalize (bN n.2.1)=b2;generalize (n.2.2.2.2.1.all ef)=b3;generalize (r.2.1==(n.2.2.2.2.1.length:Int))=c2;generalize (ByteArray.toList n.2.2.2.1==(ByteArray.mk #[]).toList)=c3;generalize iN n.2.2.2.1 97 122=c4;cases b0<;>cases b1<;>cases b5<;>cases b6<;>cases c1<;>cases b2<;>cases b3<;>cases c2<;>cases c3<;>cases c4<;>rfl
def vD(db:List Rel)(n:ao):Bool:=(n.1==0||oZ n.2.1)&&((n.1==1||Et n)&&sX db n)
theorem ahZ(db:List Rel)(n:ao)(hd:db.length<=68719476736)(hb:zN n<=68719476736):Ae db n=some ((vD db n,()),()):=by
 rw[ahY,afD,afF db n hd hb,aic];unfold vD Et emp;simp only[bne,Option.bind_some];generalize (n.1==0)=b0;generalize (n.1==1)=b1;generalize oZ n.2.1=b2;generalize (ByteArray.toList n.2.2.1==(ByteArray.mk #[]).toList)=b3;generalize (ByteArray.toList n.2.2.2.1==(ByteArray.mk #[]).toList)=b4;generalize (decide ((n.2.2.2.2.1.length:Int)>0))=b5;generalize sX db n=b6;cases b0<;>cases b1<;>cases b2<;>cases b3<;>cases b4<;>cases b5<;>rfl
theorem abE(db:List Rel)(n:ao):fU db n=(vD db n&&(ie n&&(decide (0<=n.1)&&decide (n.1<=6)))):=by
 unfold fU vD;have key:(tO n&&(ie n&&lW db n))=(sX db n&&(ie n&&(decide (0<=n.1)&&decide (n.1<=6)))):=by
  unfold tO lW sX;by_cases h0:n.1=0
  ·rw[h0];cases (n.2.2.2.2.2.1==0)<;>cases ie n<;>cases (bN n.2.1&&((n.2.1.1.length:Int)==4))<;>rfl
  by_cases h1:n.1=1
  ·rw[h1];cases (n.2.2.2.2.2.1==0)<;>cases ie n<;>cases qC db n<;>rfl
  by_cases h2:2<=n.1/\n.1<=6
  ·have e0:(n.1==0)=false:=by simpa using h0
   have e1:(n.1==1)=false:=by simpa using h1
   have e2:decide (2<=n.1)=true:=by simp[h2.1]
   have e3:decide (n.1<=6)=true:=by simp[h2.2]
   have e4:decide (0<=n.1)=true:=by simp;omega
   rw[e0,e1,e2,e3,e4];by_cases h5:n.2.2.2.2.2.1=0
   ·rw[h5];cases (n.1==5)<;>cases (n.1==6)<;>cases ie n<;>rfl
   ·have e5:(n.2.2.2.2.2.1==0)=false:=by simpa using h5
    rw[e5];cases (n.1==5)<;>cases (n.1==6)<;>cases ie n<;>cases ef n.2.2.2.2.2.1<;>rfl
  ·have e0:(n.1==0)=false:=by simpa using h0
   have e1:(n.1==1)=false:=by simpa using h1
   have e2:(decide (2<=n.1)&&decide (n.1<=6))=false:=by
    rw[Bool.and_eq_false_iff];by_cases h:2<=n.1
    ·right;simp;omega
    ·left;simp;omega
   have e3:(decide (0<=n.1)&&decide (n.1<=6))=false:=by
    rw[Bool.and_eq_false_iff];by_cases h:0<=n.1
    ·right;simp;omega
    ·left;simp;omega
   rw[e0,e1,e2,e3];simp
 rw[key];simp only[Bool.and_assoc]
def ar(k:Int):Nat:=bif k==3||k==4 then 2 else bif decide (k>1)then 1 else 0
def fj(n:ao)(i:Int)(T:List Int):Option (List Int):=match ar n.1,T with
 | 0,T=>some (i::T)
 | 1,r::T=>bif r==n.2.2.2.2.2.2.1 then some (i::T)else none
 | 2,r::s::T=>bif r==n.2.2.2.2.2.2.2 then bif s==n.2.2.2.2.2.2.1 then some (i::T)else none else none
 | _,_=>none
def lE(db:List Rel):List ao->Int->List Int->Bool
 | [],_,T=>(T.length:Int)==1
 | n::l,i,T=>bif fU db n then (match fj n i T with
  | some T'=>lE db l (i+1) T'
  | none=>false)else false
theorem Wq(k:Int):ar k=0\/ar k=1\/ar k=2:=by
 unfold ar;cases (k==3||k==4)<;>cases decide (k>1)<;>simp
theorem alS(x:List α){i:Int}(h:i<0):ab x i=none:=by
 unfold ab;rw[if_neg (by omega)]
theorem ow(x:List α){i:Int}(j:Nat)(h:i=(j:Int))(hj:j<x.length):ab x i=some x[j]:=by
 subst h;exact ay hj
theorem XL(T:List α)(r:α):ab (r::T).reverse (((r::T).reverse.length:Int) - 1)=some r:=by
 rw[ow _ T.length (by simp) (by simp)];simp
theorem alR(T:List α)(r s:α):ab (r::s::T).reverse (((r::s::T).reverse.length:Int) - 2)=some s:=by
 rw[ow _ T.length (by simp<;>omega) (by simp<;>omega)];simp[List.getElem_append]
theorem Fq(db:List Rel)(f:List ao)(T U:List Int)(i:Nat)(m:Nat)(hi:i<=1000000)(hT:(U.reverse++T.reverse).length<=1000000)(hm:U.length=m):
  nZ db f (T.reverse++U.reverse) (i:Int) (m:Int) ((T.reverse++U.reverse).length:Int)=rD db f ((i:Int)::T).reverse ((i+1:Nat):Int):=by
 have hl:(T.reverse++U.reverse).length=T.length+m:=by simp[hm]
 have hle:T.length+m<=1000000:=by simp at hT;omega
 rw[afI,hl,bX (by omega) (by omega)];have e1:((T.length+m:Nat):Int) - (m:Int)=(T.length:Int):=by omega
 rw[e1,aI (by omega)];have e2:(List.drop (Int.toNat 0) (List.take (Int.toNat (T.length:Int)) (T.reverse++U.reverse)))=T.reverse:=by
  rw[Int.toNat_natCast];simp
 rw[e2];have d1:decide ((0:Int)<=(T.length:Int))=true:=by simp
 have d2:decide ((T.length:Int)<=((T.length+m:Nat):Int))=true:=decide_eq_true (by omega);have d3:decide ((0+T.reverse.length)*8<=140737488355328)=true:=by simp;omega
 have d4:decide ((T.reverse.length+1)*8<=140737488355328)=true:=by simp;omega
 rw[d1,d2,d3,d4];simp
theorem afH(db:List Rel)(f:List ao)(T:List Int)(i:Nat)(h:i<f.length)(hl:f.length<=1000000)(hT:T.length<=i):
  kz db f T.reverse (i:Int) ((ar f[i].1:Nat):Int)=match fj f[i] i T with
   | some T'=>rD db f T'.reverse ((i+1:Nat):Int)
   | none=>some ((false,()),()):=by
 rw[afG];unfold fj;rcases Wq f[i].1 with hm|hm|hm
 ·rw[hm];have d:decide ((T.reverse.length:Int)<((0:Nat):Int))=false:=by simp
  have:=Fq db f T [] i 0 (by omega) (by simp;omega) rfl;simp only[List.reverse_nil,List.append_nil]at this;rw[d];exact this
 ·rw[hm];cases T with
  | nil=>rfl
  | cons r T =>
   have d:decide (((r::T).reverse.length:Int)<((1:Nat):Int))=false:=decide_eq_false (by simp only[List.length_reverse,List.length_cons];omega);have hw:IntKind.i64.wrap (((r::T).reverse.length:Int) - 1)=((r::T).reverse.length:Int) - 1:=bX (by simp only[List.length_reverse,List.length_cons];omega) (by simp only[List.length_reverse,List.length_cons]at hT ⊢;omega);have:=Fq db f T [r] i 1 (by omega) (by simp only[List.length_append,List.length_reverse,List.length_cons,List.length_nil]at hT ⊢;omega) rfl;rw[show T.reverse++[r].reverse=(r::T).reverse by simp]at this;rw[d,hw,XL,ay h];simp only[cond_false,Option.bind_some];change (bif r != f[i].2.2.2.2.2.2.1 then _ else nZ db f (r::T).reverse (i:Int) ((1:Nat):Int) ((r::T).reverse.length:Int))=_;rw[this];simp only[bne];cases (r==f[i].2.2.2.2.2.2.1)<;>rfl
 ·rw[hm]
  match T,hT with
  | [],_=>rfl
  | [r],_=>rfl
  | r::s::T,hT =>
   have d:decide (((r::s::T).reverse.length:Int)<((2:Nat):Int))=false:=decide_eq_false (by simp only[List.length_reverse,List.length_cons];omega);have hw:IntKind.i64.wrap (((r::s::T).reverse.length:Int) - 1)=((r::s::T).reverse.length:Int) - 1:=bX (by simp only[List.length_reverse,List.length_cons];omega) (by simp only[List.length_reverse,List.length_cons]at hT ⊢;omega);have hw2:IntKind.i64.wrap (((r::s::T).reverse.length:Int) - 2)=((r::s::T).reverse.length:Int) - 2:=bX (by simp only[List.length_reverse,List.length_cons];omega) (by simp only[List.length_reverse,List.length_cons]at hT ⊢;omega);have:=Fq db f T [r,s] i 2 (by omega) (by simp only[List.length_append,List.length_reverse,List.length_cons,List.length_nil]at hT ⊢;omega) rfl;rw[show T.reverse++[r,s].reverse=(r::s::T).reverse by simp]at this;rw[d,hw,hw2,XL,alR,ay h];simp only[cond_false,Option.bind_some];change (bif r != f[i].2.2.2.2.2.2.2 then _ else bif s != f[i].2.2.2.2.2.2.1 then _ else nZ db f (r::s::T).reverse (i:Int) ((2:Nat):Int) ((r::s::T).reverse.length:Int))=_;rw[this];simp only[bne];cases (r==f[i].2.2.2.2.2.2.2)<;>cases (s==f[i].2.2.2.2.2.2.1)<;>rfl
theorem arV{n:ao}{i:Int}{T T':List Int}(h:fj n i T=some T'):T'.length<=T.length+1:=by
 unfold fj at h;split at h
 ·injection h with h;subst h;simp
 ·rename_i r T0 _;cases hc:(r==n.2.2.2.2.2.2.1)with
  | true=>rw[hc]at h;injection h with h;subst h;simp
  | false=>rw[hc]at h;cases h
 ·rename_i r s T0 _;cases hc:(r==n.2.2.2.2.2.2.2)with
  | true =>
   rw[hc]at h;cases hs:(s==n.2.2.2.2.2.2.1)with
   | true=>rw[hs]at h;injection h with h;subst h;simp
   | false=>rw[hs]at h;cases h
  | false=>rw[hc]at h;cases h
 ·cases h
theorem Uf(db:List Rel)(f:List ao)(hd:db.length<=68719476736)(hf:∀n∈f,zN n<=68719476736)(hl:f.length<=1000000):
  ∀(n i:Nat) (T:List Int),n+i=f.length->T.length<=i->rD db f T.reverse (i:Int)=some ((lE db (f.drop i) i T,()),())
 | 0,i,T,hn,hT=>by
  obtain rfl:i=f.length:=by omega
  rw[Ue,aR,List.drop_eq_nil_of_le (by omega),List.length_reverse];rfl
 | n+1,i,T,hn,hT=>by
  have hi:i<f.length:=by omega
  rw[Ue,aN hi,ay hi,List.drop_eq_getElem_cons hi];simp only[cond_true,Option.bind_some,ajl db _ hd (hf _ (List.getElem_mem hi))];unfold lE;cases fU db f[i]with
  | false=>rfl
  | true =>
   simp only[Bool.not_true,cond_false,cond_true];have e:(bif f[i].1==3 then kz db f T.reverse (i:Int) 2 else bif f[i].1==4 then kz db f T.reverse (i:Int) 2 else bif decide (f[i].1>1)then kz db f T.reverse (i:Int) 1 else kz db f T.reverse (i:Int) 0)=kz db f T.reverse (i:Int) ((ar f[i].1:Nat):Int):=by
    unfold ar;cases (f[i].1==3)<;>cases (f[i].1==4)<;>cases decide (f[i].1>1)<;>rfl
   rw[e,afH db f T i hi hl hT];cases hs:fj f[i] (i:Int) T with
   | none=>rfl
   | some T' =>
    have:=arV hs;simp only[];rw[Uf db f hd hf hl n (i+1) T' (by omega) (by omega)];simp
def fo(st:List Int):List Int->Int->Prop
 | [],nx=>nx = -1
 | r::T,nx=>r=nx/\∃(j:Nat) (v:Int),r=(j:Int)/\st[j]?=some v/\0<=v/\v<=r/\fo st T (v - 1)
theorem fo.set{st:List Int}{v:Int}:∀{T:List Int} {nx:Int},fo st T nx->nx<i->fo (st.set i v) T nx
 | [],nx,h,_=>h
 | r::T,nx,h,hi=>by
  simp only[fo]at h ⊢;obtain⟨h1,j,w,h2,h3,h4,h5,h6⟩:=h;refine⟨h1,j,w,h2,?_,h4,h5,fo.set h6 (by omega)⟩;rw[List.getElem?_set_ne (by omega)];exact h3
theorem aik(k:Int):HY k=some ((bif k==0||k==1 then 0 else bif k==2||(k==5||k==6)then 1 else bif k==3||k==4 then 2 else -1,()),()):=by
 rw[aij];cases (k==0)<;>cases (k==1)<;>cases (k==2)<;>cases (k==5)<;>cases (k==6)<;>cases (k==3)<;>cases (k==4)<;>rfl
theorem ara(x:α)(k:α->Option β):(some x).bind k=k x:=rfl
theorem Ti(db:List Rel)(f:List ao)(hd:db.length<=68719476736)(hf:∀n∈f,zN n<=68719476736)(hl:f.length<=1000000)(h0:f.length≠0):
  ∀(n i:Nat) (st T:List Int),n+i=f.length->st.length=f.length->fo st T ((i:Int) - 1)->uf db f st f (f.length:Int) (i:Int)=some ((lE db (f.drop i) i T,()),())
 | 0,i,st,T,hn,ba,hT=>by
  obtain rfl:i=f.length:=by omega
  rw[Th,aR,List.drop_eq_nil_of_le (by omega),bX (by omega) (by omega)];cases T with
  | nil=>simp only[fo]at hT;omega
  | cons r T =>
   simp only[fo]at hT;obtain⟨h1,j,v,h2,h3,h4,h5,h6⟩:=hT;obtain⟨hj,h3⟩:=List.getElem?_eq_some_iff.1 h3;rw[ow (i:=(f.length:Int) - 1) st j (by omega) hj,h3];simp only[cond_false,Option.bind_some,lE];congr 3;cases T with
   | nil =>
    simp only[fo]at h6;have:v=0:=by omega
    simp[this]
   | cons s T =>
    simp only[fo]at h6;have:v≠0:=by omega
    have e1:(v==0)=false:=by simpa using this
    have e2:(((r::s::T).length:Int)==1)=false:=by simp;omega
    rw[e1,e2]
 | n+1,i,st,T,hn,ba,hT=>by
  have hi:i<f.length:=by omega
  have oG:i<st.length:=by omega
  have hw:IntKind.i64.wrap ((i:Int) - 1)=(i:Int) - 1:=bX (by omega) (by omega);rw[Th,aN hi,ay hi,List.drop_eq_getElem_cons hi,ay oG,hw];simp only[cond_true,Option.bind_some,ahZ db _ hd (hf _ (List.getElem_mem hi)),aik,afA,aI (show i<=1000000000000 by omega),ara,Int.toNat_natCast];unfold lE;rw[abE];generalize hN:f[i]=N;cases vD db N with
  | false=>rfl
  | true =>
   simp only[Bool.not_true,cond_false,Bool.true_and];have pV:∀(v:Int) (T':List Int),0<=v->v<=(i:Int)->fo st T' (v - 1)->v - 1<(i:Int)->uf db f (st.set i v) f (f.length:Int) ((i+1:Nat):Int)=some ((lE db (f.drop (i+1)) ((i+1:Nat):Int) ((i:Int)::T'),()),()):=by
    intro v T' Lg hv hc ax;refine Ti db f hd hf hl h0 n (i+1) _ _ (by omega) (by simpa using ba) ?_;simp only[fo];refine⟨by omega,i,v,rfl,by simp[oG],Lg,hv,hc.set ax⟩
   have amd:((i:Int)+1)=((i+1:Nat):Int):=by omega
   rw[amd];by_cases sZ:N.1=0\/N.1=1
   ·have e1:(N.1==0||N.1==1)=true:=by simpa using sZ
    have e2:ar N.1=0:=by rcases sZ with h|h<;>rw[h]<;>rfl
    have e3:((N.1==3||N.1==4)||N.2.2.2.2.2.2.2==0)=(N.2.2.2.2.2.2.2==0):=by rcases sZ with h|h<;>rw[h]<;>rfl
    have e4:decide (N.1<=1)=true:=by rcases sZ with h|h<;>rw[h]<;>rfl
    have e5:(decide (0<=N.1)&&decide (N.1<=6))=true:=by rcases sZ with h|h<;>rw[h]<;>rfl
    have e6:fj N (i:Int) T=some ((i:Int)::T):=by unfold fj;rw[e2];rfl
    unfold ie;rw[e1,e3,e4,e5,e6,pV (i:Int) T (by omega) (by omega) hT (by omega)];simp only[bne];cases (N.2.2.2.2.2.2.1==0)<;>cases (N.2.2.2.2.2.2.2==0)<;>rfl
   ·by_cases k1:N.1=2\/N.1=5\/N.1=6
    ·have e0:(N.1==0||N.1==1)=false:=by rcases k1 with h|h|h<;>rw[h]<;>rfl
     have e1:(N.1==2||(N.1==5||N.1==6))=true:=by rcases k1 with h|h|h<;>rw[h]<;>rfl
     have e2:ar N.1=1:=by rcases k1 with h|h|h<;>rw[h]<;>rfl
     have e3:((N.1==3||N.1==4)||N.2.2.2.2.2.2.2==0)=(N.2.2.2.2.2.2.2==0):=by rcases k1 with h|h|h<;>rw[h]<;>rfl
     have e4:decide (N.1<=1)=false:=by rcases k1 with h|h|h<;>rw[h]<;>rfl
     have e5:(decide (0<=N.1)&&decide (N.1<=6))=true:=by rcases k1 with h|h|h<;>rw[h]<;>rfl
     unfold ie;rw[e0,e1,e3,e4,e5];cases T with
     | nil =>
      simp only[fo]at hT;have ei:((i:Int)==0)=true:=by simp;omega
      have e6:fj N (i:Int) []=none:=by unfold fj;rw[e2];rfl
      rw[ei,e6];cases (N.2.2.2.2.2.2.2==0)<;>rfl
     | cons r T =>
      simp only[fo]at hT;obtain⟨h1,j,v,h2,h3,h4,h5,h6⟩:=hT;obtain⟨hj,h3⟩:=List.getElem?_eq_some_iff.1 h3;have ei:((i:Int)==0)=false:=by simp;omega
      have e6:fj N (i:Int) (r::T)=bif r==N.2.2.2.2.2.2.1 then some ((i:Int)::T)else none:=by unfold fj;rw[e2];rfl
      have e7:(N.2.2.2.2.2.2.1==(i:Int) - 1)=(r==N.2.2.2.2.2.2.1):=by rw[<-h1,Bool.eq_iff_iff];simp only[beq_iff_eq];exact eq_comm
      rw[ei,e6,ow (i:=(i:Int) - 1) st j (by omega) hj,h3];simp only[bne,e7,Option.bind_some];rw[pV v T h4 (by omega) h6 (by omega)];cases (N.2.2.2.2.2.2.2==0)<;>cases (r==N.2.2.2.2.2.2.1)<;>rfl
    ·by_cases k2:N.1=3\/N.1=4
     ·have e0:(N.1==0||N.1==1)=false:=by rcases k2 with h|h<;>rw[h]<;>rfl
      have e1:(N.1==2||(N.1==5||N.1==6))=false:=by rcases k2 with h|h<;>rw[h]<;>rfl
      have e2:ar N.1=2:=by rcases k2 with h|h<;>rw[h]<;>rfl
      have e3:(N.1==3||N.1==4)=true:=by rcases k2 with h|h<;>rw[h]<;>rfl
      have e4:decide (N.1<=1)=false:=by rcases k2 with h|h<;>rw[h]<;>rfl
      have e5:(decide (0<=N.1)&&decide (N.1<=6))=true:=by rcases k2 with h|h<;>rw[h]<;>rfl
      unfold ie;rw[e0,e1,e3,e4,e5];cases T with
      | nil =>
       simp only[fo]at hT;have ei:((i:Int)==0)=true:=by simp;omega
       have e6:fj N (i:Int) []=none:=by unfold fj;rw[e2];rfl
       rw[ei,e6];rfl
      | cons r T =>
       simp only[fo]at hT;obtain⟨h1,j,v,h2,h3,h4,h5,h6⟩:=hT;obtain⟨hj,h3⟩:=List.getElem?_eq_some_iff.1 h3;have ei:((i:Int)==0)=false:=by simp;omega
       have e7:(N.2.2.2.2.2.2.2==(i:Int) - 1)=(r==N.2.2.2.2.2.2.2):=by rw[<-h1,Bool.eq_iff_iff];simp only[beq_iff_eq];exact eq_comm
       rw[ei,ow (i:=(i:Int) - 1) st j (by omega) hj,h3];simp only[bne,e7,Option.bind_some];cases T with
       | nil =>
        simp only[fo]at h6;have ev:(v==0)=true:=by simp;omega
        have e6:fj N (i:Int) [r]=none:=by unfold fj;rw[e2];rfl
        rw[ev,e6];cases (r==N.2.2.2.2.2.2.2)<;>rfl
       | cons s T =>
        have Dw:=h6;simp only[fo]at Dw;obtain⟨g1,j2,v2,g2,g3,g4,g5,g6⟩:=Dw;obtain⟨wk,g3⟩:=List.getElem?_eq_some_iff.1 g3;have ev:(v==0)=false:=by simp;omega
        have e6:fj N (i:Int) (r::s::T)=bif r==N.2.2.2.2.2.2.2 then bif s==N.2.2.2.2.2.2.1 then some ((i:Int)::T)else none else none:=by unfold fj;rw[e2];rfl
        rw[ev,e6,bX (x:=v - 1) (by omega) (by omega)];have e8:(N.2.2.2.2.2.2.1==v - 1)=(s==N.2.2.2.2.2.2.1):=by rw[<-g1,Bool.eq_iff_iff];simp only[beq_iff_eq];exact eq_comm
        simp only[e8];cases hs:(s==N.2.2.2.2.2.2.1)with
        | false=>cases (r==N.2.2.2.2.2.2.2)<;>rfl
        | true =>
         rw[beq_iff_eq]at hs;rw[<-hs,ow st j2 g2 wk,g3];simp only[Option.bind_some];rw[pV v2 T g4 (by omega) g6 (by omega)];cases (r==N.2.2.2.2.2.2.2)<;>rfl
     ·have e0:(N.1==0||N.1==1)=false:=by simpa using sZ
      have e1:(N.1==2||(N.1==5||N.1==6))=false:=by simpa using k1
      have e2:(N.1==3||N.1==4)=false:=by simpa using k2
      have e5:(decide (0<=N.1)&&decide (N.1<=6))=false:=by
       rw[Bool.and_eq_false_iff];by_cases h:0<=N.1
       ·right;simp;omega
       ·left;simp;omega
      rw[e0,e1,e2,e5];simp
def eN(db:List Rel)(f:List ao):Bool:=gN db&&((decide (1<=(f.length:Int))&&decide ((f.length:Int)<=12))&&lE db f 0 [])
theorem De{db:List Rel}(h:gN db=true):db.length<=6:=by
 unfold gN at h;simp only[Bool.and_eq_true,decide_eq_true_eq]at h;omega
theorem aiw(db:List Rel)(f:List ao)(hd:db.length<=68719476736/\∀a∈db,gL a)(hf:∀n∈f,zN n<=68719476736):Al db f=some ((eN db f,()),()):=by
 rw[aiv,VS db hd,jD];simp only[Option.bind_some];unfold eN;cases hb:gN db with
 | false=>rfl
 | true =>
  cases hc:(decide (1<=(f.length:Int))&&decide ((f.length:Int)<=12))with
  | false=>rfl
  | true =>
   simp only[Bool.and_eq_true,decide_eq_true_eq]at hc;have:=Uf db f hd.1 hf (by omega) f.length 0 [] (by omega) (by simp);simp only[List.drop_zero,Int.natCast_zero,List.reverse_nil]at this;simp only[Bool.not_true,cond_false,Bool.true_and];exact this
theorem ahe(db:List Rel)(f:List ao)(hf:∀n∈f,zN n<=68719476736):zO db f=some ((eN db f,()),()):=by
 rw[ahd,Vt db];simp only[Option.bind_some];unfold eN;cases hb:gN db with
 | false=>rfl
 | true =>
  have vR:=De hb;by_cases h1:(f.length:Int)<1
  ·have:decide (1<=(f.length:Int))=false:=by simp;omega
   simp[h1,this]
  ·by_cases h2:(f.length:Int)>12
   ·have:decide ((f.length:Int)<=12)=false:=by simp;omega
    simp[h1,h2,this]
   ·have e1:decide (1<=(f.length:Int))=true:=by simp;omega
    have e2:decide ((f.length:Int)<=12)=true:=by simp;omega
    rw[kW f 8 (by omega) (by omega) (by omega)];have:=Ti db f (by omega) hf (by omega) (by omega) f.length 0 (List.replicate f.length 0) [] (by omega) (by simp) (by simp[fo]);simp only[List.drop_zero,Int.natCast_zero]at this;simp only[h1,h2,decide_false,e1,e2,Bool.not_true,cond_false,Bool.true_and];exact this
theorem alL(h:zA a<=68719476736):gA a:=h
theorem alM(h:zC c<=68719476736):gC c:=⟨Nat.le_trans (ch _ _) h,λa ha=>alL (Nat.le_trans (cK _ ha) h)⟩
theorem alN{r:Rw}(h:zR r<=68719476736):gR r:=by
 have hz:zR r=zB r.1+zC r.2:=rfl;exact⟨by unfold zB at hz;omega,alM (by omega)⟩
theorem XC{r:Rel}(h:zQ r<=68719476736):gL r:=by
 have hz:zQ r=zB r.1+zL zR r.2.2:=rfl;exact⟨by unfold zB at hz;omega,Nat.le_trans (ch _ _) (Nat.le_trans (Nat.le_add_left _ _) (hz▸h)),λa ha=>alN (Nat.le_trans (cK _ ha) (by omega))⟩
theorem Ds{x:List Rel}(h:zL zQ x<=68719476736):x.length<=68719476736/\∀a∈x,gL a:=⟨Nat.le_trans (ch _ _) h,λa ha=>XC (Nat.le_trans (cK _ ha) h)⟩
theorem XB{f:List ao}(h:zL zN f<=68719476736):∀n∈f,zN n<=68719476736:=λn hn=>Nat.le_trans (cK _ hn) h
def fh(n:ao):Bool := !(n.1==2) && !(n.1==6)
theorem VV(db:List Rel)(f:List ao)(hd:zL zQ db<=68719476736)(hf:zL zN f<=68719476736):u3 db f=some ((eN db f&&f.all fh,()),()):=by
 have hl:f.length<=68719476736:=Nat.le_trans (ch _ _) hf;rw[aiy];rw[jE f fh (some ((false,()),())) (uB db f (f.length:Int)) (λi=>uB db f i) hl (λi hi=>by
  rw[Ug,ay hi,aN hi,aI (by omega)];simp only[cond_true,Option.bind_some];unfold fh;cases (f[i].1==2)<;>cases (f[i].1==6)<;>rfl) rfl]
 rw[Ug,aR,aiw db f (Ds hd) (XB hf)];cases f.all fh<;>cases eN db f<;>rfl
theorem Vw(db:List Rel)(f:List ao)(hf:zL zN f<=68719476736):uP db f=some ((eN db f&&f.all fh,()),()):=by
 have hl:f.length<=68719476736:=Nat.le_trans (ch _ _) hf;rw[ahg,ahe db f (XB hf)];have:=jE f fh (some ((false,()),())) (some ((true,()),())) (λi=>yo f f (f.length:Int) i) hl (λi hi=>by
  rw[Tj,ay hi,aN hi,aI (by omega)];simp only[cond_true,Option.bind_some];unfold fh;cases (f[i].1==2)<;>cases (f[i].1==6)<;>rfl) (by rw[Tj,aR];rfl)
 simp only[Option.bind_some,this];cases f.all fh<;>cases eN db f<;>rfl
def mh(db:List Rel)(p:List Int):Bool:=((p.length:Int)==2)&&(match ab p 0,ab p 1 with
 | some a,some b=>decide (0<=a)&&(decide (a<(db.length:Int))&&(decide (0<=b)&&(match ab db a with
  | some r=>decide (b<(r.2.2.length:Int))
  | none=>false)))
 | _,_=>false)
def lk(db:List Rel)(s:af):Bool:=bw s.1&&((s.1.1==4)&&(!decide ((s.2.length:Int)>12)&&s.2.all (mh db)))
theorem Nb{p:List Int}(h:((p.length:Int)==2)=true):∃a b,p=[a,b]:=by
 simp only[beq_iff_eq]at h
 match p,h with
 | [a,b],_=>exact⟨a,b,rfl⟩
 | [],h=>simp at h
 | [_],h=>simp at h
 | _::_::_::l,h=>simp at h;omega
theorem vG(a b:Int):ab [a,b] 0=some a:=rfl
theorem vH(a b:Int):ab [a,b] 1=some b:=rfl
theorem ah8(db:List Rel)(a b:Int):HU db a b=some ((decide (0<=a)&&(decide (a<(db.length:Int))&&(decide (0<=b)&&(match ab db a with
  | some r=>decide (b<(r.2.2.length:Int))
  | none=>false))),()),()):=by
 rw[ah7];by_cases h0:0<=a
 ·by_cases h1:a<(db.length:Int)
  ·by_cases h2:0<=b
   ·have e:ab db a=some (db[a.toNat]'(by omega)):=ow db a.toNat (by omega) (by omega);have g0:a>=0:=h0;have g2:b>=0:=h2;simp only[e,g0,h1,g2,h0,h2,decide_true,cond_true,Option.bind_some,Bool.true_and]
   ·have g2:¬b>=0:=h2;have g0:a>=0:=h0;simp only[g0,h1,g2,h0,h2,decide_true,decide_false,cond_true,cond_false,Bool.true_and,Bool.false_and]
  ·have g0:a>=0:=h0;simp only[g0,h1,h0,decide_true,decide_false,cond_true,cond_false,Bool.true_and,Bool.false_and]
 ·have g0:¬a>=0:=h0;simp only[g0,h0,decide_false,cond_false,Bool.false_and]
theorem afU(db:List Rel)(v:a8)(j:Int)(s:af)(hd:zL zQ db<=68719476736)(hs:s.2.length<=68719476736):uC db v j s 0=bif s.2.all (mh db)then o5 db v (IntKind.i64.wrap (j+1))else some ((false,()),()):=by
 have vR:db.length<=68719476736:=Nat.le_trans (ch _ _) hd;rw[jE s.2 (mh db) (some ((false,()),())) (o5 db v (IntKind.i64.wrap (j+1))) (λi=>uC db v j s i) hs (λi hi=>by
  rw[Uj,ay hi,aN hi,aI (by omega)];simp only[cond_true,Option.bind_some];generalize s.2[i]=p;unfold mh;cases h2:((p.length:Int)==2)with
  | false=>simp only[bne,h2];rfl
  | true =>
   obtain⟨a,b,rfl⟩:=Nb h2;simp only[bne,h2,vG,vH,Option.bind_some,jD,Bool.not_true,cond_false,Bool.true_and];rw[bX (by omega) (by omega)];by_cases h0:0<=a
   ·by_cases h1:a<(db.length:Int)
    ·have e:ab db a=some (db[a.toNat]'(by omega)):=ow db a.toNat (by omega) (by omega);have g1:a<=(db.length:Int) - 1:=by omega
     have hr:=(XC (Nat.le_trans (cK _ (List.getElem_mem (show a.toNat<db.length by omega))) hd)).2.1;rw[e];simp only[h0,h1,g1,decide_true,Bool.and_self,Bool.not_true,cond_false,Option.bind_some,Bool.true_and];rw[bX (by omega) (by omega)];have e3:decide (b<=((db[a.toNat]'(by omega)).2.2.length:Int) - 1)=decide (b<((db[a.toNat]'(by omega)).2.2.length:Int)):=by
      rw[decide_eq_decide];omega
     rw[e3];cases (decide (0<=b)&&decide (b<((db[a.toNat]'(by omega)).2.2.length:Int)))<;>rfl
    ·have g1:¬a<=(db.length:Int) - 1:=by omega
     simp only[h0,h1,g1,decide_true,decide_false,Bool.and_false,Bool.not_false,cond_true,Bool.false_and,Bool.true_and,cond_false]
   ·simp only[h0,decide_false,Bool.false_and,Bool.not_false,cond_true,cond_false]) (by rw[Uj,aR];rfl)]
def mv(db:List Rel)(v:a8):Bool:=(eN db v.1&&v.1.all fh)&&(decide ((v.2.length:Int)<=24)&&v.2.all (lk db))
theorem Nr(s:af):zP s=zC s.1+zL zI s.2:=rfl
theorem xW(v:a8):zV v=zL zN v.1+zL zP v.2:=rfl
theorem aiC(db:List Rel)(v:a8)(hd:zL zQ db<=68719476736)(hv:zV v<=68719476736):Ap db v=some ((mv db v,()),()):=by
 rw[xW]at hv;have hl:v.2.length<=68719476736:=Nat.le_trans (ch zP _) (by omega);rw[aiB];rw[jE v.2 (lk db) (some ((false,()),())) (o5 db v (v.2.length:Int)) (λi=>o5 db v i) hl (λi hi=>by
  have hz:=Nat.le_trans (cK zP (List.getElem_mem hi)) (show zL zP v.2<=68719476736 by omega);rw[Nr]at hz;rw[Ui,ay hi,aN hi];simp only[cond_true,Option.bind_some];rw[rT _ (Nat.le_trans (ch zA _) (show zL zA v.2[i].1.2<=68719476736 from Nat.le_trans (Nat.le_add_right _ _) hz)),afU db v i v.2[i] hd (Nat.le_trans (ch zI _) (by omega)),aI (by omega)];unfold lk;simp only[bne,Option.bind_some];generalize bw v.2[i].1=b1;generalize (v.2[i].1.1==4)=b2;generalize (decide ((v.2[i].2.length:Int)>12))=b3;generalize v.2[i].2.all (mh db)=b4;cases b1<;>cases b2<;>cases b3<;>cases b4<;>rfl) rfl]
 rw[Ui,aR,VV db v.1 hd (by omega)];unfold mv;simp only[Option.bind_some];generalize (eN db v.1&&v.1.all fh)=b1;generalize (decide ((v.2.length:Int)<=24))=b2;cases v.2.all (lk db)<;>cases b1<;>cases b2<;>rfl
theorem afO(db:List Rel)(v:a8)(s:af)(l:List af)(m j:Int)(hs:s.2.length<=68719476736):uh db v s l m j s.2 (s.2.length:Int) 0=bif s.2.all (mh db)then rk db v l m (IntKind.i64.wrap (j+1))else some ((false,()),()):=by
 rw[jE s.2 (mh db) (some ((false,()),())) (rk db v l m (IntKind.i64.wrap (j+1))) (λi=>uh db v s l m j s.2 (s.2.length:Int) i) hs (λi hi=>by
  rw[Tm,ay hi,aN hi,aI (by omega)];simp only[cond_true,Option.bind_some];generalize s.2[i]=p;unfold mh;cases h2:((p.length:Int)==2)with
  | false=>simp only[bne,h2];rfl
  | true =>
   obtain⟨a,b,rfl⟩:=Nb h2;simp only[bne,h2,vG,vH,Option.bind_some,ah8,Bool.not_true,cond_false,Bool.true_and];generalize (decide (0<=a)&&(decide (a<(db.length:Int))&&(decide (0<=b)&&(match ab db a with
    | some r=>decide (b<(r.2.2.length:Int))
    | none=>false))))=c
   cases c<;>rfl) (by rw[Tm,aR];rfl)]
theorem ahk(db:List Rel)(v:a8)(hv:zV v<=68719476736):zU db v=some ((mv db v,()),()):=by
 rw[xW]at hv;have hl:v.2.length<=68719476736:=Nat.le_trans (ch zP _) (by omega);rw[ahj,Vw db v.1 (by omega)];have:=jE v.2 (lk db) (some ((false,()),())) (some ((true,()),())) (λi=>rk db v v.2 (v.2.length:Int) i) hl (λi hi=>by
  have hz:=Nat.le_trans (cK zP (List.getElem_mem hi)) (show zL zP v.2<=68719476736 by omega);rw[Nr]at hz;rw[Tl,ay hi,aN hi];simp only[cond_true,Option.bind_some];rw[n5,afO db v v.2[i] v.2 _ i (Nat.le_trans (ch zI _) (by omega)),aI (by omega)];unfold lk;simp only[bne,Option.bind_some];generalize bw v.2[i].1=b1;generalize (v.2[i].1.1==4)=b2;generalize (decide ((v.2[i].2.length:Int)>12))=b3;generalize v.2[i].2.all (mh db)=b4;cases b1<;>cases b2<;>cases b3<;>cases b4<;>rfl) (by rw[Tl,aR];rfl)
 simp only[Option.bind_some,this];unfold mv;have e:decide ((v.2.length:Int)<=24) = !decide ((v.2.length:Int)>24):=by
  by_cases h:(v.2.length:Int)>24
  ·have:¬(v.2.length:Int)<=24:=by omega
   simp[h]
  ·have:(v.2.length:Int)<=24:=by omega
   simp[h,this]
 rw[e];generalize (eN db v.1&&v.1.all fh)=b1;generalize (decide ((v.2.length:Int)>24))=b2;cases v.2.all (lk db)<;>cases b1<;>cases b2<;>rfl
theorem Wk{a:Int}(h:a.natAbs<=4000000000000000000):rM a=some (((a.natAbs:Int),()),()):=by
 rw[HH];by_cases h0:a<0
 ·simp only[h0,decide_true,cond_true];rw[bX (by omega) (by omega)];congr 3;omega
 ·simp only[h0,decide_false,cond_false];congr 3;omega
theorem Wj{a:Int}(h:a.natAbs<=4000000000000000000):u7 a=some (((a.natAbs:Int),()),()):=by
 rw[VX];rw[bX (by omega) (by omega)];simp only[cond_true];congr 3;split<;>omega
theorem tdiv_le(a b:Int):(a.tdiv b).natAbs<=a.natAbs:=by
 rw[Int.natAbs_tdiv];exact Nat.div_le_self _ _
theorem VA{a b:Int}(ha:a.natAbs<=4000000000000000000)(hb:b.natAbs<=4000000000000000000):o9 a b=some ((((Nat.gcd a.natAbs b.natAbs:Nat):Int),()),()):=by
 rw[VB,Wk ha,Wk hb];simp only[Option.bind_some];rw[FF _ _ _ (Nat.le_refl _) (by omega) (by omega)];simp
theorem My{a b:Int}(ha:a.natAbs<=400000000)(hb:b.natAbs<=400000000):(a*b).natAbs<=160000000000000000:=by
 rw[Int.natAbs_mul];exact Nat.mul_le_mul ha hb
theorem Nj{a b:Int}(ha:a.natAbs<=400000000)(hb:b.natAbs<=400000000):IntKind.i64.wrap (a*b)=a*b:=by
 have:=My ha hb;exact bX (by omega) (by omega)
def dF:List Int->List Int->Int
 | x::xs,y::ys=>if x=y then dF xs ys else if x<y then -1 else 1
 | _,_=>0
theorem nD:∀x:List Int,dF x x=0
 | []=>rfl
 | x::xs=>by simp[dF,nD xs]
theorem aaO:∀{x y:List Int},x.length=y.length->dF x y=0->x=y
 | [],[],_,_=>rfl
 | x::xs,y::ys,hl,h=>by
  simp only[dF]at h;split at h
  ·rename_i e;rw[e,aaO (by simpa using hl) h]
  ·split at h<;>omega
theorem lY:∀x y:List Int,dF y x = -dF x y
 | [],[]=>rfl
 | [],_::_=>rfl
 | _::_,[]=>rfl
 | x::xs,y::ys=>by
  simp only[dF];by_cases h:x=y
  ·rw[if_pos h,if_pos h.symm,lY xs ys]
  ·rw[if_neg h,if_neg (Ne.symm h)];by_cases h2:x<y
   ·rw[if_pos h2,if_neg (by omega)];rfl
   ·rw[if_neg h2,if_pos (by omega)]
theorem aaQ(x y:List Int):dF x y = -1\/dF x y=0\/dF x y=1:=by
 induction x generalizing y with
 | nil=>cases y<;>simp[dF]
 | cons a x ih =>
  cases y with
  | nil=>simp[dF]
  | cons b y =>
   simp only[dF];split
   ·exact ih y
   ·split<;>simp
theorem w6:∀{x y z:List Int},dF x y<0->dF y z<0->dF x z<0
 | [],_,_,h,_=>by simp[dF]at h
 | _::_,[],_,h,_=>by simp[dF]at h
 | _::_,_::_,[],_,h=>by simp[dF]at h
 | x::xs,y::ys,z::zs,h1,h2=>by
  simp only[dF]at h1 h2 ⊢;by_cases e1:x=y
  ·subst e1;rw[if_pos rfl]at h1;by_cases e2:x=z
   ·rw[if_pos e2]at h2 ⊢;exact w6 h1 h2
   ·rw[if_neg e2]at h2 ⊢;exact h2
  ·rw[if_neg e1]at h1;have h1:x<y:=by
    by_cases h:x<y
    ·exact h
    ·rw[if_neg h]at h1;omega
   by_cases e2:y=z
   ·subst e2;rw[if_neg e1,if_pos h1];omega
   ·rw[if_neg e2]at h2;have h2:y<z:=by
     by_cases h:y<z
     ·exact h
     ·rw[if_neg h]at h2;omega
    rw[if_neg (by omega),if_pos (by omega)];omega
def kj(a b:Int):Int:=if a<b then -1 else if b<a then 1 else 0
theorem aqP{a1 a2 b1 b2 c1 c2:Int}(h1:0<a2)(h2:0<b2)(h3:0<c2)(x:a1*b2<b1*a2)(y:b1*c2<c1*b2):a1*c2<c1*a2:=by
 have p:=Int.mul_lt_mul_of_pos_right x h3;have q:=Int.mul_lt_mul_of_pos_right y h1;have:a1*c2*b2<c1*a2*b2:=by
  have e1:a1*c2*b2=a1*b2*c2:=by rw[Int.mul_assoc,Int.mul_comm c2,<-Int.mul_assoc]
  have e2:c1*a2*b2=c1*b2*a2:=by rw[Int.mul_assoc,Int.mul_comm a2,<-Int.mul_assoc]
  have e3:b1*a2*c2=b1*c2*a2:=by rw[Int.mul_assoc,Int.mul_comm a2,<-Int.mul_assoc]
  omega
 exact Int.lt_of_mul_lt_mul_right this (Int.le_of_lt h2)
theorem qA{a1 a2 b1 b2 c1 c2:Int}(h1:0<a2)(h2:0<b2)(h3:0<c2)(x:a1*b2<=b1*a2)(y:b1*c2<=c1*b2):a1*c2<=c1*a2:=by
 have p:=Int.mul_le_mul_of_nonneg_right x (Int.le_of_lt h3);have q:=Int.mul_le_mul_of_nonneg_right y (Int.le_of_lt h1);have:a1*c2*b2<=c1*a2*b2:=by
  have e1:a1*c2*b2=a1*b2*c2:=by rw[Int.mul_assoc,Int.mul_comm c2,<-Int.mul_assoc]
  have e2:c1*a2*b2=c1*b2*a2:=by rw[Int.mul_assoc,Int.mul_comm a2,<-Int.mul_assoc]
  have e3:b1*a2*c2=b1*c2*a2:=by rw[Int.mul_assoc,Int.mul_comm a2,<-Int.mul_assoc]
  omega
 exact Int.le_of_mul_le_mul_right this h2
def dD(a:aa):Int:=if gl a.1 0=0 then 1 else (gl a.1 0:Nat)
def dv(a:aa):List Int:=a.1.map (λx=>x.tdiv (dD a))
def bg(a b:aa):Int:=dF (dv a) (dv b)
def dy(a b:aa):Int:=if kj (a.2.1*dD b) (b.2.1*dD a)≠0 then kj (a.2.1*dD b) (b.2.1*dD a)else if a.2.2=b.2.2 then 0 else if a.2.2=true then 1 else -1
def eM(a b:aa):Int:=if bg a b≠0 then bg a b else dy a b
def de(n:Nat)(a:aa):Prop:=bN a=true/\a.1.length=n/\gl a.1 0≠0
theorem oi(a:aa):0<dD a:=by
 unfold dD;split
 ·omega
 ·have:0<gl a.1 0:=Nat.pos_of_ne_zero (by assumption);exact Int.natCast_pos.2 this
theorem jK(a:aa):(dv a).length=a.1.length:=by simp[dv]
theorem kq(ha:a.1.length=n)(hb:b.1.length=n):bg a b=0↔dv a=dv b:=by
 constructor
 ·intro h;exact aaO (by rw[jK,jK,ha,hb]) h
 ·intro h;unfold bg;rw[h,nD]
theorem are{a b:Int}:kj a b<0↔a<b:=by
 unfold kj;split
 ·simp;assumption
 ·split<;>simp<;>omega
theorem MP{a b:Int}:kj a b=0↔a=b:=by
 unfold kj;split
 ·simp;omega
 ·split<;>simp<;>omega
theorem xG{a b:aa}:dy a b<0↔a.2.1*dD b<b.2.1*dD a\/(a.2.1*dD b=b.2.1*dD a/\a.2.2=false/\b.2.2=true):=by
 unfold dy;by_cases h:kj (a.2.1*dD b) (b.2.1*dD a)=0
 ·rw[if_neg (by simpa using h)];have e:=MP.1 h;rw[e];cases a.2.2<;>cases b.2.2<;>simp
 ·rw[if_pos h,are];have e:a.2.1*dD b≠b.2.1*dD a:=λe=>h (MP.2 e);constructor
  ·exact .inl
  ·rintro (h|h)
   ·exact h
   ·exact absurd h.1 e
theorem mK:eM a b<0↔bg a b<0\/(bg a b=0/\dy a b<0):=by
 unfold eM;split
 ·rename_i h;constructor
  ·exact .inl
  ·rintro (h2|h2)
   ·exact h2
   ·exact absurd h2.1 h
 ·rename_i h;have h:bg a b=0:=by simpa using h
  rw[h];simp
theorem Kr:∀(x:List Int) (g:Nat),(gl x g) ∣ g/\∀y∈x,gl x g ∣ y.natAbs
 | [],g=>⟨Nat.dvd_refl _,by simp⟩
 | a::x,g=>by
  obtain⟨h1,h2⟩:=Kr x (Nat.gcd g a.natAbs);have e:gl (a::x) g=gl x (Nat.gcd g a.natAbs):=rfl;rw[e];refine⟨Nat.dvd_trans h1 (Nat.gcd_dvd_left _ _),λy hy=>?_⟩;rcases List.mem_cons.1 hy with rfl|hy
  ·exact Nat.dvd_trans h1 (Nat.gcd_dvd_right _ _)
  ·exact h2 y hy
theorem WT(a:aa):a.1=(dv a).map (· * dD a):=by
 unfold dv;rw[List.map_map];have:∀y∈a.1,((· * dD a) ∘ λx=>x.tdiv (dD a)) y=y:=by
  intro y hy;simp only[Function.comp];unfold dD;split
  ·simp
  ·exact Int.tdiv_mul_cancel (Int.natAbs_dvd_natAbs.1 (by simpa using (Kr a.1 0).2 y hy))
 conv=>lhs;rw[<-List.map_id a.1]
 exact (List.map_congr_left λy hy=>(this y hy).symm)
theorem ald(ha:de n a)(hb:de n b)(h1:dv a=dv b)(h2:a.2.1*dD b=b.2.1*dD a)(h3:a.2.2=b.2.2):a=b:=by
 have WZ:∀{a:aa},de n a->∃g:Nat,dD a=(g:Int)/\Nat.Coprime g a.2.1.natAbs/\0<g:=by
  intro a h;refine⟨gl a.1 0,by unfold dD;rw[if_neg h.2.2],?_,Nat.pos_of_ne_zero h.2.2⟩;have:=h.1;unfold bN at this;simp only[Bool.and_eq_true,decide_eq_true_eq]at this;have h4:=this.2.2.2;rw[Ks]at h4;have h5:Nat.gcd (gl a.1 0) a.2.1.natAbs<=1:=by omega
  have h6:0<Nat.gcd (gl a.1 0) a.2.1.natAbs:=Nat.gcd_pos_of_pos_left _ (Nat.pos_of_ne_zero h.2.2);unfold Nat.Coprime;omega
 obtain⟨g,e1,c1,p1⟩:=WZ ha;obtain⟨k,e2,c2,p2⟩:=WZ hb;rw[e1,e2]at h2;have h4:a.2.1.natAbs*k=b.2.1.natAbs*g:=by
  have:=congrArg Int.natAbs h2;simpa[Int.natAbs_mul]using this
 have d1:g ∣ k:=c1.dvd_of_dvd_mul_left (by rw[h4];exact Nat.dvd_mul_left _ _);have d2:k ∣ g:=c2.dvd_of_dvd_mul_left (by rw[<-h4];exact Nat.dvd_mul_left _ _);have e:g=k:=Nat.dvd_antisymm d1 d2;subst e;have h5:a.2.1=b.2.1:=Int.eq_of_mul_eq_mul_right (by omega) h2;have h6:a.1=b.1:=by rw[WT a,WT b,h1,e1,e2]
 obtain⟨a1,a2,a3⟩:=a;obtain⟨b1,b2,b3⟩:=b;simp only at h3 h5 h6;rw[h3,h5,h6]
theorem acv{c:aa}(h1:dy a b<0)(h2:dy b c<0):dy a c<0:=by
 rw[xG]at *
 have pa:=oi a;have pb:=oi b;have pc:=oi c;rcases h1 with h1|⟨h1,h3,h4⟩
 ·rcases h2 with h2|⟨h2,h5,h6⟩
  ·exact .inl (aqP pa pb pc h1 h2)
  ·left;have:=qA pa pb pc (Int.le_of_lt h1) (Int.le_of_eq h2);rcases Int.lt_or_eq_of_le this with h|h
   ·exact h
   ·exfalso;have:=qA (a1:=b.2.1) (a2:=dD b) (b1:=c.2.1) (b2:=dD c) (c1:=a.2.1) (c2:=dD a) pb pc pa (Int.le_of_eq h2) (Int.le_of_eq h.symm);omega
 ·rcases h2 with h2|⟨h2,h5,h6⟩
  ·left;have:=qA pa pb pc (Int.le_of_eq h1) (Int.le_of_lt h2);rcases Int.lt_or_eq_of_le this with h|h
   ·exact h
   ·exfalso;have:=qA (a1:=c.2.1) (a2:=dD c) (b1:=a.2.1) (b2:=dD a) (c1:=b.2.1) (c2:=dD b) pc pa pb (Int.le_of_eq h.symm) (Int.le_of_eq h1);omega
  ·rw[h4]at h5;cases h5
theorem M7{c:aa}(h1:¬dy a b<0)(h2:¬dy b c<0):¬dy a c<0:=by
 rw[xG]at *
 have pa:=oi a;have pb:=oi b;have pc:=oi c;have XW:b.2.1*dD a<=a.2.1*dD b:=by have:=not_or.1 h1;omega
 have XX:c.2.1*dD b<=b.2.1*dD c:=by have:=not_or.1 h2;omega
 have h3:=qA (a1:=c.2.1) (a2:=dD c) (b1:=b.2.1) (b2:=dD b) (c1:=a.2.1) (c2:=dD a) pc pb pa XX XW
 rintro (h|⟨h,h4,h5⟩)
 ·omega
 ·have e1:a.2.1*dD b=b.2.1*dD a:=by
   have:=qA (a1:=a.2.1) (a2:=dD a) (b1:=c.2.1) (b2:=dD c) (c1:=b.2.1) (c2:=dD b) pa pc pb (Int.le_of_eq h) XX;omega
  have e2:b.2.1*dD c=c.2.1*dD b:=by
   have:=qA (a1:=b.2.1) (a2:=dD b) (b1:=a.2.1) (b2:=dD a) (c1:=c.2.1) (c2:=dD c) pb pa pc XW (Int.le_of_eq h);omega
  cases hb:b.2.2
  ·exact h2 (.inr ⟨e2,hb,h5⟩)
  ·exact h1 (.inr ⟨e1,h4,hb⟩)
theorem tH(a:aa):¬dy a a<0:=by
 rw[xG]
 rintro (h|⟨_,h1,h2⟩)
 ·omega
 ·rw[h1]at h2;cases h2
theorem Ez{n:Nat}:o7 (de n) eM:=by
 have key:∀{x y:aa},de n x->de n y->bg x y=0->dv x=dv y:=λhx hy h=>(kq hx.2.1 hy.2.1).1 h;refine⟨λx hx h=>?_,λx y z hx hy hz h1 h2=>?_,λx y z hx hy hz h1 h2 h=>?_,λx y hx hy h1 h2=>?_⟩
 ·rw[mK]at h;have e:bg x x=0:=nD _;rw[e]at h;rcases h with h|h
  ·omega
  ·exact tH x h.2
 ·rw[mK]at *
  rcases h1 with h1|⟨h1,h3⟩
  ·rcases h2 with h2|⟨h2,h4⟩
   ·exact .inl (w6 h1 h2)
   ·left;have:=key hy hz h2;unfold bg at *
    rw[<-this];exact h1
  ·have e1:=key hx hy h1;rcases h2 with h2|⟨h2,h4⟩
   ·left;unfold bg at *
    rw[e1];exact h2
   ·right;refine⟨?_,acv h3 h4⟩;unfold bg at *
    rw[e1];exact h2
 ·rw[mK]at *
  have h1:=not_or.1 h1;have h2:=not_or.1 h2;have f1:=lY (dv x) (dv y);have f2:=lY (dv y) (dv z);have f3:=lY (dv x) (dv z);have v1:=aaQ (dv x) (dv y);have v2:=aaQ (dv y) (dv z);have u1:=h1.1;have u2:=h2.1;unfold bg at u1 u2;by_cases w1:bg x y=0
  ·have e1:=key hx hy w1;have s1:¬dy x y<0:=λh=>h1.2 ⟨w1,h⟩;by_cases w2:bg y z=0
   ·have e2:=key hy hz w2;have s2:¬dy y z<0:=λh=>h2.2 ⟨w2,h⟩;rcases h with h|h
    ·unfold bg at h;rw[e1,e2,nD]at h;omega
    ·exact M7 s1 s2 h.2
   ·have:bg x z=bg y z:=by unfold bg;rw[e1]
    rw[this]at h;rcases h with h|h
    ·exact h2.1 h
    ·exact w2 h.1
  ·have g1:dF (dv y) (dv x)<0:=by unfold bg at w1;omega
   by_cases w2:bg y z=0
   ·have e2:=key hy hz w2;have:bg x z=bg x y:=by unfold bg;rw[e2]
    rw[this]at h;rcases h with h|h
    ·exact h1.1 h
    ·exact w1 h.1
   ·have g2:dF (dv z) (dv y)<0:=by unfold bg at w2;omega
    have g3:=w6 g2 g1;unfold bg at h;omega
 ·rw[mK]at *
  have h1:=not_or.1 h1;have h2:=not_or.1 h2;have f1:=lY (dv x) (dv y);have w:bg x y=0:=by
   have a1:=h1.1;have a2:=h2.1;unfold bg at *
   omega
  have w':bg y x=0:=by unfold bg at *;omega
  have s1:¬dy x y<0:=λh=>h1.2 ⟨w,h⟩;have s2:¬dy y x<0:=λh=>h2.2 ⟨w',h⟩;rw[xG]at s1 s2;have s1:=not_or.1 s1;have s2:=not_or.1 s2;have e:x.2.1*dD y=y.2.1*dD x:=by omega
  refine ald hx hy (key hx hy w) e ?_;have t1:¬(x.2.2=false/\y.2.2=true):=λh=>s1.2 ⟨e,h⟩;have t2:¬(y.2.2=false/\x.2.2=true):=λh=>s2.2 ⟨e.symm,h⟩;cases kR:x.2.2<;>cases sV:y.2.2<;>simp_all
structure jz (n:Nat) (S l:List aa):Prop where
 sorted:S.Pairwise λx y=>bg x y<0
 sub:∀s∈S,s∈l
 si:∀a∈l,∃s∈S,bg s a=0/\¬dy s a<0
theorem Nh(h:bg a b=0):bg b a=0:=by
 have:=lY (dv a) (dv b);unfold bg at *;omega
theorem WA{S':List aa}(hV:∀a∈l,de n a)(hm:∀a,a∈l↔a∈l')(h:jz n S l)(h':jz n S' l'):∀s∈S,s∈S':=by
 intro s hs;have bh:=h.sub s hs;obtain⟨t,ht,w1,s1⟩:=h'.si s ((hm s).1 bh);have Y7:=(hm t).2 (h'.sub t ht);obtain⟨u,hu,w2,s2⟩:=h.si t Y7;have ks:=hV s bh;have kt:=hV t Y7;have ku:=hV u (h.sub u hu);have e1:dv t=dv s:=(kq kt.2.1 ks.2.1).1 w1;have e2:dv u=dv t:=(kq ku.2.1 kt.2.1).1 w2;have w3:bg u s=0:=(kq ku.2.1 ks.2.1).2 (e2.trans e1);have hus:u=s:=by
  apply Classical.byContradiction;intro bm;have key:∀{a b:aa},a∈S->b∈S->a≠b->bg a b<0\/bg b a<0:=by
   intro a b ha hb bm;obtain⟨i,hi,rfl⟩:=List.getElem_of_mem ha;obtain⟨j,hj,rfl⟩:=List.getElem_of_mem hb;rcases Nat.lt_trichotomy i j with nh|nh|nh
   ·exact .inl (List.pairwise_iff_getElem.1 h.sorted i j hi hj nh)
   ·subst nh;exact absurd rfl bm
   ·exact .inr (List.pairwise_iff_getElem.1 h.sorted j i hj hi nh)
  rcases key hu hs bm with h1|h1
  ·omega
  ·have:=Nh w3;omega
 subst hus;have o:=@Ez n;have:t=u:=o.Ju t u kt ku (λhc=>by
  rw[mK]at hc;rcases hc with hc|hc
  ·omega
  ·exact s1 hc.2) (λhc=>by
  rw[mK]at hc;rcases hc with hc|hc
  ·omega
  ·exact s2 hc.2)
 rw[<-this];exact ht
theorem alh{S':List aa}(hV:∀a∈l,de n a)(hm:∀a,a∈l↔a∈l')(h:jz n S l)(h':jz n S' l'):S=S':=by
 have nd:∀{S l:List aa},jz n S l->S.Nodup:=by
  intro S l h;refine h.sorted.imp λ{a b} iW he=>?_;subst he;have:bg a a=0:=nD _;omega
 have hp:S.Perm S':=(List.perm_ext_iff_of_nodup (nd h) (nd h')).2 λa=>⟨WA hV hm h h' a,WA (λa ha=>hV a ((hm a).2 ha)) (λa=>(hm a).symm) h' h a⟩;refine List.Perm.eq_of_pairwise (le:=λx y=>bg x y<0) (λa b _ _ h1 h2=>?_) h.sorted h'.sorted hp;have:=lY (dv a) (dv b);unfold bg at *;omega
def fx:List aa->List aa
 | []=>[]
 | [a]=>[a]
 | a::b::l=>if bg a b=0 then fx (b::l)else a::fx (b::l)
theorem aaL:∀(l:List aa),(∀a∈l,de n a)->l.Pairwise (λx y=>¬eM y x<0)->jz n (fx l) l
 | [],_,_=>⟨List.Pairwise.nil,λs h=>h,by simp⟩
 | [a],_,_=>⟨by simp[fx],λs h=>h,λx hx=>⟨a,by simp[fx],by
   rw[List.mem_singleton.1 hx];exact⟨nD _,tH a⟩⟩⟩
 | a::b::l,hV,hP=>by
  have lH:=List.pairwise_cons.1 hP;have ih:=aaL (b::l) (λx hx=>hV x (List.mem_cons_of_mem _ hx)) lH.2;have ka:=hV a (by simp);have kb:=hV b (by simp);have up:∀x∈b::l,¬bg x a<0:=λx hx h=>lH.1 x hx (mK.2 (.inl h));by_cases hw:bg a b=0
  ·have e:fx (a::b::l)=fx (b::l):=by simp[fx,hw]
   rw[e];refine⟨ih.sorted,λs hs=>List.mem_cons_of_mem _ (ih.sub s hs),λx hx=>?_⟩;rcases List.mem_cons.1 hx with rfl|hx
   ·obtain⟨s,hs,w1,s1⟩:=ih.si b (by simp);have ks:=hV s (List.mem_cons_of_mem _ (ih.sub s hs));have e1:dv s=dv b:=(kq ks.2.1 kb.2.1).1 w1;have e2:dv x=dv b:=(kq ka.2.1 kb.2.1).1 hw;refine⟨s,hs,(kq ks.2.1 ka.2.1).2 (e1.trans e2.symm),?_⟩;have s2:¬dy b x<0:=λh=>lH.1 b (by simp) (mK.2 (.inr ⟨Nh hw,h⟩));exact M7 s1 s2
   ·exact ih.si x hx
  ·have e:fx (a::b::l)=a::fx (b::l):=by simp[fx,hw]
   rw[e];have iW:bg a b<0:=by
    have h1:=up b (by simp);have:=lY (dv a) (dv b);unfold bg at *;omega
   refine⟨List.pairwise_cons.2 ⟨λx hx=>?_,ih.sorted⟩,λs hs=>?_,λx hx=>?_⟩
   ·have oL:=ih.sub x hx;rcases List.mem_cons.1 oL with rfl|oL
    ·exact iW
    ·have sF:¬bg x b<0:=λh=>(List.pairwise_cons.1 lH.2).1 x oL (mK.2 (.inl h));have kx:=hV x (by simp[oL]);have f:=lY (dv x) (dv b);by_cases h0:bg b x=0
     ·have e3:dv b=dv x:=(kq kb.2.1 kx.2.1).1 h0;unfold bg at iW ⊢;rw[<-e3];exact iW
     ·have h2:bg b x<0:=by unfold bg at *;omega
      exact w6 iW h2
   ·rcases List.mem_cons.1 hs with rfl|hs
    ·simp
    ·exact List.mem_cons_of_mem _ (ih.sub s hs)
   ·rcases List.mem_cons.1 hx with rfl|hx
    ·exact⟨x,by simp,nD _,tH x⟩
    ·obtain⟨s,hs,h⟩:=ih.si x hx;exact⟨s,List.mem_cons_of_mem _ hs,h⟩
def df:List aa->aa->List aa
 | [],a=>[a]
 | s::S,a=>if bg s a<0 then s::df S a else if bg s a=0 then (if dy s a<0 then a::S else s::S)else a::s::S
theorem tq(a:aa):∀(S:List aa),∀s∈df S a,s∈S\/s=a
 | [],s,h=>by simp[df]at h;exact .inr h
 | t::S,s,h=>by
  simp only[df]at h;split at h
  ·rcases List.mem_cons.1 h with rfl|h
   ·simp
   ·rcases tq a S s h with h|h
    ·exact .inl (List.mem_cons_of_mem _ h)
    ·exact .inr h
  ·split at h
   ·split at h
    ·rcases List.mem_cons.1 h with rfl|h
     ·exact .inr rfl
     ·exact .inl (List.mem_cons_of_mem _ h)
    ·exact .inl h
   ·rcases List.mem_cons.1 h with rfl|h
    ·exact .inr rfl
    ·exact .inl h
theorem abW(ka:de n a):∀(S:List aa),(∀s∈S,de n s)->(∃s∈df S a,bg s a=0/\¬dy s a<0)/\∀t∈S,∃s∈df S a,bg s t=0/\¬dy s t<0
 | [],_=>⟨⟨a,by simp[df],nD _,tH a⟩,by simp⟩
 | t::S,hV=>by
  obtain⟨h1,h2⟩:=abW ka S (λs hs=>hV s (List.mem_cons_of_mem _ hs));have kt:=hV t (by simp);have self:∀x:aa,bg x x=0/\¬dy x x<0:=λx=>⟨nD _,tH x⟩;simp only[df];split
  ·obtain⟨s,hs,hh⟩:=h1;refine⟨⟨s,List.mem_cons_of_mem _ hs,hh⟩,λu hu=>?_⟩;rcases List.mem_cons.1 hu with rfl|hu
   ·exact⟨u,by simp,self u⟩
   ·obtain⟨s,hs,hh⟩:=h2 u hu;exact⟨s,List.mem_cons_of_mem _ hs,hh⟩
  ·split
   ·rename_i hw;split
    ·rename_i ba;refine⟨⟨a,by simp,self a⟩,λu hu=>?_⟩;rcases List.mem_cons.1 hu with rfl|hu
     ·refine⟨a,by simp,Nh hw,λh=>?_⟩;exact tH a (acv h ba)
     ·exact⟨u,List.mem_cons_of_mem _ hu,self u⟩
    ·rename_i ba;exact⟨⟨t,by simp,hw,ba⟩,λu hu=>⟨u,hu,self u⟩⟩
   ·exact⟨⟨a,by simp,self a⟩,λu hu=>⟨u,List.mem_cons_of_mem _ hu,self u⟩⟩
theorem abX(ka:de n a):∀(S:List aa),(∀s∈S,de n s)->S.Pairwise (λx y=>bg x y<0)->(df S a).Pairwise λx y=>bg x y<0
 | [],_,_=>by simp[df]
 | t::S,hV,hP=>by
  have lH:=List.pairwise_cons.1 hP;have kt:=hV t (by simp);simp only[df];split
  ·rename_i hw;refine List.pairwise_cons.2 ⟨λx hx=>?_,abX ka S (λs hs=>hV s (List.mem_cons_of_mem _ hs)) lH.2⟩;rcases tq a S x hx with hx|rfl
   ·exact lH.1 x hx
   ·exact hw
  ·rename_i hw;split
   ·rename_i Y9;have e:dv t=dv a:=(kq kt.2.1 ka.2.1).1 Y9;split
    ·refine List.pairwise_cons.2 ⟨λx hx=>?_,lH.2⟩;have:=lH.1 x hx;unfold bg at this ⊢;rw[<-e];exact this
    ·exact hP
   ·rename_i Y9;have h1:bg a t<0:=by
     have:=lY (dv t) (dv a);unfold bg at *;omega
    refine List.pairwise_cons.2 ⟨λx hx=>?_,hP⟩;rcases List.mem_cons.1 hx with rfl|hx
    ·exact h1
    ·exact w6 h1 (lH.1 x hx)
theorem aqN(ka:de n a)(hV:∀a∈l,de n a)(h:jz n S l):jz n (df S a) (l++[a]):=by
 have hS:∀s∈S,de n s:=λs hs=>hV s (h.sub s hs);obtain⟨d1,d2⟩:=abW ka S hS;refine⟨abX ka S hS h.sorted,λs hs=>?_,λx hx=>?_⟩
 ·rcases tq a S s hs with hs|rfl
  ·exact List.mem_append_left _ (h.sub s hs)
  ·simp
 ·rcases List.mem_append.1 hx with hx|hx
  ·obtain⟨s,hs,w1,s1⟩:=h.si x hx;obtain⟨t,ht,w2,s2⟩:=d2 s hs;have kx:=hV x hx;have ks:=hS s hs;have kt:de n t:=by
    rcases tq a S t ht with h|rfl
    ·exact hS t h
    ·exact ka
   have e1:=(kq ks.2.1 kx.2.1).1 w1;have e2:=(kq kt.2.1 ks.2.1).1 w2;exact⟨t,ht,(kq kt.2.1 kx.2.1).2 (e2.trans e1),M7 s2 s1⟩
  ·rw[List.mem_singleton.1 hx];exact d1
theorem Xr:∀(l m S:List aa),(∀a∈l,de n a)->(∀a∈m,de n a)->jz n S m->jz n (l.foldl df S) (m++l)
 | [],m,S,_,_,h=>by simpa using h
 | a::l,m,S,hl,hm,h=>by
  have ka:=hl a (by simp);have:=Xr l (m++[a]) (df S a) (λx hx=>hl x (List.mem_cons_of_mem _ hx)) (λx hx=>by
   rcases List.mem_append.1 hx with hx|hx
   ·exact hm x hx
   ·rw[List.mem_singleton.1 hx];exact ka) (aqN ka hm h)
  simpa using this
theorem aqa{n:Nat}(hV:∀a∈l,de n a)(hm:∀a,a∈l↔a∈l'):fx (fi eM l)=l'.foldl df []:=by
 have hp:=qF eM l;have h1:jz n (fx (fi eM l)) (fi eM l):=aaL _ (λa ha=>hV a (hp.mem_iff.1 ha)) (MS Ez hV);have h2:jz n (l'.foldl df []) ([]++l'):=Xr l' [] [] (λa ha=>hV a ((hm a).2 ha)) (by simp) ⟨List.Pairwise.nil,by simp,by simp⟩;rw[List.nil_append]at h2;exact alh (λa ha=>hV a (hp.mem_iff.1 ha)) (λa=>(hp.mem_iff).trans (hm a)) h1 h2
theorem gx(h:bN a=true):a.1.length<=4/\dr a.2.1=true/\∀y∈a.1,dr y=true:=by
 unfold bN at h;simp only[Bool.and_eq_true,Bool.not_eq_true',decide_eq_false_iff_not,List.all_eq_true]at h;exact⟨by omega,h.2.1,h.2.2.1⟩
theorem Ev(h:dr y=true):-400000000<=y/\y<=400000000:=by
 unfold dr at h;simpa using h
theorem XP:∀(x:List Int) (g:Nat),(∀y∈x,dr y=true)->g<=400000000->gl x g<=400000000
 | [],g,_,hg=>hg
 | a::x,g,h,hg=>by
  have e:gl (a::x) g=gl x (Nat.gcd g a.natAbs):=rfl;rw[e];refine XP x _ (λy hy=>h y (List.mem_cons_of_mem _ hy)) ?_;have hb:=Ev (h a (by simp));by_cases h0:g=0
  ·subst h0;rw[Nat.gcd_zero_left];omega
  ·exact Nat.le_trans (Nat.gcd_le_left _ (Nat.pos_of_ne_zero h0)) hg
theorem alr(h:bN a=true):dD a<=400000000:=by
 have:=XP a.1 0 (gx h).2.2 (by omega);unfold dD;split<;>omega
theorem Eh(a:aa):(bif true then if 1<((gl a.1 0:Nat):Int)then ((gl a.1 0:Nat):Int)else 1 else if ((gl a.1 0:Nat):Int)<1 then ((gl a.1 0:Nat):Int)else 1)=dD a:=by
 simp only[cond_true];unfold dD;by_cases h:gl a.1 0=0
 ·rw[if_pos h,h];rfl
 ·rw[if_neg h];by_cases h2:1<((gl a.1 0:Nat):Int)
  ·rw[if_pos h2]
  ·rw[if_neg h2];omega
theorem VK(h:bN a=true):mB a.1=some ((((gl a.1 0:Nat):Int),()),()):=VJ a.1 (by have:=(gx h).1;omega) (gx h).2.2
theorem VL(h:bN a=true):Af a=some ((gl a.1 0 != 0,()),()):=by
 rw[ah1,VK h];simp only[Option.bind_some];congr 3;cases hg:gl a.1 0 with
 | zero=>rfl
 | succ n=>simp;omega
theorem Ad(h:bN a=true):rP a=some ((dD a,()),()):=by
 rw[ahU,VK h];simp only[Option.bind_some];unfold dD;cases hg:gl a.1 0 with
 | zero=>rfl
 | succ n =>
  have:(((n+1:Nat):Int)==0)=false:=by simp;omega
  rw[this];rfl
theorem Az(h:bN a=true):rU a=some ((((gl a.1 0:Nat):Int),()),()):=by
 rw[aiX,V3 a.1 0 (by have:=(gx h).1;omega) (gx h).2.2 (by decide)];rfl
theorem alT:∀(x:List Int),gl x 0=0↔∀y∈x,y=0:=by
 intro x;constructor
 ·intro h y hy;have:=(Kr x 0).2 y hy;rw[h]at this;have:=Nat.eq_zero_of_zero_dvd this;omega
 ·intro h;induction x with
  | nil=>rfl
  | cons a x ih =>
   have e:gl (a::x) 0=gl x (Nat.gcd 0 a.natAbs):=rfl;rw[e,h a (by simp)];exact ih λy hy=>h y (List.mem_cons_of_mem _ hy)
theorem V1(a:aa)(hl:a.1.length<=68719476736):u9 a=some ((gl a.1 0==0,()),()):=by
 rw[aiV];rw[jE a.1 (λy=>y==0) (some ((false,()),())) (some ((true,()),())) (λi=>yM a i) hl (λi hi=>by
  rw[Uu,aN hi,ay hi,aI (by omega)];simp only[cond_true,Option.bind_some,bne];cases a.1[i]==0<;>rfl) (by rw[Uu,aR];rfl)]
 have e:a.1.all (λy=>y==0)=(gl a.1 0==0):=by
  rw[Bool.eq_iff_iff,List.all_eq_true,beq_iff_eq,alT];simp
 rw[e];cases gl a.1 0==0<;>rfl
theorem ER{D:Int}(h:dr y=true):IntKind.i64.wrap (y.tdiv D)=y.tdiv D:=by
 have:=Ev h;have h2:(y.tdiv D).natAbs<=y.natAbs:=tdiv_le y D;exact bX (by omega) (by omega)
theorem VQ(a b:Int):Aj a b=some ((kj a b,()),()):=by
 rw[ain];unfold kj;by_cases h1:a<b
 ·rw[if_pos h1,decide_eq_true h1];rfl
 ·rw[if_neg h1,decide_eq_false h1];by_cases h2:b<a
  ·have:a>b:=h2;rw[if_pos h2,decide_eq_true this];rfl
  ·have:¬a>b:=h2;rw[if_neg h2,decide_eq_false this];rfl
theorem aaP{x y:List Int}{i:Nat}(hx:i<x.length)(hy:i<y.length):dF (x.drop i) (y.drop i)=if x[i]=y[i]then dF (x.drop (i+1)) (y.drop (i+1))else if x[i]<y[i]then -1 else 1:=by
 rw[List.drop_eq_getElem_cons hx,List.drop_eq_getElem_cons hy];rfl
theorem Dd(a:aa):(dD a != 0)=true:=by
 have:=oi a;simp;omega
theorem TC(ha:bN a=true)(hb:bN b=true)(hl:a.1.length=b.1.length):∀(n i:Nat),n+i=a.1.length ->
  yv a b (dD a) (dD b) (a.1.length:Int) (i:Int)=some ((dF ((dv a).drop i) ((dv b).drop i),()),())
 | 0,i,hn=>by
  obtain rfl:i=a.1.length:=by omega
  rw[TB,aR];have e1:(dv a).drop a.1.length=[]:=List.drop_eq_nil_of_le (by rw[jK];omega);rw[e1];rfl
 | n+1,i,hn=>by
  have hi:i<a.1.length:=by omega
  have ep:i<b.1.length:=by omega
  have na:=(gx ha).2.2 _ (List.getElem_mem hi);have nb:=(gx hb).2.2 _ (List.getElem_mem ep);rw[TB,aN hi,ay hi,ay ep,Dd,Dd,aI (by have:=(gx ha).1;omega)];simp only[cond_true,Option.bind_some];rw[ER na,ER nb,VQ];simp only[Option.bind_some];rw[TC ha hb hl n (i+1) (by omega),aaP (i:=i) (by rw[jK];exact hi) (by rw[jK];exact ep)];have e1:(dv a)[i]'(by rw[jK];exact hi)=a.1[i].tdiv (dD a):=by simp[dv]
  have e2:(dv b)[i]'(by rw[jK];exact ep)=b.1[i].tdiv (dD b):=by simp[dv]
  rw[e1,e2];generalize a.1[i].tdiv (dD a)=x;generalize b.1[i].tdiv (dD b)=y;by_cases h:x=y
  ·rw[if_pos h,MP.2 h];rfl
  ·rw[if_neg h];unfold kj;by_cases h1:x<y
   ·rw[if_pos h1,if_pos h1];rfl
   ·rw[if_neg h1,if_neg h1,if_pos (by omega)];rfl
theorem VD(ha:bN a=true)(hb:bN b=true)(hl:a.1.length=b.1.length):uS a b=some ((bg a b,()),()):=by
 rw[ahF,Ad ha,Ad hb];simp only[Option.bind_some];have:=TC ha hb hl a.1.length 0 (by omega);rw[Int.natCast_zero]at this;rw[this];rfl
theorem Uy(ha:bN a=true)(hb:bN b=true)(hl:a.1.length=b.1.length):∀(n i:Nat),n+i=a.1.length ->
  yP a b (dD a) (dD b) (i:Int)=some ((dF ((dv a).drop i) ((dv b).drop i),()),())
 | 0,i,hn=>by
  obtain rfl:i=a.1.length:=by omega
  rw[Ux,aR];have e1:(dv a).drop a.1.length=[]:=List.drop_eq_nil_of_le (by rw[jK];omega);rw[e1];rfl
 | n+1,i,hn=>by
  have hi:i<a.1.length:=by omega
  have ep:i<b.1.length:=by omega
  have na:=(gx ha).2.2 _ (List.getElem_mem hi);have nb:=(gx hb).2.2 _ (List.getElem_mem ep);rw[Ux,aN hi,aN ep,ay hi,ay ep,Dd,Dd,aI (by have:=(gx ha).1;omega)];simp only[cond_true,Option.bind_some];rw[ER na,ER nb,Uy ha hb hl n (i+1) (by omega),aaP (i:=i) (by rw[jK];exact hi) (by rw[jK];exact ep)];have e1:(dv a)[i]'(by rw[jK];exact hi)=a.1[i].tdiv (dD a):=by simp[dv]
  have e2:(dv b)[i]'(by rw[jK];exact ep)=b.1[i].tdiv (dD b):=by simp[dv]
  rw[e1,e2];generalize a.1[i].tdiv (dD a)=x;generalize b.1[i].tdiv (dD b)=y;by_cases h:x=y
  ·rw[if_pos h,h];simp
  ·rw[if_neg h];have e:(x != y)=true:=by simpa using h
   rw[e,cond_true];by_cases h1:x<y
   ·rw[if_pos h1,decide_eq_true h1];rfl
   ·rw[if_neg h1,decide_eq_false h1];rfl
theorem ai2(ha:bN a=true)(hb:bN b=true)(hl:a.1.length=b.1.length):rV a b=some ((bg a b,()),()):=by
 rw[ai1,Az ha,Az hb];simp only[Option.bind_some];rw[Eh,Eh];have:=Uy ha hb hl a.1.length 0 (by omega);rw[Int.natCast_zero]at this;rw[this];rfl
theorem Er(ha:bN a=true)(hb:bN b=true):IntKind.i64.wrap (a.2.1*dD b)=a.2.1*dD b:=by
 have h1:=Ev (gx ha).2.1;have h2:=oi b;have h3:=alr hb;exact Nj (by omega) (by omega)
theorem aiZ(ha:bN a=true)(hb:bN b=true):AA a b=some ((!decide (dy a b<0),()),()):=by
 rw[aiY,Az ha,Az hb];simp only[Option.bind_some];rw[Eh,Eh,Er ha hb,Er hb ha];have hs:=@xG a b;generalize a.2.1*dD b=x at *
 generalize b.2.1*dD a=y at *
 by_cases h1:x>y
 ·have:¬dy a b<0:=λh=>by
   rcases hs.1 h with h|h<;>omega
  rw[decide_eq_true h1,decide_eq_false this];rfl
 ·rw[decide_eq_false h1];by_cases h2:x=y
  ·subst h2;simp only[cond_false,beq_self_eq_true,cond_true];cases h3:a.2.2
   ·cases h4:b.2.2
    ·have:¬dy a b<0:=λh=>by
      rcases hs.1 h with h|h
      ·omega
      ·rw[h4]at h;exact absurd h.2.2 (by simp)
     rw[decide_eq_false this];rfl
    ·have:dy a b<0:=hs.2 (.inr ⟨rfl,h3,h4⟩);rw[decide_eq_true this];rfl
   ·have:¬dy a b<0:=λh=>by
     rcases hs.1 h with h|h
     ·omega
     ·rw[h3]at h;exact absurd h.2.1 (by simp)
    rw[decide_eq_false this];rfl
  ·have e:(x==y)=false:=by simpa using h2
   have:dy a b<0:=hs.2 (.inl (by omega));rw[e,decide_eq_true this];rfl
theorem ag4(ha:bN a=true)(hb:bN b=true)(hl:a.1.length=b.1.length):Vr a b=some ((eM a b,()),()):=by
 have e0:((a.1.length:Int) != (b.1.length:Int))=false:=by rw[hl];simp
 rw[ag3,n4,n4,ha,hb,e0,VD ha hb hl,Ad ha,Ad hb];simp only[Option.bind_some,Bool.not_true,cond_false];rw[Er ha hb,Er hb ha,VQ];simp only[Option.bind_some];unfold eM dy;by_cases h:bg a b=0
 ·rw[h];simp only[bne_self_eq_false,cond_false,ne_eq,not_true_eq_false,if_false];by_cases h2:kj (a.2.1*dD b) (b.2.1*dD a)=0
  ·rw[h2];simp only[bne_self_eq_false,cond_false,not_true_eq_false,if_false];cases a.2.2<;>cases b.2.2<;>rfl
  ·have e:(kj (a.2.1*dD b) (b.2.1*dD a) != 0)=true:=by simpa using h2
   rw[e,if_pos h2];rfl
 ·have e:(bg a b != 0)=true:=by simpa using h
  rw[e,if_pos h];rfl
theorem xH(h:n<=68719476736):decide ((0+n)*8<=140737488355328)=true:=by simp;omega
theorem gH{c:Nat}(h:n<=68719476736)(hc:c<=1000):decide ((n+1)*c<=140737488355328)=true:=by
 have:=Nat.mul_le_mul (show n+1<=68719476737 by omega) hc;simp;omega
theorem H5(a:aa)(h:a.1.length<=68719476736):va a=some ((a,()),()):=by
 rw[ai3,xH h];rfl
theorem uT(a:aa)(h:a.1.length<=68719476736):rN a=some ((a,()),()):=by
 rw[ahG,VF,xH h];rfl
theorem Kb(l:List α):l.drop (Int.toNat 0)=l:=rfl
theorem ok1(h1:n<=m)(h2:m<=1000000):(decide ((0:Nat)<=0)&&decide (0<=(n:Int))&&decide ((n:Int)<=(m:Int)))=true:=by simp;omega
theorem ok2(h1:n<=m):(decide (0<=(n:Int))&&decide ((n:Int)<=(m:Int))&&decide ((m:Int)<=(m:Int)))=true:=by simp;omega
theorem arc{S:List α}(hi:i<S.length)(a:α):S.set i a=S.take i++a::S.drop (i+1):=by
 rw[List.set_eq_take_append_cons_drop,if_pos hi]
theorem aaM(hS:S.length<=1000000)(i:Nat):decide ((0+(List.drop (Int.toNat 0) (S.take i)).length)*40<=140737488355328)=true/\decide (((List.drop (Int.toNat 0) (S.take i)).length+1)*40<=140737488355328)=true /\
  ∀a:aa,decide (((List.drop (Int.toNat 0) (S.take i)++[a]).length+(S.drop i).length)*40<=140737488355328)=true:=by
 rw[Kb];refine⟨?_,?_,λa=>?_⟩<;>simp only[List.length_append,List.length_take,List.length_drop,List.length_singleton,decide_eq_true_eq]<;>omega
theorem UH(ka:de n a)(hV:∀s∈S,de n s)(hS:S.length<=1000000):∀(m i:Nat),m+i=S.length ->
  yS S a (i:Int)=some ((S.take i++df (S.drop i) a,()),())
 | 0,i,hm=>by
  obtain rfl:i=S.length:=by omega
  obtain⟨l1,l2,l3⟩:=aaM hS S.length;have l3:=l3 a;rw[UG,aR,Int.toNat_natCast];have et:S.take S.length=S:=List.take_of_length_le (Nat.le_refl _);simp only[cond_false,ok1 (Nat.le_refl _) hS,ok2 (Nat.le_refl S.length),et,cond_true]at l1 l2 l3 ⊢;rw[l1,l2,l3,Kb];simp[df]
 | m+1,i,hm=>by
  have hi:i<S.length:=by omega
  have ks:=hV _ (List.getElem_mem hi);have hl:S[i].1.length=a.1.length:=ks.2.1.trans ka.2.1.symm;have anu:=ai2 ks.1 ka.1 hl;have ann:=aiZ ks.1 ka.1;obtain⟨l1,l2,l3⟩:=aaM hS i;have l3:=l3 a;have et:S.take S.length=S:=List.take_of_length_le (Nat.le_refl _);have l4:decide ((0+S.length)*40<=140737488355328)=true:=by simp;omega
  rw[UG,aN hi,ay hi,aI (by omega),Int.toNat_natCast];simp only[cond_true,Option.bind_some,anu,ann,ok1 (Nat.le_of_lt hi) hS,ok2 (Nat.le_of_lt hi),et,l1,l2,l3,l4];rw[List.drop_eq_getElem_cons hi];simp only[df];by_cases w:bg S[i] a<0
  ·rw[decide_eq_true w,if_pos w,cond_true,UH ka hV hS m (i+1) (by omega)];have e:S.take (i+1)=S.take i++[S[i]]:=by rw[List.take_add_one,List.getElem?_eq_getElem hi];rfl
   rw[e,List.append_assoc];rfl
  ·rw[decide_eq_false w,if_neg w,cond_false];by_cases w0:bg S[i] a=0
   ·have e:(bg S[i] a==0)=true:=by simpa using w0
    rw[e,if_pos w0,cond_true];by_cases st:dy S[i] a<0
    ·rw[decide_eq_true st,if_pos st];simp only[Bool.not_true,cond_false];rw[arc hi]
    ·rw[decide_eq_false st,if_neg st];simp only[Bool.not_false,cond_true];rw[<-List.drop_eq_getElem_cons hi,List.take_append_drop]
   ·have e:(bg S[i] a==0)=false:=by simpa using w0
    rw[e,if_neg w0,cond_false,Kb];simp
theorem ajb(ka:de n a)(hV:∀s∈S,de n s)(hS:S.length<=1000000):AF S a=some ((df S a,()),()):=by
 rw[aja];have:=UH ka hV hS S.length 0 (by omega);rw[Int.natCast_zero]at this;rw[this];simp
theorem MB(a:aa):∀S:List aa,(df S a).length<=S.length+1
 | []=>by simp[df]
 | s::S=>by
  have:=MB a S;simp only[df];split
  ·simp;omega
  ·split
   ·split<;>simp
   ·simp
theorem aqO(ka:de n a)(hV:∀s∈S,de n s):∀s∈df S a,de n s:=λs hs=>by
 rcases tq a S s hs with h|rfl
 ·exact hV s h
 ·exact ka
def fQ(a:aa):Bool:=gl a.1 0==0&&(decide (a.2.1>0)||(a.2.1==0&&a.2.2))
def eL(a:aa):Bool:=gl a.1 0 != 0
def kc(d:Int):az:=(d,[(List.replicate d.toNat (0:Int),1,false)])
def cE(d:Int)(l:List aa):az:=bif l.any fQ then kc d else (d,(l.filter eL).foldl df [])
def br(n:Nat)(a:aa):Prop:=bN a=true/\a.1.length=n
theorem Mo{n:Nat}(h:br n a)(hv:eL a=true):de n a:=⟨h.1,h.2,by unfold eL at hv;simpa using hv⟩
theorem mk8(h0:0<=d)(h1:d<=1000):(decide (0<=d)&&decide (d<=d)&&decide (d*8<=140737488355328)&&decide (d<=9223372036854775807))=true:=by simp;omega
theorem H6(h0:0<=d)(h1:d<=1000):AD d=some ((kc d,()),()):=by
 rw[ai8,mk8 h0 h1];rfl
theorem HP(h0:0<=d)(h1:d<=1000):uV d=some ((kc d,()),()):=by
 rw[ahX,mk8 h0 h1];rfl
theorem yR(h0:0<=d)(h1:d<=1000){l:List aa}(hV:∀a∈l,br n a)(hl:l.length<=1000)(z:az):∀(m i:Nat) (S:List aa),m+i=l.length->(∀s∈S,de n s)->S.length<=i ->
  uL d l z (d,S) (i:Int)=some ((bif (l.drop i).any fQ then kc d else (d,((l.drop i).filter eL).foldl df S),()),())
 | 0,i,S,hm,_,_=>by
  obtain rfl:i=l.length:=by omega
  rw[UF,aR,List.drop_eq_nil_of_le (Nat.le_refl _)];rfl
 | m+1,i,S,hm,hS,hSl=>by
  have hi:i<l.length:=by omega
  have kv:=hV _ (List.getElem_mem hi);have h4:=(gx kv.1).1;rw[UF,aN hi,ay hi,aI (by omega)];simp only[cond_true,Option.bind_some];rw[V1 _ (by omega),List.drop_eq_getElem_cons hi,List.any_cons,List.filter_cons];simp only[Option.bind_some];have ih:=λS h1 h2=>yR h0 h1 hV hl z m (i+1) S (by omega);cases hg:gl l[i].1 0==0
  ·have hv:eL l[i]=true:=by unfold eL bne;rw[hg];rfl
   have hb:fQ l[i]=false:=by unfold fQ;rw[hg];rfl
   have ka:=Mo kv hv;rw[hv,hb,cond_false,H5 _ (by omega)];simp only[Option.bind_some];rw[ajb ka hS (by omega)];simp only[Option.bind_some];have:=yR h0 h1 hV hl z m (i+1) (df S l[i]) (by omega) (aqO ka hS) (by have:=MB l[i] S;omega);rw[this];rfl
  ·have hv:eL l[i]=false:=by unfold eL bne;rw[hg];rfl
   rw[hv,cond_true,ai0];have e1:fQ l[i]=(decide (l[i].2.1>0)||(l[i].2.1==0&&l[i].2.2)):=by unfold fQ;rw[hg];rfl
   rw[e1];have:=yR h0 h1 hV hl z m (i+1) S (by omega) hS (by omega);by_cases c1:l[i].2.1<0
   ·have c2:¬l[i].2.1>0:=by omega
    have c3:(l[i].2.1==0)=false:=by simp;omega
    rw[decide_eq_true c1,decide_eq_false c2,c3];simp only[cond_true,Option.bind_some,Bool.not_true,cond_false,Bool.false_and,Bool.or_self,Bool.false_or];rw[this];rfl
   ·rw[decide_eq_false c1];by_cases c3:l[i].2.1=0
    ·have c4:(l[i].2.1==0)=true:=by simpa using c3
     have c2:¬l[i].2.1>0:=by omega
     rw[decide_eq_false c2,c4];cases l[i].2.2
     ·simp only[cond_false,cond_true,Option.bind_some,Bool.not_true,Bool.not_false,Bool.and_false,Bool.or_self,Bool.false_or];rw[this];rfl
     ·simp only[cond_false,cond_true,Option.bind_some,Bool.not_true,Bool.not_false,Bool.and_true,Bool.or_true,Bool.true_or];rw[H6 h0 h1];rfl
    ·have c4:(l[i].2.1==0)=false:=by simpa using c3
     have c2:l[i].2.1>0:=by omega
     rw[decide_eq_true c2,c4];simp only[cond_false,cond_true,Option.bind_some,Bool.not_false,Bool.true_or];rw[H6 h0 h1];rfl
theorem AE{n:Nat}{d:Int}(h0:0<=d)(h1:d<=1000){l:List aa}(hV:∀a∈l,br n a)(hl:l.length<=1000):pq d l=some ((cE d l,()),()):=by
 rw[ai9];have:=yR h0 h1 hV hl (0,[]) l.length 0 [] (by omega) (by simp) (by simp);rw[Int.natCast_zero]at this;rw[this];rfl
abbrev tN:Ty:=.pair (.slice 3 ah) (.pair ah aQ)
theorem JZ(ha:br n a)(hb:br n b):nO (a,(b,()))=some ((fR tN nO a b,()),()) /\
  fR tN nO a b=eM a b:=by
 have h:nO (a,(b,()))=some ((eM a b,()),()):=ag4 ha.1 hb.1 (ha.2.trans hb.2.symm);have e:fR tN nO a b=eM a b:=by
  unfold fR;rw[h]
 exact⟨by rw[e];exact h,e⟩
theorem aqj{V:α->Prop}{cf cg:α->α->Int}(h:o7 V cf){W:α->Prop}(hW:∀x,W x->V x)(he:∀x y,W x->W y->cg x y=cf x y):o7 W cg:=by
 refine⟨λx hx=>?_,λx y z hx hy hz h1 h2=>?_,λx y z hx hy hz h1 h2=>?_,λx y hx hy h1 h2=>?_⟩
 ·rw[he x x hx hx];exact h.irrefl x (hW x hx)
 ·rw[he _ _ hx hy]at h1;rw[he _ _ hy hz]at h2;rw[he _ _ hx hz];exact h.trans x y z (hW _ hx) (hW _ hy) (hW _ hz) h1 h2
 ·rw[he _ _ hx hy]at h1;rw[he _ _ hy hz]at h2;rw[he _ _ hx hz];exact h.ntrans x y z (hW _ hx) (hW _ hy) (hW _ hz) h1 h2
 ·rw[he _ _ hx hy]at h1;rw[he _ _ hy hx]at h2;exact h.Ju x y (hW _ hx) (hW _ hy) h1 h2
theorem ark{K:List aa}(hV:∀a∈K,de n a)(hl:K.length<=1000000):
  V6 K (Value.func (Fn.func 168) #[] #[])=some ((),fi eM K,()):=by
 have hv:∀a∈K,br n a:=λa ha=>⟨(hV a ha).1,(hV a ha).2.1⟩;have hO:o7 (λa=>a∈K) (fR tN nO):=
  aqj (@Ez n) (λa ha=>hV a ha) (λx y hx hy=>(JZ (hv x hx) (hv y hy)).2)
 have hs:fi eM K=fi (fR tN nO) K:=by
  have hp:=qF eM K;refine acj hO (λa ha=>ha) hp ?_;have:=MS (@Ez n) hV;refine List.Pairwise.imp_of_mem (λ{a b} ha hb h=>?_) this;rw[(JZ (hv b (hp.mem_iff.1 hb)) (hv a (hp.mem_iff.1 ha))).2];exact h
 show tG 66 tN 2 168 _ (K,(Value.func (Fn.func 168) #[] #[],()))=_;unfold tG;rw[if_pos ⟨rfl,⟨λa ha b hb=>(JZ (hv a ha) (hv b hb)).1,hO⟩,Nat.lt_of_le_of_lt hl (by decide)⟩];rw[hs];rfl
theorem TR{d:Int}{K:List aa}(hV:∀a∈K,de n a)(hl:K.length<=1000)(z:az):∀(m i:Nat) (out:List aa),m+i=K.length->out.length<=i ->
  ru z ((i:Int),K) (d,out) (K.length:Int) (i:Int)=some (((d,out++fx (K.drop i)),()),())
 | 0,i,out,hm,_=>by
  obtain rfl:i=K.length:=by omega
  rw[TQ];dsimp only;rw[aR,List.drop_eq_nil_of_le (Nat.le_refl _),cond_false];simp[fx]
 | m+1,i,out,hm,ho=>by
  have hi:i<K.length:=by omega
  have k1:=hV _ (List.getElem_mem hi);have ei:((i:Int)+1)=((i+1:Nat):Int):=by omega
  have dd:(V.dead.idle&&decide ((i:Int)<=(i:Int)))=true:=by simp[V.idle,V.aO]
  have sz:decide ((out.length+1)*40<=140737488355328)=true:=gH (by omega) (by omega);rw[TQ];dsimp only;rw[aN hi,ay hi,dd,aI (by omega),sz,ei];simp only[cond_true,Option.bind_some];have ih:=λout h=>TR (d:=d) hV hl z m (i+1) out (by omega) h;by_cases h2:i+1<K.length
  ·have k2:=hV _ (List.getElem_mem h2);have e2:decide (((i+1:Nat):Int)<=((i+1:Nat):Int))=true:=by simp
   rw[aN h2,ay h2,e2];simp only[cond_true,Option.bind_some];rw[VD k1.1 k2.1 (k1.2.1.trans k2.2.1.symm)];simp only[Option.bind_some];rw[List.drop_eq_getElem_cons hi,List.drop_eq_getElem_cons h2];simp only[fx];rw[<-List.drop_eq_getElem_cons h2];by_cases w:bg K[i] K[i+1]=0
   ·have e:(bg K[i] K[i+1]==0)=true:=by simpa using w
    rw[e,if_pos w,cond_true,ih out (by omega)]
   ·have e:(bg K[i] K[i+1]==0)=false:=by simpa using w
    rw[e,if_neg w,cond_false,ih (out++[K[i]]) (by simp;omega),List.append_assoc];rfl
  ·have hz:i+1=K.length:=by omega
   have e2:decide (((i+1:Nat):Int)<(K.length:Int))=false:=by simp;omega
   rw[e2,cond_false,ih (out++[K[i]]) (by simp;omega),List.drop_eq_getElem_cons hi,List.drop_eq_nil_of_le (by omega)];simp[fx]
def Mm(d:Int)(l:List aa):az:=bif l.any fQ then kc d else (d,fx (fi eM (l.filter eL)))
theorem FK{d:Int}(h0:0<=d)(h1:d<=1000)(hV:∀a∈l,br n a)(hl:l.length<=1000)(z:az):∀(m i:Nat) (K:List aa),m+i=l.length->(∀s∈K,de n s)->K.length<=i ->
  ry d l z K l (l.length:Int) (i:Int)=some ((bif (l.drop i).any fQ then kc d else (d,fx (fi eM (K++(l.drop i).filter eL))),()),())
 | 0,i,K,hm,hK,hKl=>by
  obtain rfl:i=l.length:=by omega
  rw[TS,aR,List.drop_eq_nil_of_le (Nat.le_refl _),cond_false,ark hK (by omega)];simp only[Option.bind_some,List.any_nil,cond_false,List.filter_nil,List.append_nil];have hp:=qF eM K;have:=TR (d:=d) (K:=fi eM K) (λa ha=>hK a (hp.mem_iff.1 ha)) (by rw[hp.length_eq];omega) z (fi eM K).length 0 [] (by omega) (by simp);rw[Int.natCast_zero]at this;rw[this];simp
 | m+1,i,K,hm,hK,hKl=>by
  have hi:i<l.length:=by omega
  have kv:=hV _ (List.getElem_mem hi);have h4:=(gx kv.1).1;rw[TS,aN hi,ay hi,aI (by omega)];simp only[cond_true,Option.bind_some];rw[VL kv.1,List.drop_eq_getElem_cons hi,List.any_cons,List.filter_cons];simp only[Option.bind_some];cases hg:gl l[i].1 0==0
  ·have hv:eL l[i]=true:=by unfold eL bne;rw[hg];rfl
   have cS:(gl l[i].1 0 != 0)=true:=hv;have hb:fQ l[i]=false:=by unfold fQ;rw[hg];rfl
   have ka:=Mo kv hv;rw[hv,cS,hb,Bool.not_true,cond_false,uT _ (by omega)];simp only[Option.bind_some];rw[gH (by omega) (by omega),cond_true];have:=FK h0 h1 hV hl z m (i+1) (K++[l[i]]) (by omega) (λs hs=>by
    rcases List.mem_append.1 hs with h|h
    ·exact hK s h
    ·rw[List.mem_singleton.1 h];exact ka) (by simp;omega)
   rw[this];simp
  ·have hv:eL l[i]=false:=by unfold eL bne;rw[hg];rfl
   have cS:(gl l[i].1 0 != 0)=false:=hv;rw[hv,cS,Bool.not_false,cond_true];have e1:fQ l[i]=(decide (l[i].2.1>0)||(l[i].2.1==0&&l[i].2.2)):=by unfold fQ;rw[hg];rfl
   rw[e1];have:=FK h0 h1 hV hl z m (i+1) K (by omega) hK (by omega);cases c1:decide (l[i].2.1>0)
   ·cases c2:l[i].2.1==0
    ·simp only[cond_false,Bool.false_and,Bool.or_self,Bool.false_or];rw[this];rfl
    ·cases c3:l[i].2.2
     ·simp only[cond_false,cond_true,Bool.and_false,Bool.or_self,Bool.false_or];rw[this];rfl
     ·simp only[cond_false,cond_true,Bool.and_true,Bool.or_true,Bool.true_or];rw[HP h0 h1];rfl
   ·simp only[cond_true,Bool.true_or];rw[HP h0 h1];rfl
theorem aii(h0:0<=d)(h1:d<=1000)(hV:∀a∈l,br n a)(hl:l.length<=1000):pf d l=some ((Mm d l,()),()):=by
 rw[aih];have:=FK h0 h1 hV hl (0,[]) l.length 0 [] (by omega) (by simp) (by simp);rw[Int.natCast_zero]at this;rw[this];rfl
theorem norm_eq{n:Nat}(hV:∀a∈l,br n a)(hm:∀a,a∈l↔a∈l'):Mm d l=cE d l':=by
 have e1:l.any fQ=l'.any fQ:=by
  rw[Bool.eq_iff_iff,List.any_eq_true,List.any_eq_true];exact⟨λ⟨x,hx,h⟩=>⟨x,(hm x).1 hx,h⟩,λ⟨x,hx,h⟩=>⟨x,(hm x).2 hx,h⟩⟩
 have e2:fx (fi eM (l.filter eL))=(l'.filter eL).foldl df []:=aqa (n:=n) (λa ha=>Mo (hV a (List.mem_filter.1 ha).1) (List.mem_filter.1 ha).2) (λa=>by
  rw[List.mem_filter,List.mem_filter,hm a])
 unfold Mm cE;rw[e1,e2]
theorem XG{g:Nat}(hg:g<=4000000000000000000)(hy:y.natAbs<=4000000000000000000):Nat.gcd g y.natAbs<=4000000000000000000:=by
 by_cases h0:g=0
 ·subst h0;rw[Nat.gcd_zero_left];exact hy
 ·exact Nat.le_trans (Nat.gcd_le_left _ (Nat.pos_of_ne_zero h0)) hg
theorem XN:∀(x:List Int) (g:Nat),(∀y∈x,y.natAbs<=4000000000000000000)->g<=4000000000000000000->gl x g<=4000000000000000000
 | [],g,_,hg=>hg
 | a::x,g,h,hg=>XN x (Nat.gcd g a.natAbs) (λy hy=>h y (List.mem_cons_of_mem _ hy)) (XG hg (h a (by simp)))
theorem Uv(x:List Int)(hl:x.length<=68719476736)(hx:∀y∈x,y.natAbs<=4000000000000000000):∀(n i g:Nat),n+i=x.length->rH x (g:Int) (i:Int)=some ((((gl (x.drop i) g:Nat):Int),()),())
 | 0,i,g,hn=>by
  obtain rfl:i=x.length:=by omega
  rw[yN,aR,List.drop_eq_nil_of_le (by omega)];rfl
 | n+1,i,g,hn=>by
  have hi:i<x.length:=by omega
  rw[yN,aN hi,ay hi,cond_true,Option.bind_some,Wj (hx _ (List.getElem_mem hi)),Option.bind_some,FV x i _ _ _ (Nat.le_refl _) (Int.natCast_nonneg _) (Int.natCast_nonneg _),aI (by omega),Uv x hl hx n (i+1) _ (by omega),List.drop_eq_getElem_cons hi];simp only[Int.natAbs_natCast];rfl
theorem aiW(x:List Int)(k:Int)(hl:x.length<=68719476736)(hx:∀y∈x,y.natAbs<=4000000000000000000)(hk:k.natAbs<=4000000000000000000):pn x k=some ((((gl x k.natAbs:Nat):Int),()),()):=by
 rw[V2,Wj hk,Option.bind_some];have:=Uv x hl hx x.length 0 k.natAbs (by omega);simpa using this
theorem TH(x:List Int)(hl:x.length<=68719476736)(hx:∀y∈x,y.natAbs<=4000000000000000000):∀(n i g:Nat),n+i=x.length->g<=4000000000000000000->uy x (g:Int) x (x.length:Int) (i:Int)=some ((((gl (x.drop i) g:Nat):Int),()),())
 | 0,i,g,hn,_=>by
  obtain rfl:i=x.length:=by omega
  rw[yB,aR,List.drop_eq_nil_of_le (by omega)];rfl
 | n+1,i,g,hn,hg=>by
  have hi:i<x.length:=by omega
  have hy:=hx _ (List.getElem_mem hi);rw[yB,aN hi,ay hi,cond_true,Option.bind_some,VA (by simpa using hg) hy,Option.bind_some,aI (by omega)];simp only[Int.natAbs_natCast];rw[TH x hl hx n (i+1) _ (by omega) (XG hg hy),List.drop_eq_getElem_cons hi];rfl
theorem ahV(x:List Int)(hl:x.length<=68719476736)(hx:∀y∈x,y.natAbs<=4000000000000000000):mB x=some ((((gl x 0:Nat):Int),()),()):=by
 rw[VI];have:=TH x hl hx x.length 0 0 (by omega) (by omega);simpa using this
def iJ(g:Nat):Int:=if g=0 then 1 else (g:Int)
def fI(x:List Int)(k:Int)(st:Bool):aa×Bool :=
 bif bN (x.map (λy=>y.tdiv (iJ (gl x k.natAbs))),k.tdiv (iJ (gl x k.natAbs)),st)then ((x.map (λy=>y.tdiv (iJ (gl x k.natAbs))),k.tdiv (iJ (gl x k.natAbs)),st),true)else (([],0,false),false)
theorem abF(g:Nat):(iJ g != 0)=true:=by
 unfold iJ;split
 ·rfl
 ·simp;omega
theorem apU(g:Nat):(bif true then if 1<(g:Int)then (g:Int)else 1 else if (g:Int)<1 then (g:Int)else 1)=iJ g:=by
 simp only[cond_true];unfold iJ;by_cases h:g=0
 ·rw[if_pos h,h];rfl
 ·rw[if_neg h];by_cases h2:1<(g:Int)
  ·rw[if_pos h2]
  ·rw[if_neg h2];omega
theorem xJ{D:Int}(h:y.natAbs<=4000000000000000000):IntKind.i64.wrap (y.tdiv D)=y.tdiv D:=by
 have h2:(y.tdiv D).natAbs<=y.natAbs:=tdiv_le y D;exact bX (by omega) (by omega)
theorem Xk(x:List α)(g:α->β)(E:List β->Option R)(f:List β->Int->Option R)
  (h1:∀(i:Nat) (hi:i<x.length) (v:List β),v.length=x.length->f v (i:Int)=f (v.set i (g x[i])) ((i+1:Nat):Int)) (h2:∀v,v.length=x.length->f v (x.length:Int)=E v) :
  ∀(n i:Nat) (v:List β),n+i=x.length->v.length=x.length->f v (i:Int)=E (v.take i++(x.drop i).map g)
 | 0,i,v,hn,hv=>by
  obtain rfl:i=x.length:=by omega
  rw[h2 v hv,List.take_of_length_le (by omega),List.drop_eq_nil_of_le (by omega)];simp
 | n+1,i,v,hn,hv=>by
  have hi:i<x.length:=by omega
  rw[h1 i hi v hv,Xk x g E f h1 h2 n (i+1) _ (by omega) (by simpa using hv)];congr 1;have e1:(v.set i (g x[i])).take (i+1)=v.take i++[g x[i]]:=by
   rw[List.take_add_one,List.take_set_of_le (by omega)];simp[hv,hi]
  rw[e1,List.append_assoc,List.drop_eq_getElem_cons hi,List.map_cons];rfl
theorem Kh(x:List α)(g:α->β)(E:List β->Option R)(f:List β->Int->Option R)
  (h1:∀(i:Nat) (hi:i<x.length) (v:List β),v.length=x.length->f v (i:Int)=f (v.set i (g x[i])) ((i+1:Nat):Int)) (h2:∀v,v.length=x.length->f v (x.length:Int)=E v) (v:List β) (hv:v.length=x.length):f v 0=E (x.map g):=by
 have:=Xk x g E f h1 h2 x.length 0 v (by omega) hv;rw[Int.natCast_zero]at this;rw[this];simp
theorem kE(x:List α)(g:α->β)(E:List β->Option R)(f:List β->Int->Option R)
  (h1:∀(i:Nat) (hi:i<x.length) (o:List β),o.length=i->f o (i:Int)=f (o++[g x[i]]) ((i+1:Nat):Int)) (h2:∀o,f o (x.length:Int)=E o):f [] 0=E (x.map g):=by
 have key:∀(n i:Nat) (o:List β),n+i=x.length->o.length=i->f o (i:Int)=E (o++(x.drop i).map g):=by
  intro n;induction n with
  | zero =>
   intro i o hn ho;obtain rfl:i=x.length:=by omega
   rw[h2,List.drop_eq_nil_of_le (by omega)];simp
  | succ n ih =>
   intro i o hn ho;have hi:i<x.length:=by omega
   rw[h1 i hi o ho,ih (i+1) _ (by omega) (by simp;omega),List.drop_eq_getElem_cons hi,List.map_cons,List.append_assoc];rfl
 have:=key x.length 0 [] (by omega) rfl;rw[Int.natCast_zero]at this;rw[this];simp
theorem VP{x:List Int}{k:Int}{st:Bool}(hl:x.length<=1000)(hx:∀y∈x,y.natAbs<=4000000000000000000)(hk:k.natAbs<=4000000000000000000):mC x k st=some (((fI x k st).1,(fI x k st).2,()),()):=by
 have hg:=XN x 0 hx (by omega);have jb:=kW (R:=Option ((aa×Bool×PUnit)×PUnit)) x 8 (by omega) (by omega) (by omega);have loop:∀D:Int,(D != 0)=true->rr x ([],0,false) D (List.replicate x.length (0:Int),k.tdiv D,st) x (x.length:Int) 0=(bif bN (x.map (λy=>y.tdiv D),k.tdiv D,st)then some (((x.map (λy=>y.tdiv D),k.tdiv D,st),true,()),())else some ((([],0,false),false,()),())):=by
  intro D hD;refine Kh x (λy=>y.tdiv D) (λv=>(bif bN (v,k.tdiv D,st)then some (((v,k.tdiv D,st),true,()),())else some ((([],0,false),false,()),()))) (λv i=>rr x ([],0,false) D (v,k.tdiv D,st) x (x.length:Int) i) (λi hi v hv=>?_) (λv hv=>?_) _ (by simp)
  ·rw[TP,aN hi,ay hi,aI (by omega),hD];simp only[cond_true,Option.bind_some];rw[ay (by omega),xJ (hx _ (List.getElem_mem hi)),Int.toNat_natCast];simp only[Option.bind_some]
  ·rw[TP,aR,cond_false,n4];simp only[Option.bind_some];cases bN (v,k.tdiv D,st)<;>rfl
 rw[aie,ahV x (by omega) hx];simp only[Option.bind_some];rw[VA (by simpa using hg) hk];simp only[Option.bind_some,Int.natAbs_natCast];rw[<-Ks];unfold fI;by_cases h0:gl x k.natAbs=0
 ·have e:iJ (gl x k.natAbs)=1:=by unfold iJ;rw[if_pos h0]
  rw[e,h0];have e2:(((0:Nat):Int)==0)=true:=rfl;rw[e2,cond_true,jb,xJ hk,loop 1 rfl];cases bN (x.map (λy=>y.tdiv 1),k.tdiv 1,st)<;>rfl
 ·have e:iJ (gl x k.natAbs)=((gl x k.natAbs:Nat):Int):=by unfold iJ;rw[if_neg h0]
  have e2:(((gl x k.natAbs:Nat):Int)==0)=false:=by simpa using h0
  have e3:(((gl x k.natAbs:Nat):Int) != 0)=true:=by simpa using h0
  rw[e,e2,cond_false,jb,e3,cond_true,xJ hk,loop _ e3];cases bN (x.map (λy=>y.tdiv ((gl x k.natAbs:Nat):Int)),k.tdiv ((gl x k.natAbs:Nat):Int),st)<;>rfl
theorem VZ{x:List Int}{k:Int}{st:Bool}(hl:x.length<=1000)(hx:∀y∈x,y.natAbs<=4000000000000000000)(hk:k.natAbs<=4000000000000000000):mF x k st=some (((fI x k st).1,(fI x k st).2,()),()):=by
 have loop:∀D:Int,(D != 0)=true->uI x ([],0,false) D ([],k.tdiv D,st) 0=(bif bN (x.map (λy=>y.tdiv D),k.tdiv D,st)then some (((x.map (λy=>y.tdiv D),k.tdiv D,st),true,()),())else some ((([],0,false),false,()),())):=by
  intro D hD;refine kE x (λy=>y.tdiv D) (λv=>(bif bN (v,k.tdiv D,st)then some (((v,k.tdiv D,st),true,()),())else some ((([],0,false),false,()),()))) (λv i=>uI x ([],0,false) D (v,k.tdiv D,st) i) (λi hi v hv=>?_) (λv=>?_)
  ·have hs:decide ((v.length+1)*8<=140737488355328)=true:=gH (by omega) (by omega);rw[Ut,aN hi,ay hi,aI (by omega),hD];simp only[cond_true,Option.bind_some];rw[hs,cond_true,xJ (hx _ (List.getElem_mem hi))]
  ·rw[Ut,aR,cond_false,rS];simp only[Option.bind_some];cases bN (v,k.tdiv D,st)<;>rfl
 rw[aiU,aiW x k (by omega) hx hk];simp only[Option.bind_some];rw[apU,abF,cond_true,xJ hk,loop _ (abF _)];unfold fI;cases bN _<;>rfl
theorem abc{x:List Int}{k:Int}{st:Bool}(h:(fI x k st).2=true):br x.length (fI x k st).1:=by
 unfold fI at *
 cases ha:bN (x.map (λy=>y.tdiv (iJ (gl x k.natAbs))),k.tdiv (iJ (gl x k.natAbs)),st)
 ·rw[ha]at h;cases h
 ·exact⟨ha,by simp⟩
theorem Xu:∀(l S:List aa),(l.foldl df S).length<=S.length+l.length
 | [],S=>by simp
 | a::l,S=>by
  have:=Xu l (df S a);have h2:=MB a S;simp only[List.foldl_cons,List.length_cons];omega
theorem Ko:∀(l S:List aa),∀s∈l.foldl df S,s∈S\/s∈l
 | [],S,s,h=>.inl h
 | a::l,S,s,h=>by
  rcases Ko l (df S a) s h with h|h
  ·rcases tq a S s h with h|rfl
   ·exact .inl h
   ·exact .inr (by simp)
  ·exact .inr (by simp[h])
theorem E5(f:α->Nat)(n:Nat):∀l:List α,(∀a∈l,f a<=n)->zL f l<=l.length*(n+1)
 | [],_=>by simp[zL]
 | a::l,h=>by
  have h1:=h a (by simp);have h2:=E5 f n l (λb hb=>h b (by simp[hb]));simp only[zL,List.length_cons,List.map_cons,List.sum_cons,Nat.add_mul,Nat.one_mul]at h2 ⊢;omega
theorem aqg(h:br n a):zA a<=4:=by
 have:=(gx h.1).1;unfold zA zI;exact this
def xX:az:=(0,[])
def bB(a:aa)(v:Nat):Int:=a.1.getD v 0
def iE(a:aa)(p:Int)(b:aa)(q:Int):aa×Bool:=fI (List.zipWith (λx y=>p*x+q*y) a.1 b.1) (p*a.2.1+q*b.2.1) (a.2.2&&p != 0||b.2.2&&q != 0)
def jY(d:Int)(l:List aa):az×Bool:=bif decide ((cE d l).2.length>16)then (xX,false)else (cE d l,true)
def gk(v:Nat)(a:aa):List aa->List aa->Option (List aa)
 | [],o=>some o
 | b::l,o=>bif decide (bB b v>=0)then gk v a l o else bif (iE a (0 - bB b v) b (bB a v)).2 then gk v a l (o++[(iE a (0 - bB b v) b (bB a v)).1])else none
def jl(v:Nat)(L:List aa):List aa->List aa->Option (List aa)
 | [],o=>some o
 | a::l,o=>bif decide (bB a v<=0)then jl v L l o else match gk v a L o with
  | some o=>jl v L l o
  | none=>none
def vy(v:Nat)(L:List aa):Option (List aa):=jl v L L (L.filter λa=>bB a v==0)
def dV(c:az)(v:Nat):az×Bool:=match vy v c.2 with
 | some l=>jY c.1 l
 | none=>(xX,false)
def oq:Nat->az->Option az
 | 0,c=>some c
 | n+1,c=>bif (dV c n).2 then oq n (dV c n).1 else none
def Ke(c:az):Bool×Bool:=match oq c.1.toNat c with
 | some r=>(decide (r.2.length>0),true)
 | none=>(false,false)
def iT(c:az):Bool×Bool:=bif bw c then Ke (cE c.1 c.2)else (false,false)
def iG(a:aa):aa×Bool:=bif bN a then ((a.1.map (λx=>0 - x),0 - a.2.1,!a.2.2),true)else (([],0,false),false)
def eF(a b:az):az×Bool:=bif bw a&&(bw b&&a.1==b.1)then jY a.1 (a.2++b.2)else (xX,false)
def jV(c:az)(a:aa):Bool×Bool:=bif (iG a).2&&(eF c ((a.1.length:Int),[(iG a).1])).2 then iT (eF c ((a.1.length:Int),[(iG a).1])).1 else (false,false)
def kV(d:Int):List aa->List aa->Option (List aa)
 | pre,[]=>some pre
 | pre,a::post=>bif (jV (d,pre++post) a).2 then (bif (jV (d,pre++post) a).1 then kV d pre post else kV d (pre++[a]) post)else none
def oO(c:az):Option az:=bif (iT c).2 then (bif (iT c).1 then some (kc c.1)else (kV c.1 [] c.2).map λl=>(c.1,l))else none
def kU(c:az):Option az:=bif bw c then oO (cE c.1 c.2)else none
theorem cH:bw c=true↔(∀a∈c.2,br c.1.toNat a)/\0<=c.1/\c.1<=4/\c.2.length<=16:=by
 unfold bw br;simp only[Bool.and_eq_true,List.all_eq_true,decide_eq_true_eq,Bool.not_eq_true',bne_eq_false_iff_eq];constructor
 ·rintro⟨h1,⟨h2,h3⟩,h4⟩
  exact⟨λa ha=>⟨(h1 a ha).1,by have:=(h1 a ha).2;omega⟩,h2,h3,by omega⟩
 ·rintro⟨h1,h2,h3,h4⟩
  exact⟨λa ha=>⟨(h1 a ha).1,by have:=(h1 a ha).2;omega⟩,⟨h2,h3⟩,by omega⟩
theorem ap9(d:Int)(l:List aa):(cE d l).2.length<=max 1 l.length:=by
 unfold cE;cases l.any fQ with
 | true=>simp[kc];omega
 | false =>
  have h1:=Xu (l.filter eL) [];have h2:=List.length_filter_le eL l;simp only[cond_false,List.length_nil]at h1 ⊢;omega
theorem abw{d:Int}(h0:0<=d)(h1:d<=4):br d.toNat ((List.replicate d.toNat (0:Int),1,false):aa):=by
 obtain⟨n,rfl⟩:∃n:Nat,d=n:=⟨d.toNat,by omega⟩;have:n=0\/n=1\/n=2\/n=3\/n=4:=by omega
 refine⟨?_,by simp⟩;rcases this with rfl|rfl|rfl|rfl|rfl<;>decide
theorem abx{d:Int}(hd:d=n)(h1:d<=4)(h:∀a∈l,br n a):∀a∈(cE d l).2,br n a:=by
 intro a ha;unfold cE at ha;cases hb:l.any fQ with
 | true =>
  rw[hb]at ha;simp only[cond_true,kc,List.mem_singleton]at ha;subst ha;have:=abw (d:=d) (by omega) h1
  rwa [show d.toNat=n by omega]at this ⊢
 | false =>
  rw[hb]at ha;rcases Ko _ _ a ha with h2|h2
  ·cases h2
  ·exact h a (List.mem_filter.1 h2).1
theorem iH(d:Int)(l:List aa):(cE d l).1=d:=by
 unfold cE;cases l.any fQ<;>rfl
theorem tk(h:bw c=true):bw (cE c.1 c.2)=true:=by
 obtain⟨h1,h2,h3,h4⟩:=cH.1 h;rw[cH,iH];exact⟨abx (by omega) h3 h1,h2,h3,by have:=ap9 c.1 c.2;omega⟩
theorem aaR{l:List aa}(h0:0<=d)(h1:d<=4)(h:∀a∈l,br d.toNat a)(hk:(jY d l).2=true):bw (jY d l).1=true/\(jY d l).1=cE d l:=by
 unfold jY at *
 cases hc:decide ((cE d l).2.length>16)with
 | true=>rw[hc]at hk;cases hk
 | false =>
  refine⟨?_,rfl⟩;rw[cond_false,cH,iH];exact⟨abx (by omega) h1 h,h0,h1,Nat.le_of_not_lt (of_decide_eq_false hc)⟩
theorem aa0{a b:az}(h:(eF a b).2=true):bw (eF a b).1=true/\(eF a b).1=cE a.1 (a.2++b.2)/\bw a=true/\bw b=true/\a.1=b.1:=by
 unfold eF at *
 cases hc:bw a&&(bw b&&a.1==b.1)with
 | false=>rw[hc]at h;cases h
 | true =>
  rw[hc]at h;simp only[Bool.and_eq_true,beq_iff_eq]at hc;obtain⟨ha,hb,hd⟩:=hc;have a1:=cH.1 ha;have b1:=cH.1 hb;have:=aaR (l:=a.2++b.2) a1.2.1 a1.2.2.1 (λx hx=>by
   rcases List.mem_append.1 hx with hx|hx
   ·exact a1.1 x hx
   ·rw[hd];exact b1.1 x hx) h
  exact⟨this.1,this.2,ha,hb,hd⟩
theorem apW(ha:br n a)(hb:br n b)(h:(iE a p b q).2=true):br n (iE a p b q).1:=by
 have:=abc h
 rwa [List.length_zipWith,ha.2,hb.2,Nat.min_self]at this
theorem xf(ha:br n a):∀(l o r:List aa),(∀x∈l,br n x)->(∀x∈o,br n x)->gk v a l o=some r->∀x∈r,br n x
 | [],o,r,_,ho,h=>by simp only[gk,Option.some.injEq]at h;subst h;exact ho
 | b::l,o,r,hl,ho,h=>by
  simp only[gk]at h;have dQ:∀x∈l,br n x:=λx hx=>hl x (by simp[hx]);cases hc:decide (bB b v>=0)with
  | true=>rw[hc]at h;exact xf ha l o r dQ ho h
  | false =>
   rw[hc]at h;cases hm:(iE a (0 - bB b v) b (bB a v)).2 with
   | false=>rw[hm]at h;cases h
   | true =>
    rw[hm]at h;refine xf ha l _ r dQ (λx hx=>?_) h;rcases List.mem_append.1 hx with hx|hx
    ·exact ho x hx
    ·rw[List.mem_singleton.1 hx];exact apW ha (hl b (by simp)) hm
theorem L6{L:List aa}(hL:∀x∈L,br n x):∀(l o r:List aa),(∀x∈l,br n x)->(∀x∈o,br n x)->jl v L l o=some r->∀x∈r,br n x
 | [],o,r,_,ho,h=>by simp only[jl,Option.some.injEq]at h;subst h;exact ho
 | a::l,o,r,hl,ho,h=>by
  simp only[jl]at h;have dQ:∀x∈l,br n x:=λx hx=>hl x (by simp[hx]);cases hc:decide (bB a v<=0)with
  | true=>rw[hc]at h;exact L6 hL l o r dQ ho h
  | false =>
   rw[hc,cond_false]at h;cases hm:gk v a L o with
   | none=>rw[hm]at h;cases h
   | some o2 =>
    rw[hm]at h;exact L6 hL l o2 r dQ (xf (hl a (by simp)) L o o2 hL ho hm) h
theorem alu{L r:List aa}(hL:∀x∈L,br n x)(h:vy v L=some r):∀x∈r,br n x :=
 L6 hL L _ r hL (λx hx=>hL x (List.mem_filter.1 hx).1) h
theorem Kc(hc:bw c=true)(h:(dV c v).2=true):bw (dV c v).1=true/\(dV c v).1.1=c.1:=by
 obtain⟨h1,h2,h3,h4⟩:=cH.1 hc;unfold dV at *
 cases hd:vy v c.2 with
 | none=>rw[hd]at h;cases h
 | some l =>
  rw[hd]at h;have:=aaR h2 h3 (alu h1 hd) h;exact⟨this.1,by rw[this.2,iH]⟩
abbrev Qt:=_root_.Rat
def dot:List Int->List Qt->Qt
 | c::cs,x::xs=>(c:Qt)*x+dot cs xs
 | _,_=>0
def lhs(a:aa)(x:List Qt):Qt:=dot a.1 x+(a.2.1:Qt)
theorem aby(h:dr y=true):y.natAbs<=400000000:=by
 have:=Ev h;omega
theorem eQ(h:br n a):(∀y∈a.1,y.natAbs<=400000000)/\a.2.1.natAbs<=400000000/\a.1.length<=4:=by
 obtain⟨h1,h2,h3⟩:=gx h.1;exact⟨λy hy=>aby (h3 y hy),aby h2,h1⟩
def nF(a:aa)(p:Int)(b:aa)(q:Int):List Int:=List.zipWith (λx y=>p*x+q*y) a.1 b.1
theorem L5(a:aa)(p:Int)(b:aa)(q:Int):(List.zip a.1 b.1).map (λz=>p*z.1+q*z.2)=nF a p b q:=by
 unfold nF List.zip;rw[List.map_zipWith]
theorem td{x:Int}(hp:p.natAbs<=400000000)(hq:q.natAbs<=400000000)(hx:x.natAbs<=400000000)(hy:y.natAbs<=400000000):
  (p*x+q*y).natAbs<=400000000000000000/\IntKind.i64.wrap (IntKind.i64.wrap (p*x)+IntKind.i64.wrap (q*y))=p*x+q*y:=by
 have h1:=My hp hx;have h2:=My hq hy;rw[Nj hp hx,Nj hq hy];exact⟨by omega,bX (by omega) (by omega)⟩
theorem aa7(ha:br n a)(hb:br n b)(hp:p.natAbs<=400000000)(hq:q.natAbs<=400000000):
  (nF a p b q).length<=1000/\(∀y∈nF a p b q,y.natAbs<=4000000000000000000)/\(p*a.2.1+q*b.2.1).natAbs<=4000000000000000000:=by
 obtain⟨a1,a2,a3⟩:=eQ ha;obtain⟨b1,b2,b3⟩:=eQ hb;refine⟨by unfold nF;rw[List.length_zipWith];omega,λy hy=>?_,?_⟩
 ·rw[<-L5]at hy;obtain⟨⟨u,v⟩,hz,rfl⟩:=List.mem_map.1 hy;have hm:=List.of_mem_zip hz;have:=(td hp hq (a1 u hm.1) (b1 v hm.2)).1;dsimp only;omega
 ·have:=(td hp hq a2 b2).1;omega
theorem acQ(ha:br n a)(hb:br n b)(hi:i<(List.zip a.1 b.1).length):∃(h1:i<a.1.length) (h2:i<b.1.length),(List.zip a.1 b.1)[i]=(a.1[i],b.1[i]):=by
 rw[List.length_zip]at hi;exact⟨by omega,by omega,by simp⟩
theorem E6(ha:br n a)(hb:br n b):(List.zip a.1 b.1).length=a.1.length:=by
 rw[List.length_zip,ha.2,hb.2,Nat.min_self]
theorem aiF(ha:br n a)(hb:br n b)(hp:0<=p)(DT:p<=400000000)(hq:0<=q)(YW:q<=400000000):Ar a p b q=some (((iE a p b q).1,(iE a p b q).2,()),()):=by
 obtain⟨a1,a2,a3⟩:=eQ ha;obtain⟨b1,b2,b3⟩:=eQ hb;have p3:p.natAbs<=400000000:=by omega
 have p5:q.natAbs<=400000000:=by omega
 obtain⟨m1,m2,m3⟩:=aa7 ha hb p3 p5;have hlen:(((a.1.length:Nat):Int) != ((b.1.length:Nat):Int))=false:=by rw[ha.2,hb.2];simp
 have sR:(decide (0<=p)&&decide (p<=400000000))=true:=by simp;omega
 have anh:(decide (0<=q)&&decide (q<=400000000))=true:=by simp;omega
 rw[aiE,rS,rS,jD,jD,ha.1,hb.1,hlen,sR,anh];simp only[Option.bind_some,Bool.not_true,cond_false];have loop:=kE (List.zip a.1 b.1) (λz=>p*z.1+q*z.2) (λo=>uD p q a b ([],0,false) o (((List.zip a.1 b.1).length:Nat):Int)) (λo i=>uD p q a b ([],0,false) o i) (λi hi o ho=>by
  obtain⟨h1,h2,hz⟩:=acQ ha hb hi;have hd:decide ((o.length+1)*8<=140737488355328)=true:=gH (by omega) (by omega);rw[Uk,aN h1,cond_true,ay h1,ay h2];simp only[Option.bind_some];rw[hd,cond_true,(td p3 p5 (a1 _ (List.getElem_mem h1)) (b1 _ (List.getElem_mem h2))).2,aI (by omega),hz]) (λo=>rfl)
 rw[loop,L5,E6 ha hb,Uk,aR,cond_false,(td p3 p5 a2 b2).2];have hm:=λst=>VZ (st:=st) m1 m2 m3;have e1:decide (p>0)=(p != 0):=by rw[Bool.eq_iff_iff];simp;omega
 have e2:decide (q>0)=(q != 0):=by rw[Bool.eq_iff_iff];simp;omega
 rw[hm,hm,hm,e1,e2];unfold iE;show _=some (((fI (nF a p b q) (p*a.2.1+q*b.2.1) (a.2.2&&p != 0||b.2.2&&q != 0)).1,(fI (nF a p b q) (p*a.2.1+q*b.2.1) (a.2.2&&p != 0||b.2.2&&q != 0)).2,()),());cases a.2.2<;>cases b.2.2<;>cases hp0:(p != 0)<;>cases hq0:(q != 0)<;>rfl
theorem ahp(ha:br n a)(hb:br n b)(hp:0<=p)(DT:p<=400000000)(hq:0<=q)(YW:q<=400000000):zY a p b q=some (((iE a p b q).1,(iE a p b q).2,()),()):=by
 obtain⟨a1,a2,a3⟩:=eQ ha;obtain⟨b1,b2,b3⟩:=eQ hb;have p3:p.natAbs<=400000000:=by omega
 have p5:q.natAbs<=400000000:=by omega
 obtain⟨m1,m2,m3⟩:=aa7 ha hb p3 p5;have hlen:(((a.1.length:Nat):Int) != ((b.1.length:Nat):Int))=false:=by rw[ha.2,hb.2];simp
 have c1:decide (p<0)=false:=by simp;omega
 have c2:decide (p>400000000)=false:=by simp;omega
 have c3:decide (q<0)=false:=by simp;omega
 have c4:decide (q>400000000)=false:=by simp;omega
 rw[aho,n4,n4,ha.1,hb.1,hlen,c1,c2,c3,c4];simp only[Option.bind_some,Bool.not_true,cond_false];have jb:=kW (R:=Option ((aa×Bool×PUnit)×PUnit)) a.1 8 (by omega) (by omega) (by omega);rw[jb,List.length_replicate];have loop:=Kh (List.zip a.1 b.1) (λz=>p*z.1+q*z.2) (λo=>uj p q a b ([],0,false) o (a.1.length:Int) (((List.zip a.1 b.1).length:Nat):Int)) (λo i=>uj p q a b ([],0,false) o (a.1.length:Int) i) (λi hi o ho=>by
  obtain⟨h1,h2,hz⟩:=acQ ha hb hi;rw[E6 ha hb]at ho;rw[To,aN h1,cond_true,ay h1,ay h2,ay (show i<o.length by omega)];simp only[Option.bind_some];rw[(td p3 p5 (a1 _ (List.getElem_mem h1)) (b1 _ (List.getElem_mem h2))).2,aI (by omega),hz,Int.toNat_natCast]) (λo _=>rfl) (List.replicate a.1.length (0:Int)) (by rw[List.length_replicate,E6 ha hb])
 rw[loop,L5,E6 ha hb,To,aR,cond_false,(td p3 p5 a2 b2).2];have hm:=λst=>VP (st:=st) m1 m2 m3;rw[hm,hm,hm];unfold iE;show _=some (((fI (nF a p b q) (p*a.2.1+q*b.2.1) (a.2.2&&p != 0||b.2.2&&q != 0)).1,(fI (nF a p b q) (p*a.2.1+q*b.2.1) (a.2.2&&p != 0||b.2.2&&q != 0)).2,()),());cases a.2.2<;>cases b.2.2<;>cases hp0:(p != 0)<;>cases hq0:(q != 0)<;>rfl
def gM(r:az×Bool):Option ((az×Bool×PUnit)×PUnit):=some ((r.1,r.2,()),())
theorem HX(h0:0<=d)(h1:d<=1000)(hV:∀a∈l,br n a)(hl:l.length<=1000):pf d l=some ((cE d l,()),()):=by
 rw[aii h0 h1 hV hl,norm_eq hV (λa=>Iff.rfl)]
theorem VO{n:Nat}(h0:0<=d)(h1:d<=1000)(hV:∀a∈l,br n a)(hl:l.length<=1000):Ah d l=gM (jY d l):=by
 rw[aid,HX h0 h1 hV hl];simp only[Option.bind_some];unfold jY;have e:decide ((((cE d l).2.length:Nat):Int)>16)=decide ((cE d l).2.length>16):=by rw[Bool.eq_iff_iff];simp;omega
 rw[e];cases decide ((cE d l).2.length>16)<;>rfl
theorem afz{k:Int}(h0:0<=k)(h1:k<=1000000):H9 none k=some (([],()),()):=by
 have w0:IntKind.i64.wrap (k - IntKind.i64.wrap (0 - 0))=k:=by
  have:IntKind.i64.wrap (0 - 0)=0:=by decide
  rw[this,Int.sub_zero,bX (by omega) (by omega)]
 rw[ajo,w0];have c1:decide (k<0)=false:=by simp;omega
 rw[c1,cond_false];by_cases hk:k>0
 ·have c2:decide (k>0)=true:=by simpa using hk
  have c3:decide (0<k)=true:=by simpa using hk
  have c4:decide (aM.sz≠0)=true:=by decide
  have c5:decide (k*((40:Nat):Int)<=140737488355328)=true:=by simp;omega
  have c6:decide (k<=140737488355328)=true:=by simp;omega
  rw[c2,c4,c6,cond_true];show (bif (true&&true&&decide (k*((40:Nat):Int)<=140737488355328)&&true)then some (([],()),())else none)=some (([],()),());rw[c5];rfl
 ·have c2:decide (k>0)=false:=by simpa using hk
  rw[c2,cond_false]
theorem NA{x y:List aa}(hx:x.length<=1000)(hy:y.length<=1000):vc [x,y]=some ((x++y,()),()):=by
 have g0:ab [x,y] 0=some x:=rfl;have g1:ab [x,y] 1=some y:=rfl;have w1:IntKind.i64.wrap (0+1)=1:=by decide
 have w2:IntKind.i64.wrap (1+1)=2:=by decide
 have s1:IntKind.i64.wrap (0+(x.length:Int))=x.length:=by rw[Int.zero_add];exact bX (by omega) (by omega)
 have s2:IntKind.i64.wrap ((x.length:Int)+(y.length:Int))=((x.length+y.length:Nat):Int):=bX (by omega) (by omega);have n1:decide ((x.length:Int)<0)=false:=decide_eq_false (by omega);have n2:decide (((x.length+y.length:Nat):Int)<0)=false:=decide_eq_false (by omega);rw[ajn];show yW [x,y] 0 [x,y] 2 0=_;rw[FZ,show decide ((0:Int)<2)=true from rfl,cond_true,g0];simp only[Option.bind_some];rw[s1,n1,cond_false,w1,FZ,show decide ((1:Int)<2)=true from rfl,cond_true,g1];simp only[Option.bind_some];rw[s2,n2,cond_false,w2,FZ,show decide ((2:Int)<2)=false from rfl,cond_false,afz (by omega) (by omega)];simp only[Option.bind_some];show yV [x,y] [] [x,y] 2 0=_;have d1:decide ((([]:List aa).length+x.length)*40<=140737488355328)=true:=by simp;omega
 have d2:decide ((x.length+y.length)*40<=140737488355328)=true:=by simp;omega
 rw[FY,show decide ((0:Int)<2)=true from rfl,cond_true,g0];simp only[Option.bind_some];rw[d1,cond_true,w1,List.nil_append,FY,show decide ((1:Int)<2)=true from rfl,cond_true,g1];simp only[Option.bind_some];rw[d2,cond_true,w2,FY,show decide ((2:Int)<2)=false from rfl,cond_false]
theorem Xz(a b:az):(a.1 != b.1) = !(a.1==b.1):=rfl
theorem VW(a b:az)(ha:a.2.length<=68719476736)(hb:b.2.length<=68719476736):Aq a b=gM (eF a b):=by
 rw[aiD,rT a ha,rT b hb];simp only[Option.bind_some];unfold eF;cases h1:bw a with
 | false=>rfl
 | true =>
  cases h2:bw b with
  | false=>rfl
  | true =>
   rw[Xz];cases h3:a.1==b.1 with
   | false=>rfl
   | true =>
    obtain⟨a1,a2,a3,a4⟩:=cH.1 h1;obtain⟨b1,b2,b3,b4⟩:=cH.1 h2;have hd:a.1=b.1:=by simpa using h3
    have c1:decide ((0+a.2.length)*40<=140737488355328)=true:=by simp;omega
    have c2:decide ((a.2.length+b.2.length)*40<=140737488355328)=true:=by simp;omega
    have hn:=AE (n:=a.1.toNat) (d:=a.1) a2 (by omega) (l:=a.2++b.2) (λx hx=>by
     rcases List.mem_append.1 hx with hx|hx
     ·exact a1 x hx
     ·rw[hd];exact b1 x hx) (by rw[List.length_append];omega)
    simp only[Bool.not_true,cond_false,Bool.and_self,cond_true];rw[c1,cond_true,c2,cond_true,hn];simp only[Option.bind_some];unfold jY;have e:decide ((((cE a.1 (a.2++b.2)).2.length:Nat):Int)>16)=decide ((cE a.1 (a.2++b.2)).2.length>16):=by rw[Bool.eq_iff_iff];simp;omega
    rw[e];cases decide ((cE a.1 (a.2++b.2)).2.length>16)<;>rfl
theorem Vx(a b:az):zW a b=gM (eF a b):=by
 rw[ahl,n5 a,n5 b];simp only[Option.bind_some];unfold eF;cases h1:bw a with
 | false=>rfl
 | true =>
  cases h2:bw b with
  | false=>rfl
  | true =>
   rw[Xz];cases h3:a.1==b.1 with
   | false=>rfl
   | true =>
    obtain⟨a1,a2,a3,a4⟩:=cH.1 h1;obtain⟨b1,b2,b3,b4⟩:=cH.1 h2;have hd:a.1=b.1:=by simpa using h3
    simp only[Bool.not_true,cond_false,Bool.and_self,cond_true];rw[NA (by omega) (by omega)];simp only[Option.bind_some];rw[VO (n:=a.1.toNat) a2 (by omega) (λx hx=>by
     rcases List.mem_append.1 hx with hx|hx
     ·exact a1 x hx
     ·rw[hd];exact b1 x hx) (by rw[List.length_append];omega)]
    rfl
theorem xj(h:y.natAbs<=400000000):IntKind.i64.wrap (0 - y)=0 - y:=bX (by omega) (by omega)
def C7(r:aa×Bool):Option ((aa×Bool×PUnit)×PUnit):=some ((r.1,r.2,()),())
theorem aiH(a:aa):As a=C7 (iG a):=by
 rw[aiG,rS];simp only[Option.bind_some];unfold iG;cases h:bN a with
 | false=>rfl
 | true =>
  obtain⟨a1,a2,a3⟩:=eQ ⟨h,rfl⟩;simp only[Bool.not_true,cond_false,cond_true];rw[xj a2];refine (kE a.1 (λy=>0 - y) (λo=>some (((o,0 - a.2.1,!a.2.2),true,()),())) (λo i=>yH a ([],0,false) (o,0 - a.2.1,!a.2.2) i) (λi hi o ho=>?_) (λo=>?_))
  ·have hd:decide ((o.length+1)*8<=140737488355328)=true:=gH (by omega) (by omega);rw[Ul,aN hi,cond_true,ay hi];simp only[Option.bind_some];rw[hd,cond_true,xj (a1 _ (List.getElem_mem hi)),aI (by omega)]
  ·rw[Ul,aR];rfl
theorem ahr(a:aa):zZ a=C7 (iG a):=by
 rw[ahq,n4];simp only[Option.bind_some];unfold iG;cases h:bN a with
 | false=>rfl
 | true =>
  obtain⟨a1,a2,a3⟩:=eQ ⟨h,rfl⟩;have jb:=kW (R:=Option ((aa×Bool×PUnit)×PUnit)) a.1 8 (by omega) (by omega) (by omega);simp only[Bool.not_true,cond_false,cond_true];rw[jb,xj a2];refine Kh a.1 (λy=>0 - y) (λo=>some (((o,0 - a.2.1,!a.2.2),true,()),())) (λo i=>yp a ([],0,false) (o,0 - a.2.1,!a.2.2) a.1 (a.1.length:Int) i) (λi hi o ho=>?_) (λo _=>?_) _ (by simp)
  ·rw[Tp,aN hi,cond_true,ay hi];simp only[Option.bind_some];rw[ay (show i<o.length by omega)];simp only[Option.bind_some];rw[xj (a1 _ (List.getElem_mem hi)),aI (by omega),Int.toNat_natCast]
  ·rw[Tp,aR];rfl
theorem drop_cons{x:List α}(h:i<x.length):x.drop i=x[i]::x.drop (i+1):=List.drop_eq_getElem_cons h
theorem pA(h:br n a)(hv:v<n):ab a.1 (v:Int)=some (bB a v):=by
 have hl:v<a.1.length:=by rw[h.2];exact hv
 rw[ay hl];unfold bB;rw[List.getD_eq_getElem?_getD,List.getElem?_eq_getElem hl];rfl
theorem Wy{v:Nat}(h:br n a):(bB a v).natAbs<=400000000:=by
 unfold bB;rw[List.getD_eq_getElem?_getD];cases hg:a.1[v]? with
 | none=>simp
 | some y=>exact (eQ h).1 y (List.mem_of_getElem? hg)
theorem Em:∀(l o r:List aa),gk v a l o=some r->r.length<=o.length+l.length
 | [],o,r,h=>by simp only[gk,Option.some.injEq]at h;subst h;simp
 | b::l,o,r,h=>by
  simp only[gk]at h;cases hc:decide (bB b v>=0)with
  | true =>
   rw[hc]at h;have:=Em l o r h;simp only[List.length_cons];omega
  | false =>
   rw[hc]at h;cases hm:(iE a (0 - bB b v) b (bB a v)).2 with
   | false=>rw[hm]at h;cases h
   | true =>
    rw[hm]at h;have:=Em l _ r h;simp only[List.length_append,List.length_cons,List.length_nil]at this ⊢;omega
def Dj:Option ((az×Bool×PUnit)×PUnit):=some ((xX,false,()),())
theorem aa9{v:Nat}(ha:br n a)(hb:br n b)(h1:0<bB a v)(h2:bB b v<0):
  IntKind.i64.wrap (0 - bB b v)=0 - bB b v/\0<=0 - bB b v/\0 - bB b v<=400000000/\0<=bB a v/\bB a v<=400000000:=by
 have n1:=Wy (v:=v) ha;have n2:=Wy (v:=v) hb;exact⟨xj n2,by omega,by omega,by omega,by omega⟩
theorem UB{v:Nat}(hv:v<n)(c z:az)(hL:∀a∈c.2,br n a)(hl:c.2.length<=16)(hi:i<c.2.length):∀(m k:Nat) (o:List aa),m+k=c.2.length->o.length+m<=10000 ->
  rI (v:Int) c z o (i:Int) (k:Int)=match (bif decide (bB (c.2[i]) v<=0)then some o else gk v (c.2[i]) (c.2.drop k) o)with
   | some r=>rJ (v:Int) c z r ((i+1:Nat):Int)
   | none=>Dj
 | 0,k,o,hm,ho=>by
  have e:(bif decide (bB (c.2[i]) v<=0)then some o else gk v (c.2[i]) (c.2.drop k) o)=some o:=by
   rw[List.drop_eq_nil_of_le (by omega)];cases decide (bB (c.2[i]) v<=0)<;>rfl
  have ax:decide ((k:Int)<(c.2.length:Int))=false:=decide_eq_false (by omega);rw[e,UA,ax,cond_false,aI (by omega)]
 | m+1,k,o,hm,ho=>by
  have hk:k<c.2.length:=by omega
  have ki:=hL _ (List.getElem_mem hi);have kk:=hL _ (List.getElem_mem hk);have ih:=λo ho=>UB hv c z hL hl hi m (k+1) o (by omega) ho;rw[UA,aN hk,cond_true,ay hi,ay hk];simp only[Option.bind_some];rw[pA ki hv,pA kk hv];simp only[Option.bind_some];rw[aI (by omega)];cases h1:decide (bB (c.2[i]) v<=0)with
  | true =>
   rw[cond_true,ih o (by omega),h1];rfl
  | false =>
   have p1:=of_decide_eq_false h1;rw[cond_false,drop_cons hk];simp only[gk];cases h2:decide (bB (c.2[k]) v>=0)with
   | true =>
    rw[cond_true,ih o (by omega),h1];rfl
   | false =>
    have p2:=of_decide_eq_false h2;obtain⟨e1,e2,e3,e4,e5⟩:=aa9 (v:=v) ki kk (by omega) (by omega);rw[cond_false,e1,aiF ki kk e2 e3 e4 e5];simp only[Option.bind_some];cases hmx:(iE (c.2[i]) (0 - bB (c.2[k]) v) (c.2[k]) (bB (c.2[i]) v)).2 with
    | false=>rfl
    | true =>
     have hd:decide ((o.length+1)*40<=140737488355328)=true:=gH (by omega) (by omega);simp only[Bool.not_true,cond_false,cond_true];rw[hd,cond_true,ih _ (by simp;omega),h1];rfl
theorem FW(hv:v<n)(c z:az)(h0:0<=c.1)(h4:c.1<=4)(hL:∀a∈c.2,br n a)(hl:c.2.length<=16):∀(m i:Nat) (o:List aa),m+i=c.2.length->o.length<=16+i*16->(∀a∈o,br n a) ->
  rJ (v:Int) c z o (i:Int)=match jl v c.2 (c.2.drop i) o with
   | some r=>gM (jY c.1 r)
   | none=>Dj
 | 0,i,o,hm,ho,hV=>by
  have ax:decide ((i:Int)<(c.2.length:Int))=false:=decide_eq_false (by omega);rw[UD,ax,cond_false,List.drop_eq_nil_of_le (by omega),AE h0 (by omega) hV (by omega)];simp only[Option.bind_some,jl];unfold jY;have e:decide ((((cE c.1 o).2.length:Nat):Int)>16)=decide ((cE c.1 o).2.length>16):=by rw[Bool.eq_iff_iff];simp;omega
  rw[e];cases decide ((cE c.1 o).2.length>16)<;>rfl
 | m+1,i,o,hm,ho,hV=>by
  have hi:i<c.2.length:=by omega
  have:=UB hv c z hL hl hi c.2.length 0 o (by omega) (by omega);rw[Int.natCast_zero]at this;rw[UD,aN hi,cond_true,this,List.drop_zero,drop_cons hi];simp only[jl];cases h1:decide (bB (c.2[i]) v<=0)with
  | true =>
   simp only[cond_true];exact FW hv c z h0 h4 hL hl m (i+1) o (by omega) (by omega) hV
  | false =>
   simp only[cond_false];cases hx:gk v (c.2[i]) c.2 o with
   | none=>rfl
   | some r =>
    have hr:=Em _ _ _ hx;exact FW hv c z h0 h4 hL hl m (i+1) r (by omega) (by omega) (xf (hL _ (List.getElem_mem hi)) _ _ _ hL hV hx)
theorem V5(hc:bw c=true)(hv:v<c.1.toNat):vb c (v:Int)=gM (dV c v):=by
 obtain⟨hL,h0,h4,hl⟩:=cH.1 hc;have key:∀(m i:Nat) (o:List aa),m+i=c.2.length->o.length<=i->uJ (v:Int) c (0,[]) o (i:Int)=rJ (v:Int) c (0,[]) (o++(c.2.drop i).filter λa=>bB a v==0) 0:=by
  intro m;induction m with
  | zero =>
   intro i o hm ho;have ax:decide ((i:Int)<(c.2.length:Int))=false:=decide_eq_false (by omega);rw[UC,ax,cond_false,List.drop_eq_nil_of_le (by omega)];simp
  | succ m ih =>
   intro i o hm ho;have hi:i<c.2.length:=by omega
   have ki:=hL _ (List.getElem_mem hi);have hd:decide ((o.length+1)*40<=140737488355328)=true:=gH (by omega) (by omega);rw[UC,aN hi,cond_true,ay hi];simp only[Option.bind_some];rw[pA ki hv];simp only[Option.bind_some];rw[hd,aI (by omega),drop_cons hi];cases hz:bB (c.2[i]) v==0 with
   | true =>
    rw[cond_true,cond_true,ih (i+1) _ (by omega) (by simp;omega),List.filter_cons_of_pos (p:=λa=>bB a v==0) hz,List.append_assoc];rfl
   | false =>
    rw[cond_false,ih (i+1) _ (by omega) (by omega),List.filter_cons_of_neg (p:=λa=>bB a v==0) (by rw[hz];simp)]
 have k0:=key c.2.length 0 [] (by omega) (by simp);rw[Int.natCast_zero,List.nil_append,List.drop_zero]at k0;have hf:=List.length_filter_le (λa=>bB a v==0) c.2;have k1:=FW hv c (0,[]) h0 h4 hL hl c.2.length 0 (c.2.filter λa=>bB a v==0) (by omega) (by omega) (λa ha=>hL a (List.mem_filter.1 ha).1);rw[Int.natCast_zero,List.drop_zero]at k1;rw[ai5,k0,k1];unfold dV vy;cases jl v c.2 c.2 (c.2.filter λa=>bB a v==0)<;>rfl
theorem Tc{v:Nat}(hv:v<n)(c z:az){L:List aa}(hL:∀a∈L,br n a)(hl:L.length<=16)(ha:br n a)(hp:0<bB a v){i:Nat}(hi:i<=1000):∀(m k:Nat) (o:List aa),m+k=L.length->o.length+m<=10000 ->
  ub (v:Int) c z o a L (L.length:Int) (i:Int) L (L.length:Int) (k:Int)=match gk v a (L.drop k) o with
   | some r=>o3 (v:Int) c z r L (L.length:Int) ((i+1:Nat):Int)
   | none=>Dj
 | 0,k,o,hm,ho=>by
  have ax:decide ((k:Int)<(L.length:Int))=false:=decide_eq_false (by omega);rw[S9,ax,cond_false,List.drop_eq_nil_of_le (by omega),aI (by omega)];rfl
 | m+1,k,o,hm,ho=>by
  have hk:k<L.length:=by omega
  have kk:=hL _ (List.getElem_mem hk);have ih:=λo ho=>Tc hv c z hL hl ha hp hi m (k+1) o (by omega) ho;rw[S9,aN hk,cond_true,ay hk];simp only[Option.bind_some];rw[pA kk hv,pA ha hv];simp only[Option.bind_some];rw[aI (by omega),drop_cons hk];simp only[gk];cases h2:decide (bB (L[k]) v>=0)with
  | true =>
   rw[cond_true,ih o (by omega)];rfl
  | false =>
   have p2:=of_decide_eq_false h2;obtain⟨e1,e2,e3,e4,e5⟩:=aa9 (v:=v) ha kk hp (by omega);rw[cond_false,e1,ahp ha kk e2 e3 e4 e5];simp only[Option.bind_some];cases hmx:(iE a (0 - bB (L[k]) v) (L[k]) (bB a v)).2 with
   | false=>rfl
   | true =>
    have hd:decide ((o.length+1)*40<=140737488355328)=true:=gH (by omega) (by omega);simp only[Bool.not_true,cond_false,cond_true];rw[hd,cond_true,ih _ (by simp;omega)]
theorem FH(hv:v<n)(c z:az)(h0:0<=c.1)(h4:c.1<=4)(hL:∀a∈c.2,br n a)(hl:c.2.length<=16):∀(m i:Nat) (o:List aa),m+i=c.2.length->o.length<=16+i*16->(∀a∈o,br n a) ->
  o3 (v:Int) c z o c.2 (c.2.length:Int) (i:Int)=match jl v c.2 (c.2.drop i) o with
   | some r=>gM (jY c.1 r)
   | none=>Dj
 | 0,i,o,hm,ho,hV=>by
  have ax:decide ((i:Int)<(c.2.length:Int))=false:=decide_eq_false (by omega);rw[S8,ax,cond_false,List.drop_eq_nil_of_le (by omega),VO h0 (by omega) hV (by omega)];rfl
 | m+1,i,o,hm,ho,hV=>by
  have hi:i<c.2.length:=by omega
  have ki:=hL _ (List.getElem_mem hi);rw[S8,aN hi,cond_true,ay hi];simp only[Option.bind_some];rw[pA ki hv];simp only[Option.bind_some];rw[aI (by omega),drop_cons hi];simp only[jl];cases h1:decide (bB (c.2[i]) v<=0)with
  | true =>
   simp only[cond_true];exact FH hv c z h0 h4 hL hl m (i+1) o (by omega) (by omega) hV
  | false =>
   have p1:=of_decide_eq_false h1;have:=Tc hv c z hL hl ki (by omega) (i:=i) (by omega) c.2.length 0 o (by omega) (by omega);rw[Int.natCast_zero,List.drop_zero]at this;simp only[cond_false];rw[this];cases hx:gk v (c.2[i]) c.2 o with
   | none=>rfl
   | some r =>
    have hr:=Em _ _ _ hx;exact FH hv c z h0 h4 hL hl m (i+1) r (by omega) (by omega) (xf ki _ _ _ hL hV hx)
theorem Vs(hc:bw c=true){v:Nat}(hv:v<c.1.toNat):uN c (v:Int)=gM (dV c v):=by
 obtain⟨hL,h0,h4,hl⟩:=cH.1 hc;have key:∀(m i:Nat) (o:List aa),m+i=c.2.length->o.length<=i->uc (v:Int) c (0,[]) o c.2 (c.2.length:Int) (i:Int)=o3 (v:Int) c (0,[]) (o++(c.2.drop i).filter λa=>bB a v==0) c.2 (c.2.length:Int) 0:=by
  intro m;induction m with
  | zero =>
   intro i o hm ho;have ax:decide ((i:Int)<(c.2.length:Int))=false:=decide_eq_false (by omega);rw[Ta,ax,cond_false,List.drop_eq_nil_of_le (by omega)];simp
  | succ m ih =>
   intro i o hm ho;have hi:i<c.2.length:=by omega
   have ki:=hL _ (List.getElem_mem hi);have hd:decide ((o.length+1)*40<=140737488355328)=true:=gH (by omega) (by omega);rw[Ta,aN hi,cond_true,ay hi];simp only[Option.bind_some];rw[pA ki hv];simp only[Option.bind_some];rw[hd,aI (by omega),drop_cons hi];cases hz:bB (c.2[i]) v==0 with
   | true =>
    rw[cond_true,cond_true,ih (i+1) _ (by omega) (by simp;omega),List.filter_cons_of_pos (p:=λa=>bB a v==0) hz,List.append_assoc];rfl
   | false =>
    rw[cond_false,ih (i+1) _ (by omega) (by omega),List.filter_cons_of_neg (p:=λa=>bB a v==0) (by rw[hz];simp)]
 have k0:=key c.2.length 0 [] (by omega) (by simp);rw[Int.natCast_zero,List.nil_append,List.drop_zero]at k0;have hf:=List.length_filter_le (λa=>bB a v==0) c.2;have k1:=FH hv c (0,[]) h0 h4 hL hl c.2.length 0 (c.2.filter λa=>bB a v==0) (by omega) (by omega) (λa ha=>hL a (List.mem_filter.1 ha).1);rw[Int.natCast_zero,List.drop_zero]at k1;have c1:decide ((v:Int)<0)=false:=decide_eq_false (by omega);have c2:decide ((v:Int)>=c.1)=false:=decide_eq_false (by omega);rw[ag5,n5,hc];simp only[Option.bind_some,Bool.not_true,cond_false];rw[c1,c2,cond_false,cond_false,k0,k1];unfold dV vy;cases jl v c.2 c.2 (c.2.filter λa=>bB a v==0)<;>rfl
def nT(r:Bool×Bool):Option ((Bool×Bool×PUnit)×PUnit):=some ((r.1,r.2,()),())
theorem aaN(l:List aa):decide (((l.length:Nat):Int)>0)=decide (l.length>0):=by rw[Bool.eq_iff_iff];simp
theorem Ud:∀(n:Nat) (c:az),bw c=true->n<=c.1.toNat->yG c ((n:Int) - 1)=nT (match oq n c with
   | some r=>(decide (r.2.length>0),true)
   | none=>(false,false))
 | 0,c,hc,hn=>by
  rw[Uc,show decide ((((0:Nat):Int) - 1)>=0)=false from rfl,cond_false,aaN];rfl
 | n+1,c,hc,hn=>by
  have h4:=(cH.1 hc).2.2.1;have e:(((n+1:Nat):Int) - 1)=(n:Int):=by omega
  have lJ:decide ((n:Int)>=0)=true:=decide_eq_true (by omega);rw[e,Uc,lJ,cond_true,V5 hc (by omega)];unfold gM;simp only[Option.bind_some,oq];cases hd:(dV c n).2 with
  | false=>rfl
  | true =>
   have k:=Kc hc hd;simp only[Bool.not_true,cond_false,cond_true];rw[show IntKind.i64.wrap ((n:Int) - 1)=(n:Int) - 1 from bX (by omega) (by omega)];exact Ud n _ k.1 (by rw[k.2];omega)
theorem VT(c:az)(hl:c.2.length<=68719476736):uZ c=nT (iT c):=by
 rw[aiu,rT c hl];simp only[Option.bind_some];unfold iT;cases hc:bw c with
 | false=>rfl
 | true =>
  obtain⟨h1,h2,h3,h4⟩:=cH.1 hc;simp only[Bool.not_true,cond_false,cond_true];rw[AE h2 (by omega) h1 (by omega)];simp only[Option.bind_some];have:=Ud c.1.toNat (cE c.1 c.2) (tk hc) (by rw[iH];omega);rw[show IntKind.i64.wrap (c.1 - 1)=((c.1.toNat:Nat):Int) - 1 by rw[bX (by omega) (by omega)];omega,this];unfold Ke;rw[iH]
  all_goals (cases oq c.1.toNat (cE c.1 c.2)<;>rfl)
theorem TV:∀(n:Nat) (c:az) (l:List az),bw c=true->n<=c.1.toNat->n<l.length->l.length<=100->l[n]?=some c ->
  (oq n c=none/\o4 l ((n:Int) - 1)=some (([],false,()),()))\/∃r l',oq n c=some r/\o4 l ((n:Int) - 1)=some ((l',true,()),())/\l'[0]?=some r
 | 0,c,l,hc,hn,hl,kK,hg=>by
  refine .inr ⟨c,l,rfl,?_,hg⟩;rw[TW];rfl
 | n+1,c,l,hc,hn,hl,kK,hg=>by
  have h4:=(cH.1 hc).2.2.1;have e:(((n+1:Nat):Int) - 1)=(n:Int):=by omega
  have lJ:decide ((n:Int)>=0)=true:=decide_eq_true (by omega);have DM:ab l ((n+1:Nat):Int)=some c:=by
   rw[ay hl];rw[List.getElem?_eq_getElem hl]at hg;exact hg
  have aml:=Vs hc (v:=n) (by omega);rw[e];have heq:o4 l (n:Int)=bif !(dV c n).2 then some (([],false,()),())else o4 (l.set n (dV c n).1) ((n:Int) - 1):=by
   rw[TW,lJ,cond_true,aI (by omega),DM];simp only[Option.bind_some];rw[aml];unfold gM;simp only[Option.bind_some];rw[ay (show n<l.length by omega)];simp only[Option.bind_some];rw[show IntKind.i64.wrap ((n:Int) - 1)=(n:Int) - 1 from bX (by omega) (by omega),Int.toNat_natCast]
  rw[heq];simp only[oq];cases hd:(dV c n).2 with
  | false=>exact .inl ⟨rfl,rfl⟩
  | true =>
   have k:=Kc hc hd;simp only[Bool.not_true,cond_false,cond_true];exact TV n _ _ k.1 (by rw[k.2];omega) (by rw[List.length_set];omega) (by rw[List.length_set];exact kK) (by rw[List.getElem?_set_self (by omega)])
theorem Vu(c:az):zM c=nT (iT c):=by
 rw[ahc,ail,n5 c];simp only[Option.bind_some];unfold iT;cases hc:bw c with
 | false=>rfl
 | true =>
  obtain⟨h1,h2,h3,h4⟩:=cH.1 hc;obtain⟨n,hn⟩:∃n:Nat,c.1=n:=⟨c.1.toNat,by omega⟩;have w1:IntKind.i64.wrap (c.1+1)=c.1+1:=bX (by omega) (by omega);have w2:IntKind.i64.wrap (c.1 - 1)=((n:Nat):Int) - 1:=by rw[bX (by omega) (by omega)];omega
  have jb:(decide (0<=c.1+1)&&decide (c.1+1<=c.1+1)&&decide ((c.1+1)*((32:Nat):Int)<=140737488355328)&&decide (c.1+1<=9223372036854775807))=true:=by simp;omega
  have YG:(decide (0<=c.1+1)&&decide (c.1+1<=c.1+1)&&decide ((c.1+1)*32<=140737488355328)&&decide (c.1+1<=9223372036854775807))=true:=jb;have YF:(decide (0<=c.1+1)&&decide (c.1+1<=c.1+1)&&decide ((c.1+1)*((32:Nat):(Ty.int IntKind.i64).den)<=140737488355328)&&decide (c.1+1<=9223372036854775807))=true:=jb;simp only[Bool.not_true,cond_false,cond_true];rw[w1,w2,HX h2 (by omega) h1 (by omega)];simp only[Option.bind_some];have sS:(List.replicate (c.1+1).toNat ((0,[]):az)).length=n+1:=by rw[List.length_replicate];omega
  have vZ:ab (List.replicate (c.1+1).toNat ((0,[]):az)) c.1=some (0,[]):=by
   rw[hn,ay (by rw[<-hn,sS];omega)];simp
  have key:=TV n (cE c.1 c.2) ((List.replicate (c.1+1).toNat ((0,[]):az)).set n (cE c.1 c.2)) (tk hc) (by rw[iH];omega) (by rw[List.length_set,sS];omega) (by rw[List.length_set,sS];omega) (by rw[List.getElem?_set_self (by rw[sS];omega)]);have Y8:Int.toNat c.1=n:=by omega
  rw[vZ];simp only[Option.bind_some];rw[Y8];unfold Ke;rw[iH,show c.1.toNat=n from Y8];rcases key with⟨k1,k2⟩|⟨r,l',k1,k2,k3⟩
  ·rw[k1,k2]
   first|(rw[YG];rfl)|(rw[YF];rfl)|(rw[jb];rfl)
  ·rw[k1,k2];have jQ:0<l'.length:=by
    rw[List.getElem?_eq_some_iff]at k3;exact k3.1
   have hgr:ab l' 0=some r:=by
    have:=ay (xs:=l') jQ;rw[Int.natCast_zero]at this;rw[this];rw[List.getElem?_eq_getElem jQ]at k3;exact k3
   first|rw[YG]|rw[YF]|rw[jb]
   simp only[cond_true,Option.bind_some,Bool.not_true,cond_false];rw[hgr];simp only[Option.bind_some];rw[aaN];rfl
theorem ap3(a:aa)(h:(iG a).2=true):(iG a).1.1.length=a.1.length:=by
 unfold iG at *
 cases ha:bN a with
 | false=>rw[ha]at h;cases h
 | true=>simp
theorem aiq(c:az)(a:aa)(hl:c.2.length<=68719476736):H4 c a=nT (jV c a):=by
 rw[aip,aiH];unfold C7;simp only[Option.bind_some];rw[VW c _ hl (by simp)];unfold gM;simp only[Option.bind_some];unfold jV;cases h1:(iG a).2 with
 | false=>rfl
 | true =>
  simp only[Bool.not_true,cond_false,Bool.true_and];cases h2:(eF c ((a.1.length:Int),[(iG a).1])).2 with
  | false=>rfl
  | true =>
   have m:=aa0 h2;have ml:=(cH.1 m.1).2.2.2;simp only[Bool.not_true,cond_false,cond_true];rw[VT _ (by omega)];rfl
theorem ag8(c:az)(a:aa):HG c a=nT (jV c a):=by
 rw[ag7,ahr];unfold C7;simp only[Option.bind_some];unfold jV;cases h1:(iG a).2 with
 | false=>rfl
 | true =>
  simp only[Bool.not_true,cond_false,Bool.true_and];rw[ap3 a h1,Vx];unfold gM;simp only[Option.bind_some];cases h2:(eF c ((a.1.length:Int),[(iG a).1])).2 with
  | false=>rfl
  | true =>
   simp only[Bool.not_true,cond_false,cond_true];rw[Vu];rfl
theorem vu(h:bw c=true):po c=some ((c,()),())/\rO c=some ((c,()),()):=by
 obtain⟨h1,h2,h3,h4⟩:=cH.1 h;have pQ:∀a∈c.2,a.1.length<=68719476736:=λa ha=>by have:=(eQ (h1 a ha)).2.2;omega
 constructor
 ·rw[ai4];have:=kE c.2 id (λo=>some (((c.1,o),()),())) (λo i=>yQ c (0,[]) (c.1,o) i) (λi hi o ho=>by
   have hd:decide ((o.length+1)*40<=140737488355328)=true:=gH (by omega) (by omega);rw[Uz,aN hi,cond_true,ay hi];simp only[Option.bind_some];rw[H5 _ (pQ _ (List.getElem_mem hi))];simp only[Option.bind_some];rw[hd,cond_true,aI (by omega)];rfl) (λo=>by rw[Uz,aR];rfl)
  rw[this,List.map_id]
 ·rw[VE];have jb:(decide ((0:Int)<=0)&&decide (0<=(c.2.length:Int))&&decide ((c.2.length:Int)*((40:Nat):Int)<=140737488355328)&&decide ((c.2.length:Int)<=9223372036854775807))=true:=by simp;omega
  have this:=kE c.2 id (λo=>some (((c.1,o),()),())) (λo i=>rm c (0,[]) (c.1,o) c.2 (c.2.length:Int) i) (λi hi o ho=>by
   have hd:decide ((o.length+1)*40<=140737488355328)=true:=gH (by omega) (by omega);rw[yw,aN hi,cond_true,ay hi];simp only[Option.bind_some];rw[uT _ (pQ _ (List.getElem_mem hi))];simp only[Option.bind_some];rw[hd,cond_true,aI (by omega)];rfl) (λo=>by rw[yw,aR];rfl)
  refine Eq.trans (b:=(bif (decide ((0:Int)<=0)&&decide (0<=(c.2.length:Int))&&decide ((c.2.length:Int)*((40:Nat):Int)<=140737488355328)&&decide ((c.2.length:Int)<=9223372036854775807))then rm c (0,[]) (c.1,[]) c.2 (c.2.length:Int) 0 else none)) rfl ?_;rw[jb,cond_true,this,List.map_id]
theorem au0{db:List Rel}{v:a8}(h:mv db v=true):v.2.length<=24/\∀s∈v.2,bw s.1=true/\s.1.1=4:=by
 unfold mv at h;simp only[Bool.and_eq_true,decide_eq_true_eq,List.all_eq_true]at h;obtain⟨_,h1,h2⟩:=h;refine⟨by omega,λs hs=>?_⟩;have:=h2 s hs;unfold lk at this;simp only[Bool.and_eq_true,Bool.not_eq_true',bne_eq_false_iff_eq]at this;exact⟨this.1,by simpa using this.2.1⟩
theorem alm(h:bw c=true):zC c<=80:=by
 obtain⟨h1,h2,h3,h4⟩:=cH.1 h;have:=E5 zA 4 c.2 (λa ha=>aqg (h1 a ha));have h5:c.2.length*5<=16*5:=Nat.mul_le_mul_right _ h4;show zL zA c.2<=80;omega
theorem Xq(x:List α)(h:α->List β)(hh:∀a,(h a).length<=1)(E:List β->Option R)(f:List β->Int->Option R)
  (h1:∀(i:Nat) (hi:i<x.length) (o:List β),o.length<=i->f o (i:Int)=f (o++h x[i]) ((i+1:Nat):Int)) (h2:∀o,f o (x.length:Int)=E o) :
  ∀(n i:Nat) (o:List β),n+i=x.length->o.length<=i->f o (i:Int)=E (o++(x.drop i).flatMap h)
 | 0,i,o,hn,_=>by
  obtain rfl:i=x.length:=by omega
  rw[h2,List.drop_eq_nil_of_le (by omega)];simp
 | n+1,i,o,hn,ho=>by
  have hi:i<x.length:=by omega
  have:=hh x[i];rw[h1 i hi o ho,Xq x h hh E f h1 h2 n (i+1) _ (by omega) (by simp;omega),List.drop_eq_getElem_cons hi,List.flatMap_cons,List.append_assoc]
theorem alE(x:List α)(h:α->List β)(hh:∀a,(h a).length<=1)(E:List β->Option R)(f:List β->Int->Option R)
  (h1:∀(i:Nat) (hi:i<x.length) (o:List β),o.length<=i->f o (i:Int)=f (o++h x[i]) ((i+1:Nat):Int)) (h2:∀o,f o (x.length:Int)=E o):f [] 0=E (x.flatMap h):=by
 have:=Xq x h hh E f h1 h2 x.length 0 [] (by omega) (by simp);rw[Int.natCast_zero]at this;rw[this];simp
theorem alH(g:α->β)(x:List α):x.flatMap (λa=>[g a])=x.map g:=by
 induction x with
 | nil=>rfl
 | cons a l ih=>rw[List.flatMap_cons,ih];rfl
theorem xw(x:List α)(g:α->β)(E:List β->Option R)(f:List β->Int->Option R)
  (h1:∀(i:Nat) (hi:i<x.length) (o:List β),o.length<=i->f o (i:Int)=f (o++[g x[i]]) ((i+1:Nat):Int)) (h2:∀o,f o (x.length:Int)=E o):f [] 0=E (x.map g):=by
 have:=alE x (λa=>[g a]) (λ_=>by simp) E f h1 h2;rw[this,alH]
theorem HK(a:List Int)(h:a.length<=68719476736):uU a=some ((a,()),()):=by
 rw[VF,xH h];rfl
theorem xc(x:List α):x.map (λa=>a)=x:=by induction x with
 | nil=>rfl
 | cons a l ih=>simp
theorem aba(x:List α)(c:Int)(hl:x.length<=68719476736)(h0:0<=c)(hc:c<=1000):(decide ((0:Nat)<=0)&&decide ((0:Int)<=(x.length:Int))&&decide ((x.length:Int)*c<=140737488355328)&&decide ((x.length:Int)<=9223372036854775807))=true:=by
 have h1:(x.length:Int)*c<=(x.length:Int)*1000:=Int.mul_le_mul_of_nonneg_left hc (by omega);have h2:(x.length:Int)*c<=140737488355328:=by omega
 simp only[h2,decide_true,Bool.and_true,Bool.and_eq_true,decide_eq_true_eq];omega
theorem ahH(c:az)(h:zC c<=68719476736):rO c=some ((c,()),()):=by
 have hl:c.2.length<=68719476736:=Nat.le_trans (ch _ _) h;rw[VE,aba c.2 40 hl (by omega) (by omega),cond_true];have e:List.replicate (Int.toNat 0) (([],0,false):aa)=[]:=rfl;rw[e];rw[xw c.2 (λa=>a) (λo=>some (((c.1,o),()),())) (λo i=>rm c (0,[]) (c.1,o) c.2 (c.2.length:Int) i) (λi hi o ho=>by
  rw[yw,aN hi,ay hi,aI (by omega)];simp only[cond_true,Option.bind_some];rw[uT _ (Nat.le_trans (cK zA (List.getElem_mem hi)) h)];simp only[Option.bind_some];rw[gH (by omega) (by omega),cond_true]) (λo=>by rw[yw,aR];rfl),xc]
theorem Ax(l:List (List Int))(h:zL zI l<=68719476736):pk l=some ((l,()),()):=by
 have hl:l.length<=68719476736:=Nat.le_trans (ch _ _) h;rw[aiQ];rw[xw l (λa=>a) (λo=>some ((o,()),())) (λo i=>yL l o i) (λi hi o ho=>by
  rw[Ur,aN hi,ay hi,aI (by omega)];simp only[cond_true,Option.bind_some];have hz:l[i].length<=68719476736:=Nat.le_trans (cK zI (List.getElem_mem hi)) h;rw[xH hz,cond_true,gH (by omega) (by omega),cond_true]) (λo=>by rw[Ur,aR];rfl),xc]
theorem VH(l:List (List Int))(h:zL zI l<=68719476736):pd [l]=some ((l,()),()):=by
 have hl:l.length<=68719476736:=Nat.le_trans (ch _ _) h;rw[VG,uw];have e1:decide ((0:Int)<(([l]:List (List (List Int))).length:Int))=true:=by simp
 have e2:ab [l] 0=some l:=rfl;rw[e1,e2,cond_true,Option.bind_some];rw[xw l (λa=>a) (λo=>some ((o,()),())) (λo i=>ux [l] o l [l] (([l]:List (List (List Int))).length:Int) 0 l (l.length:Int) i) (λi hi o ho=>by
  rw[yy,aN hi,ay hi,aI (by omega)];simp only[cond_true,Option.bind_some];rw[HK _ (Nat.le_trans (cK zI (List.getElem_mem hi)) h)];simp only[Option.bind_some];rw[gH (by omega) (by omega),cond_true]) (λo=>by
   rw[yy,aR,cond_false,uw];rfl),xc]
theorem ahS(s:af)(h:zP s<=68719476736):HM s=some ((s,()),()):=by
 have hz:zP s=zC s.1+zL zI s.2:=rfl;rw[ahR,ahH s.1 (by omega)];simp only[Option.bind_some];rw[VH s.2 (by omega)];rfl
theorem ahL(n:ao)(h:zN n<=68719476736):HJ n=some ((n,()),()):=by
 have hz:zN n=zA n.2.1+zB n.2.2.1+zB n.2.2.2.1+zI n.2.2.2.2.1:=rfl;rw[ahK,uT n.2.1 (show zA n.2.1<=68719476736 by omega)];simp only[Option.bind_some];rw[HK n.2.2.2.2.1 (by unfold zI at hz;omega)];rfl
theorem ahN(f:List ao)(h:zL zN f<=68719476736):Ab f=some ((f,()),()):=by
 have hl:f.length<=68719476736:=Nat.le_trans (ch _ _) h;rw[ahM,aba f 128 hl (by omega) (by omega),cond_true];have e:List.replicate (Int.toNat 0) ((0,([],0,false),ByteArray.empty,ByteArray.empty,[],0,0,0):ao)=[]:=rfl;rw[e];rw[xw f (λa=>a) (λo=>some ((o,()),())) (λo i=>yx f o f (f.length:Int) i) (λi hi o ho=>by
  rw[TF,aN hi,ay hi,aI (by omega)];simp only[cond_true,Option.bind_some];rw[ahL _ (Nat.le_trans (cK zN (List.getElem_mem hi)) h)];simp only[Option.bind_some];rw[gH (by omega) (by omega),cond_true]) (λo=>by rw[TF,aR];rfl),xc]
theorem ajd(f:List ao)(h:zL zN f<=68719476736)(hw:∀n∈f,cF xr n):AG [] f=some ((f,()),()):=by
 have hl:f.length<=68719476736:=Nat.le_trans (ch _ _) h;rw[ajc];have e0:((([]:List ao).length:Nat):Int)=0:=rfl;rw[e0];rw[xw f (λa=>a) (λo=>some ((o,()),())) (λo i=>mz o f 0 i) (λi hi o ho=>by
  have hz:=Nat.le_trans (cK zN (List.getElem_mem hi)) h;have Lp:zN f[i]=zA f[i].2.1+zB f[i].2.2.1+zB f[i].2.2.2.1+zI f[i].2.2.2.2.1:=rfl;have hn:=hw _ (List.getElem_mem hi);have m0:IntKind.i64.min = -9223372036854775808:=by decide
  have m1:IntKind.i64.max=9223372036854775807:=by decide
  have wa:IntKind.i64.wrap (f[i].2.2.2.2.2.2.1+0)=f[i].2.2.2.2.2.2.1:=by
   have this:IntKind.i64.min<=f[i].2.2.2.2.2.2.1/\f[i].2.2.2.2.2.2.1<=IntKind.i64.max:=hn.2.2.2.2.2.2.1;rw[m0,m1]at this;rw[Int.add_zero];exact bX this.1 this.2
  have wb:IntKind.i64.wrap (f[i].2.2.2.2.2.2.2+0)=f[i].2.2.2.2.2.2.2:=by
   have this:IntKind.i64.min<=f[i].2.2.2.2.2.2.2/\f[i].2.2.2.2.2.2.2<=IntKind.i64.max:=hn.2.2.2.2.2.2.2;rw[m0,m1]at this;rw[Int.add_zero];exact bX this.1 this.2
  rw[UI,aN hi,ay hi,aI (by omega)];simp only[cond_true,Option.bind_some];rw[H5 (f[i]).2.1 (show zA (f[i]).2.1<=68719476736 by omega)];simp only[Option.bind_some];rw[xH (by unfold zI at Lp;omega),cond_true,wa,wb,gH (by omega) (by omega)];simp only[cond_true];cases decide (f[i].1>1)<;>cases f[i].1==3<;>cases f[i].1==4<;>rfl) (λo=>by rw[UI,aR];rfl),xc]
def hZ(p q:List Int):Bool:=match p,q with
 | [a,b],[c,d]=>(a==c)&&(b==d)
 | _,_=>false
def Du(l:List (List Int)):Prop:=l.length<=68719476736/\∀p∈l,∃a b,p=[a,b]/\0<=b/\b<=68719476736
theorem aiS(s:af)(p0 p1:Int)(hs:Du s.2):Ay s p0 p1=some ((s.2.any (λq=>hZ q [p0,p1]),()),()):=by
 rw[aiR];have:=jE s.2 (λq => !hZ q [p0,p1]) (some ((true,()),())) (some ((false,()),())) (λi=>uH p0 p1 s i) hs.1 (λi hi=>?_) (by rw[Us,aR];rfl)
 ·rw[this];have e:s.2.all (λq => !hZ q [p0,p1]) = !s.2.any (λq=>hZ q [p0,p1]):=by rw[List.not_any_eq_all_not]
  rw[e];cases s.2.any _<;>rfl
 ·obtain⟨q0,q1,hq,_⟩:=hs.2 _ (List.getElem_mem hi);rw[Us,aN hi,aI (by have:=hs.1;omega)];simp only[cond_true,ay hi,Option.bind_some,hq,vG,vH,hZ];cases q0==p0<;>cases q1==p1<;>rfl
theorem ahw(s:af)(p0 p1:Int)(hs:Du s.2):z6 s p0 p1=some ((s.2.any (λq=>hZ q [p0,p1]),()),()):=by
 rw[ahv];have:=jE s.2 (λq => !hZ q [p0,p1]) (some ((true,()),())) (some ((false,()),())) (λi=>um p0 p1 s s.2 (s.2.length:Int) i) hs.1 (λi hi=>?_) (by rw[Tt,aR];rfl)
 ·rw[this];have e:s.2.all (λq => !hZ q [p0,p1]) = !s.2.any (λq=>hZ q [p0,p1]):=by rw[List.not_any_eq_all_not]
  rw[e];cases s.2.any _<;>rfl
 ·obtain⟨q0,q1,hq,_⟩:=hs.2 _ (List.getElem_mem hi);rw[Tt,aN hi,aI (by have:=hs.1;omega)];simp only[cond_true,ay hi,Option.bind_some,hq,vG,vH,hZ];cases q0==p0<;>cases q1==p1<;>rfl
theorem alU{db:List Rel}(zd:zL zQ db<=68719476736)(hz:zP s<=68719476736)(h:lk db s=true):Du s.2:=by
 unfold lk at h;simp only[Bool.and_eq_true,List.all_eq_true]at h;have hzp:zP s=zC s.1+zL zI s.2:=rfl;refine⟨Nat.le_trans (ch zI s.2) (by omega),λp hp=>?_⟩;have h2:=h.2.2.2 p hp;unfold mh at h2;simp only[Bool.and_eq_true]at h2;obtain⟨a,b,rfl⟩:=Nb h2.1;have h3:=h2.2;rw[vG,vH]at h3;simp only[Bool.and_eq_true,decide_eq_true_eq]at h3;refine⟨a,b,rfl,h3.2.2.1,?_⟩;have h4:=h3.2.2.2;split at h4
 ·rename_i r hr;have hm:r∈db:=by
   unfold ab at hr;split at hr
   ·exact List.mem_of_getElem? hr
   ·cases hr
  have hq:=cK zQ hm;have YW:zQ r=zB r.1+zL zR r.2.2:=rfl;have hq3:=ch zR r.2.2;simp only[decide_eq_true_eq]at h4;omega
 ·cases h4
theorem L3(d:Int):∀(post pre r:List aa),kV d pre post=some r->(∀a∈r,a∈pre\/a∈post)/\r.length<=pre.length+post.length
 | [],pre,r,h=>by
  unfold kV at h;cases h;exact⟨λa ha=>.inl ha,by simp⟩
 | a::post,pre,r,h=>by
  unfold kV at h;cases h1:(jV (d,pre++post) a).2 with
  | false=>rw[h1]at h;cases h
  | true =>
   rw[h1,cond_true]at h;cases h2:(jV (d,pre++post) a).1 with
   | true =>
    rw[h2,cond_true]at h;obtain⟨k1,k2⟩:=L3 d post pre r h;exact⟨λb hb=>(k1 b hb).imp id (List.mem_cons_of_mem _),by rw[List.length_cons];omega⟩
   | false =>
    rw[h2,cond_false]at h;obtain⟨k1,k2⟩:=L3 d post (pre++[a]) r h;refine⟨λb hb=>?_,by rw[List.length_append,List.length_singleton]at k2;rw[List.length_cons];omega⟩;rcases k1 b hb with k|k
    ·rcases List.mem_append.1 k with k|k
     ·exact .inl k
     ·exact .inr (List.mem_cons.2 (.inl (List.mem_singleton.1 k)))
    ·exact .inr (List.mem_cons_of_mem _ k)
theorem ap8(h0:0<=d)(h1:d<=4):bw (kc d)=true :=
 cH.2 ⟨λa ha=>by rw[List.mem_singleton.1 ha];exact abw h0 h1,h0,h1,by simp[kc]⟩
theorem aa2{m:az}(hc:bw c=true)(h:oO c=some m):bw m=true/\m.1=c.1/\∀a∈m.2,a∈(kc c.1).2\/a∈c.2:=by
 obtain⟨k1,k2,k3,k4⟩:=cH.1 hc;unfold oO at h;cases h1:(iT c).2 with
 | false=>rw[h1]at h;cases h
 | true =>
  rw[h1,cond_true]at h;cases h2:(iT c).1 with
  | true=>rw[h2,cond_true]at h;cases h;exact⟨ap8 k2 k3,rfl,λa ha=>.inl ha⟩
  | false =>
   rw[h2,cond_false]at h;cases h3:kV c.1 [] c.2 with
   | none=>rw[h3]at h;cases h
   | some l =>
    rw[h3]at h;cases h;obtain⟨j1,j2⟩:=L3 _ _ _ _ h3;have j3:∀a∈l,a∈c.2:=λa ha=>(j1 a ha).resolve_left (by simp);exact⟨cH.2 ⟨λa ha=>k1 a (j3 a ha),k2,k3,by simpa using Nat.le_trans j2 (by simpa using k4)⟩,rfl,λa ha=>.inr (j3 a ha)⟩
theorem Ek{m:az}(h:kU c=some m):bw c=true/\bw m=true/\m.1=c.1:=by
 unfold kU at h;cases hc:bw c with
 | false=>rw[hc]at h;cases h
 | true =>
  rw[hc,cond_true]at h;have:=aa2 (tk hc) h;exact⟨rfl,this.1,by rw[this.2.1,iH]⟩
def sk(c:az):Bool:=match c.2 with
 | [a] => !eL a
 | _=>false
def Di(c:az):Bool:=match c.2 with
 | [a] => !eL a&&(a.2.1==1 && !a.2.2)
 | _=>false
theorem apV{m:az}(h:kU c=some m):Di m=sk m:=by
 obtain⟨hc,hm,_⟩:=Ek h;unfold kU at h;rw[hc,cond_true]at h;have hs:=(aa2 (tk hc) h).2.2;have hn:∀a∈m.2,eL a=true\/a=(List.replicate c.1.toNat (0:Int),1,false):=by
  intro a ha;rcases hs a ha with k|k
  ·rw[iH]at k;exact .inr (List.mem_singleton.1 k)
  ·unfold cE at k;cases hb:c.2.any fQ with
   | true=>rw[hb,cond_true]at k;exact .inr (List.mem_singleton.1 k)
   | false =>
    rw[hb,cond_false]at k;rcases Ko _ _ _ k with k|k
    ·simp at k
    ·exact .inl (List.mem_filter.1 k).2
 unfold Di sk
 match gU:m.2 with
 | []=>rfl
 | [a] =>
  dsimp only;rcases hn a (by rw[gU];exact List.mem_singleton.2 rfl)with k|k
  ·rw[k];rfl
  ·rw[k];simp
 | a::b::l=>rfl
def fB(l:List af)(c:az)(f:List (List Int)):Option (List af):=
 match kU c with
 | none=>none
 | some m=>bif decide (l.length>=24)then none else bif sk m then some l else some (l++[(m,f)])
def iD:Option az->Option ((az×Bool×PUnit)×PUnit)
 | some m=>some ((m,true,()),())
 | none=>some ((xX,false,()),())
theorem W2(pre:List α)(a:α)(post:List α):List.drop (Int.toNat 0) (List.take ((pre.length:Int)).toNat (pre++a::post))=pre:=by
 rw[Int.toNat_natCast,List.take_left];rfl
theorem W1(pre:List α)(a:α)(post:List α)(h:pre.length<=1000):List.drop (IntKind.i64.wrap ((pre.length:Int)+1)).toNat (List.take (pre++a::post).length (pre++a::post))=post:=by
 rw[aI (by omega),Int.toNat_natCast,List.take_length,show pre++a::post=(pre++[a])++post by simp];exact List.drop_left' (by simp)
theorem Wv(pre:List α)(a:α)(post:List α)(h:pre.length<=1000):
  (decide ((0:Nat)<=0)&&decide (0<=(pre.length:Int))&&decide ((pre.length:Int)<=((pre++a::post).length:Int)))=true /\
  (decide (0<=IntKind.i64.wrap ((pre.length:Int)+1))&&decide (IntKind.i64.wrap ((pre.length:Int)+1)<=((pre++a::post).length:Int))&&decide (((pre++a::post).length:Int)<=((pre++a::post).length:Int)))=true /\
  decide ((pre.length:Int)<((pre++a::post).length:Int))=true/\ab (pre++a::post) (pre.length:Int)=some a:=by
 rw[aI (by omega)];refine⟨by simp;omega,by simp;omega,by simp;omega,?_⟩;rw[ay (by simp)];simp
theorem FX(h0:0<=d)(h4:d<=4)(x z:az)(hx:x.1=d):∀(post pre:List aa),(∀a∈pre++post,br d.toNat a)->(pre++post).length<=16 ->
  uK x z (d,pre++post) (pre.length:Int)=iD ((kV d pre post).map λl=>(d,l))
 | [],pre,_,_=>by
  rw[UE,List.append_nil,aR,cond_false];rfl
 | a::post,pre,hk,hl=>by
  have hp:pre.length<=16:=by rw[List.length_append]at hl;omega
  have hq:(pre++post).length<=16:=by rw[List.length_append,List.length_cons]at hl;rw[List.length_append];omega
  have aH:∀b∈pre++post,br d.toNat b:=λb hb=>hk b (by
   rcases List.mem_append.1 hb with h|h
   ·exact List.mem_append_left _ h
   ·exact List.mem_append_right _ (List.mem_cons_of_mem _ h))
  have pS:bw (d,pre++post)=true:=cH.2 ⟨aH,h0,h4,hq⟩;obtain⟨e1,e2,e3,e4⟩:=Wv pre a post (by omega);rw[UE];dsimp only;rw[e3,cond_true,e1,cond_true,W2,W1 pre a post (by omega),e2,cond_true,e4,hx];have d1:decide ((0+pre.length)*40<=140737488355328)=true:=decide_eq_true (by omega);have d2:decide ((pre.length+post.length)*40<=140737488355328)=true:=decide_eq_true (by rw[List.length_append]at hq;omega);rw[d1,cond_true,d2,cond_true];simp only[Option.bind_some];rw[aiq _ _ (by show (pre++post).length<=_;omega)];unfold kV nT;simp only[Option.bind_some];cases h1:(jV (d,pre++post) a).2 with
  | false=>rfl
  | true =>
   simp only[Bool.not_true,cond_false,cond_true];cases h2:(jV (d,pre++post) a).1 with
   | true =>
    simp only[cond_true];rw[(vu pS).1];simp only[Option.bind_some];exact FX h0 h4 x z hx post pre aH hq
   | false =>
    simp only[cond_false];rw[aI (by omega)];have:=FX h0 h4 x z hx post (pre++[a]) (by simpa using hk) (by simpa using hl);rw[show (pre++[a])++post=pre++a::post by simp,show (pre++[a]).length=pre.length+1 by simp]at this;exact this
theorem ai7{x:az}(h:bw x=true):AB x=iD (oO x):=by
 obtain⟨k1,k2,k3,k4⟩:=cH.1 h;rw[ai6,VT _ (by omega)];unfold oO nT;simp only[Option.bind_some];cases h1:(iT x).2 with
 | false=>rfl
 | true =>
  simp only[Bool.not_true,cond_false,cond_true];cases h2:(iT x).1 with
  | true =>
   simp only[cond_true];rw[H6 k2 (by omega)];rfl
  | false =>
   simp only[cond_false];rw[(vu h).1];simp only[Option.bind_some];exact FX k2 k3 x (0,[]) rfl x.2 [] (by simpa using k1) (by simpa using k4)
theorem FJ(h0:0<=d)(h4:d<=4)(x z:az)(hx:x.1=d):∀(post pre:List aa),(∀a∈pre++post,br d.toNat a)->(pre++post).length<=16 ->
  ui x z (d,pre++post) (pre.length:Int)=iD ((kV d pre post).map λl=>(d,l))
 | [],pre,_,_=>by
  rw[Tn,List.append_nil,aR,cond_false];rfl
 | a::post,pre,hk,hl=>by
  have hp:pre.length<=16:=by rw[List.length_append]at hl;omega
  have hq:(pre++post).length<=16:=by rw[List.length_append,List.length_cons]at hl;rw[List.length_append];omega
  have hpo:post.length<=16:=by rw[List.length_append]at hq;omega
  have aH:∀b∈pre++post,br d.toNat b:=λb hb=>hk b (by
   rcases List.mem_append.1 hb with h|h
   ·exact List.mem_append_left _ h
   ·exact List.mem_append_right _ (List.mem_cons_of_mem _ h))
  obtain⟨e1,e2,e3,e4⟩:=Wv pre a post (by omega);rw[Tn];dsimp only;rw[e3,cond_true,e1,cond_true,W2,W1 pre a post (by omega),e2,cond_true,e4,hx,NA (by omega) (by omega)];simp only[Option.bind_some];rw[ag8]
  conv=>rhs;unfold kV
  unfold nT;simp only[Option.bind_some];cases h1:(jV (d,pre++post) a).2 with
  | false=>rfl
  | true =>
   simp only[Bool.not_true,cond_false,cond_true];cases h2:(jV (d,pre++post) a).1 with
   | true =>
    simp only[cond_true];exact FJ h0 h4 x z hx post pre aH hq
   | false =>
    simp only[cond_false];rw[aI (by omega)];have:=FJ h0 h4 x z hx post (pre++[a]) (by simpa using hk) (by simpa using hl);rw[show (pre++[a])++post=pre++a::post by simp,show (pre++[a]).length=pre.length+1 by simp]at this;exact this
theorem ahn(c:az):zX c=iD (kU c):=by
 rw[ahm,ahs,n5];unfold kU;simp only[Option.bind_some];cases hc:bw c with
 | false=>rfl
 | true =>
  obtain⟨k1,k2,k3,k4⟩:=cH.1 hc;have hn:=tk hc;obtain⟨j1,j2,j3,j4⟩:=cH.1 hn;rw[iH]at j1;simp only[Bool.not_true,cond_false,cond_true];rw[HX k2 (by omega) k1 (by omega)];simp only[Option.bind_some,Bool.not_true,cond_false];rw[Vu];unfold oO nT;simp only[Option.bind_some];cases h1:(iT (cE c.1 c.2)).2 with
  | false=>rfl
  | true =>
   simp only[Bool.not_true,cond_false,cond_true];cases h2:(iT (cE c.1 c.2)).1 with
   | true =>
    simp only[cond_true];rw[HP k2 (by omega),iH];rfl
   | false =>
    simp only[cond_false];have:=FJ k2 k3 c (0,[]) rfl (cE c.1 c.2).2 [] (by simpa using j1) (by simpa using j4);rw[iH];refine Eq.trans ?_ this;rw[List.nil_append];congr 1;exact Prod.ext (iH _ _) rfl
theorem ah3(h:bw c=true):HR c=some ((Di c,()),()):=by
 obtain⟨k1,k2,k3,k4⟩:=cH.1 h;rw[ah2];unfold Di
 match hc:c.2 with
 | []=>rfl
 | [a] =>
  have ha:bN a=true:=(k1 a (by rw[hc];exact List.mem_singleton.2 rfl)).1;have g0:ab [a] 0=some a:=rfl;rw[show (((([a]:List aa).length:Nat):Int)==1)=true from rfl,cond_true,g0];simp only[Option.bind_some];rw[VL ha];simp only[Option.bind_some];unfold eL;cases (gl a.1 0 != 0)<;>simp only[Bool.not_true,Bool.not_false,cond_true,cond_false,Bool.false_and,Bool.true_and];cases a.2.1==1<;>rfl
 | a::b::l =>
  have:((((a::b::l:List aa).length:Nat):Int)==1)=false:=by
   rw[beq_eq_false_iff_ne];simp only[List.length_cons];omega
  rw[this];rfl
def fJ:Option (List af)->Option ((List af×Bool×PUnit)×PUnit)
 | some r=>some ((r,true,()),())
 | none=>some (([],false,()),())
theorem XH(n:Nat):decide ((n:Int)>=24)=decide (n>=24):=by rw[Bool.eq_iff_iff];simp;omega
theorem Av{l:List af}{f:List (List Int)}(hc:bw c=true)(hl:l.length<=24):pg l c f=fJ (fB l c f):=by
 obtain⟨k1,k2,k3,k4⟩:=cH.1 hc;have hn:=tk hc;rw[aiN,AE k2 (by omega) k1 (by omega)];simp only[Option.bind_some];rw[ai7 hn];unfold fB;have hm:kU c=oO (cE c.1 c.2):=by unfold kU;rw[hc];rfl
 rw[hm];cases h1:oO (cE c.1 c.2)with
 | none=>rfl
 | some m =>
  obtain⟨m1,m2,m3,m4⟩:=cH.1 (Ek (hm.trans h1)).2.1;unfold iD;simp only[Option.bind_some,Bool.not_true,cond_false];rw[XH];cases h2:decide (l.length>=24)with
  | true=>rfl
  | false =>
   simp only[cond_false];have d1:decide ((0+l.length)*56<=140737488355328)=true:=decide_eq_true (by omega);have d2:decide ((l.length+1)*56<=140737488355328)=true:=decide_eq_true (by omega);rw[d1,cond_true,d2,cond_true];unfold sk eL
   match gU:m.2 with
   | []=>rfl
   | [a] =>
    have ha:=eQ (m1 a (by rw[gU];exact List.mem_singleton.2 rfl));have g0:ab [a] 0=some a:=rfl;rw[show (((([a]:List aa).length:Nat):Int)==1)=true from rfl,cond_true,g0];simp only[Option.bind_some];rw[V1 _ (by omega)];simp only[Option.bind_some];rw[show (!(gl a.1 0 != 0))=(gl a.1 0==0)by simp[bne]];cases gl a.1 0==0<;>rfl
   | a::b::t =>
    have:((((a::b::t:List aa).length:Nat):Int)==1)=false:=by
     rw[beq_eq_false_iff_ne];simp only[List.length_cons];omega
    rw[this];rfl
theorem z8{l:List af}{f:List (List Int)}(hl:l.length<=24):o8 l c f=fJ (fB l c f):=by
 rw[ahC,ahn];unfold fB;cases h1:kU c with
 | none=>rfl
 | some m =>
  unfold iD;simp only[Option.bind_some,Bool.not_true,cond_false];rw[XH];cases h2:decide (l.length>=24)with
  | true=>rfl
  | false =>
   simp only[cond_false];rw[ah3 (Ek h1).2.1,apV h1];have d2:decide ((l.length+1)*56<=140737488355328)=true:=decide_eq_true (by omega);simp only[Option.bind_some];rw[d2,cond_true];cases sk m<;>rfl
def kf(a:List Int):List Int->Nat->List Int->Option (List Int)
 | [],_,o=>some o
 | v::vs,i,o=>bif ef v then kf a vs (i+1) (o.set v.toNat (o.getD v.toNat 0+a.getD i 0))else none
def mc(vars:List Int):List aa->List aa->Option (List aa)
 | [],o=>some o
 | a::l,o=>match kf a.1 vars 0 (List.replicate (Int.toNat 4) (0:Int))with
  | none=>none
  | some x=>bif (fI x a.2.1 a.2.2).2 then mc vars l (o++[(fI x a.2.1 a.2.2).1])else none
def mb(c:az)(vars:List Int):Option az:=bif bw c&&((vars.length:Int)==c.1)then (mc vars c.2 []).map λl=>((4:Int),l)else none
theorem EF(a:List Int)(ha:∀y∈a,y.natAbs<=400000000):∀(vs:List Int) (i:Nat) (o r:List Int) (n:Nat),o.length=4->(∀y∈o,y.natAbs<=400000000*n)->kf a vs i o=some r->r.length=4/\∀y∈r,y.natAbs<=400000000*(n+vs.length)
 | [],i,o,r,n,h1,h2,h=>by
  unfold kf at h;cases h;exact⟨h1,by simpa using h2⟩
 | v::vs,i,o,r,n,h1,h2,h=>by
  unfold kf at h;cases hv:ef v with
  | false=>rw[hv]at h;cases h
  | true =>
   rw[hv,cond_true]at h;have key:∀y∈o.set v.toNat (o.getD v.toNat 0+a.getD i 0),y.natAbs<=400000000*(n+1):=by
    intro y hy;rcases List.mem_or_eq_of_mem_set hy with hy|rfl
    ·have:=h2 y hy;omega
    ·have e1:(o.getD v.toNat 0).natAbs<=400000000*n:=by
      rw[List.getD_eq_getElem?_getD];cases hg:o[v.toNat]? with
      | none=>simp
      | some z=>exact h2 z (List.mem_of_getElem? hg)
     have e2:(a.getD i 0).natAbs<=400000000:=by
      rw[List.getD_eq_getElem?_getD];cases hg:a[i]? with
      | none=>simp
      | some z=>exact ha z (List.mem_of_getElem? hg)
     omega
   have:=EF a ha vs (i+1) _ r (n+1) (by simpa using h1) key h;refine⟨this.1,λy hy=>?_⟩;have:=this.2 y hy;rw[List.length_cons];omega
theorem abP{a o:List Int}{v:Int}{i:Nat}(hv:ef v=true)(ho:o.length=4)(hi:i<a.length):
  ab o v=some (o.getD v.toNat 0)/\ab a (i:Int)=some (a.getD i 0):=by
 unfold ef at hv;simp only[Bool.and_eq_true,decide_eq_true_eq]at hv;have ax:v.toNat<o.length:=by omega
 refine⟨?_,?_⟩
 ·have:=ay (xs:=o) (i:=v.toNat) ax;rw[show ((v.toNat:Nat):Int)=v by omega]at this;rw[this,List.getD_eq_getElem?_getD,List.getElem?_eq_getElem ax];rfl
 ·rw[ay hi,List.getD_eq_getElem?_getD,List.getElem?_eq_getElem hi];rfl
theorem abO(vars:List Int):∀(l o r:List aa),(∀a∈o,br 4 a)->(∀a∈l,∀y∈a.1,y.natAbs<=400000000)->mc vars l o=some r->(∀a∈r,br 4 a)/\r.length=o.length+l.length
 | [],o,r,h1,_,h=>by
  unfold mc at h;cases h;exact⟨h1,rfl⟩
 | a::l,o,r,h1,hn,h=>by
  unfold mc at h;cases hp:kf a.1 vars 0 (List.replicate (Int.toNat 4) (0:Int))with
  | none=>rw[hp]at h;cases h
  | some x =>
   rw[hp]at h;dsimp only at h;cases hm:(fI x a.2.1 a.2.2).2 with
   | false=>rw[hm]at h;cases h
   | true =>
    rw[hm,cond_true]at h;have hx:=EF a.1 (hn a (List.mem_cons_self ..)) vars 0 _ x 0 (by simp) (by simp[List.mem_replicate]) hp;have hk:=abc hm;rw[hx.1]at hk;have:=abO vars l _ r (λb hb=>by
     rcases List.mem_append.1 hb with hb|hb
     ·exact h1 b hb
     ·rw[List.mem_singleton.1 hb];exact hk) (λb hb=>hn b (List.mem_cons_of_mem _ hb)) h
    refine⟨this.1,?_⟩;rw[this.2,List.length_append,List.length_singleton,List.length_cons];omega
theorem EE{r:az}{vars:List Int}(h:mb c vars=some r):bw r=true/\r.1=4:=by
 unfold mb at h;cases hc:bw c&&((vars.length:Int)==c.1)with
 | false=>rw[hc]at h;cases h
 | true =>
  rw[hc,cond_true]at h;have hc:=(Bool.and_eq_true_iff.1 hc).1;obtain⟨k1,k2,k3,k4⟩:=cH.1 hc;cases hl:mc vars c.2 []with
  | none=>rw[hl]at h;cases h
  | some l =>
   rw[hl]at h;cases h;have:=abO vars c.2 [] l (by simp) (λa ha=>(eQ (k1 a ha)).1) hl;exact⟨cH.2 ⟨this.1,by show (0:Int)<=4;omega,by show (4:Int)<=4;omega,by show l.length<=16;rw[this.2];simpa using k4⟩,rfl⟩
theorem UO(vars:List Int)(c z x6:az)(hk:k<c.2.length)(ha:br n (c.2[k]))(hv:vars.length=n):∀(m i:Nat) (o:List Int),m+i=vars.length->o.length=4->(∀y∈o,y.natAbs<=400000000*i) ->
  uE vars c z x6 (k:Int) o (i:Int)=match kf (c.2[k]).1 (vars.drop i) i o with
   | none=>iD none
   | some x=>uE vars c z x6 (k:Int) x (vars.length:Int)
 | 0,i,o,hm,ho,hb=>by
  obtain rfl:i=vars.length:=by omega
  rw[List.drop_length];rfl
 | m+1,i,o,hm,ho,hb=>by
  have hi:i<vars.length:=by omega
  have hn:vars.length<=4:=by have:=(eQ ha).2.2;have h2:=ha.2;omega
  rw[drop_cons hi]
  conv=>rhs;unfold kf
  rw[Un,aN hi,cond_true,ay hi];simp only[Option.bind_some];rw[jD];simp only[Option.bind_some];show (bif !ef vars[i]then _ else _)=_;cases DY:ef vars[i]with
  | false=>rfl
  | true =>
   obtain⟨s1,s2⟩:=abP (a:=(c.2[k]).1) (o:=o) (i:=i) DY ho (by rw[ha.2];omega);simp only[Bool.not_true,cond_false,cond_true];rw[s1];simp only[Option.bind_some];rw[ay hk];simp only[Option.bind_some];rw[s2];simp only[Option.bind_some];have e1:(o.getD (vars[i]).toNat 0).natAbs<=400000000*i:=by
    rw[List.getD_eq_getElem?_getD];cases hg:o[(vars[i]).toNat]? with
    | none=>simp
    | some z=>exact hb z (List.mem_of_getElem? hg)
   have e2:((c.2[k]).1.getD i 0).natAbs<=400000000:=by
    rw[List.getD_eq_getElem?_getD];cases hg:(c.2[k]).1[i]? with
    | none=>simp
    | some z=>exact (eQ ha).1 z (List.mem_of_getElem? hg)
   rw[bX (by omega) (by omega),aI (by omega)];refine UO vars c z x6 hk ha hv m (i+1) _ (by omega) (by simpa using ho) (λy hy=>?_);rcases List.mem_or_eq_of_mem_set hy with hy|rfl
   ·have:=hb y hy;omega
   ·omega
theorem UN(vars:List Int)(c z:az)(hc:∀a∈c.2,br n a)(hl:c.2.length<=16)(hv:vars.length=n):∀(m k:Nat) (o:List aa),m+k=c.2.length->o.length=k ->
  yI vars c z (4,o) (k:Int)=iD ((mc vars (c.2.drop k) o).map λl=>((4:Int),l))
 | 0,k,o,hm,ho=>by
  obtain rfl:k=c.2.length:=by omega
  rw[Um,aR,cond_false,List.drop_length];rfl
 | m+1,k,o,hm,ho=>by
  have hk:k<c.2.length:=by omega
  have ha:=hc _ (List.getElem_mem hk);have hn:vars.length<=4:=by have:=(eQ ha).2.2;have h2:=ha.2;omega
  rw[Um,aN hk,cond_true,drop_cons hk];have h9:=UO vars c z (4,o) hk ha hv vars.length 0 (List.replicate (Int.toNat 4) (0:Int)) rfl (by simp) (by simp[List.mem_replicate]);rw[List.drop_zero,Int.natCast_zero]at h9;rw[h9];unfold mc;cases hp:kf (c.2[k]).1 vars 0 (List.replicate (Int.toNat 4) (0:Int))with
  | none=>rfl
  | some x =>
   have hx:=EF (c.2[k]).1 (eQ ha).1 vars 0 _ x 0 (by simp) (by simp[List.mem_replicate]) hp;dsimp only;rw[Un,aR,cond_false,ay hk];simp only[Option.bind_some];rw[VZ (by rw[hx.1];omega) (λy hy=>by have:=hx.2 y hy;omega) (by have:=(eQ ha).2.1;omega)];simp only[Option.bind_some];cases gU:(fI x (c.2[k]).2.1 (c.2[k]).2.2).2 with
   | false=>rfl
   | true =>
    simp only[Bool.not_true,cond_false,cond_true];have d:decide ((o.length+1)*40<=140737488355328)=true:=decide_eq_true (by omega);rw[d,cond_true,aI (by omega)];exact UN vars c z hc hl hv m (k+1) _ (by omega) (by simp[ho])
theorem aiJ(c:az)(vars:List Int)(hl:c.2.length<=68719476736):u4 c vars=iD (mb c vars):=by
 rw[aiI,rT _ hl];unfold mb;simp only[Option.bind_some];cases hc:bw c with
 | false=>rfl
 | true =>
  obtain⟨k1,k2,k3,k4⟩:=cH.1 hc;simp only[Bool.not_true,cond_false,Bool.true_and,bne];cases hv:((vars.length:Int)==c.1)with
  | false=>rfl
  | true =>
   simp only[Bool.not_true,cond_false,cond_true];have hv:=beq_iff_eq.1 hv;have:=UN vars c (0,[]) k1 k4 (by omega) c.2.length 0 [] rfl rfl
   rwa [List.drop_zero]at this
theorem TU(vars:List Int)(c z x6:az)(a:aa)(ha:br n a)(hv:vars.length=n)(L:List aa)(b:Int)(k:Int):∀(m i:Nat) (o:List Int),m+i=vars.length->o.length=4->(∀y∈o,y.natAbs<=400000000*i) ->
  uk vars c z x6 a o L b k vars (vars.length:Int) (i:Int)=match kf a.1 (vars.drop i) i o with
   | none=>iD none
   | some x=>uk vars c z x6 a x L b k vars (vars.length:Int) (vars.length:Int)
 | 0,i,o,hm,ho,hb=>by
  obtain rfl:i=vars.length:=by omega
  rw[List.drop_length];rfl
 | m+1,i,o,hm,ho,hb=>by
  have hi:i<vars.length:=by omega
  have hn:vars.length<=4:=by have:=(eQ ha).2.2;have h2:=ha.2;omega
  rw[drop_cons hi]
  conv=>rhs;unfold kf
  rw[Tr,aN hi,cond_true,ay hi];simp only[Option.bind_some];rw[HV];simp only[Option.bind_some];cases DY:ef vars[i]with
  | false=>rfl
  | true =>
   obtain⟨s1,s2⟩:=abP (a:=a.1) (o:=o) (i:=i) DY ho (by rw[ha.2];omega);simp only[Bool.not_true,cond_false,cond_true];rw[s1];simp only[Option.bind_some];rw[s2];simp only[Option.bind_some];have e1:(o.getD (vars[i]).toNat 0).natAbs<=400000000*i:=by
    rw[List.getD_eq_getElem?_getD];cases hg:o[(vars[i]).toNat]? with
    | none=>simp
    | some z=>exact hb z (List.mem_of_getElem? hg)
   have e2:(a.1.getD i 0).natAbs<=400000000:=by
    rw[List.getD_eq_getElem?_getD];cases hg:a.1[i]? with
    | none=>simp
    | some z=>exact (eQ ha).1 z (List.mem_of_getElem? hg)
   rw[bX (by omega) (by omega),aI (by omega)];refine TU vars c z x6 a ha hv L b k m (i+1) _ (by omega) (by simpa using ho) (λy hy=>?_);rcases List.mem_or_eq_of_mem_set hy with hy|rfl
   ·have:=hb y hy;omega
   ·omega
theorem TT(vars:List Int)(c z:az)(hc:∀a∈c.2,br n a)(hl:c.2.length<=16)(hv:vars.length=n):∀(m k:Nat) (o:List aa),m+k=c.2.length->o.length=k ->
  yq vars c z (4,o) c.2 (c.2.length:Int) (k:Int)=iD ((mc vars (c.2.drop k) o).map λl=>((4:Int),l))
 | 0,k,o,hm,ho=>by
  obtain rfl:k=c.2.length:=by omega
  rw[Tq,aR,cond_false,List.drop_length];rfl
 | m+1,k,o,hm,ho=>by
  have hk:k<c.2.length:=by omega
  have ha:=hc _ (List.getElem_mem hk);have hn:vars.length<=4:=by have:=(eQ ha).2.2;have h2:=ha.2;omega
  rw[Tq,aN hk,cond_true,drop_cons hk,ay hk];simp only[Option.bind_some];have h9:=TU vars c z (4,o) (c.2[k]) ha hv c.2 (c.2.length:Int) (k:Int) vars.length 0 (List.replicate (Int.toNat 4) (0:Int)) rfl (by simp) (by simp[List.mem_replicate]);rw[List.drop_zero,Int.natCast_zero]at h9;rw[h9];unfold mc;cases hp:kf (c.2[k]).1 vars 0 (List.replicate (Int.toNat 4) (0:Int))with
  | none=>rfl
  | some x =>
   have hx:=EF (c.2[k]).1 (eQ ha).1 vars 0 _ x 0 (by simp) (by simp[List.mem_replicate]) hp;dsimp only;rw[Tr,aR,cond_false];rw[VP (by rw[hx.1];omega) (λy hy=>by have:=hx.2 y hy;omega) (by have:=(eQ ha).2.1;omega)];simp only[Option.bind_some];cases gU:(fI x (c.2[k]).2.1 (c.2[k]).2.2).2 with
   | false=>rfl
   | true =>
    simp only[Bool.not_true,cond_false,cond_true];have d:decide ((o.length+1)*40<=140737488355328)=true:=decide_eq_true (by omega);rw[d,cond_true,aI (by omega)];exact TT vars c z hc hl hv m (k+1) _ (by omega) (by simp[ho])
theorem ahu(c:az)(vars:List Int):uQ c vars=iD (mb c vars):=by
 rw[aht,n5];unfold mb;simp only[Option.bind_some];cases hc:bw c with
 | false=>rfl
 | true =>
  obtain⟨k1,k2,k3,k4⟩:=cH.1 hc;simp only[Bool.not_true,cond_false,Bool.true_and,bne];cases hv:((vars.length:Int)==c.1)with
  | false=>rfl
  | true =>
   simp only[Bool.not_true,cond_false,cond_true];have hv:=beq_iff_eq.1 hv;have:=TT vars c (0,[]) k1 k4 (by omega) c.2.length 0 [] rfl rfl
   rwa [List.drop_zero]at this
def gp(p:List Int):Prop:=∃a b,p=[a,b]/\0<=b/\b<=68719476736
theorem Kt{p:List Int}(h:gp p):p.length<=2:=by
 obtain⟨a,b,rfl,_⟩:=h;simp
theorem Ku{k:Int}(hi:i<=68719476736):∀p∈[[k,(i:Int)]],gp p:=λp hp=>by
 rw[List.mem_singleton.1 hp];exact⟨k,i,rfl,by omega,by omega⟩
def okF(k:Nat)(s:af):Prop:=bw s.1=true/\s.1.1=4/\s.2.length<=k/\∀p∈s.2,gp p
def bR(k:Nat)(l:List af):Prop:=l.length<=24/\∀s∈l,okF k s
theorem okF.mono(h:okF k s)(hm:k<=m):okF m s:=⟨h.1,h.2.1,Nat.le_trans h.2.2.1 hm,h.2.2.2⟩
theorem bR.mono{l:List af}(h:bR k l)(hm:k<=m):bR m l:=⟨h.1,λs hs=>(h.2 s hs).mono hm⟩
theorem qw(h:okF k s):zL zI s.2<=k*3/\zP s<=80+k*3:=by
 have h1:=E5 zI 2 s.2 (λp hp=>Kt (h.2.2.2 p hp));have h2:s.2.length*3<=k*3:=Nat.mul_le_mul_right _ h.2.2.1;have h3:=alm h.1;rw[Nr];omega
theorem Aw{l:List af}(h:bR k l)(hk:k<=1000000):ph l=some ((l,()),()):=by
 rw[aiO];have:=kE l id (λo=>some ((o,()),())) (λo i=>yK l o i) (λi hi o ho=>by
  have hs:=h.2 _ (List.getElem_mem hi);have hz:=(qw hs).1;have hd:decide ((o.length+1)*56<=140737488355328)=true:=decide_eq_true (by have:=h.1;omega);rw[Uq,aN hi,cond_true,ay hi];simp only[Option.bind_some];rw[(vu hs.1).1];simp only[Option.bind_some];rw[Ax _ (by omega)];simp only[Option.bind_some];rw[hd,cond_true,aI (by have:=h.1;omega)];rfl) (λo=>by rw[Uq,aR];rfl)
 rw[this,List.map_id]
theorem Ac{l:List af}(h:bR k l)(hk:k<=1000000):pe l=some ((l,()),()):=by
 rw[ahT];have:=kE l id (λo=>some ((o,()),())) (λo i=>yA l o l (l.length:Int) i) (λi hi o ho=>by
  have hs:=h.2 _ (List.getElem_mem hi);have hz:=(qw hs).2;have hd:decide ((o.length+1)*56<=140737488355328)=true:=decide_eq_true (by have:=h.1;omega);rw[TG,aN hi,cond_true,ay hi];simp only[Option.bind_some];rw[ahS _ (by omega)];simp only[Option.bind_some];rw[hd,cond_true,aI (by have:=h.1;omega)];rfl) (λo=>by rw[TG,aR];rfl)
 rw[this,List.map_id]
theorem FI(x0 x9:List (List (List Int)))(c L:List (List Int))(aF j:Int)(hL:∀p∈L,p.length<=1000):∀(m i:Nat) (o:List (List Int)),m+i=L.length->o.length+m<=10000000->i+m<=10000000 ->
  ux x0 o c x9 aF j L (L.length:Int) (i:Int)=uv x0 (o++L.drop i) x9 aF (IntKind.i64.wrap (j+1))
 | 0,i,o,hm,ho,ep=>by
  obtain rfl:i=L.length:=by omega
  rw[yy,aR,cond_false,List.drop_length,List.append_nil]
 | m+1,i,o,hm,ho,ep=>by
  have hi:i<L.length:=by omega
  have hd:decide ((o.length+1)*24<=140737488355328)=true:=decide_eq_true (by omega);rw[yy,aN hi,cond_true,ay hi];simp only[Option.bind_some];rw[HK _ (by have:=hL _ (List.getElem_mem hi);omega)];simp only[Option.bind_some];rw[hd,cond_true,aI (by omega),FI x0 x9 c L aF j hL m (i+1) _ (by omega) (by simp;omega) (by omega),drop_cons hi,List.append_assoc];rfl
theorem ahO{l m:List (List Int)}(hl:l.length<=1000000)(hm:m.length<=1000000)(h1:∀p∈l,p.length<=2)(h2:∀p∈m,p.length<=2):pd [l,m]=some ((l++m,()),()):=by
 have w1:IntKind.i64.wrap (0+1)=1:=by decide
 have w2:IntKind.i64.wrap (1+1)=2:=by decide
 rw[VG];show uv [l,m] [] [l,m] 2 0=_;rw[uw,show decide ((0:Int)<2)=true from rfl,cond_true,show ab [l,m] 0=some l from rfl];simp only[Option.bind_some];have e1:=FI [l,m] [l,m] l l 2 0 (λp hp=>by have:=h1 p hp;omega) l.length 0 [] (by omega) (by simp;omega) (by omega);rw[Int.natCast_zero]at e1;rw[e1,List.drop_zero,List.nil_append,w1,uw,show decide ((1:Int)<2)=true from rfl,cond_true,show ab [l,m] 1=some m from rfl];simp only[Option.bind_some];have e2:=FI [l,m] [l,m] m m 2 1 (λp hp=>by have:=h2 p hp;omega) m.length 0 l (by omega) (by omega) (by omega);rw[Int.natCast_zero]at e2;rw[e2,List.drop_zero,w2,uw,show decide ((2:Int)<2)=false from rfl,cond_false]
theorem mn{l:List af}{f:List (List Int)}(hl:bR k l)(hc:c.1=4)(hf:f.length<=k)(hf2:∀p∈f,gp p)(h:fB l c f=some r):bR k r:=by
 unfold fB at h;cases hm:kU c with
 | none=>rw[hm]at h;cases h
 | some m =>
  rw[hm]at h;dsimp only at h;obtain⟨_,m1,m2⟩:=Ek hm;cases h1:decide (l.length>=24)with
  | true=>rw[h1]at h;cases h
  | false =>
   rw[h1,cond_false]at h;have h2:¬l.length>=24:=of_decide_eq_false h1;cases h3:sk m with
   | true=>rw[h3,cond_true]at h;cases h;exact hl
   | false =>
    rw[h3,cond_false]at h;cases h;refine⟨by rw[List.length_append,List.length_singleton];omega,λs hs=>?_⟩;rcases List.mem_append.1 hs with k|k
    ·exact hl.2 s k
    ·rw[List.mem_singleton.1 k];exact⟨m1,m2.trans hc,hf,hf2⟩
def nQ(K:List (List af)):Option (List af)->Option ((List af×Bool×PUnit)×List (List af)×PUnit)
 | some r=>some ((r,true,()),K,())
 | none=>some (([],false,()),K,())
def tE(n:ao)(r:Rw):Bool := !emp n.2.2.2.1 && !(r.1.toList==n.2.2.2.1.toList)
def mi(n:ao)(k:Int):List Rw->Nat->List af->Option (List af)
 | [],_,o=>some o
 | r::l,i,o=>bif tE n r then mi n k l (i+1) o else match mb r.2 n.2.2.2.2.1 with
  | none=>none
  | some c=>match fB o c [[k,(i:Int)]]with
   | none=>none
   | some o=>mi n k l (i+1) o
theorem MK{n:ao}{k:Int}{b:Nat}(hb:1<=b):∀(l:List Rw) (i:Nat) (o r:List af),i+l.length<=68719476736->bR b o->mi n k l i o=some r->bR b r
 | [],i,o,r,hz,ho,h=>by
  unfold mi at h;cases h;exact ho
 | x::l,i,o,r,hz,ho,h=>by
  have dq:i+1+l.length<=68719476736:=by rw[List.length_cons]at hz;omega
  unfold mi at h;cases h1:tE n x with
  | true=>rw[h1,cond_true]at h;exact MK hb l _ o r dq ho h
  | false =>
   rw[h1,cond_false]at h;cases h2:mb x.2 n.2.2.2.2.1 with
   | none=>rw[h2]at h;cases h
   | some c =>
    rw[h2]at h;dsimp only at h;cases h3:fB o c [[k,(i:Int)]]with
    | none=>rw[h3]at h;cases h
    | some o2 =>
     rw[h3]at h;exact MK hb l _ o2 r dq (mn ho (EE h2).2 (by simpa using hb) (Ku (by omega)) h3) h
theorem aci(n:ao)(r:Rw)(A B:R):(bif !ByteArray.toList n.2.2.2.1==(ByteArray.mk #[]).toList then (bif !ByteArray.toList r.1==ByteArray.toList n.2.2.2.1 then A else B)else B)=bif tE n r then A else B:=by
 unfold tE emp;cases (ByteArray.toList n.2.2.2.1==(ByteArray.mk #[]).toList)<;>rfl
theorem afQ(db:List Rel)(K:List (List af))(n:ao)(k:Int)(rl:Rel)(hk:ab db k=some rl)(i:Int):n3 db K n [] false k i=nQ K none:=by
 rw[FP,hk];simp only[Option.bind_some,cond_false];cases decide (i<((rl.2.2.length:Nat):Int))<;>rfl
theorem FM{db:List Rel}{K:List (List af)}{n:ao}{k:Int}{rl:Rel}{b:Nat}(hb:1<=b)(hk:ab db k=some rl)(hz:rl.2.2.length<=68719476736)(hr:∀r∈rl.2.2,r.2.2.length<=68719476736):∀(m i:Nat) (o:List af),m+i=rl.2.2.length->bR b o ->
  n3 db K n o true k (i:Int)=nQ K (mi n k (rl.2.2.drop i) i o)
 | 0,i,o,hm,ho=>by
  obtain rfl:i=rl.2.2.length:=by omega
  rw[FP,hk];simp only[Option.bind_some];rw[aR,cond_false,List.drop_length];rfl
 | m+1,i,o,hm,ho=>by
  have hi:i<rl.2.2.length:=by omega
  rw[FP,hk];simp only[Option.bind_some];rw[aN hi,cond_true,cond_true,ay hi,drop_cons hi];simp only[Option.bind_some];rw[aci];unfold mi;cases h1:tE n rl.2.2[i]with
  | true =>
   rw[cond_true,cond_true,aI (by omega)];exact FM hb hk hz hr m (i+1) o (by omega) ho
  | false =>
   rw[cond_false,cond_false,aiJ _ _ (hr _ (List.getElem_mem hi))];cases h2:mb rl.2.2[i].2 n.2.2.2.2.1 with
   | none=>rfl
   | some c =>
    unfold iD;simp only[Option.bind_some,Bool.not_true,cond_false];rw[Av (EE h2).1 ho.1];cases h3:fB o c [[k,(i:Int)]]with
    | none =>
     show n3 db K n [] false k _=_;rw[afQ db K n k rl hk]
    | some o2 =>
     unfold fJ;simp only[Option.bind_some];rw[aI (by omega)];exact FM hb hk hz hr m (i+1) o2 (by omega) (mn ho (EE h2).2 (by simpa using hb) (Ku (by omega)) h3)
theorem FL{db:List Rel}{n:ao}{k:Int}{L:List Rw}{b:Nat}(hb:1<=b)(hz:L.length<=68719476736):∀(m i:Nat) (o:List af),m+i=L.length->bR b o ->
  rz db n o k db L (L.length:Int) (i:Int)=fJ (mi n k (L.drop i) i o)
 | 0,i,o,hm,ho=>by
  obtain rfl:i=L.length:=by omega
  rw[TX,aR,cond_false,List.drop_length];rfl
 | m+1,i,o,hm,ho=>by
  have hi:i<L.length:=by omega
  rw[TX,aN hi,cond_true,ay hi,drop_cons hi];simp only[Option.bind_some];rw[aci];unfold mi;cases h1:tE n L[i]with
  | true =>
   rw[cond_true,cond_true,aI (by omega)];exact FL hb hz m (i+1) o (by omega) ho
  | false =>
   rw[cond_false,cond_false,ahu];cases h2:mb L[i].2 n.2.2.2.2.1 with
   | none=>rfl
   | some c =>
    unfold iD;simp only[Option.bind_some,Bool.not_true,cond_false];rw[z8 ho.1];cases h3:fB o c [[k,(i:Int)]]with
    | none=>rfl
    | some o2 =>
     unfold fJ;simp only[Option.bind_some,Bool.not_true,cond_false];rw[aI (by omega)];exact FL hb hz m (i+1) o2 (by omega) (mn ho (EE h2).2 (by simpa using hb) (Ku (by omega)) h3)
def jF(x:af):List af->List af->Option (List af)
 | [],o=>some o
 | y::l,o=>bif (eF x.1 y.1).2 then (match fB o (eF x.1 y.1).1 (x.2++y.2)with
  | none=>none
  | some o=>jF x l o)else none
def mH(b:List af):List af->List af->Option (List af)
 | [],o=>some o
 | x::l,o=>match jF x b o with
  | none=>none
  | some o=>mH b l o
def mT(v:Nat):List af->List af->Option (List af)
 | [],o=>some o
 | x::l,o=>bif (dV x.1 v).2 then (match fB o (dV x.1 v).1 x.2 with
  | none=>none
  | some o=>mT v l o)else none
theorem Ej{y:af}(hx:x.1.1=4)(h:(eF x.1 y.1).2=true):bw (eF x.1 y.1).1=true/\(eF x.1 y.1).1.1=4:=by
 obtain⟨h1,h2,_⟩:=aa0 h;refine⟨h1,?_⟩;rw[h2,iH,hx]
theorem se{y:af}(hx:okF k x)(hy:okF k y):(x.2++y.2).length<=2*k/\∀p∈x.2++y.2,gp p:=by
 have h1:=hx.2.2.1;have h2:=hy.2.2.1;refine⟨by rw[List.length_append];omega,λp hp=>?_⟩;rcases List.mem_append.1 hp with h|h
 ·exact hx.2.2.2 p h
 ·exact hy.2.2.2 p h
theorem C5(hx:okF k x):∀(l o r:List af),(∀y∈l,okF k y)->bR (2*k) o->jF x l o=some r->bR (2*k) r
 | [],o,r,_,ho,h=>by
  unfold jF at h;cases h;exact ho
 | y::l,o,r,hl,ho,h=>by
  unfold jF at h;cases h1:(eF x.1 y.1).2 with
  | false=>rw[h1]at h;cases h
  | true =>
   rw[h1,cond_true]at h;cases h2:fB o (eF x.1 y.1).1 (x.2++y.2)with
   | none=>rw[h2]at h;cases h
   | some o2 =>
    rw[h2]at h;have hy:=hl y (List.mem_cons_self ..);exact C5 hx l o2 r (λz hz=>hl z (List.mem_cons_of_mem _ hz)) (mn ho (Ej hx.2.1 h1).2 (se hx hy).1 (se hx hy).2 h2) h
theorem Wo{b:List af}(hb:∀y∈b,okF k y):∀(l o r:List af),(∀y∈l,okF k y)->bR (2*k) o->mH b l o=some r->bR (2*k) r
 | [],o,r,_,ho,h=>by
  unfold mH at h;cases h;exact ho
 | x::l,o,r,hl,ho,h=>by
  unfold mH at h;cases h1:jF x b o with
  | none=>rw[h1]at h;cases h
  | some o2 =>
   rw[h1]at h;exact Wo hb l o2 r (λz hz=>hl z (List.mem_cons_of_mem _ hz)) (C5 (hl x (List.mem_cons_self ..)) b o o2 hb ho h1) h
theorem Dh(hx:bw x.1=true/\x.1.1=4)(h:(dV x.1 v).2=true):bw (dV x.1 v).1=true/\(dV x.1 v).1.1=4:=by
 have:=Kc hx.1 h;exact⟨this.1,this.2.trans hx.2⟩
theorem Xg:∀(l o r:List af),(∀y∈l,okF k y)->bR k o->mT v l o=some r->bR k r
 | [],o,r,_,ho,h=>by
  unfold mT at h;cases h;exact ho
 | x::l,o,r,hl,ho,h=>by
  unfold mT at h;have hx:=hl x (List.mem_cons_self ..);cases h1:(dV x.1 v).2 with
  | false=>rw[h1]at h;cases h
  | true =>
   rw[h1,cond_true]at h;cases h2:fB o (dV x.1 v).1 x.2 with
   | none=>rw[h2]at h;cases h
   | some o2 =>
    rw[h2]at h;exact Xg l o2 r (λz hz=>hl z (List.mem_cons_of_mem _ hz)) (mn ho (Dh ⟨hx.1,hx.2.1⟩ h1).2 hx.2.2.1 hx.2.2.2 h2) h
theorem afR(K:List (List af))(n:ao)(a b:List af)(i:Int):o6 K n [] false a b i=nQ K none:=by
 rw[FQ];cases decide (i<((a.length:Nat):Int))<;>rfl
theorem afS(K:List (List af))(n:ao)(a b:List af)(i j:Int):uF K n [] false a b i j=nQ K none:=by
 rw[FR,afR];cases decide (j<((b.length:Nat):Int))<;>rfl
theorem T4{K:List (List af)}{n:ao}{a b:List af}(hk:k<=1000000)(hb:bR k b)(hi:i<a.length)(hx:okF k a[i]):∀(m j:Nat) (o:List af),m+j=b.length->bR (2*k) o ->
  uF K n o true a b (i:Int) (j:Int)=match jF a[i] (b.drop j) o with
   | none=>nQ K none
   | some o=>o6 K n o true a b (IntKind.i64.wrap ((i:Int)+1))
 | 0,j,o,hm,ho=>by
  obtain rfl:j=b.length:=by omega
  rw[FR,aR,cond_false,List.drop_length];rfl
 | m+1,j,o,hm,ho=>by
  have hj:j<b.length:=by omega
  have wk:j<=24:=by have:=hb.1;omega
  have hy:=hb.2 _ (List.getElem_mem hj);have c1:=(cH.1 hx.1).2.2.2;have c2:=(cH.1 hy.1).2.2.2;rw[FR,aN hj,cond_true,cond_true,ay hi,ay hj,drop_cons hj];simp only[Option.bind_some];rw[VW _ _ (by omega) (by omega)];unfold jF gM;simp only[Option.bind_some];cases h1:(eF a[i].1 b[j].1).2 with
  | false=>rfl
  | true =>
   have z1:=(qw hx).1;have z2:=(qw hy).1;have l1:=hx.2.2.1;have l2:=hy.2.2.1;simp only[Bool.not_true,cond_false,cond_true];rw[Ax _ (by omega)];simp only[Option.bind_some];rw[Ax _ (by omega)];simp only[Option.bind_some];have hd:decide ((a[i].2.length+b[j].2.length)*24<=140737488355328)=true:=decide_eq_true (by omega);rw[hd,cond_true,Av (Ej hx.2.1 h1).1 ho.1];cases h2:fB o (eF a[i].1 b[j].1).1 (a[i].2++b[j].2)with
   | none=>exact afS K n a b _ _
   | some o2 =>
    unfold fJ;simp only[Option.bind_some];rw[aI (by omega)];exact T4 hk hb hi hx m (j+1) o2 (by omega) (mn ho (Ej hx.2.1 h1).2 (se hx hy).1 (se hx hy).2 h2)
theorem TZ{K:List (List af)}{n:ao}{a b:List af}(hk:k<=1000000)(ha:bR k a)(hb:bR k b):∀(m i:Nat) (o:List af),m+i=a.length->bR (2*k) o ->
  o6 K n o true a b (i:Int)=nQ K (mH b (a.drop i) o)
 | 0,i,o,hm,ho=>by
  obtain rfl:i=a.length:=by omega
  rw[FQ,aR,cond_false,List.drop_length];rfl
 | m+1,i,o,hm,ho=>by
  have hi:i<a.length:=by omega
  have ep:i<=24:=by have:=ha.1;omega
  have hx:=ha.2 _ (List.getElem_mem hi);have XZ:=T4 (K:=K) (n:=n) hk hb hi hx b.length 0 o rfl ho;rw[List.drop_zero,Int.natCast_zero]at XZ;rw[FQ,aN hi,cond_true,cond_true,XZ,drop_cons hi];unfold mH;cases h1:jF a[i] b o with
  | none=>rfl
  | some o2 =>
   dsimp only;rw[aI (by omega)];exact TZ hk ha hb m (i+1) o2 (by omega) (C5 hx b o o2 hb.2 ho h1)
theorem Tx{x0 b:List af}{x14:List af}{x15 x16:Int}(hk:k<=1000000)(hb:bR k b)(hx:okF k x):∀(m j:Nat) (o:List af),m+j=b.length->bR (2*k) o ->
  yt x0 b o x x14 x15 x16 b (b.length:Int) (j:Int)=match jF x (b.drop j) o with
   | none=>fJ none
   | some o=>uq x0 b o x14 x15 (IntKind.i64.wrap (x16+1))
 | 0,j,o,hm,ho=>by
  obtain rfl:j=b.length:=by omega
  rw[TA,aR,cond_false,List.drop_length];rfl
 | m+1,j,o,hm,ho=>by
  have hj:j<b.length:=by omega
  have wk:j<=24:=by have:=hb.1;omega
  have hy:=hb.2 _ (List.getElem_mem hj);rw[TA,aN hj,cond_true,ay hj,drop_cons hj];simp only[Option.bind_some];rw[Vx];unfold jF gM;simp only[Option.bind_some];cases h1:(eF x.1 b[j].1).2 with
  | false=>rfl
  | true =>
   have l1:=hx.2.2.1;have l2:=hy.2.2.1;simp only[Bool.not_true,cond_false,cond_true];rw[ahO (by omega) (by omega) (λp hp=>Kt (hx.2.2.2 p hp)) (λp hp=>Kt (hy.2.2.2 p hp))];simp only[Option.bind_some];rw[z8 ho.1];cases h2:fB o (eF x.1 b[j].1).1 (x.2++b[j].2)with
   | none=>rfl
   | some o2 =>
    unfold fJ;simp only[Option.bind_some,Bool.not_true,cond_false];rw[aI (by omega)];exact Tx hk hb hx m (j+1) o2 (by omega) (mn ho (Ej hx.2.1 h1).2 (se hx hy).1 (se hx hy).2 h2)
theorem Tw{a b:List af}(hk:k<=1000000)(ha:bR k a)(hb:bR k b):∀(m i:Nat) (o:List af),m+i=a.length->bR (2*k) o ->
  uq a b o a (a.length:Int) (i:Int)=fJ (mH b (a.drop i) o)
 | 0,i,o,hm,ho=>by
  obtain rfl:i=a.length:=by omega
  rw[Tz,aR,cond_false,List.drop_length];rfl
 | m+1,i,o,hm,ho=>by
  have hi:i<a.length:=by omega
  have ep:i<=24:=by have:=ha.1;omega
  have hx:=ha.2 _ (List.getElem_mem hi);have h6:=Tx (x0:=a) (x14:=a) (x15:=(a.length:Int)) (x16:=(i:Int)) hk hb hx b.length 0 o rfl ho;rw[List.drop_zero,Int.natCast_zero]at h6;rw[Tz,aN hi,cond_true,ay hi,drop_cons hi];simp only[Option.bind_some];rw[h6];unfold mH;cases h1:jF a[i] b o with
  | none=>rfl
  | some o2 =>
   dsimp only;rw[aI (by omega)];exact Tw hk ha hb m (i+1) o2 (by omega) (C5 hx b o o2 hb.2 ho h1)
theorem afT(K:List (List af))(n:ao)(a:List af)(i:Int):uG K n [] false a i=nQ K none:=by
 rw[FU];cases decide (i<((a.length:Nat):Int))<;>rfl
theorem T5{K:List (List af)}{n:ao}{a:List af}{v:Nat}(hk:k<=1000000)(hv:n.2.2.2.2.2.1=(v:Int))(wP:v<4)(ha:bR k a):∀(m i:Nat) (o:List af),m+i=a.length->bR k o ->
  uG K n o true a (i:Int)=nQ K (mT v (a.drop i) o)
 | 0,i,o,hm,ho=>by
  obtain rfl:i=a.length:=by omega
  rw[FU,aR,cond_false,List.drop_length];rfl
 | m+1,i,o,hm,ho=>by
  have hi:i<a.length:=by omega
  have ep:i<=24:=by have:=ha.1;omega
  have hx:=ha.2 _ (List.getElem_mem hi);rw[FU,aN hi,cond_true,cond_true,ay hi,drop_cons hi];simp only[Option.bind_some];rw[hv,V5 hx.1 (by rw[hx.2.1];exact wP)];unfold mT gM;simp only[Option.bind_some];cases h1:(dV a[i].1 v).2 with
  | false=>rfl
  | true =>
   have z1:=(qw hx).1;simp only[Bool.not_true,cond_false,cond_true];rw[Ax _ (by omega)];simp only[Option.bind_some];rw[Av (Dh ⟨hx.1,hx.2.1⟩ h1).1 ho.1];cases h2:fB o (dV a[i].1 v).1 a[i].2 with
   | none=>exact afT K n a _
   | some o2 =>
    unfold fJ;simp only[Option.bind_some];rw[aI (by omega)];exact T5 hk hv wP ha m (i+1) o2 (by omega) (mn ho (Dh ⟨hx.1,hx.2.1⟩ h1).2 hx.2.2.1 hx.2.2.2 h2)
theorem TJ{a:List af}{v:Nat}(hk:k<=1000000)(wP:v<4)(ha:bR k a):∀(m i:Nat) (o:List af),m+i=a.length->bR k o ->
  yC a (v:Int) o a (a.length:Int) (i:Int)=fJ (mT v (a.drop i) o)
 | 0,i,o,hm,ho=>by
  obtain rfl:i=a.length:=by omega
  rw[TK,aR,cond_false,List.drop_length];rfl
 | m+1,i,o,hm,ho=>by
  have hi:i<a.length:=by omega
  have ep:i<=24:=by have:=ha.1;omega
  have hx:=ha.2 _ (List.getElem_mem hi);rw[TK,aN hi,cond_true,ay hi,drop_cons hi];simp only[Option.bind_some];rw[Vs hx.1 (by rw[hx.2.1];exact wP)];unfold mT gM;simp only[Option.bind_some];cases h1:(dV a[i].1 v).2 with
  | false=>rfl
  | true =>
   have z1:=(qw hx).1;simp only[Bool.not_true,cond_false,cond_true];rw[VH _ (by omega)];simp only[Option.bind_some];rw[z8 ho.1];cases h2:fB o (dV a[i].1 v).1 a[i].2 with
   | none=>rfl
   | some o2 =>
    unfold fJ;simp only[Option.bind_some,Bool.not_true,cond_false];rw[aI (by omega)];exact TJ hk wP ha m (i+1) o2 (by omega) (mn ho (Dh ⟨hx.1,hx.2.1⟩ h1).2 hx.2.2.1 hx.2.2.2 h2)
def fc(K:List (List af))(a:Int):List af:=K.getD a.toNat []
theorem wY{a:Int}(h0:0<=a)(h1:a<K.length):ab K a=some (fc K a):=by
 have ax:a.toNat<K.length:=by omega
 have:=ay (xs:=K) (i:=a.toNat) ax;rw[show ((a.toNat:Nat):Int)=a by omega]at this;rw[this];unfold fc;rw[List.getD_eq_getElem?_getD,List.getElem?_eq_getElem ax];rfl
theorem ji{K:List (List af)}(hK:∀l∈K,bR k l)(a:Int):bR k (fc K a):=by
 unfold fc;rw[List.getD_eq_getElem?_getD];cases hg:K[a.toNat]? with
 | none=>exact⟨by simp,by simp⟩
 | some l=>exact hK l (List.mem_of_getElem? hg)
def nI(db:List Rel)(n:ao)(K:List (List af)):Option (List af):=
 bif n.1==0 then fB [] (4,[n.2.1]) []
 else bif n.1==1 then (match ab db (cA (named n.2.2.1) db)with
  | some r=>mi n (cA (named n.2.2.1) db) r.2.2 0 []
  | none=>none)
 else bif n.1==3 then mH (fc K n.2.2.2.2.2.2.2) (fc K n.2.2.2.2.2.2.1) []
 else bif n.1==4 then (bif decide ((fc K n.2.2.2.2.2.2.1++fc K n.2.2.2.2.2.2.2).length<=24)then some (fc K n.2.2.2.2.2.2.1++fc K n.2.2.2.2.2.2.2)else none)
 else mT n.2.2.2.2.2.1.toNat (fc K n.2.2.2.2.2.2.1) []
theorem kinds{db:List Rel}{n:ao}(h:fU db n=true)(hp:fh n=true):n.1=0\/n.1=1\/n.1=3\/n.1=4\/n.1=5:=by
 rw[abE]at h;unfold fh at hp;simp only[Bool.and_eq_true,decide_eq_true_eq,Bool.not_eq_true',beq_eq_false_iff_ne]at h hp;omega
theorem apH{db:List Rel}{n:ao}(h:fU db n=true)(h0:n.1=0):bw (4,[n.2.1])=true/\n.2.1.1.length=4:=by
 unfold fU lW at h;simp only[Bool.and_eq_true]at h;have h5:=h.2.2.2.2;rw[h0]at h5;simp only[beq_self_eq_true,cond_true,Bool.and_eq_true,beq_iff_eq]at h5;have hl:n.2.1.1.length=4:=by omega
 exact⟨cH.2 ⟨λa ha=>by rw[List.mem_singleton.1 ha];exact⟨h5.1,hl⟩,by show (0:Int)<=4;omega,by show (4:Int)<=4;omega,by simp⟩,hl⟩
theorem apG{db:List Rel}{n:ao}(h:fU db n=true)(h1:n.1=1):∃r,ab db (cA (named n.2.2.1) db)=some r:=by
 unfold fU lW at h;simp only[Bool.and_eq_true]at h;have h5:=h.2.2.2.2;rw[h1]at h5;simp only[show ((1:Int)==0)=false from rfl,beq_self_eq_true,cond_true,cond_false]at h5;unfold qC at h5;cases hg:ab db (cA (named n.2.2.1) db)with
 | some r=>exact⟨r,rfl⟩
 | none=>rw[hg]at h5;simp at h5
theorem apF{db:List Rel}{n:ao}(h:fU db n=true)(h1:n.1=5):0<=n.2.2.2.2.2.1/\n.2.2.2.2.2.1<=3:=by
 unfold fU lW at h;simp only[Bool.and_eq_true]at h;have h5:=h.2.2.2.2;rw[h1]at h5;simp only[show ((5:Int)==0)=false from rfl,show ((5:Int)==1)=false from rfl,cond_false,Bool.and_eq_true]at h5;unfold ef at h5;simpa using h5.2
theorem l9(k:Nat):bR k []:=⟨by simp,by simp⟩
theorem XM{x:List α}{i:Int}{y:α}(h:ab x i=some y):y∈x:=by
 by_cases h0:0<=i
 ·by_cases ax:i.toNat<x.length
  ·have:=ay (xs:=x) ax;rw[show ((i.toNat:Nat):Int)=i by omega,h]at this;injection this with this;rw[this];exact List.getElem_mem ax
  ·exfalso;have:ab x i=none:=by
    unfold ab
    first
    | rw[if_neg (by omega)]
    | (simp;omega)
   rw[h]at this;cases this
 ·exfalso;rw[alS x (by omega)]at h;cases h
theorem Mj{db:List Rel}{n:ao}(hd:zL zQ db<=68719476736)(hk:1<=k)(hK:∀l∈K,bR k l)(h:nI db n K=some r):bR (2*k) r:=by
 unfold nI at h;cases h0:n.1==0 with
 | true =>
  rw[h0,cond_true]at h;exact mn (l9 _) rfl (by simp) (by simp) h
 | false =>
  rw[h0,cond_false]at h;cases h1:n.1==1 with
  | true =>
   rw[h1,cond_true]at h;cases hg:ab db (cA (named n.2.2.1) db)with
   | none=>rw[hg]at h;cases h
   | some rl=>rw[hg]at h;exact MK (by omega) _ _ _ _ (by have:=((Ds hd).2 rl (XM hg)).2.1;omega) (l9 _) h
  | false =>
   rw[h1,cond_false]at h;cases h3:n.1==3 with
   | true =>
    rw[h3,cond_true]at h;exact Wo (ji hK _).2 _ _ _ (ji hK _).2 (l9 _) h
   | false =>
    rw[h3,cond_false]at h;cases h4:n.1==4 with
    | true =>
     rw[h4,cond_true]at h;cases h5:decide ((fc K n.2.2.2.2.2.2.1++fc K n.2.2.2.2.2.2.2).length<=24)with
     | false=>rw[h5]at h;cases h
     | true =>
      rw[h5,cond_true]at h;cases h;refine⟨of_decide_eq_true h5,λs hs=>?_⟩;rcases List.mem_append.1 hs with hs|hs
      ·exact ((ji hK _).2 s hs).mono (by omega)
      ·exact ((ji hK _).2 s hs).mono (by omega)
    | false =>
     rw[h4,cond_false]at h;exact (Xg _ _ _ (ji hK _).2 (l9 _) h).mono (by omega)
def Out(K:List (List af))(r:Option (List af))(e:Option ((List af×Bool×PUnit)×List (List af)×PUnit)):Prop:=match r with
 | some r=>e=some ((r,true,()),K,())
 | none=>∃z,e=some ((z,false,()),K,())
theorem HE(K:List (List af))(r:Option (List af)):Out K r (nQ K r):=by
 cases r with
 | none=>exact⟨[],rfl⟩
 | some r=>rfl
theorem zJ(K:List (List af))(r:Option (List af)):Out K r ((fJ r).bind λy=>some ((y.1.1,y.1.2.1,()),K,())):=by
 cases r with
 | none=>exact⟨[],rfl⟩
 | some r=>rfl
theorem apN(l:List af):decide ((l.length:Int)<=24)=decide (l.length<=24):=by rw[Bool.eq_iff_iff];simp;omega
theorem abt{db:List Rel}{n:ao}{K:List (List af)}{k:Nat}(hd:zL zQ db<=68719476736)(hN:fU db n=true)(hp:fh n=true)(DR:1<=k)(hk:k<=100000)(hK:∀l∈K,bR k l)
  (hA:1<=ar n.1->0<=n.2.2.2.2.2.2.1/\n.2.2.2.2.2.2.1<K.length) (hB:ar n.1=2->0<=n.2.2.2.2.2.2.2/\n.2.2.2.2.2.2.2<K.length) :
  Out K (nI db n K) (u6 db n K)/\Out K (nI db n K) (Ai db n K):=by
 rw[aiP,aif];unfold nI;rcases kinds hN hp with h|h|h|h|h
 ·obtain⟨hc,hl⟩:=apH hN h;rw[h];simp only[beq_self_eq_true,cond_true];rw[Av hc (by simp),ahD,uT _ (by omega)];simp only[Option.bind_some];rw[z8 (by simp)];refine⟨zJ K _,?_⟩;cases fB [] (4,[n.2.1]) []with
  | none=>exact⟨[],rfl⟩
  | some r=>rfl
 ·obtain⟨rl,hr⟩:=apG hN h;have hg:=Ds hd;have sS:rl∈db:=XM hr;have kH:=hg.2 rl sS;rw[h];simp only[show ((1:Int)==0)=false from rfl,beq_self_eq_true,cond_true,cond_false];rw[Ak db _ hg.1,aim,HF db _ hg.1,hr];simp only[Option.bind_some];rw[hr];simp only[Option.bind_some];have XU:=FM (K:=K) (n:=n) DR hr kH.2.1 (λr hx=>(kH.2.2 r hx).2.1) rl.2.2.length 0 [] rfl (l9 k);have h3:=FL (db:=db) (n:=n) (k:=cA (named n.2.2.1) db) (L:=rl.2.2) DR kH.2.1 rl.2.2.length 0 [] rfl (l9 k);rw[List.drop_zero,Int.natCast_zero]at XU h3;rw[XU,h3];exact⟨HE K _,zJ K _⟩
 ·obtain⟨a1,a2⟩:=hA (by rw[h];decide);obtain⟨b1,b2⟩:=hB (by rw[h];decide);rw[h];simp only[show ((3:Int)==0)=false from rfl,show ((3:Int)==1)=false from rfl,show ((3:Int)==4)=false from rfl,beq_self_eq_true,cond_true,cond_false];rw[wY a1 a2,wY b1 b2];simp only[Option.bind_some];rw[ahE];have XY:=TZ (K:=K) (n:=n) (by omega) (ji hK n.2.2.2.2.2.2.1) (ji hK n.2.2.2.2.2.2.2) (fc K n.2.2.2.2.2.2.1).length 0 [] rfl (l9 (2*k));have h3:=Tw (by omega) (ji hK n.2.2.2.2.2.2.1) (ji hK n.2.2.2.2.2.2.2) (fc K n.2.2.2.2.2.2.1).length 0 [] rfl (l9 (2*k));rw[List.drop_zero,Int.natCast_zero]at XY h3;rw[XY,h3];exact⟨HE K _,zJ K _⟩
 ·obtain⟨a1,a2⟩:=hA (by rw[h];decide);obtain⟨b1,b2⟩:=hB (by rw[h];decide);have ka:=ji hK n.2.2.2.2.2.2.1;have kb:=ji hK n.2.2.2.2.2.2.2;rw[h];simp only[show ((4:Int)==0)=false from rfl,show ((4:Int)==1)=false from rfl,show ((4:Int)==3)=false from rfl,beq_self_eq_true,cond_true,cond_false];rw[wY a1 a2,wY b1 b2];simp only[Option.bind_some];rw[Aw ka (by omega),Aw kb (by omega),Ac ka (by omega),Ac kb (by omega)];simp only[Option.bind_some];have hz:decide (((fc K n.2.2.2.2.2.2.1).length+(fc K n.2.2.2.2.2.2.2).length)*56<=140737488355328)=true:=decide_eq_true (by have:=ka.1;have:=kb.1;omega);rw[hz,cond_true,apN];cases decide ((fc K n.2.2.2.2.2.2.1++fc K n.2.2.2.2.2.2.2).length<=24)with
  | true=>exact⟨rfl,rfl⟩
  | false=>exact⟨⟨_,rfl⟩,⟨_,rfl⟩⟩
 ·obtain⟨a1,a2⟩:=hA (by rw[h];decide);obtain⟨v1,v2⟩:=apF hN h;have hv:n.2.2.2.2.2.1=((n.2.2.2.2.2.1.toNat:Nat):Int):=by omega
  rw[h];simp only[show ((5:Int)==0)=false from rfl,show ((5:Int)==1)=false from rfl,show ((5:Int)==3)=false from rfl,show ((5:Int)==4)=false from rfl,cond_false];rw[wY a1 a2];simp only[Option.bind_some];have h6:=T5 (K:=K) (n:=n) (v:=n.2.2.2.2.2.1.toNat) (by omega) hv (by omega) (ji hK n.2.2.2.2.2.2.1) (fc K n.2.2.2.2.2.2.1).length 0 [] rfl (l9 k);have h3:=TJ (v:=n.2.2.2.2.2.1.toNat) (by omega) (by omega) (ji hK n.2.2.2.2.2.2.1) (fc K n.2.2.2.2.2.2.1).length 0 [] rfl (l9 k);rw[List.drop_zero,Int.natCast_zero]at h6 h3;rw[h6,ahW,hv,h3];exact⟨HE K _,zJ K _⟩
theorem arW{n:ao}{i:Int}{T T':List Int}(h:fj n i T=some T')(hi:0<=i)(hT:∀t∈T,0<=t/\t<i):
  (∀t∈T',0<=t/\t<i+1)/\(1<=ar n.1->0<=n.2.2.2.2.2.2.1/\n.2.2.2.2.2.2.1<i)/\(ar n.1=2->0<=n.2.2.2.2.2.2.2/\n.2.2.2.2.2.2.2<i):=by
 unfold fj at h;have up:∀(U:List Int),(∀t∈U,0<=t/\t<i)->∀t∈i::U,0<=t/\t<i+1:=λU hU t ht=>by
  rcases List.mem_cons.1 ht with rfl|ht
  ·omega
  ·have:=hU t ht;omega
 rcases Wq n.1 with e|e|e
 ·rw[e]at h;cases h;exact⟨up T hT,by omega,by omega⟩
 ·rw[e]at h;cases T with
  | nil=>cases h
  | cons r T =>
   cases hr:r==n.2.2.2.2.2.2.1 with
   | false=>simp only[hr,cond_false]at h;cases h
   | true =>
    simp only[hr,cond_true]at h;cases h;have hr:=beq_iff_eq.1 hr;have h1:=hT r (List.mem_cons_self ..);exact⟨up T λt ht=>hT t (List.mem_cons_of_mem _ ht),λ_=>hr▸h1,by omega⟩
 ·rw[e]at h;cases T with
  | nil=>cases h
  | cons r T =>
   cases T with
   | nil=>cases h
   | cons s T =>
    cases hr:r==n.2.2.2.2.2.2.2 with
    | false=>simp only[hr,cond_false]at h;cases h
    | true =>
     simp only[hr,cond_true]at h;cases hs:s==n.2.2.2.2.2.2.1 with
     | false=>simp only[hs,cond_false]at h;cases h
     | true =>
      simp only[hs,cond_true]at h;cases h;have hr:=beq_iff_eq.1 hr;have hs:=beq_iff_eq.1 hs;have h1:=hT r (List.mem_cons_self ..);have h2:=hT s (List.mem_cons_of_mem _ (List.mem_cons_self ..));exact⟨up T λt ht=>hT t (List.mem_cons_of_mem _ (List.mem_cons_of_mem _ ht)),λ_=>hs▸h2,λ_=>hr▸h1⟩
theorem Xw(db:List Rel):∀(l:List ao) (i:Int) (T:List Int),lE db l i T=true->0<=i->(∀t∈T,0<=t/\t<i)->∀(j:Nat) (hj:j<l.length),
  fU db l[j]=true/\(1<=ar (l[j]).1->0<=(l[j]).2.2.2.2.2.2.1/\(l[j]).2.2.2.2.2.2.1<i+j)/\(ar (l[j]).1=2->0<=(l[j]).2.2.2.2.2.2.2/\(l[j]).2.2.2.2.2.2.2<i+j)
 | [],_,_,_,_,_,j,hj=>by simp at hj
 | n::l,i,T,h,hi,hT,j,hj=>by
  unfold lE at h;cases h1:fU db n with
  | false=>rw[h1]at h;cases h
  | true =>
   rw[h1,cond_true]at h;cases h2:fj n i T with
   | none=>rw[h2]at h;cases h
   | some T' =>
    rw[h2]at h;dsimp only at h;obtain⟨k1,k2,k3⟩:=arW h2 hi hT;cases j with
    | zero =>
     refine⟨h1,λh=>?_,λh=>?_⟩
     ·have:=k2 h;simp only[List.getElem_cons_zero];omega
     ·have:=k3 h;simp only[List.getElem_cons_zero];omega
    | succ j =>
     have:=Xw db l (i+1) T' h (by omega) k1 j (by simpa using hj);simp only[List.getElem_cons_succ];refine⟨this.1,λh=>?_,λh=>?_⟩
     ·have:=this.2.1 h;omega
     ·have:=this.2.2 h;omega
def mG(db:List Rel):List ao->List (List af)->Option (List (List af))
 | [],K=>some K
 | n::l,K=>match nI db n K with
  | none=>none
  | some r=>mG db l (K++[r])
def qk(K:List (List af)):List af:=K.getD (K.length - 1) []
theorem aaK(h:K.length≠0)(h2:K.length<=1000):ab K (IntKind.i64.wrap ((K.length:Int) - 1))=some (qk K):=by
 rw[bX (by omega) (by omega)];have:=ay (xs:=K) (i:=K.length - 1) (by omega);rw[show ((K.length - 1:Nat):Int)=(K.length:Int) - 1 by omega]at this;rw[this];unfold qk;rw[List.getD_eq_getElem?_getD,List.getElem?_eq_getElem (by omega)];rfl
theorem LM(hK:∀l∈K,bR k l):bR k (qk K):=by
 unfold qk;rw[List.getD_eq_getElem?_getD];cases hg:K[K.length - 1]? with
 | none=>exact⟨by simp,by simp⟩
 | some l=>exact hK l (List.mem_of_getElem? hg)
theorem tn{i:Nat}(h:i<=12):1<=2 ^ i/\2 ^ i<=4096 :=
 ⟨Nat.one_le_two_pow,Nat.le_trans (Nat.pow_le_pow_right (by omega) h) (by decide)⟩
theorem Fs(hK:∀l∈K,bR (2 ^ i) l)(hr:bR (2*2 ^ i) r):∀l∈K++[r],bR (2 ^ (i+1)) l:=λl hl=>by
 have e:2 ^ (i+1)=2*2 ^ i:=by rw[Nat.pow_succ];omega
 rw[e];rcases List.mem_append.1 hl with h|h
 ·exact (hK l h).mono (by omega)
 ·rw[List.mem_singleton.1 h];exact hr
section
variable{db:List Rel}{f:List ao}(hd:zL zQ db<=68719476736)(h0:f.length≠0)(hf:f.length<=12)(oE:∀(j:Nat) (hj:j<f.length),fU db f[j]=true/\fh f[j]=true/\(1<=ar (f[j]).1->0<=(f[j]).2.2.2.2.2.2.1/\(f[j]).2.2.2.2.2.2.1<(j:Int))/\(ar (f[j]).1=2->0<=(f[j]).2.2.2.2.2.2.2/\(f[j]).2.2.2.2.2.2.2<(j:Int)))
include hd h0 hf oE
theorem UP:∀(m i:Nat) (K:List (List af)),m+i=f.length->K.length=i->(∀l∈K,bR (2 ^ i) l)->yJ db f K (i:Int)=fJ ((mG db (f.drop i) K).map qk)
 | 0,i,K,hm,hl,hK=>by
  obtain rfl:i=f.length:=by omega
  have hp:=tn hf;rw[Uo,aR,cond_false,List.drop_length,aaK (by omega) (by omega)];simp only[Option.bind_some];rw[Aw (LM hK) (by omega)];rfl
 | m+1,i,K,hm,hl,hK=>by
  have hi:i<f.length:=by omega
  have hp:=tn (i:=i) (by omega);obtain⟨f1,f2,f3,f4⟩:=oE i hi;have gV:=(abt hd f1 f2 hp.1 (by omega) hK (by rw[hl];exact f3) (by rw[hl];exact f4)).1;rw[Uo,aN hi,cond_true,ay hi,drop_cons hi];simp only[Option.bind_some];unfold mG;cases hr:nI db f[i] K with
  | none =>
   rw[hr]at gV;obtain⟨z,hz⟩:=gV;rw[hz];rfl
  | some r =>
   rw[hr]at gV;have gV:u6 db f[i] K=some ((r,true,()),K,()):=gV;rw[gV];simp only[Option.bind_some,Bool.not_true,cond_false];have iY:decide ((K.length+1)*24<=140737488355328)=true:=decide_eq_true (by omega);rw[iY,cond_true,aI (by omega)];exact UP m (i+1) (K++[r]) (by omega) (by simp[hl]) (Fs hK (Mj hd hp.1 hK hr))
theorem TY:∀(m i:Nat) (K:List (List af)),m+i=f.length->K.length=i->(∀l∈K,bR (2 ^ i) l)->yr db f K f (f.length:Int) (i:Int)=fJ ((mG db (f.drop i) K).map qk)
 | 0,i,K,hm,hl,hK=>by
  obtain rfl:i=f.length:=by omega
  have hp:=tn hf;rw[Tu,aR,cond_false,List.drop_length,aaK (by omega) (by omega)];simp only[Option.bind_some];rw[Ac (LM hK) (by omega)];rfl
 | m+1,i,K,hm,hl,hK=>by
  have hi:i<f.length:=by omega
  have hp:=tn (i:=i) (by omega);obtain⟨f1,f2,f3,f4⟩:=oE i hi;have gV:=(abt hd f1 f2 hp.1 (by omega) hK (by rw[hl];exact f3) (by rw[hl];exact f4)).2;rw[Tu,aN hi,cond_true,ay hi,drop_cons hi];simp only[Option.bind_some];unfold mG;cases hr:nI db f[i] K with
  | none =>
   rw[hr]at gV;obtain⟨z,hz⟩:=gV;rw[hz];rfl
  | some r =>
   rw[hr]at gV;have gV:Ai db f[i] K=some ((r,true,()),K,()):=gV;rw[gV];simp only[Option.bind_some,Bool.not_true,cond_false];have iY:decide ((K.length+1)*24<=140737488355328)=true:=decide_eq_true (by omega);rw[iY,cond_true,aI (by omega)];exact TY m (i+1) (K++[r]) (by omega) (by simp[hl]) (Fs hK (Mj hd hp.1 hK hr))
omit h0 oE in
theorem Wm:∀(m i:Nat) (K:List (List af)) {R:List (List af)},m+i=f.length->(∀l∈K,bR (2 ^ i) l)->mG db (f.drop i) K=some R->∀l∈R,bR (2 ^ f.length) l
 | 0,i,K,R,hm,hK,h=>by
  obtain rfl:i=f.length:=by omega
  rw[List.drop_length]at h;cases h;exact hK
 | m+1,i,K,R,hm,hK,h=>by
  have hi:i<f.length:=by omega
  have hp:=tn (i:=i) (by omega);rw[drop_cons hi]at h;unfold mG at h;cases hr:nI db f[i] K with
  | none=>rw[hr]at h;cases h
  | some r =>
   rw[hr]at h;exact Wm m (i+1) (K++[r]) (by omega) (Fs hK (Mj hd hp.1 hK hr)) h
end
def qL(db:List Rel)(f:List ao):Option (List af):=bif eN db f&&f.all fh then (mG db f []).map qk else none
theorem Kp{db:List Rel}{f:List ao}(h:(eN db f&&f.all fh)=true):f.length≠0/\f.length<=12/\∀(j:Nat) (hj:j<f.length),fU db f[j]=true/\fh f[j]=true/\(1<=ar (f[j]).1->0<=(f[j]).2.2.2.2.2.2.1/\(f[j]).2.2.2.2.2.2.1<(j:Int))/\(ar (f[j]).1=2->0<=(f[j]).2.2.2.2.2.2.2/\(f[j]).2.2.2.2.2.2.2<(j:Int)):=by
 rw[Bool.and_eq_true]at h;obtain⟨h1,h2⟩:=h;unfold eN at h1;simp only[Bool.and_eq_true,decide_eq_true_eq]at h1;obtain⟨_,⟨h3,h4⟩,h5⟩:=h1;refine⟨by omega,by omega,λj hj=>?_⟩;obtain⟨k1,k2,k3⟩:=Xw db f 0 [] h5 (by omega) (by simp) j hj;refine⟨k1,List.all_eq_true.1 h2 _ (List.getElem_mem hj),λh=>?_,λh=>?_⟩
 ·have:=k2 h;omega
 ·have:=k3 h;omega
theorem aiL{db:List Rel}{f:List ao}(hd:zL zQ db<=68719476736)(hf:zL zN f<=68719476736):u5 db f=fJ (qL db f):=by
 rw[aiK,VV db f hd hf];unfold qL;simp only[Option.bind_some];cases h:eN db f&&f.all fh with
 | false=>rfl
 | true =>
  obtain⟨a1,a2,a3⟩:=Kp h;have:=UP hd a1 a2 a3 f.length 0 [] rfl rfl (by simp);rw[List.drop_zero,Int.natCast_zero]at this;simp only[Bool.not_true,cond_false,cond_true];exact this
theorem ahy{db:List Rel}{f:List ao}(hd:zL zQ db<=68719476736)(hf:zL zN f<=68719476736):z7 db f=fJ (qL db f):=by
 rw[ahx,Vw db f hf];unfold qL;simp only[Option.bind_some];cases h:eN db f&&f.all fh with
 | false=>rfl
 | true =>
  obtain⟨a1,a2,a3⟩:=Kp h;have:=TY hd a1 a2 a3 f.length 0 [] rfl rfl (by simp);rw[List.drop_zero,Int.natCast_zero]at this;simp only[Bool.not_true,cond_false,cond_true];exact this
theorem arY{db:List Rel}{f:List ao}(hd:zL zQ db<=68719476736)(h:qL db f=some r):bR 4096 r:=by
 unfold qL at h;cases hb:eN db f&&f.all fh with
 | false=>rw[hb]at h;cases h
 | true =>
  obtain⟨a1,a2,a3⟩:=Kp hb;rw[hb,cond_true]at h;cases hr:mG db f []with
  | none=>rw[hr]at h;cases h
  | some R =>
   rw[hr]at h;cases h;have:=Wm hd a2 f.length 0 [] rfl (by simp) (by rw[List.drop_zero];exact hr);exact (LM this).mono (tn a2).2
theorem arZ{l:List af}(h:bR k l):zL zP l<=24*(81+k*3):=by
 have:=E5 zP (80+k*3) l (λs hs=>(qw (h.2 s hs)).2);have h2:l.length*(80+k*3+1)<=24*(80+k*3+1):=Nat.mul_le_mul_right _ h.1;omega
theorem Wl{p:Nat->Bool}:∀{n i:Nat},oa p n i=true->∀j,i<=j->j<i+n->p j=true
 | 0,i,_,j,h1,h2=>by omega
 | n+1,i,h,j,h1,h2=>by
  simp only[oa,Bool.and_eq_true]at h;by_cases e:j=i
  ·subst e;exact h.1
  ·exact Wl h.2 j (by omega) (by omega)
theorem Df{db:List Rel}(h:gN db=true)(hi:i<db.length):la db[i]=true/\cA (named db[i].1) db=(i:Int):=by
 unfold gN at h;rw[Bool.and_eq_true]at h;have:=Wl h.1 i (by omega) (by omega);unfold oj at this;rw[List.getElem?_eq_getElem hi]at this;simp only[Bool.and_eq_true,Bool.not_eq_true']at this;refine⟨this.1,?_⟩;have h2:=this.2;rw[Xm _ db i hi (by simp[named])]at h2;simpa using h2
theorem MC{r:Rel}(h:la r=true):r.2.2.length<=8/\∀x∈r.2.2,bw x.2=true:=by
 unfold la at h;simp only[Bool.and_eq_true,decide_eq_true_eq,List.all_eq_true]at h;refine⟨by omega,λx hx=>?_⟩;have:=h.2.2.2 x hx;unfold tr at this;simp only[Bool.and_eq_true]at this;exact this.2.1
theorem ajh{r:Rel}(h:la r=true):AH r=some ((r,()),()):=by
 obtain⟨h1,h2⟩:=MC h;rw[ajg];have:=kE r.2.2 id (λo=>some (((r.1,r.2.1,o),()),())) (λo i=>yU r (ByteArray.empty,0,[]) (r.1,r.2.1,o) i) (λi hi o ho=>by
  have hd:decide ((o.length+1)*48<=140737488355328)=true:=decide_eq_true (by omega);rw[UK,aN hi,cond_true,ay hi];simp only[Option.bind_some];rw[(vu (h2 _ (List.getElem_mem hi))).1];simp only[Option.bind_some];rw[hd,cond_true,aI (by omega)];rfl) (λo=>by rw[UK,aR];rfl)
 rw[this,List.map_id]
theorem ajf{db:List Rel}(h:gN db=true):AI db=some ((db,()),()):=by
 have hl:=De h;rw[aje];have:=kE db id (λo=>some ((o,()),())) (λo i=>yT db o i) (λi hi o ho=>by
  have hd:decide ((o.length+1)*48<=140737488355328)=true:=decide_eq_true (by omega);rw[UJ,aN hi,cond_true,ay hi];simp only[Option.bind_some];rw[ajh (Df h hi).1];simp only[Option.bind_some];rw[hd,cond_true,aI (by omega)];rfl) (λo=>by rw[UJ,aR];rfl)
 rw[this,List.map_id]
theorem ahQ{r:Rw}(h:bw r.2=true):HL r=some ((r,()),()):=by
 rw[ahP,(vu h).2];rfl
theorem ahJ{db:List Rel}(h:gN db=true):Aa db=some ((db,()),()):=by
 have hl:=De h;have sG:(decide ((0:Nat)<=0)&&decide ((0:Int)<=(db.length:Int))&&decide ((db.length:Int)*((48:Nat):Int)<=140737488355328)&&decide ((db.length:Int)<=9223372036854775807))=true:=by simp;omega
 rw[ahI];have this:=kE db id (λo=>some ((o,()),())) (λo i=>rq db o db (db.length:Int) i) (λi hi o ho=>by
  obtain⟨h1,h2⟩:=MC (Df h hi).1;have hd:decide ((o.length+1)*48<=140737488355328)=true:=decide_eq_true (by omega);have hc:(decide ((0:Nat)<=0)&&decide ((0:Int)<=((db[i]).2.2.length:Int))&&decide (((db[i]).2.2.length:Int)*((48:Nat):Int)<=140737488355328)&&decide (((db[i]).2.2.length:Int)<=9223372036854775807))=true:=by simp;omega
  rw[TD,aN hi,cond_true,ay hi];simp only[Option.bind_some];refine Eq.trans (b:=(bif (decide ((0:Nat)<=0)&&decide ((0:Int)<=((db[i]).2.2.length:Int))&&decide (((db[i]).2.2.length:Int)*((48:Nat):Int)<=140737488355328)&&decide (((db[i]).2.2.length:Int)<=9223372036854775807))then ur db o db[i] ((db[i]).1,(db[i]).2.1,[]) db (db.length:Int) (i:Int) (db[i]).2.2 ((db[i]).2.2.length:Int) 0 else none)) rfl ?_;rw[hc,cond_true];have inner:=kE (db[i]).2.2 id (λq=>(bif decide ((o.length+1)*48<=140737488355328)then rq db (o++[((db[i]).1,(db[i]).2.1,q)]) db (db.length:Int) (IntKind.i64.wrap ((i:Int)+1))else none)) (λq j=>ur db o db[i] ((db[i]).1,(db[i]).2.1,q) db (db.length:Int) (i:Int) (db[i]).2.2 ((db[i]).2.2.length:Int) j) (λj hj q hq=>by
   have iY:decide ((q.length+1)*48<=140737488355328)=true:=decide_eq_true (by omega);rw[TE,aN hj,cond_true,ay hj];simp only[Option.bind_some];rw[ahQ (h2 _ (List.getElem_mem hj))];simp only[Option.bind_some];rw[iY,cond_true,aI (by omega)];rfl) (λq=>by rw[TE,aR];rfl)
  rw[inner,List.map_id,hd,cond_true,aI (by omega)];rfl) (λo=>by rw[TD,aR];rfl)
 refine Eq.trans (b:=(bif (decide ((0:Nat)<=0)&&decide ((0:Int)<=(db.length:Int))&&decide ((db.length:Int)*((48:Nat):Int)<=140737488355328)&&decide ((db.length:Int)<=9223372036854775807))then rq db [] db (db.length:Int) 0 else none)) rfl ?_;rw[sG,cond_true,this,List.map_id]
theorem acO(f:α->Nat)(y:α):∀(l:List α) (i:Nat),(∀hi:i<l.length,f y<=f l[i])->zL f (l.set i y)<=zL f l
 | [],i,_=>by simp
 | a::l,0,h=>by
  have:=h (by simp);simp only[List.getElem_cons_zero]at this;simp only[List.set_cons_zero,zL,List.length_cons,List.map_cons,List.sum_cons];omega
 | a::l,i+1,h=>by
  have:=acO f y l i (λhi=>by have:=h (by simpa using hi);simpa using this);simp only[List.set_cons_succ,zL,List.length_cons,List.map_cons,List.sum_cons]at this ⊢;omega
theorem acP(f:α->Nat):∀(l:List α) (n:Nat),zL f (l.take n)<=zL f l
 | [],n=>by simp
 | a::l,0=>by simp[zL]
 | a::l,n+1=>by
  have:=acP f l n;simp only[List.take_succ_cons,zL,List.length_cons,List.map_cons,List.sum_cons]at this ⊢;omega
def od(db:List Rel)(k:Int)(n:ao):Bool:=n.1==1&&cA (named n.2.2.1) db==k
def sa(nm:ByteArray)(n:ao):Bool:=n.1==1&&ByteArray.toList n.2.2.1==nm.toList
theorem alb{db:List Rel}(h:gN db=true)(hk:k<db.length)(n:ao):od db (k:Int) n=sa db[k].1 n:=by
 unfold od sa;cases n.1==1 with
 | false=>rfl
 | true =>
  rw[Bool.true_and,Bool.true_and,Bool.eq_iff_iff,beq_iff_eq,beq_iff_eq];constructor
  ·intro e;have h1:cA (named n.2.2.1) db=(k:Int):=e;unfold cA at h1;split at h1
   ·rename_i ax;have hp:=List.findIdx_getElem (w:=ax);have e2:db.findIdx (named n.2.2.1)=k:=by omega
    simp only[e2]at hp;unfold named at hp;exact (beq_iff_eq.1 hp).symm
   ·omega
  ·intro e;have hn:named n.2.2.1=named db[k].1:=by
    funext r;unfold named;rw[e]
   rw[hn];exact (Df h hk).2
theorem yE{db:List Rel}{k:Int}{v z:a8}{last:Int}{out:a8}(hd:db.length<=68719476736)(hf:v.1.length<=1000000):∀(m i:Nat) (b:Bool),m+i=v.1.length ->
  rF db k v z last out b (i:Int)=bif b||(v.1.drop i).any (od db k)then (u5 db v.1).bind (λy=>rG k z last out y.1.1 y.1.2.1 0)else some ((out,true,()),())
 | 0,i,b,hm=>by
  obtain rfl:i=v.1.length:=by omega
  rw[Up,aR,cond_false,List.drop_length];cases b<;>rfl
 | m+1,i,b,hm=>by
  have hi:i<v.1.length:=by omega
  rw[Up,aN hi,cond_true,drop_cons hi,List.any_cons,aI (by omega)];cases b with
  | true =>
   rw[cond_true,yE hd hf m (i+1) true (by omega)];rfl
  | false =>
   rw[cond_false,ay hi];simp only[Option.bind_some];cases hk:(v.1[i]).1==1 with
   | false =>
    rw[cond_false,yE hd hf m (i+1) false (by omega)];have:od db k v.1[i]=false:=by unfold od;rw[hk];rfl
    rw[this];rfl
   | true =>
    rw[cond_true,Ak db _ hd];simp only[Option.bind_some];have:od db k v.1[i]=(cA (named (v.1[i]).2.2.1) db==k):=by unfold od;rw[hk];rfl
    rw[this,yE hd hf m (i+1) _ (by omega)];rfl
theorem TN{nm:ByteArray}{f:List ao}(hf:f.length<=1000000):∀(m i:Nat),m+i=f.length ->
  uz f nm f (f.length:Int) (i:Int)=some (((f.drop i).any (sa nm),()),())
 | 0,i,hm=>by
  obtain rfl:i=f.length:=by omega
  rw[TM,aR,cond_false,List.drop_length];rfl
 | m+1,i,hm=>by
  have hi:i<f.length:=by omega
  rw[TM,aN hi,cond_true,ay hi,drop_cons hi,List.any_cons,aI (by omega),TN hf m (i+1) (by omega)];simp only[Option.bind_some];unfold sa;cases (f[i]).1==1<;>cases (ByteArray.toList (f[i]).2.2.1==nm.toList)<;>rfl
def qR(k last:Int)(s:af):Bool:=s.2.any (λq=>hZ q [k,last])
def Kk(v:a8):Option ((a8×Bool×PUnit)×PUnit):=bif decide (v.2.length>24)then some ((([],[]),false,()),())else some ((v,true,()),())
theorem XR(n:Nat):decide ((n:Int)>24)=decide (n>24):=by rw[Bool.eq_iff_iff];simp;omega
theorem abD(h:okF k s)(hk:k<=1000000):Du s.2:=⟨by have:=h.2.2.1;omega,h.2.2.2⟩
theorem FN{k last:Int}{z:a8}{F:List ao}{L:List af}{b:Nat}(hb:b<=1000000)(hL:bR b L):∀(m i:Nat) (o:List af),m+i=L.length->o.length+m<=1000 ->
  rG k z last (F,o) L true (i:Int)=Kk (F,o++(L.drop i).filter (qR k last))
 | 0,i,o,hm,ho=>by
  obtain rfl:i=L.length:=by omega
  rw[FO,aR,cond_false,List.drop_length];simp only[Bool.not_true,cond_false,List.filter_nil,List.append_nil];rw[XR];rfl
 | m+1,i,o,hm,ho=>by
  have hi:i<L.length:=by omega
  have ep:i<=24:=by have:=hL.1;omega
  have hs:=hL.2 _ (List.getElem_mem hi);rw[FO,aN hi,cond_true,ay hi,drop_cons hi];simp only[Option.bind_some];rw[aiS _ _ _ (abD hs hb)];simp only[Option.bind_some];rw[aI (by omega)];cases hu:qR k last L[i]with
  | true =>
   have gY:(L[i]).2.any (λq=>hZ q [k,last])=true:=hu;have hd:decide ((o.length+1)*56<=140737488355328)=true:=decide_eq_true (by omega);rw[gY,cond_true,hd,cond_true,List.filter_cons_of_pos hu,FN hb hL m (i+1) (o++[L[i]]) (by omega) (by simp;omega),List.append_assoc];rfl
  | false =>
   have gY:(L[i]).2.any (λq=>hZ q [k,last])=false:=hu;rw[gY,cond_false,List.filter_cons_of_neg (by rw[hu];simp),FN hb hL m (i+1) o (by omega) (by omega)]
theorem FG{k last:Int}{z:a8}{F:List ao}{L:List af}{b:Nat}(hb:b<=1000000)(hL:bR b L):∀(m i:Nat) (o:List af),m+i=L.length->o.length+m<=1000 ->
  uo k z last (F,o) ((i:Int),L) (L.length:Int) (i:Int)=Kk (F,o++(L.drop i).filter (qR k last))
 | 0,i,o,hm,ho=>by
  obtain rfl:i=L.length:=by omega
  rw[Tv,aR,cond_false,List.drop_length];simp only[List.filter_nil,List.append_nil];rw[XR];rfl
 | m+1,i,o,hm,ho=>by
  have hi:i<L.length:=by omega
  have ep:i<=24:=by have:=hL.1;omega
  have hs:=hL.2 _ (List.getElem_mem hi);have hle:(V.dead.idle&&decide ((i:Int)<=(i:Int)))=true:=by simp[V.idle,V.aO]
  rw[Tv,aN hi,cond_true];dsimp only;rw[ay hi,drop_cons hi];simp only[Option.bind_some];rw[hle,cond_true];rw[ahw _ _ _ (abD hs hb)];simp only[Option.bind_some];rw[aI (by omega),show (i:Int)+1=((i+1:Nat):Int)by omega];cases hu:qR k last L[i]with
  | true =>
   have gY:(L[i]).2.any (λq=>hZ q [k,last])=true:=hu;have hd:decide ((o.length+1)*56<=140737488355328)=true:=decide_eq_true (by omega);rw[gY,cond_true,hd,cond_true,List.filter_cons_of_pos hu,FG hb hL m (i+1) (o++[L[i]]) (by omega) (by simp;omega),List.append_assoc];rfl
  | false =>
   have gY:(L[i]).2.any (λq=>hZ q [k,last])=false:=hu;rw[gY,cond_false,List.filter_cons_of_neg (by rw[hu];simp),FG hb hL m (i+1) o (by omega) (by omega)]
theorem auZ{db:List Rel}{v:a8}(zd:zL zQ db<=68719476736)(zv:zV v<=68719476736)(h:mv db v=true):bR 12 v.2:=by
 obtain⟨h1,h2⟩:=au0 h;refine⟨h1,λs hs=>?_⟩;unfold mv at h;simp only[Bool.and_eq_true,List.all_eq_true]at h;have DW:=h.2.2 s hs;have hz:zP s<=68719476736:=by
  have:=cK zP hs;rw[xW]at zv;omega
 have hg:=alU zd hz DW;have hl:s.2.length<=12:=by
  unfold lk at DW;simp only[Bool.and_eq_true,Bool.not_eq_true',decide_eq_false_iff_not]at DW;have:=DW.2.2.1;omega
 exact⟨(h2 s hs).1,(h2 s hs).2,hl,hg.2⟩
theorem aly{b:Nat}{o L:List af}{p:af->Bool}(ho:bR b o)(hL:bR b L)(hl:(o++L.filter p).length<=24):bR b (o++L.filter p):=by
 refine⟨hl,λs hs=>?_⟩;rcases List.mem_append.1 hs with h|h
 ·exact ho.2 s h
 ·exact hL.2 s (List.mem_filter.1 h).1
theorem ak2(db:List Rel)(v:a8)(rel:Int)(zd:zL zQ db<=68719476736)(zv0:zV v<=1048576)(hv:cF Mu v):
  ∃r ok,Au db v rel=some ((r,ok,()),())/\uR db v rel=some ((r,ok,()),())/\zV r<=68719476736:=by
 have zv:zV v<=68719476736:=by omega
 have dX:zV (([],[]):a8)<=68719476736:=by decide
 have Za:=xW v;rw[aiM,ahz,VS _ (Ds zd),Vt];simp only[Option.bind_some];cases vP:gN db with
 | false=>exact⟨([],[]),false,rfl,rfl,dX⟩
 | true =>
  have hl:=De vP;simp only[Bool.not_true,cond_false];rw[jD,bX (by omega) (by omega)];simp only[Option.bind_some];by_cases g0:rel<0
  ·have e1:decide (rel<0)=true:=decide_eq_true g0;have e2:(decide (0<=rel)&&decide (rel<=(db.length:Int) - 1))=false:=by simp;omega
   rw[e1,e2];exact⟨([],[]),false,rfl,rfl,dX⟩
  ·by_cases g1:rel>=(db.length:Int)
   ·have e1:decide (rel<0)=false:=decide_eq_false g0;have e2:(decide (0<=rel)&&decide (rel<=(db.length:Int) - 1))=false:=by simp;omega
    have e3:decide (rel>=(db.length:Int))=true:=decide_eq_true g1;rw[e1,e2,e3];exact⟨([],[]),false,rfl,rfl,dX⟩
   ·have e1:decide (rel<0)=false:=decide_eq_false g0;have e2:(decide (0<=rel)&&decide (rel<=(db.length:Int) - 1))=true:=by simp;omega
    have e3:decide (rel>=(db.length:Int))=false:=decide_eq_false g1;obtain⟨k,rfl⟩:∃k:Nat,rel=(k:Int):=⟨rel.toNat,by omega⟩;have hk:k<db.length:=by omega
    rw[e1,e2,e3];simp only[Bool.not_true,cond_false];rw[ay hk];simp only[Option.bind_some];obtain⟨r1,r2⟩:=MC (Df vP hk).1;cases hz:(((db[k]).2.2.length:Nat):Int)==0 with
    | true=>exact⟨([],[]),false,rfl,rfl,dX⟩
    | false =>
     have bm:(db[k]).2.2.length≠0:=by
      intro e;rw[e]at hz;cases hz
     simp only[cond_false];rw[ajf vP,ahJ vP];simp only[Option.bind_some];rw[ay hk];simp only[Option.bind_some];have hw:IntKind.i64.wrap ((((db[k]).2.2.length:Nat):Int) - 1)=(((db[k]).2.2.length - 1:Nat):Int):=by
      rw[bX (by omega) (by omega)];omega
     rw[hw];have hc:(decide ((0:Nat)<=0)&&decide ((0:Int)<=(((db[k]).2.2.length - 1:Nat):Int))&&decide ((((db[k]).2.2.length - 1:Nat):Int)<=(((db[k]).2.2.length:Nat):Int)))=true:=by simp<;>omega
     generalize hold:List.set db ((k:Int)).toNat ((db[k]).1,(db[k]).2.1,List.drop (Int.toNat 0) (List.take ((((db[k]).2.2.length - 1:Nat):Int)).toNat (db[k]).2.2))=old;rw[hc,cond_true,cond_true];have zo:zL zQ old<=68719476736:=by
      rw[<-hold,Int.toNat_natCast];refine Nat.le_trans (acO zQ _ db k λhi=>?_) zd;show zB (db[k]).1+zL zR (List.drop (Int.toNat 0) (List.take _ (db[k]).2.2))<=zB (db[k]).1+zL zR (db[k]).2.2;have:=acP zR (db[k]).2.2 ((((db[k]).2.2.length - 1:Nat):Int)).toNat;simp only[show Int.toNat 0=0 from rfl,List.drop_zero];omega
     rw[aiC old v zo zv,ahk old v zv];simp only[Option.bind_some];cases Lj:mv old v with
     | false=>exact⟨([],[]),false,rfl,rfl,dX⟩
     | true =>
      have aH:=auZ zo zv Lj;simp only[Bool.not_true,cond_false];have ja:v.1.length<=1000000:=by
       unfold mv eN at Lj;simp only[Bool.and_eq_true,decide_eq_true_eq]at Lj;omega
      rw[ajd v.1 (by omega) hv.1.2,ahN v.1 (by omega)];simp only[Option.bind_some];rw[Aw aH (by omega),Ac aH (by omega)];simp only[Option.bind_some];have sy:=yE (db:=db) (k:=(k:Int)) (v:=v) (z:=([],[])) (last:=(((db[k]).2.2.length - 1:Nat):Int)) (out:=(v.1,v.2)) (by omega) ja v.1.length 0 false rfl;have Y2:=TN (nm:=(db[k]).1) (f:=v.1) ja v.1.length 0 rfl;rw[List.drop_zero,Int.natCast_zero]at sy Y2;rw[sy,ah0,Y2];simp only[Option.bind_some,Bool.false_or];have e9:v.1.any (od db (k:Int))=v.1.any (sa (db[k]).1):=by
       congr 1;funext n;exact alb vP hk n
      rw[e9];cases v.1.any (sa (db[k]).1)with
      | false=>exact⟨(v.1,v.2),true,rfl,rfl,zv⟩
      | true =>
       simp only[Bool.not_true,cond_false,cond_true];rw[aiL (f:=v.1) zd (by omega),ahy (f:=v.1) zd (by omega)];cases hs:qL db v.1 with
       | none =>
        unfold fJ;simp only[Option.bind_some,Bool.not_false,cond_true];rw[FO];exact⟨([],[]),false,rfl,rfl,dX⟩
       | some L =>
        have hL:=arY zd hs;unfold fJ;simp only[Option.bind_some,Bool.not_true,cond_false];have KQ:=hL.1;have kK:=aH.1;have XV:=FN (k:=(k:Int)) (last:=(((db[k]).2.2.length - 1:Nat):Int)) (z:=([],[])) (F:=v.1) (by omega) hL L.length 0 v.2 rfl (by omega);have XT:=FG (k:=(k:Int)) (last:=(((db[k]).2.2.length - 1:Nat):Int)) (z:=([],[])) (F:=v.1) (by omega) hL L.length 0 v.2 rfl (by omega);rw[List.drop_zero,Int.natCast_zero]at XV XT;rw[XV,XT];unfold Kk;cases hgt:decide ((v.2++L.filter (qR (k:Int) (((db[k]).2.2.length - 1:Nat):Int))).length>24)with
        | true =>
         refine⟨([],[]),false,?_,?_,dX⟩<;>rfl
        | false =>
         refine⟨(v.1,v.2++L.filter (qR (k:Int) (((db[k]).2.2.length - 1:Nat):Int))),true,?_,?_,?_⟩
         ·rfl
         ·rfl
         ·have h24:=of_decide_eq_false hgt;have:=arZ (aly (p:=qR (k:Int) (((db[k]).2.2.length - 1:Nat):Int)) (aH.mono (show 12<=4096 by omega)) hL (by omega));rw[xW];show zL zN v.1+zL zP (v.2++L.filter _)<=_;omega
theorem apI(x:List Rel)(v:a8)(rel:Int)(hx:cF (.slice 0 EA) x)(hv:cF Mu v):Ia x v rel=some ((true,()),()):=by
 rw[ajp,akp x 1048576 hx (by omega) (by omega)];simp only[Option.bind_some];rcases jo 1048576 (zL zQ x)with⟨e,_⟩|⟨k1,e,a1,d1⟩
 ·rw[e];rfl
 have c1:decide (k1<0)=false:=by simp;omega
 rw[e];simp only[c1,cond_false];rw[akB v k1 hv (by omega) (by omega)];simp only[Option.bind_some];rcases jo k1 (zV v)with⟨e,_⟩|⟨k2,e,a2,d2⟩
 ·rw[e];rfl
 have c2:decide (k2<0)=false:=by simp;omega
 rw[e];simp only[c2,cond_false];have zx:zL zQ x<=68719476736:=by omega
 have zv:zV v<=68719476736:=by omega
 obtain⟨r,ok,w1,w2,w3⟩:=ak2 x v rel zx (by omega) hv;have q1:=dx LZ x 1;have q2:=tdV v (mL mQ x 1).2;have q3:=tdV r 1;have n1:decide ((tV v (mL mQ x 1).2).2<0)=false:=decide_eq_false (by omega);have n2:decide ((tV r 1).2<0)=false:=decide_eq_false (by omega);have m1:=aj6 x 1 (by omega) (by omega) zx;have m2:=Wa v (mL mQ x 1).2 (by omega) (by omega) zv;have m3:=Wa r 1 (by omega) (by omega) w3;have m4:=ajY r 1 (by omega) (by omega) w3;rw[akO x zx,Option.bind_some,ak0 v zv,Option.bind_some];dsimp only;rw[w1,Option.bind_some,Option.bind_some,Option.bind_some,w2,Option.bind_some];dsimp only;rw[Ii r w3,Option.bind_some];simp only[Bool.not_true,cond_false,beq_self_eq_true,Option.bind_some,ajC x zx,Ii v zv,m1,m2,n1,Ii r w3,m3,m4,n2,bne_self_eq_false,w2]
end Go.Proofs.YthfgcmoipebheaaGreat.P.It
