/- A part of the proof: Am39,Am40,Am41,Am42,Am43,Am44,Am45,Am46,Am47. No conditions. -/
import Derived.Test.YtbhogmdpmkpinaaGreatPG4
set_option linter.unusedVariables false
set_option linter.unusedSimpArgs false
namespace Go.Proofs.YtbhogmdpmkpinaaGreat.P.Am
section
variable{P:Program}{C:Ctx}{w w' w0:World}{S S':Nat->Prop}{L L' L0:Nat->aj}{s N:Nat}{vs:List Nat}{T T':List V}{tm tm':Array Value}{a:Act}
theorem step_append[af](hI:Inv w0 L0 N vs T a w L)(hC:bD P C){o:Oper}{X X2:TypeId}{sO xO:Operand}{d:Nat}{ups:List (Nat×V)}{log:List Nat}
  (ho:o.op = .call { callee:=.builtin .append,args:=#[sO,xO],argTypes:=#[X,X2] }) (ay:o.dst=some d) (hd:d<N) (hid:(T.getD d .dead).idle=true)
  (h:(HB C vs d X X2 sO xO).ai T ups log):Step P o w0 L0 N vs (ah T ups) a w:=by
 unfold HB at h;split at h
 ·rename_i e t hX;split at h
  ·rename_i e2 t2 iI;obtain⟨b,l1,l2,rfl,h1,h⟩:=M.an h;obtain⟨c,l3,l4,rfl,h2,h⟩:=M.an h;split at h
   ·rename_i aiS;obtain⟨bp,hby,iO⟩:=aiS;obtain⟨hg,rfl,_⟩:=h;have hg:=of_decide_eq_true hg;obtain⟨hu,he⟩:=(hC X _ hX).b7;obtain⟨Ju,lW⟩:=(hC X2 _ iI).b7;obtain⟨i,z,i1,i2,i3,i4,i5⟩:=(hC e t he).info;have dZ:∀v∈t.ct,v.oneCell'=true:=Own.one (Own.zero (w:=w) (L:=L) (S:=λ_=>True) (s:=0) (n:=0) (t:=t) (q:=[]) (o:=0));have jo:=Form.cells i5 dZ;have im:z.cells.size=t.sz:=by rw[<-Array.length_toList,jo,Ty.jI]
    obtain⟨so,nJ,Vy⟩:=ahN hI h1 d;obtain⟨news,cW,oS,bw⟩:=anI hI h2 Ju;have gj:=cW.total;have V1:b.xs.length+c.ys.length<=140737488355328:=Nat.le_trans (Nat.le_mul_of_pos_right _ (by omega)) hg;have sQ:b.xs.length+c.ys.length<=maxLen:=by simp only[maxLen];omega
    have Wq:(b.s=some so/\so∉vs/\(T.getD so .dead).aL=true)\/(b.s=none/\so=d):=nJ.imp (λh=>⟨h.1,h.2.1,h.2.2.1⟩) id;have bn:∀s,c.s=some s->s≠so:=by
     intro s hs;rcases nJ with⟨hb,_⟩|⟨hb,rfl⟩
     ·rintro rfl
      rw[hs,hb]at iO;simp at iO
     ·exact df hid (oS s hs).2.1
    have fin:∀(kept:Bool) (nl:Nat->aj) (w':World) (g pF:Nat) (cur':Array Value) (iU:List Value),
      (Builtin.append_ #[X,X2] o.type #[a.eval sO,a.eval xO]).run P w = .ok (.slice (some ⟨g,0,none⟩) (b.xs.length+c.ys.length) pF) w' ->
      Wd w w' L nl (λs=>s=d\/s=so\/c.s=some s)->(∀k s q,w.heap.size<=k->nl k = .own s q->s=d/\q=[0]/\k=w.heap.size/\kept=false) ->
      aS (gz d so c.s kept (b.xs.length*t.sz) (c.ys.length*t.sz) (jO b.n c.n)) w L nl g = .own d [0] ->
      w'.heap[g]?=some (.cells cur' e (0,0))->b.xs.length+c.ys.length<=pF->pF<=maxLen->cur'.size=pF*t.sz ->
      (∀k,L k ≠ .free->L k ≠ .own so [0]->w'.heap[k]?=w.heap[k]?) ->
      (∀i,i<b.xs.length*t.sz->cur'[i]?=iU[i]?)->(∀i,i<c.ys.length*t.sz->cur'[b.xs.length*t.sz+i]?=news[i]?) ->
      (∀(L':Nat->aj) (w':World) (m:Nat),m<=b.n->(∀k,L k = .aq->L' k = .aq/\w'.heap[k]?=w.heap[k]?) ->
       (∀k y rest,y<b.xs.length*t.sz->L k = .own so (0::y::rest)->w'.heap[k]?=w.heap[k]?/\(rest.length<m->L' k = .own d (0::y::rest))/\(m<=rest.length->L' k = .aq)) ->
       ∀j (h:j<b.xs.length),Own w' L' (SL L' none) d m t (b.xs[j]) [0] (j*t.sz) ((iU.drop (j*t.sz)).take t.sz)) ->
      Step P o w0 L0 N vs (ah T ((b.s.toList++c.s.toList).map (λs=>(s,V.dead))++[(d,.d none (jO b.n c.n+1) (.slice e t) (b.xs++c.ys))])) a w:=by
     intro kept nl w' g pF cur' iU aN hw ajG gH I2 B6 aiO oJ hold eu dJ sD;have vQ:(execOp a.eval o).run P w = .ok (.value (.slice (some ⟨g,0,none⟩) (b.xs.length+c.ys.length) pF)) w':=by
      simp[execOp,ho,resolve,invoke,builtin,aN]
     refine Step.value ay vQ (Inv.app (b1:=b.xs.length*t.sz) (b2:=c.ys.length*t.sz) (m:=jO b.n c.n) hI hd hid Wq (λs hs=>⟨(oS s hs).1,(oS s hs).2.1⟩) hw ajG rfl (by simp[V.aL,Ty.depth]) (λT' tm'=>?_));refine⟨by simp,_,rfl,?_⟩;simp only[Own];refine .inr ⟨g,pF,cur',by rw[List.length_append],by simpa using gH,I2,by rw[List.length_append];exact B6,aiO,oJ,λj hj=>?_⟩;have a7:∀k,L k = .aq->aS (gz d so c.s kept (b.xs.length*t.sz) (c.ys.length*t.sz) (jO b.n c.n)) w L nl k = .aq/\w'.heap[k]?=w.heap[k]? :=
      λk hk=>⟨ez hI hk,hold k (by rw[hk];simp) (by rw[hk];simp)⟩
     by_cases VO:j<b.xs.length
     ·rw[List.getElem_append_left VO];have JB:(cur'.toList.drop (j*t.sz)).take t.sz=(iU.drop (j*t.sz)).take t.sz:=qQ λk hk=>by
       have:(j+1)*t.sz<=b.xs.length*t.sz:=Nat.mul_le_mul_right _ (by omega);rw[Nat.add_mul,Nat.one_mul]at this;rw[Array.getElem?_toList];exact eu _ (by omega)
      rw[JB];refine sD _ w' _ TJ.1 a7 (λk y rest hy hk=>?_) j VO;have hZ:aS (gz d so c.s kept (b.xs.length*t.sz) (c.ys.length*t.sz) (jO b.n c.n)) w L nl k=if rest.length<jO b.n c.n then .own d (0::y::rest)else .aq:=by
       rw[cX hI (by rw[hk];simp),hk];simp[eN,gz,hy]
      refine⟨hold k (by rw[hk];simp) (by rw[hk];simp),λh=>?_,λh=>?_⟩
      ·rw[hZ,if_pos h]
      ·rw[hZ,if_neg (by omega)]
     ·rw[List.getElem_append_right (by omega)];have v8:j - b.xs.length<c.ys.length:=by rw[List.length_append]at hj;omega
      have Cj:j*t.sz=b.xs.length*t.sz+(j - b.xs.length)*t.sz:=by rw[<-Nat.add_mul];congr 1;omega
      have JB:(cur'.toList.drop (j*t.sz)).take t.sz=(news.drop ((j - b.xs.length)*t.sz)).take t.sz:=qQ λk hk=>by
       have:(j - b.xs.length+1)*t.sz<=c.ys.length*t.sz:=Nat.mul_le_mul_right _ (by omega);rw[Nat.add_mul,Nat.one_mul]at this;rw[Array.getElem?_toList,Cj,Nat.add_assoc];exact dJ _ (by omega)
      rw[JB,Cj];refine bw _ w' d (b.xs.length*t.sz) _ (λk hk=>TJ.2 k hk) a7 (λs k y rest hs hy hk=>?_) _ v8;have hZ:aS (gz d so c.s kept (b.xs.length*t.sz) (c.ys.length*t.sz) (jO b.n c.n)) w L nl k=if rest.length<jO b.n c.n then .own d (0::(b.xs.length*t.sz+y)::rest)else .aq:=by
       rw[cX hI (by rw[hk];simp),hk];simp[eN,gz,bn s hs,hs,hy]
      refine⟨hold k (by rw[hk];simp) (by rw[hk];simp),λh=>?_,λh=>?_⟩
      ·rw[hZ,if_pos h]
      ·rw[hZ,if_neg (by omega)]
    have grow:∀(bs:Option Addr) (sc:Nat) (iU:List Value),a.eval sO = .slice bs b.xs.length sc->sc<b.xs.length+c.ys.length->iU.length=b.xs.length*t.sz ->
      (Builtin.firstCells i.size b.xs.length (.slice bs b.xs.length sc)).run P w.drew = .ok iU.toArray w.drew ->
      (∀(L':Nat->aj) (w':World) (m:Nat),m<=b.n->(∀k,L k = .aq->L' k = .aq/\w'.heap[k]?=w.heap[k]?) ->
       (∀k y rest,y<b.xs.length*t.sz->L k = .own so (0::y::rest)->w'.heap[k]?=w.heap[k]?/\(rest.length<m->L' k = .own d (0::y::rest))/\(m<=rest.length->L' k = .aq)) ->
       ∀j (h:j<b.xs.length),Own w' L' (SL L' none) d m t (b.xs[j]) [0] (j*t.sz) ((iU.drop (j*t.sz)).take t.sz)) ->
      Step P o w0 L0 N vs (ah T ((b.s.toList++c.s.toList).map (λs=>(s,V.dead))++[(d,.d none (jO b.n c.n+1) (.slice e t) (b.xs++c.ys))])) a w:=by
     intro bs sc iU cV ax V9 ai3 sD;have aN:=ahD (P:=P) (w:=w) (ty:=o.type) (X2:=X2) hu i1 i4 ai3 (by rw[i2];exact cW) ax sQ (by rw[i3];exact hg);rw[<-cV]at aN;have lY:=grownCap_ge w (b.xs.length+c.ys.length) sc e;have B8:=grownCap_le_maxLen w (b.xs.length+c.ys.length) sc e sQ;have hL1:(iU++news).length=(b.xs.length+c.ys.length)*t.sz:=by rw[List.length_append,V9,gj,Nat.add_mul]
     refine fin false (λk=>if k=w.heap.size then .own d [0]else .free) _ w.heap.size _ _ iU aN ?_ ?_ ?_ (oM w.drew _) lY B8 ?_ ?_ ?_ ?_ sD
     ·refine⟨rfl,rfl,rfl,by simp,Nat.le_succ _,λk hk _=>Go.RowKit.Below.heap_alloc w.drew _ k hk,λk hk=>?_,λk s q hk h=>?_⟩
      ·simp at hk;rw[if_neg (by omega)]
      ·split at h
       ·injection h with h _;exact .inl h.symm
       ·cases h
     ·intro k s q hk h;split at h
      ·injection h with h1 h2;exact⟨h1.symm,h2.symm,by assumption,rfl⟩
      ·cases h
     ·unfold aS;rw[if_neg (by omega)];simp
     ·rw[Array.size_append,List.size_toArray,hL1,size_zeroCells,im,<-Nat.add_mul];congr 1;omega
     ·exact λk hk _=>Go.RowKit.Below.heap_alloc w.drew _ k (hI.lt hk)
     ·intro k hk;rw[Array.getElem?_append_left (by simp only[List.size_toArray];rw[List.length_append];omega),List.getElem?_toArray,List.getElem?_append_left (by omega)]
     ·intro k hk;rw[Array.getElem?_append_left (by simp only[List.size_toArray];rw[List.length_append];omega),List.getElem?_toArray,List.getElem?_append_right (by omega),V9];congr 1;omega
    simp only[Own]at Vy;rcases Vy with⟨gi,jx⟩|⟨g,cap,cur,de,hL,Ce,h5,h6,h7,h8⟩
    ·have gi:a.eval sO=_:=(List.cons.inj gi).1;by_cases hy:c.ys=[]
     ·have ajY:fP P i.size X2 (a.eval xO) 0 [] w:=by
       rw[hy]at cW gj;have:news=[]:=List.eq_nil_of_length_eq_zero (by simpa using gj);rw[this]at cW;rw[i2];exact cW
      have aN:=ahE (P:=P) (ty:=o.type) hu i1 ajY;rw[<-gi]at aN;have vQ:(execOp a.eval o).run P w = .ok (.value (a.eval sO)) w:=by
       simp[execOp,ho,resolve,invoke,builtin,aN]
      refine Step.value ay vQ (Inv.app (kept:=false) (b1:=0) (b2:=0) (m:=0) (nl:=λ_=>.free) hI hd hid Wq (λs hs=>⟨(oS s hs).1,(oS s hs).2.1⟩) (Wd.refl hI _) (λk s q _ h=>by cases h) rfl (by simp[V.aL,Ty.depth]) (λT' tm'=>?_));refine⟨by simp,_,rfl,?_⟩;simp only[Own];exact .inl ⟨by rw[gi],by rw[jx,hy];rfl⟩
     ·have Jh:0<c.ys.length:=List.length_pos_iff.2 hy;have h0:b.xs.length=0:=by rw[jx];rfl
      refine grow none 0 [] (by rw[h0];exact gi) (by omega) (by rw[h0];simp) ?_ (λL' w' m _ _ _ j hj=>absurd hj (by omega));rw[h0];exact run_firstCells_none w.drew i.size 0 0 0
    ·have de:a.eval sO=_:=(List.cons.inj de).1;have hL:L g = .own so [0]:=by simpa using hL
     have hle:b.xs.length*t.sz<=cur.size:=by rw[h7];exact Nat.mul_le_mul_right _ h5
     have sD:∀(L':Nat->aj) (w':World) (m:Nat),m<=b.n->(∀k,L k = .aq->L' k = .aq/\w'.heap[k]?=w.heap[k]?) ->
       (∀k y rest,y<b.xs.length*t.sz->L k = .own so (0::y::rest)->w'.heap[k]?=w.heap[k]?/\(rest.length<m->L' k = .own d (0::y::rest))/\(m<=rest.length->L' k = .aq)) ->
       ∀j (h:j<b.xs.length),Own w' L' (SL L' none) d m t (b.xs[j]) [0] (j*t.sz) (((cur.toList.take (b.xs.length*t.sz)).drop (j*t.sz)).take t.sz):=by
      intro L' w' m hm a7 hZ j hj;have hjb:j*t.sz+t.sz<=b.xs.length*t.sz:=by
       have:(j+1)*t.sz<=b.xs.length*t.sz:=Nat.mul_le_mul_right _ (by omega)
       rwa [Nat.add_mul,Nat.one_mul]at this
      have hw:((cur.toList.take (b.xs.length*t.sz)).drop (j*t.sz)).take t.sz=(cur.toList.drop (j*t.sz)).take t.sz:=qQ λk hk=>by
       rw[List.getElem?_take,if_pos (by omega)]
      rw[hw];refine Own.fi hm (λk hk=>?_) (λk y rest hy hk=>?_) (h8 j hj)
      ·rcases hk with hk|⟨_,_,hk,_⟩
       ·exact⟨.inl (a7 k hk).1,(a7 k hk).2⟩
       ·cases hk
      ·have aI:L k = .own so (0::(j*t.sz+y)::rest):=by simpa using hk
       have:=hZ k (j*t.sz+y) rest (by omega) aI;exact⟨this.1,λh=>by simpa using this.2.1 h,λh=>.inl (this.2.2 h)⟩
     by_cases sS:b.xs.length+c.ys.length<=cap
     ·
      have oN:b.xs.length*t.sz+news.length<=cur.size:=by
       rw[gj,<-Nat.add_mul,h7];exact Nat.mul_le_mul_right _ sS
      obtain⟨s1,s2,s3,s4,s5,cur',s6,s7,s8⟩:=Zk news (b.xs.length*t.sz) w cur e Ce oN;have pU:∀j,j<news.length->w.cell? ⟨g,b.xs.length*i.size+j,none⟩=cur[b.xs.length*t.sz+j]?:=by
       intro j hj;simp[World.cell?,Ce,i2]
      have aN:=ahF (P:=P) (w:=w) (ty:=o.type) (X2:=X2) (g:=g) hu i1 (by rw[i2];exact cW) sS
       (λj hj=>by rw[pU j hj,Array.getElem?_eq_getElem (by omega)];rfl) (λj hj=>by simp[World.frozen?,Ce])
      rw[<-de,i2]at aN;have cE:g<w.heap.size:=hI.lt (by rw[hL];simp);refine fin true (λ_=>.free) _ g cap cur' (cur.toList.take (b.xs.length*t.sz)) aN ?_ (λk s q _ h=>by cases h) ?_ s6 sS h6 (by rw[s7,h7]) ?_ ?_ ?_ sD
      ·refine⟨s1,s2,s3,by rw[s4];exact Nat.le_refl _,Nat.le_of_eq (Zj _ _ _).symm,λk hk h=>?_,λk _=>rfl,λk s q _ h=>by cases h⟩;exact s5 k (λe=>by subst e;exact h so [0] hL (.inr (.inl rfl)))
      ·rw[cX hI (by rw[hL];simp),hL];simp[eN,gz]
      ·intro k hk gI;exact s5 k (λe=>by subst e;exact gI hL)
      ·intro k hk;rw[s8,if_neg (by omega),List.getElem?_take,if_pos hk,Array.getElem?_toList]
      ·intro k hk;rw[s8,if_pos (by omega)];congr 1;omega
     ·
      have hlen:(cur.toList.take (b.xs.length*t.sz)).length=b.xs.length*t.sz:=by rw[List.length_take];simp;omega
      refine grow (some ⟨g,0,none⟩) cap _ de (by omega) hlen ?_ sD;refine run_firstCells_some w.drew i.size b.xs.length ⟨g,0,none⟩ b.xs.length cap _ (by rw[hlen,i2]) (λj u hu=>?_);rw[List.getElem?_take]at hu;split at hu
      ·show w.cell? _=_;rw[show (⟨g,0,none⟩:Addr).add j=⟨g,j,none⟩by rw[Addr.add_lit,Nat.zero_add]];simp only[World.cell?,Ce];simpa using hu
      ·cases hu
   ·exact h.elim
  ·exact h.elim
 ·exact h.elim
end
abbrev mL:=Nat×Option (Nat×(t:Ty)×t.den)
def Uk(d i:Nat):Option (Nat×(t:Ty)×t.den)->Option V
 | some (n,⟨t,x⟩)=>if n≠0/\t.depth≠0 then some (.part d i n t x)else none
 | none=>none
def partsOf(d:Nat)(h:Nat->Option Nat):Nat->Nat->List mL->List ((Nat×Nat×Nat)×V)
 | _,_,[]=>[]
 | i,o,(sz,c)::l=>match h i,Uk d i c with
  | some e,some v=>((e,o,sz),v)::partsOf d h (i+1) (o+sz) l
  | _,_=>partsOf d h (i+1) (o+sz) l
def iv:List mL->List mL
 | []=>[]
 | (sz,c)::l=>(sz,if BE c=true then none else c)::iv l
def wM{α:Type}:List Nat->M α->M α
 | [],m=>m
 | s::l,m=>.get s λv=>.bm v.idle (wM l m)
def ZL(vs:List Nat)(N d s:Nat)(h:Nat->Option Nat):M (List (Nat×V)):=
 .get s λv=>match v with
 | .bF l =>
  if cq (d::s::(partsOf d h 0 0 l).map (·.1.1))=true/\((partsOf d h 0 0 l).all λp=>decide (p.1.1<N))=true/\vs.contains s=false/\vs.contains d=true then
   wM (d::(partsOf d h 0 0 l).map (·.1.1)) (.ret ((s,V.dead)::((partsOf d h 0 0 l).map (λp=>(p.1.1,p.2))++[(d,.bF (iv l))])))
  else .fail
 | _=>.fail
def UD(vs:List Nat)(d:Nat)(x:Operand)(i:Nat):M (List (Nat×V)):=
 match x with
 | .tmp s=>.get d λvd=>match vd with
  | .part r j n t y=>if r=s/\j=i/\vs.contains d=false/\n≠0/\t.depth≠0 then .ret [(d,.d none n t y)]else .fail
  | _=>.bm vd.idle (.get s λv=>match v with
   | .bF l=>match l[i]? with
    | some (_,some (n,⟨t,y⟩))=>if n=0\/t.depth=0 then .ret [(d,.d none n t y)]else .fail
    | _=>.fail
   | _=>.fail)
 | _=>.fail
def lp(s d:Nat)(ms:List (Nat×Nat×Nat)):Nat->List Nat->aj:=λr z =>
 if r=s then match z with
  | y::rest=>match ms.find? (λp=>decide (p.2.1<=y)&&decide (y<p.2.1+p.2.2))with
   | some p=>.own p.1 ((y - p.2.1)::rest)
   | none=>.other
  | []=>.other
 else if r=d\/r∈ms.map (·.1)then .other else .own r z
theorem xf{s d:Nat}{ms:List (Nat×Nat×Nat)}{r:Nat}{z:List Nat}{s':Nat}{z':List Nat}(h:lp s d ms r z = .own s' z'):
  (r=s/\∃p y rest,p∈ms/\z=y::rest/\p.2.1<=y/\y<p.2.1+p.2.2/\s'=p.1/\z'=(y - p.2.1)::rest)\/(r≠s/\r≠d/\r∉ms.map (·.1)/\s'=r/\z'=z):=by
 unfold lp at h;split at h
 ·rename_i hr;split at h
  ·rename_i y rest;split at h
   ·rename_i p hp;injection h with h1 h2;have hb:=List.find?_some hp;simp only[Bool.and_eq_true,decide_eq_true_eq]at hb;exact .inl ⟨hr,p,y,rest,List.mem_of_find?_eq_some hp,rfl,hb.1,hb.2,h1.symm,h2.symm⟩
   ·cases h
  ·cases h
 ·rename_i hr;split at h
  ·cases h
  ·rename_i hn;have hn:=not_or.1 hn;injection h with h1 h2;exact .inr ⟨hr,hn.1,hn.2,h1.symm,h2.symm⟩
theorem YP[af]{s d b:Nat}{ms:List (Nat×Nat×Nat)}(hs:eY b ms)(hn:cq (ms.map (·.1))=true):fF (lp s d ms) (λr=>r=s\/r=d\/r∈ms.map (·.1)):=by
 refine⟨λr z hX=>?_,λr z s' z' hX h=>?_,λr z r2 z2 s' z' h1 h2=>?_,λr z=>?_⟩
 ·have h1:=not_or.1 hX;unfold lp;rw[if_neg h1.1,if_neg h1.2]
 ·rcases xf h with⟨_,p,_,_,hp,_,_,_,rfl,_⟩|⟨h1,h2,h3,rfl,_⟩
  ·exact .inr (.inr (List.mem_map_of_mem hp))
  ·rcases hX with h|h|h
   ·exact absurd h h1
   ·exact absurd h h2
   ·exact absurd h h3
 ·rcases xf h1 with⟨rfl,p,y,rest,hp,rfl,b1,b2,rfl,rfl⟩|⟨g1,g2,g3,rfl,rfl⟩
  ·rcases xf h2 with⟨rfl,p',y',fD,cB,rfl,b1',b2',he,h3⟩|⟨_,_,g3,h3,_⟩
   ·have f1:=pM hn hp;have f2:=pM hn cB;rw[he]at f1;rw[f1]at f2;cases f2;simp only[List.cons.injEq]at h3;obtain⟨h3,rfl⟩:=h3;exact⟨rfl,by rw[show y=y' by omega]⟩
   ·exact absurd (h3▸List.mem_map_of_mem hp) g3
  ·rcases xf h2 with⟨_,p',_,_,cB,_,_,_,h3,_⟩|⟨_,_,_,h3,h4⟩
   ·exact absurd (h3▸List.mem_map_of_mem cB) g3
   ·exact⟨h3,h4⟩
 ·unfold lp
  repeat' split
  all_goals simp
theorem YO[af]{s d b:Nat}{ms:List (Nat×Nat×Nat)}(hs:eY b ms)(hn:cq (ms.map (·.1))=true){p:Nat×Nat×Nat}(hp:p∈ms){i:Nat}(hi:i<p.2.2){rest:List Nat}:
  lp s d ms s ((p.2.1+i)::rest) = .own p.1 (i::rest):=by
 unfold lp;rw[if_pos rfl];dsimp only;have hx:∃q,ms.find? (λq=>decide (q.2.1<=p.2.1+i)&&decide (p.2.1+i<q.2.1+q.2.2))=some q:=by
  rw[<-Option.isSome_iff_exists,List.find?_isSome];exact⟨p,hp,by simp;omega⟩
 obtain⟨q,hq⟩:=hx;have Wk:=List.mem_of_find?_eq_some hq;have hb:=List.find?_some hq;simp only[Bool.and_eq_true,decide_eq_true_eq]at hb;have hqp:q=p:=by
  apply Classical.byContradiction;intro bn;by_cases h1:q.1=p.1
  ·have f1:=pM hn hp;have f2:=pM hn Wk;rw[h1,f1]at f2;exact bn (Option.some.inj f2).symm
  ·have:=hs.Ut hn q p Wk hp h1;omega
 subst hqp;rw[hq];simp only[aj.own.injEq,List.cons.injEq,and_true,true_and];omega
theorem C1{d:Nat}{h:Nat->Option Nat}:{l:List mL}->{i o:Nat}->eY o ((partsOf d h i o l).map (·.1))
 | [],_,_=>trivial
 | (sz,c)::l,i,o=>by
  simp only[partsOf];split
  ·exact⟨Nat.le_refl _,C1⟩
  ·exact eY.at1 (Nat.le_add_right _ _) C1
 where
 eY.at1:{b b':Nat}->{ms:List (Nat×Nat×Nat)}->b<=b'->eY b' ms->eY b ms
 | _,_,[],_,_=>trivial
 | _,_,_::_,h,h2=>⟨Nat.le_trans h h2.1,h2.2⟩
section
variable{P:Program}{C:Ctx}{w w' w0:World}{S S':Nat->Prop}{L L' L0:Nat->aj}{s N:Nat}{vs:List Nat}{T T':List V}{tm tm':Array Value}{a:Act}
theorem KA{d:Nat}{h:Nat->Option Nat}:{l:List mL}->{i o:Nat}->{du:List Value}->eZ w L s o l du->∀p v,(p,v)∈partsOf d h i o l ->
  ∃j n t x u cs,v = .part d (i+j) n t x/\du[j]?=some u/\t.sz=p.2.2/\Form t cs u/\Own w L (SL L none) s n t x [] p.2.1 cs
 | [],_,_,_,_,_,_,hm=>by simp[partsOf]at hm
 | (sz,c)::l,i,o,du,hr,p,v,hm=>by
  obtain⟨u,jb,rfl,h1,h2⟩:=hr;have Wn:(p,v)∈partsOf d h (i+1) (o+sz) l->∃j n t x u' cs,v = .part d (i+j) n t x/\(u::jb)[j]?=some u'/\t.sz=p.2.2/\Form t cs u'/\Own w L (SL L none) s n t x [] p.2.1 cs:=by
   intro hm;obtain⟨j,n,t,x,u',cs,e1,e2,e3,e4,e5⟩:=KA h2 p v hm;exact⟨j+1,n,t,x,u',cs,by rw[e1,show i+1+j=i+(j+1)by omega],by simpa using e2,e3,e4,e5⟩
  simp only[partsOf]at hm;split at hm
  ·rename_i e v' he oT;rcases List.mem_cons.1 hm with hm|hm
   ·injection hm with hp hv;subst hp hv;unfold Uk at oT;split at oT
    ·rename_i n t x;split at oT
     ·injection oT with oT;obtain⟨h3,cs,h4,h5⟩:=h1 n t x rfl;exact⟨0,n,t,x,u,cs,oT.symm,rfl,h3,h4,h5⟩
     ·cases oT
    ·cases oT
   ·exact Wn hm
  ·exact Wn hm
theorem KM{s':Nat}(H:∀k,L k = .aq->L' k = .aq/\w'.heap[k]?=w.heap[k]?):{l:List mL}->{o:Nat}->{du:List Value}->eZ w L s o l du->eZ w' L' s' o (iv l) du
 | [],_,_,h=>h
 | (sz,c)::l,o,du,⟨v,jb,h1,h2,h3⟩=>by
  refine⟨v,jb,h1,λn t x hc=>?_,KM H h3⟩;split at hc
  ·cases hc
  ·rename_i hco;obtain⟨h4,cs,h5,h6⟩:=h2 n t x hc;subst hc;refine⟨h4,cs,h5,?_⟩;have iM:¬n=0->t.depth=0:=by simpa[BE]using hco
   have hn:n=0\/t.depth=0:=by omega
   rcases hn with hn|hn
   ·subst hn;refine Own.dN (Rd.move (λk hk=>?_) (Own.eM h6));rcases hk with hk|⟨_,_,hk,_⟩
    ·exact⟨.inl (H k hk).1,(H k hk).2⟩
    ·cases hk
   ·exact Own.flat hn h6
theorem ZI:{l:List mL}->{o i:Nat}->{du:List Value}->{sz n:Nat}->{t:Ty}->{x:t.den}->eZ w L s o l du->l[i]?=some (sz,some (n,⟨t,x⟩))->∃o' u cs,du[i]?=some u/\Form t cs u/\Own w L (SL L none) s n t x [] o' cs
 | [],_,_,_,_,_,_,_,_,h=>by simp at h
 | (fE,c)::l,o,0,du,sz,n,t,x,⟨v,jb,h1,h2,h3⟩,h=>by
  simp only[List.getElem?_cons_zero,Option.some.injEq,Prod.mk.injEq]at h;obtain⟨_,cs,h5,h6⟩:=h2 n t x h.2;exact⟨o,v,cs,by rw[h1];rfl,h5,h6⟩
 | (fE,c)::l,o,i+1,du,sz,n,t,x,⟨v,jb,h1,h2,h3⟩,h=>by
  obtain⟨o',u,cs,e1,e2,e3⟩:=ZI h3 (by simpa using h);exact⟨o',u,cs,by rw[h1];simpa using e1,e2,e3⟩
theorem Cs{α:Type}{m:M α}{x:α}:{l:List Nat}->{log:List Nat}->(wM l m).ai T x log->(∀s∈l,(T.getD s .dead).idle=true)/\∃aF,m.ai T x aF
 | [],log,h=>⟨by simp,log,h⟩
 | s::l,log,h=>by
  obtain⟨aF,rfl,hc,h⟩:=h;obtain⟨h1,h2⟩:=Cs h;exact⟨λs' hs=>by rcases List.mem_cons.1 hs with rfl|hs;exact hc;exact h1 s' hs,h2⟩
theorem sq[af]{ups:List (Nat×V)}(hn:cq (ups.map (·.1))=true){s:Nat}{v:V}(hm:(s,v)∈ups){T:List V}(hs:s<T.length):(ah T ups).getD s .dead=v:=by
 unfold ah;induction ups generalizing T with
 | nil=>cases hm
 | cons u l ih =>
  simp only[List.map_cons,cq,Bool.and_eq_true,Bool.not_eq_true']at hn;simp only[List.foldl_cons];rcases List.mem_cons.1 hm with rfl|hm
  ·have:=fa l (T.set s v) s (λh=>by
    have h2:=List.contains_iff_mem.2 h;rw[hn.1]at h2;cases h2)
   unfold ah at this;rw[this,aH,if_pos ⟨rfl,hs⟩]
  ·exact ih hn.2 hm (by simpa using hs)
theorem Kn{l:List Nat}:cq l=true->l.Nodup:=by
 induction l with
 | nil=>intro _;exact List.nodup_nil
 | cons x l ih =>
  intro h;simp only[cq,Bool.and_eq_true,Bool.not_eq_true']at h;refine List.nodup_cons.2 ⟨λhm=>?_,ih h.2⟩;rw[List.contains_iff_mem.2 hm]at h;cases h.1
theorem xa{l:List Nat}:l.Nodup->cq l=true:=by
 induction l with
 | nil=>intro _;rfl
 | cons x l ih =>
  intro h;obtain⟨h1,h2⟩:=List.nodup_cons.1 h;simp only[cq,Bool.and_eq_true,Bool.not_eq_true',ih h2,and_true];rw[Bool.eq_false_iff];intro hc;exact h1 (List.contains_iff_mem.1 hc)
theorem aob[af](hI:Inv w0 L0 N vs T a w L){o:Oper}{d s:Nat}{h:Nat->Option Nat}{ups:List (Nat×V)}{log:List Nat}(ho:qk o (.tmp s))(ay:o.dst=some d)(hd:d<N)
  (hr:(ZL vs N d s h).ai T ups log):Step P o w0 L0 N vs (ah T ups) a w:=by
 obtain⟨aF,rfl,hr⟩:=hr;dsimp only at hr;have hs:=hI.aV s;generalize hv:T.getD s .dead=v at hr hs;split at hr
 ·rename_i l;split at hr
  ·rename_i hc;obtain⟨cE,ax,jw,sI⟩:=hc;obtain⟨jZ,log2,hr⟩:=Cs hr;obtain⟨rfl,_⟩:=hr;obtain⟨du,ef,dK⟩:=hs;generalize mg:partsOf d h 0 0 l=ps at cE ax jZ;have wF:eY 0 (ps.map (·.1)):=by rw[<-mg];exact C1
   have wo:=Kn cE;have jv:ps.map (·.1.1)=(ps.map (·.1)).map (·.1):=by rw[List.map_map];rfl
   obtain⟨VH,ajF⟩:=List.nodup_cons.1 wo;obtain⟨lb,p3⟩:=List.nodup_cons.1 ajF;have iK:d≠s:=λe=>VH (by rw[e];simp);have cD:d∉ps.map (·.1.1):=λe=>VH (List.mem_cons_of_mem _ e);have wm:cq ((ps.map (·.1)).map (·.1))=true:=by rw[<-jv];exact xa p3
   have auB:(T.getD s .dead).aL=true:=by rw[hv];rfl
   have b9:s<N:=by
    apply Classical.byContradiction;intro lY;rw[eF (by rw[hI.len];omega)]at hv;cases hv
   let U:List (Nat×V):=(s,V.dead)::(ps.map (λp=>(p.1.1,p.2))++[(d,.bF (iv l))]);have hU:U.map (·.1)=s::(ps.map (·.1.1)++[d]):=by simp[U,List.map_map,Function.comp_def]
   have oI:cq (U.map (·.1))=true:=by
    rw[hU];refine xa (List.nodup_cons.2 ⟨λhm=>?_,?_⟩)
    ·rcases List.mem_append.1 hm with hm|hm
     ·exact lb hm
     ·exact iK (List.mem_singleton.1 hm).symm
    ·rw[List.nodup_append];refine⟨p3,by simp,λx hx y hy e=>?_⟩;rw[List.mem_singleton]at hy;subst e hy;exact cD hx
   have bI:(ah T U).getD s .dead = .dead:=sq oI (by simp[U]) (by rw[hI.len];exact b9);have bT:(ah T U).getD d .dead = .bF (iv l):=sq oI (by simp[U]) (by rw[hI.len];exact hd);have pR:∀p v,(p,v)∈ps->(ah T U).getD p.1 .dead=v:=by
    intro p v hp;refine sq oI ?_ ?_
    ·refine List.mem_cons_of_mem _ (List.mem_append_left _ (List.mem_map.2 ⟨(p,v),hp,rfl⟩))
    ·rw[List.all_eq_true]at ax;rw[hI.len];simpa using ax _ hp
   have bq:∀z,¬(z=s\/z=d\/z∈(ps.map (·.1)).map (·.1))->(ah T U).getD z .dead=T.getD z .dead:=by
    intro z hz;refine fa _ _ _ ?_;rw[hU,jv];intro hm;rcases List.mem_cons.1 hm with hm|hm
    ·exact hz (.inl hm)
    ·rcases List.mem_append.1 hm with hm|hm
     ·exact hz (.inr (.inr hm))
     ·exact hz (.inr (.inl (List.mem_singleton.1 hm)))
   have p6:∀p v,(p,v)∈ps->∃j n t x u cs,v = .part d j n t x/\du.toList[j]?=some u/\t.sz=p.2.2/\Form t cs u/\Own w L (SL L none) s n t x [] p.2.1 cs:=by
    intro p v hp;rw[<-mg]at hp;obtain⟨j,n,t,x,u,cs,e1,e2⟩:=KA dK p v hp;exact⟨0+j,n,t,x,u,cs,e1,by rw[Nat.zero_add];exact e2⟩
   have gf:∀z,z∈(ps.map (·.1)).map (·.1)->∃p v,(p,v)∈ps/\p.1=z:=by
    intro z hz;rw[<-jv]at hz;obtain⟨⟨p,v⟩,hp,rfl⟩:=List.mem_map.1 hz;exact⟨p,v,hp,rfl⟩
   refine Step.value ay (tw ho) (Inv.gP (T':=ah T U) (f:=lp s d (ps.map (·.1))) (X:=λz=>z=s\/z=d\/z∈(ps.map (·.1)).map (·.1)) (nl:=λ_=>.free) hI (YP wF wm) (Wd.refl hI _) (λ_ _ _ _ _ h=>by cases h) (by simp[Act.put,hI.size]) (by rw[cF,hI.len]) hI.dP ?_ ?_ ?_ ?_ ?_)
   ·intro k z q hz hk;rcases hz with rfl|rfl|hz
    ·exfalso;unfold aS at hk;split at hk
     ·obtain⟨s0,q0,e0,f0⟩:=eV hk;rcases xf f0 with⟨_,p,_,_,hp,_,_,_,h7,_⟩|⟨h1,_,_,h7,_⟩
      ·exact lb (by rw[jv,h7];exact List.mem_map_of_mem hp)
      ·exact h1 h7.symm
     ·cases hk
    ·rw[bT];rfl
    ·obtain⟨p,v,hp,rfl⟩:=gf z hz;rw[pR p v hp];obtain⟨j,n,t,x,u,cs,rfl,_⟩:=p6 p v hp;rfl
   ·intro z r hz ag hr;rcases hr with rfl|hr
    ·exfalso;have:=hI.roots z _ ag;rw[List.contains_iff_mem.2 this]at jw;cases jw
    ·refine V.kA (jZ r ?_);rcases hr with rfl|hr
     ·simp
     ·rw[jv];exact List.mem_cons_of_mem _ hr
   ·intro z hz;refine⟨bq z hz,?_⟩;show (a.tmps.setIfInBounds d _).getD z undef=_;rw[dY,if_neg (λe=>hz (.inr (.inl e.1)))]
   ·intro z r hz ag;rcases hz with rfl|rfl|hz
    ·rw[bI]at ag;simp[V.on,V.root]at ag
    ·rw[bT]at ag;simp[V.on,V.root]at ag
    ·obtain⟨p,v,hp,rfl⟩:=gf z hz;rw[pR p v hp]at ag;obtain⟨j,n,t,x,u,cs,rfl,_⟩:=p6 p v hp;simp only[V.on,V.root,beq_iff_eq,Option.some.injEq]at ag;subst ag;exact List.contains_iff_mem.1 sI
   ·intro z hz;have gk:(a.put (some d) (a.eval (.tmp s))).tmps.getD d undef=a.tmps.getD s undef:=by
     show (a.tmps.setIfInBounds d _).getD d undef=_;rw[dY,if_pos ⟨rfl,by rw[hI.size];exact hd⟩];rfl
    rcases hz with rfl|rfl|hz
    ·rw[bI];trivial
    ·rw[bT,gk];exact⟨du,ef,KM (λk hk=>⟨ez hI hk,rfl⟩) dK⟩
    ·obtain⟨p,v,hp,rfl⟩:=gf z hz;rw[pR p v hp];obtain⟨j,n,t,x,u,cs,rfl,e2,e3,e4,e5⟩:=p6 p v hp;refine⟨by rw[bT];rfl,du,u,cs,by rw[gk];exact ef,by simpa using e2,e4,?_⟩;refine Own.move (λk hk=>?_) (λk i rest hi hk=>⟨?_,rfl⟩) e5
     ·rcases hk with hk|⟨_,_,hk,_⟩
      ·exact⟨.inl (ez hI hk),rfl⟩
      ·cases hk
     ·have aI:L k = .own s ((p.2.1+i)::rest):=by simpa using hk
      rw[cX hI (by rw[aI];simp),aI];have:=YO (s:=s) (d:=d) wF wm (List.mem_map_of_mem (f:=(·.1)) hp) (i:=i) (by rw[<-e3];exact hi) (rest:=rest);simpa[eN]using this
  ·exact hr.elim
 ·exact hr.elim
theorem an4[af](hI:Inv w0 L0 N vs T a w L){o:Oper}{x:Operand}{d i:Nat}{ups:List (Nat×V)}{log:List Nat}(ho:o.op = .extract x i)(ay:o.dst=some d)(hd:d<N)
  (hr:(UD vs d x i).ai T ups log):Step P o w0 L0 N vs (ah T ups) a w:=by
 cases x with
 | tmp s =>
  obtain⟨aF,rfl,hr⟩:=hr;dsimp only at hr;have bL:=hI.aV d;generalize Jy:T.getD d .dead=vd at hr bL;split at hr
  ·rename_i r j n t y;split at hr
   ·rename_i hc;obtain⟨rfl,rfl,sI,hn,aiU⟩:=hc;obtain⟨rfl,_⟩:=hr;obtain⟨h0,du,u,cs,h1,h2,h3,h4⟩:=bL;have aN:(execOp a.eval o).run P w = .ok (.value u) w:=by
     have:a.eval (.tmp r) = .tuple du:=h1;simp[execOp,ho,this,Instr.extract,h2]
    have hT:∀z,(ah T [(d,V.d none n t y)]).getD z .dead=if z=d/\d<T.length then V.d none n t y else T.getD z .dead:=λz=>aH _ _ _ _ _
    have pV:d<T.length:=by rw[hI.len];exact hd
    refine Step.value ay aN (Inv.upd (λz=>z=d) hI (by simp[Act.put,hI.size]) (by rw[cF,hI.len]) hI.dP hI.fr hI.free hI.inj ?_ (λ_ _ _ _=>⟨rfl,rfl⟩) ?_ ?_ ?_ ?_)
    ·intro k z q hk;rw[hT];split
     ·simp[V.aL,hn,aiU]
     ·exact hI.owner k z q hk
    ·intro z hz;refine⟨by rw[hT,if_neg (λe=>hz e.1)],?_⟩;show (a.tmps.setIfInBounds d _).getD z undef=_;rw[dY,if_neg (λe=>hz e.1)]
    ·intro z r' ag;rw[hT]at ag;split at ag
     ·simp[V.on,V.root]at ag
     ·exact hI.roots z r' ag
    ·intro z r' hz ag me;have bC:r'≠d:=by
      rintro rfl
      have:=hI.roots z _ ag;rw[List.contains_iff_mem.2 this]at sI;cases sI
     refine⟨by rw[hT,if_neg (λe=>bC e.1)],?_⟩;show (a.tmps.setIfInBounds d _).getD r' undef=_;rw[dY,if_neg (λe=>bC e.1)]
    ·intro z hz;subst hz;rw[hT,if_pos ⟨rfl,pV⟩];have:(a.put (some z) u).tmps.getD z undef=u:=by
      show (a.tmps.setIfInBounds z _).getD z undef=_;rw[dY,if_pos ⟨rfl,by rw[hI.size];exact hd⟩]
     rw[this];exact⟨by simp,cs,h3,h4⟩
   ·exact hr.elim
  ·obtain⟨hid,log2,rfl,hr⟩:=hr;dsimp only at hr;have hs:=hI.aV s;generalize hv:T.getD s .dead=v at hr hs;split at hr
   ·rename_i l;split at hr
    ·rename_i sz n t y hl;split at hr
     ·rename_i hn;obtain⟨rfl,_⟩:=hr;obtain⟨du,h1,h2⟩:=hs;obtain⟨o',u,cs,e1,e2,e3⟩:=ZI h2 hl;have e1:du[i]?=some u:=by simpa using e1
      have aN:(execOp a.eval o).run P w = .ok (.value u) w:=by
       have:a.eval (.tmp s) = .tuple du:=h1;simp[execOp,ho,this,Instr.extract,e1]
      have cj:aK P o vs T a w L d (.d none n t y):=aK.still hI aN (λ_=>rfl) ⟨by simp,cs,e2,Own.bA hn e3 hn⟩;intro K Q hK;exact aK.inv hI hd (by rw[Jy];exact hid) ay cj hK
     ·exact hr.elim
    ·exact hr.elim
   ·exact hr.elim
 | const c=>exact hr.elim
 | func f=>exact hr.elim
 | global g=>exact hr.elim
end
def jE(r s:Nat)(v:V):Nat->List V->List (Nat×V)
 | _,[]=>[]
 | i,u::l=>cond (i==s) ((i,v)::jE r s v (i+1) l) (cond (i==r||u.on r) ((i,.dead)::jE r s v (i+1) l) (jE r s v (i+1) l))
def xv(r s:Nat):Nat->List V->Bool
 | _,[]=>true
 | i,u::l=>(i==s||i==r || !(u.on r&&u.aL))&&xv r s (i+1) l
def tQ(N:Nat):List Nat->M (List (Nat×V))->M (List (Nat×V))
 | [],m=>m
 | s::l,m=>.get s λv=>match v with
  | .view r [] _=>.get r λu=>match u with
   | .d none n t x =>
    if n≠0/\t.depth≠0/\s<N/\s≠r then
     (allM 0 N).bind λTs=>.bm (xv r s 0 Ts) (((tQ N l m).nU (ah Ts (jE r s (.d none n t x) 0 Ts))).bind λups=>.ret (jE r s (.d none n t x) 0 Ts++ups))
    else tQ N l m
   | _=>tQ N l m
  | _=>tQ N l m
section
variable{P:Program}{C:Ctx}{w w' w0:World}{S S':Nat->Prop}{L L' L0:Nat->aj}{s N:Nat}{vs:List Nat}{T T':List V}{tm tm':Array Value}{a:Act}
theorem tI{r s:Nat}{v:V}:{i:Nat}->{l:List V}->(z:Nat)->(u:V)->((z,u)∈jE r s v i l↔i<=z/\z<i+l.length/\((z=s/\u=v)\/(z≠s/\u = .dead/\(z=r\/(l.getD (z - i) .dead).on r=true))))
 | i,[],z,u=>by simp[jE];omega
 | i,u0::l,z,u=>by
  have ih:=tI (r:=r) (s:=s) (v:=v) (i:=i+1) (l:=l) z u;have ey:i+1<=z->(u0::l).getD (z - i) .dead=l.getD (z - (i+1)) .dead:=λh=>by
   rw[show z - i=(z - (i+1))+1 by omega,List.getD_cons_succ]
  have Jm:(z,u)∈jE r s v (i+1) l->i<=z/\z<i+(u0::l).length/\((z=s/\u=v)\/(z≠s/\u = .dead/\(z=r\/((u0::l).getD (z - i) .dead).on r=true))):=by
   intro h;obtain⟨h1,h2,h3⟩:=ih.1 h;rw[ey h1];exact⟨by omega,by simp only[List.length_cons];omega,h3⟩
  have sB:z≠i->i<=z/\z<i+(u0::l).length/\((z=s/\u=v)\/(z≠s/\u = .dead/\(z=r\/((u0::l).getD (z - i) .dead).on r=true)))->(z,u)∈jE r s v (i+1) l:=by
   rintro hz ⟨h1,h2,h3⟩
   simp only[List.length_cons]at h2;rw[ey (by omega)]at h3;exact ih.2 ⟨by omega,by omega,h3⟩
  simp only[jE];cases hc:(i==s)with
  | true =>
   have hi:i=s:=by simpa using hc
   simp only[cond_true,List.mem_cons,Prod.mk.injEq];constructor
   ·rintro (⟨rfl,rfl⟩|h)
    ·exact⟨Nat.le_refl _,by simp,.inl ⟨hi,rfl⟩⟩
    ·exact Jm h
   ·intro h;by_cases hz:z=i
    ·obtain⟨_,_,h|h⟩:=h
     ·exact .inl ⟨hz,h.2⟩
     ·exact absurd (hz.trans hi) h.1
    ·exact .inr (sB hz h)
  | false =>
   have hi:i≠s:=by simpa using hc
   simp only[cond_false];cases dJ:(i==r||u0.on r)with
   | true =>
    simp only[cond_true,List.mem_cons,Prod.mk.injEq];constructor
    ·rintro (⟨rfl,rfl⟩|h)
     ·refine⟨Nat.le_refl _,by simp,.inr ⟨hi,rfl,?_⟩⟩;rw[Nat.sub_self,List.getD_cons_zero];simpa using dJ
     ·exact Jm h
    ·intro h;by_cases hz:z=i
     ·obtain⟨_,_,h|h⟩:=h
      ·exact absurd (hz.symm.trans h.1) hi
      ·exact .inl ⟨hz,h.2.1⟩
     ·exact .inr (sB hz h)
   | false =>
    simp only[cond_false];constructor
    ·exact Jm
    ·intro h;by_cases hz:z=i
     ·exfalso;obtain⟨_,_,h|h⟩:=h
      ·exact hi (hz.symm.trans h.1)
      ·simp only[Bool.or_eq_false_iff,beq_eq_false_iff_ne]at dJ;subst hz;rw[Nat.sub_self,List.getD_cons_zero]at h;rcases h.2.2 with h|h
       ·exact dJ.1 h
       ·rw[dJ.2]at h;cases h
     ·exact sB hz h
theorem aok[af](hl:T.length=N){r s:Nat}{v:V}(hs:s<N)(z:Nat):(ah T (jE r s v 0 T)).getD z .dead=if z=s then v else if z=r\/(T.getD z .dead).on r=true then .dead else T.getD z .dead:=by
 split
 ·rename_i hz;subst hz;exact iE (by rw[hl];exact hs) (List.mem_map.2 ⟨(z,v),(tI z v).2 ⟨Nat.zero_le _,by rw[Nat.zero_add,hl];exact hs,.inl ⟨rfl,rfl⟩⟩,rfl⟩) (λu hu=>by
   rcases ((tI z u).1 hu).2.2 with h|h
   ·exact h.2
   ·exact absurd rfl h.1)
 ·rename_i hz;split
  ·rename_i hc;by_cases oU:z<N
   ·exact iE (by rw[hl];exact oU) (List.mem_map.2 ⟨(z,.dead),(tI z .dead).2 ⟨Nat.zero_le _,by rw[Nat.zero_add,hl];exact oU,.inr ⟨hz,rfl,hc⟩⟩,rfl⟩) (λu hu=>by
     rcases ((tI z u).1 hu).2.2 with h|h
     ·exact absurd h.1 hz
     ·exact h.2.1)
   ·exact eF (by rw[cF,hl];omega)
  ·rename_i hc;refine fa _ _ _ (λhm=>?_);obtain⟨u,hu,he⟩:=List.mem_map.1 hm;subst he;rcases ((tI u.1 u.2).1 hu).2.2 with h|h
   ·exact hz h.1
   ·exact hc h.2.2
theorem ZF{r s:Nat}:{i:Nat}->{l:List V}->xv r s i l=true->∀z,i+z≠s->i+z≠r->(l.getD z .dead).on r=true->(l.getD z .dead).aL=false
 | _,[],_,z,_,_,h=>by simp[V.on,V.root]at h
 | i,u::l,h,z,hs,hr,hc=>by
  simp only[xv,Bool.and_eq_true,Bool.or_eq_true,Bool.not_eq_true',beq_iff_eq]at h;cases z with
  | zero =>
   simp only[List.getD_cons_zero]at hc ⊢;rcases h.1 with h1|h1
   ·rcases h1 with h1|h1
    ·exact absurd h1 (by simpa using hs)
    ·exact absurd h1 (by simpa using hr)
   ·rw[hc,Bool.true_and]at h1;exact h1
  | succ z =>
   simp only[List.getD_cons_succ]at hc ⊢;exact ZF h.2 z (by omega) (by omega) hc
theorem Inv.aom[af](hI:Inv w0 L0 N vs T a w L){s r n:Nat}{t t':Ty}{x:t.den}(hs:T.getD s .dead = .view r [] t')(hr:T.getD r .dead = .d none n t x)(hn:n≠0)(hd:t.depth≠0)(b9:s<N)(bt:s≠r)
  (az:xv r s 0 T=true):∃L',Inv w0 L0 N vs (ah T (jE r s (.d none n t x) 0 T)) a w L':=by
 let kp:Nat->V->Bool:=λz v=>z != s&&z != r&&v.on r;have bu:=Inv.alW hI (kp:=kp) (by
  unfold XN;rw[List.all_eq_true];intro b hb;obtain⟨i,hi⟩:=List.mem_iff_getElem?.1 hb;simp only[List.getElem?_mapIdx,Option.map_eq_some_iff]at hi;obtain⟨v,hv,rfl⟩:=hi;have kW:T.getD i .dead=v:=by simp[List.getD_eq_getElem?_getD,hv]
  simp only[id_eq,Bool.or_eq_true];cases cn:v.root with
  | none=>exact .inr rfl
  | some q =>
   dsimp only;cases hk:kp q (T.getD q .dead)with
   | false=>exact .inr rfl
   | true =>
    right;simp only[kp,Bool.and_eq_true,bne_iff_ne]at hk;have:=ZF az q (by simpa using hk.1.1) (by simpa using hk.1.2) hk.2;rw[this];rfl)
 obtain⟨L1,bu⟩:=bu;have hg:∀z,(ko kp T).getD z .dead=if kp z (T.getD z .dead)=true then .dead else T.getD z .dead:=Vb kp T
 have lb:(ko kp T).getD s .dead = .view r [] t':=by rw[hg,if_neg (by simp[kp]),hs]
 have mh:(ko kp T).getD r .dead = .d none n t x:=by rw[hg,if_neg (by simp[kp]),hr]
 have cA:nT r s (ko kp T)=true:=by
  unfold nT;rw[List.all_eq_true];intro b hb;obtain⟨i,hi⟩:=List.mem_iff_getElem?.1 hb;simp only[List.getElem?_mapIdx,Option.map_eq_some_iff]at hi;obtain⟨v,hv,rfl⟩:=hi;have kW:(ko kp T).getD i .dead=v:=by simp[List.getD_eq_getElem?_getD,hv]
  simp only[id_eq,Bool.or_eq_true,beq_iff_eq,bne_iff_ne];by_cases oP:i=s
  ·exact .inl oP
  ·right;intro cn;rw[hg]at kW;split at kW
   ·subst kW;simp[V.root]at cn
   ·rename_i hk;by_cases VN:i=r
    ·subst VN;rw[hr]at kW;subst kW;simp[V.root]at cn
    ·apply hk;rw[kW];simp[kp,oP,VN,V.on,cn]
 have Jt:t'=t:=by
  have bb:=bu.aV s;rw[lb]at bb;obtain⟨cD,hh⟩:=bb;rcases hh with⟨_,_,l,n',x',h3,_⟩|⟨_,_,_,h,_⟩
  ·rw[mh]at h3;injection h3 with _ _ h3 _;exact h3.symm
  ·rw[mh]at h;simp[V.dE]at h
 obtain⟨L2,hI2⟩:=Inv.take bu (n:=n) (t:=t) (x:=x) (p:=[]) (log:=[]) (s:=s) (r:=r) (by rw[lb,Jt]) b9 (by rw[mh];exact⟨rfl,rfl⟩) hn hd cA
 ·refine⟨L2,?_⟩;have ie:(ko kp T).length=N:=bu.len;have:((ko kp T).set r .dead).set s (.d none n t x)=ah T (jE r s (.d none n t x) 0 T):=by
   refine CE (by rw[List.length_set,List.length_set,ie,cF,hI.len]) (λz=>?_);rw[aok hI.len b9,aH,aH,hg];by_cases hz:z=s
   ·subst hz;rw[if_pos ⟨rfl,by rw[List.length_set,ie];exact b9⟩,if_pos rfl]
   ·rw[if_neg (λe=>hz e.1),if_neg hz];by_cases dL:z=r
    ·subst dL;have oU:z<(ko kp T).length:=by
      apply Classical.byContradiction;intro lY;rw[eF (by rw[hI.len];rw[ie]at lY;omega)]at hr;cases hr
     rw[if_pos ⟨rfl,oU⟩,if_pos (.inl rfl)]
    ·rw[if_neg (λe=>dL e.1)];by_cases ag:(T.getD z .dead).on r=true
     ·have hk:kp z (T.getD z .dead)=true:=by
       show (z != s&&z != r&&(T.getD z .dead).on r)=true;rw[ag];simp[hz,dL]
      rw[if_pos hk,if_pos (.inr ag)]
     ·have hk:¬kp z (T.getD z .dead)=true:=by
       show ¬(z != s&&z != r&&(T.getD z .dead).on r)=true;rw[Bool.not_eq_true]at ag;rw[ag];simp
      rw[if_neg hk,if_neg (λh=>h.elim dL ag)]
  rw[<-this];exact hI2
theorem xB[af]{w:World}{a:Act}{m:M (List (Nat×V))}:{ss:List Nat}->{T:List V}->{L:Nat->aj}->{ups:List (Nat×V)}->{log:List Nat}->Inv w0 L0 N vs T a w L->(tQ N ss m).ai T ups log ->
  ∃T1 L1 bH log2,Inv w0 L0 N vs T1 a w L1/\m.ai T1 bH log2/\ah T ups=ah T1 bH
 | [],T,L,ups,log,hI,h=>⟨T,L,ups,log,hI,h,rfl⟩
 | s::l,T,L,ups,log,hI,h=>by
  obtain⟨eS,rfl,h⟩:=h;dsimp only at h;generalize bc:T.getD s .dead=v at h;split at h
  ·rename_i r t';obtain⟨log2,rfl,h⟩:=h;dsimp only at h;generalize wI:T.getD r .dead=u at h;split at h
   ·rename_i n t x;split at h
    ·rename_i hc;obtain⟨hn,hd,b9,bt⟩:=hc;obtain⟨Ts,l1,l2,rfl,dQ,hk,h⟩:=M.an h;have bI:Ts=T:=by rw[lL dQ (by rw[Nat.zero_add,hI.len])];rfl
     subst bI;obtain⟨bH,l3,l4,rfl,h1,h2⟩:=M.an h;obtain⟨rfl,_⟩:=h2;obtain⟨aF,h1⟩:=M.oX h1;obtain⟨L',iG⟩:=Inv.aom hI bc wI hn hd b9 bt hk;obtain⟨T1,L1,jF,fK,k1,k2,k3⟩:=xB iG h1;exact⟨T1,L1,jF,fK,k1,k2,by rw[lx];exact k3⟩
    ·exact xB hI h
   ·exact xB hI h
  ·exact xB hI h
end
def UE(C:Ctx)(X:TypeId)(f t:Nat):M V :=
 .ask (BC t) (match pA C X with
  | some ta=>match bB f ta with
   | some (off,t1)=>.ret (.ptr t [.a6 f off] t1)
   | none=>.fail
  | none=>.fail)
def YU(t:Nat)(ty:Ty):M V:=.ask (BC t) (.ret (.ptr t [] ty))
section
variable{P:Program}{C:Ctx}{w w' w0:World}{S S':Nat->Prop}{L L' L0:Nat->aj}{s N:Nat}{vs:List Nat}{T T':List V}{tm tm':Array Value}{a:Act}
theorem T4{v:V}{c:Value}(hs:aB L T tm s v w c)(hb:v.fx=true):∃g,c = .pointer (some ⟨g,0,none⟩)/\L g = .own s []:=by
 cases v with
 | box l n t x =>
  obtain⟨_,g,cur,e,h1,h2,_⟩:=hs;exact⟨g,h1,h2⟩
 | hole u p =>
  cases u with
  | box l n t x =>
   obtain⟨_,_,_,_,_,_,_,h⟩:=hs;obtain⟨_,g,cur,e,h1,h2,_⟩:=h;exact⟨g,h1,h2⟩
  | _=>simp[V.fx]at hb
 | bO k n t x =>
  unfold V.fx at hb;split at hb
  ·rename_i he;cases he
  ·rename_i he;cases he
  ·rename_i he;cases he;cases t with
   | agg t =>
    obtain⟨g,cur,e,h1,h2,_⟩:=hs;exact⟨g,h1,h2⟩
   | _=>exact hs.elim
  ·cases hb
 | _=>simp[V.fx]at hb
theorem amP[af](hI:Inv w0 L0 N vs T a w L)(hC:bD P C){o:Oper}{X:TypeId}{t f d:Nat}{v:V}{log:List Nat}(ho:o.op = .fieldAddr X (.tmp t) f)
  (h:(UE C X f t).ai T v log) (bc:∀r,v.on r=true->r∈vs):aK P o vs T a w L d v:=by
 obtain⟨⟨hq,_⟩,aF,rfl,h⟩:=h;obtain⟨g,h1,h2⟩:=T4 (hI.aV t) (TR hq);split at h
 ·rename_i ta kl;split at h
  ·rename_i off t1 hc;obtain⟨rfl,_⟩:=h;have fb:a.eval (.tmp t)=_:=h1;refine aK.ptr hI (g:=g) ?_ h2 bc;simp[execOp,ho,fb,Y9 hC kl hc,node]
  ·exact h.elim
 ·exact h.elim
theorem amY[af](hI:Inv w0 L0 N vs T a w L){o:Oper}{t d:Nat}{ty:Ty}{v:V}{log:List Nat}(ho:o.op = .move (.tmp t))
  (h:(YU t ty).ai T v log) (bc:∀r,v.on r=true->r∈vs):aK P o vs T a w L d v:=by
 obtain⟨⟨hq,_⟩,aF,rfl,h⟩:=h;obtain⟨g,h1,h2⟩:=T4 (hI.aV t) (TR hq);obtain⟨rfl,_⟩:=h;have fb:a.eval (.tmp t)=_:=h1;refine aK.ptr hI (g:=g) ?_ h2 bc;simp[execOp,ho,fb,node]
def mJ(r:Nat)(q:List Nat)(o s:Nat):Nat->List Nat->aj:=λz q2 =>
 if z=r then match cut q q2 with
  | some (y::rest)=>if y=o then .own s (0::rest)else .own r q2
  | _=>.own r q2
 else if z=s then .other else .own z q2
theorem tK[af]{r s:Nat}{q:List Nat}{o:Nat}{z:Nat}{q2:List Nat}{z':Nat}{q3:List Nat}(h:mJ r q o s z q2 = .own z' q3):
  (z=r/\∃rest,q2=q++o::rest/\z'=s/\q3=0::rest)\/(z=r/\z'=r/\q3=q2/\∀rest,q2≠q++o::rest)\/(z≠r/\z≠s/\z'=z/\q3=q2):=by
 unfold mJ at h;split at h
 ·rename_i hz;split at h
  ·rename_i y rest hc;split at h
   ·rename_i hy;injection h with h1 h2;subst hy;exact .inl ⟨hz,rest,ow hc,h1.symm,h2.symm⟩
   ·rename_i hy;injection h with h1 h2;refine .inr (.inl ⟨hz,h1.symm,h2.symm,λfD he=>?_⟩);rw[he,nh]at hc;simp only[Option.some.injEq,List.cons.injEq]at hc;exact hy hc.1.symm
  ·rename_i cA;injection h with h1 h2;refine .inr (.inl ⟨hz,h1.symm,h2.symm,λfD he=>?_⟩);exact cA o fD (by rw[he,nh])
 ·rename_i hz;split at h
  ·cases h
  ·rename_i hs;injection h with h1 h2;exact .inr (.inr ⟨hz,hs,h1.symm,h2.symm⟩)
theorem aop[af]{r s:Nat}{q:List Nat}{o:Nat}{X:Nat->Prop}(hr:X r)(hs:X s)(iN:r≠s):fF (mJ r q o s) X:=by
 refine⟨λz q2 hX=>?_,λz q2 z' q3 hX h=>?_,λz q2 z2 q3 z' q4 h1 h2=>?_,λz q2=>?_⟩
 ·unfold mJ;rw[if_neg (λe:z=r=>hX (e▸hr)),if_neg (λe:z=s=>hX (e▸hs))]
 ·rcases tK h with⟨_,_,_,rfl,_⟩|⟨_,rfl,_⟩|⟨_,_,rfl,_⟩
  ·exact hs
  ·exact hr
  ·exact hX
 ·rcases tK h1 with⟨rfl,rest,rfl,rfl,rfl⟩|⟨rfl,rfl,rfl,hn⟩|⟨g1,g2,rfl,rfl⟩
  ·rcases tK h2 with⟨rfl,fD,rfl,_,he⟩|⟨rfl,he,_⟩|⟨_,g2,he,_⟩
   ·injection he with _ he;exact⟨rfl,by rw[he]⟩
   ·exact absurd he.symm iN
   ·exact absurd he.symm g2
  ·rcases tK h2 with⟨_,fD,_,he,_⟩|⟨rfl,_,he,_⟩|⟨g1,_,he,_⟩
   ·exact absurd he iN
   ·exact⟨rfl,he⟩
   ·exact absurd he.symm g1
  ·rcases tK h2 with⟨_,fD,_,he,_⟩|⟨_,he,_⟩|⟨_,_,h3,h4⟩
   ·exact absurd he g2
   ·exact absurd he g1
   ·exact⟨h3,h4⟩
 ·unfold mJ
  repeat' split
  all_goals simp
theorem aoo[af]{r s:Nat}{q:List Nat}{o:Nat}{rest:List Nat}:mJ r q o s r (q++o::rest) = .own s (0::rest):=by
 unfold mJ;rw[if_pos rfl,nh];simp
theorem Dj[af]{r s:Nat}{q:List Nat}{o:Nat}{q2:List Nat}(h:∀rest,q2≠q++o::rest):mJ r q o s r q2 = .own r q2:=by
 unfold mJ;rw[if_pos rfl];split
 ·rename_i y rest hc;split
  ·rename_i hy;subst hy;exact absurd (ow hc) (h rest)
  ·rfl
 ·rfl
theorem KR{g o:Nat}{cur:Array Value}{e:TypeId}{v:Value}(h:w.heap[g]?=some (.cells cur e (0,0))):(w.setCell ⟨g,o,none⟩ v).heap[g]?=some (.cells (cur.setIfInBounds o v) e (0,0)):=by
 simp[World.setCell,Array.getElem?_modify,h]
theorem tB{g o k:Nat}{v:Value}(h:k≠g):(w.setCell ⟨g,o,none⟩ v).heap[k]?=w.heap[k]?:=by
 simp only[World.setCell,Array.getElem?_modify];rw[if_neg (Ne.symm h)]
theorem amu{p:List St}{k n:Nat}{t:Ty}{x:t.den}{l:Option Nat}{z:D}{log:List Nat}(h:(qw p k n t x).ai T (l,z) log):l=none:=by
 unfold qw at h;split at h
 ·split at h
  ·obtain⟨_,y,_,h⟩:=h;obtain⟨_,_,_,_,_,h⟩:=M.an h;exact (Prod.mk.inj h.1).1
  ·exact h.elim
 ·split at h
  ·split at h
   ·obtain⟨_,_,_,_,_,h⟩:=M.an h;exact (Prod.mk.inj h.1).1
   ·exact h.elim
  ·exact h.elim
 ·exact h.elim
theorem Y6{p:List St}{u:V}{l:Option Nat}{z:D}{log:List Nat}(h:(dG p u).ai T (l,z) log):u.root=l:=by
 cases u with
 | box l0 n t x =>
  obtain⟨zz,l1,l2,rfl,h1,h2⟩:=M.an h;obtain⟨h2,_⟩:=h2;cases h2;rfl
 | d l0 n t x =>
  simp only[dG]at h;split at h
  ·obtain⟨zz,l1,l2,rfl,h1,h2⟩:=M.an h;obtain⟨h2,_⟩:=h2;cases h2;rfl
  ·exact h.elim
 | dead=>exact h.elim
 | bF _=>exact h.elim
 | rp _ _ _=>exact h.elim
 | ptr _ _ _=>exact h.elim
 | view _ _ _=>exact h.elim
 | hole _ _=>exact h.elim
 | part _ _ _ _ _=>exact h.elim
 | bO _ _ _ _=>exact (amu h).symm
 | same _ _=>exact h.elim
theorem Inv.aol[af](hI:Inv w0 L0 N vs T a w L){s r n:Nat}{p:List St}{u u':V}{e:TypeId}{te:Ty}{x:List te.den}{log log2:List Nat}(hs:T.getD s .dead = .view r p (.slice e te))(hr:T.getD r .dead=u)(hu:u.fx=true)(b9:s<N)(dr:r<N)
  (hz:(dG p u).ai T (none,⟨n,.slice e te,x⟩) log) (hm:(fY p u (.slice e te) []).ai T u' log2) (hn:n≠0) (cN:∀z,z≠s->(T.getD z .dead).eE r=false) :
  ∃L',Inv w0 L0 N vs ((T.set r (.hole u' p)).set s (.d none n (.slice e te) x)) a w L':=by
 have cn:=Y6 hz;obtain⟨mj,wv,vO,Ci⟩:=Ke hm;have bt:=hI.aV s;rw[hs]at bt;have iN:r≠s:=by
  rintro rfl
  rw[hs]at hr;subst hr;simp[V.fx]at hu
 have hzv:(qO p (T.getD r .dead)).ai T (none,⟨n,.slice e te,x⟩) log:=by
  rw[hr];cases u with
  | box l0 n0 t0 x0=>exact hz
  | hole _ _=>exact hz
  | bO _ _ _ _=>exact hz
  | _=>simp[V.fx]at hu
 obtain⟨cs,hf,bw,_,cD⟩:=Dq hI bt hzv;have bb:=hI.aV r;rw[hr]at bb;obtain⟨hb,_,_,ik,lZ⟩:=lq hz bb;obtain⟨g,cur,e',k1,k2,k3,k4⟩:=hb;have bI:((T.set r (.hole u' p)).set s (.d none n (.slice e te) x)).getD s .dead = .d none n (.slice e te) x:=by
  rw[aH,if_pos ⟨rfl,by simp[hI.len,b9]⟩]
 have bE:((T.set r (.hole u' p)).set s (.d none n (.slice e te) x)).getD r .dead = .hole u' p:=by
  rw[aH,if_neg (λh=>iN h.1),aH,if_pos ⟨rfl,by rw[hI.len];exact dr⟩]
 have bq:∀z,z≠r->z≠s->((T.set r (.hole u' p)).set s (.d none n (.slice e te) x)).getD z .dead=T.getD z .dead:=by
  intro z h1 h2;rw[aH,if_neg (λh=>h2 h.1),aH,if_neg (λh=>h1 h.1)]
 have nH:∀z,z≠s->(T.getD z .dead).on r=true->∃p' t',T.getD z .dead = .ptr r p' t'/\shallow p'=true:=by
  intro z im ag;have hb:=cN z im;unfold V.eE at hb;rw[ag,Bool.true_and]at hb;generalize T.getD z .dead=v at hb ag;cases v with
  | ptr r2 p2 t2 =>
   have:r2=r:=by simpa[V.on,V.root]using ag
   subst this;exact⟨p2,t2,rfl,by simpa using hb⟩
  | _=>simp at hb
 refine⟨_,Inv.gP (f:=mJ r (node [] 0 p).1 (node [] 0 p).2 s) (X:=λz=>z=r\/z=s\/(T.getD z .dead).on r=true) (nl:=λ_=>.free) hI (aop (.inl rfl) (.inr (.inl rfl)) iN) (Wd.refl hI _) (λ_ _ _ _ _ h=>by cases h) hI.size (by simp[hI.len]) hI.dP ?_ ?_ ?_ ?_ ?_⟩
 ·intro k z q bW h;by_cases h1:z=r
  ·subst h1;rw[bE];rfl
  ·by_cases h2:z=s
   ·subst h2;rw[bI];simp[V.aL,hn,Ty.depth]
   ·rw[bq z h1 h2];unfold aS at h;split at h
    ·obtain⟨s0,q0,e0,f0⟩:=eV h;rcases tK f0 with⟨_,_,_,h3,_⟩|⟨_,h3,_⟩|⟨_,_,h3,h4⟩
     ·exact absurd h3 h2
     ·exact absurd h3 h1
     ·subst h3;exact hI.owner k _ _ e0
    ·cases h
 ·intro z r' bW ag aW;have bW:=not_or.1 bW;have ff:=not_or.1 bW.2;rcases aW with rfl|rfl|aW
  ·exact absurd ag ff.2
  ·rw[hs];rfl
  ·by_cases h2:r'=s
   ·subst h2;rw[hs];rfl
   ·obtain⟨p',t',he,_⟩:=nH r' h2 aW;rw[he];rfl
 ·intro z bW;have bW:=not_or.1 bW;have ff:=not_or.1 bW.2;exact⟨bq z bW.1 ff.1,rfl⟩
 ·intro z r' bW ag;by_cases h1:z=r
  ·subst h1;rw[bE]at ag;simp[V.on,V.root,mj,cn]at ag
  ·by_cases h2:z=s
   ·subst h2;rw[bI]at ag;simp[V.on,V.root]at ag
   ·rw[bq z h1 h2]at ag;exact hI.roots z r' ag
 ·intro z bW;by_cases h1:z=r
  ·subst h1;rw[bE];refine⟨by rw[mj,cn],g,cur,e',?_,k2,by simp only[Ty.sz]at k3;omega,?_⟩
   ·rw[cX hI (by rw[k1];simp),k1];exact Dj (λrest h=>by have:=congrArg List.length h;simp at this)
   ·refine Kd (T2:=_) (cur:=cur) (e':=e') (g':=g) (cur':=cur.setIfInBounds (node [] 0 p).2 (.slice none 0 0)) bb hz hm (λr' aW=>by rw[cn]at aW;cases aW) ?_ ?_
    ·refine⟨λk hk=>?_,λk q2 hk hq Jv=>?_,k1,?_,k2,KR k2,by simp,λi hi=>?_,λk hk=>hI.inj k g z _ hk k1⟩
     ·rw[cn]at hk ⊢;rcases hk with hk|⟨_,_,hk,_⟩
      ·exact⟨.inl (ez hI hk),tB (by rintro rfl;rw[k1]at hk;cases hk)⟩
      ·cases hk
     ·refine⟨?_,tB (by rintro rfl;rw[k1]at hk;injection hk with _ hk;exact hq hk.symm)⟩;rw[cX hI (by rw[hk];simp),hk];exact Dj (λrest h=>Jv ⟨0,rest,by simp[Ty.sz],by simpa using h⟩)
     ·rw[cX hI (by rw[k1];simp),k1];exact Dj (λrest h=>by have:=congrArg List.length h;simp at this)
     ·rw[Array.getElem?_setIfInBounds,if_neg (by simp only[Ty.sz]at hi;omega)]
    ·have hc:((cur.setIfInBounds (node [] 0 p).2 (.slice none 0 0)).toList.drop (node [] 0 p).2).take (Ty.slice e te).sz=[.slice none 0 0]:=by
      simp only[Ty.sz]at k3 ⊢;apply List.ext_getElem?;intro i;rw[List.getElem?_take];split
      ·obtain rfl:i=0:=by omega
       rw[List.getElem?_drop,Nat.add_zero,Array.getElem?_toList,Array.getElem?_setIfInBounds,if_pos rfl,if_pos (by omega)];rfl
      ·exact (List.getElem?_eq_none (by simp;omega)).symm
     rw[hc];cases n with
     | zero=>exact absurd rfl hn
     | succ n=>simp only[Own];exact .inl (by constructor<;>first|trivial|rfl)
  ·by_cases h2:z=s
   ·subst h2;rw[bI];refine⟨by simp,cs,hf,?_⟩;refine Own.move (λk hk=>?_) (λk d rest hd hk=>⟨?_,rfl⟩) bw
    ·rcases hk with hk|⟨_,_,hk,_⟩
     ·exact⟨.inl (ez hI hk),rfl⟩
     ·cases hk
    ·simp only[Ty.sz]at hd;obtain rfl:d=0:=by omega
     rw[cX hI (by rw[hk];simp),hk];simp only[eN,Nat.add_zero,Nat.zero_add,List.nil_append];exact aoo
   ·rw[bq z h1 h2];have ag:(T.getD z .dead).on r=true:=by
     rcases bW with h|h|h
     ·exact absurd h h1
     ·exact absurd h h2
     ·exact h
    obtain⟨p',t',he,ey⟩:=nH z h2 ag;have bp:=hI.aV z;rw[he]at bp ⊢;obtain⟨g2,j1,j2⟩:=bp;refine⟨g2,j1,?_⟩;rw[qF ey]at j2 ⊢;rw[cX hI (by rw[j2];simp),j2];exact Dj (λrest h=>by have:=congrArg List.length h;simp at this)
end
def qI:List St->List St->Bool
 | [],[]=>true
 | .a6 i o::p,.a6 i' o'::p'=>i==i'&&o==o'&&qI p p'
 | .idx s i::p,.idx s' i'::p'=>s==s'&&i==i'&&qI p p'
 | _,_=>false
theorem K3:{p p':List St}->qI p p'=true->p=p'
 | [],[],_=>rfl
 | .a6 i o::p,.a6 i' o'::p',h=>by
  simp only[qI,Bool.and_eq_true,beq_iff_eq]at h;rw[h.1.1,h.1.2,K3 h.2]
 | .idx s i::p,.idx s' i'::p',h=>by
  simp only[qI,Bool.and_eq_true,beq_iff_eq]at h;rw[h.1.1,h.1.2,K3 h.2]
 | [],.a6 _ _::_,h|[],.idx _ _::_,h | .a6 _ _::_,[],h | .idx _ _::_,[],h | .a6 _ _::_,.idx _ _::_,h | .idx _ _::_,.a6 _ _::_,h=>by simp[qI]at h
def Iy(C:Ctx)(vs:List Nat)(N:Nat)(kids:List Nat)(X:TypeId)(r:Nat)(p:List St)(u:V)(p':List St)(x:Operand):M (List (Nat×V)):=
 match x with
 | .tmp s=>if qI p p'=true/\vs.contains s=false/\s≠r/\r<N then
   .get s λv=>match v with
   | .d none k (.slice e te) y=>(dG p u).bind λz =>
    if h:z.2.t = .slice e te then
     if C.ty X=some (.slice e te)/\(z.2.n<=k\/te.depth+1<=k)/\z.2.n≠0/\z.1=none/\u.fx=true then
      (fY p u (.slice e te) y).bind λu2=>iB false r s kids (.ret [(r,u2),(s,.dead)])
     else .fail
    else .fail
   | _=>.fail
  else .fail
 | _=>.fail
def M.calm{α:Type}:M α->Prop
 | .ret _=>True
 | .fail=>True
 | .get _ _=>False
 | .cJ _ _ k=>∀x,(k x).calm
 | .bm _ k=>k.calm
 | .ask _ _=>False
 | .ite _ x y=>x.calm/\y.calm
theorem sa{α:Type}{T T':List V}:{m:M α}->{a:α}->{log:List Nat}->m.calm->m.ai T a log->m.ai T' a log
 | .ret _,_,_,_,h=>h
 | .fail,_,_,_,h=>h.elim
 | .get _ _,_,_,c,_=>c.elim
 | .cJ _ _ k,a,log,c,⟨x,hx,h⟩=>⟨x,hx,sa (c x) h⟩
 | .bm _ k,a,log,c,⟨hb,h⟩=>⟨hb,sa (m:=k) c h⟩
 | .ask _ _,_,_,c,_=>c.elim
 | .ite _ x y,a,log,c,h=>by
  rcases h with⟨hb,h⟩|⟨hb,h⟩
  ·exact .inl ⟨hb,sa (m:=x) c.1 h⟩
  ·exact .inr ⟨hb,sa (m:=y) c.2 h⟩
theorem ji{α β:Type}{f:α->M β}(hf:∀a,(f a).calm):{m:M α}->m.calm->(m.bind f).calm
 | .ret a,_=>hf a
 | .fail,_=>trivial
 | .get _ _,c=>c.elim
 | .cJ _ _ k,c=>λx=>ji hf (c x)
 | .bm _ k,c=>ji (m:=k) hf c
 | .ask _ _,c=>c.elim
 | .ite _ x y,c=>⟨ji (m:=x) hf c.1,ji (m:=y) hf c.2⟩
theorem sr:(p:List St)->(n:Nat)->(t:Ty)->(x:t.den)->(aP p n t x).calm
 | [],_,_,_=>trivial
 | .a6 i off::p,n,.agg t,x=>by
  simp only[aP];split
  ·split
   ·exact sr _ _ _ _
   ·trivial
  ·trivial
 | .idx sz i::p,n+1,.slice _ t,x=>by
  simp only[aP];split
  ·exact λy=>sr _ _ _ _
  ·trivial
 | .idx _ _::p,0,.slice _ _,_=>by simp only[aP];trivial
 | .a6 _ _::p,_,.int _,_ | .a6 _ _::p,_,.bool,_ | .a6 _ _::p,_,.str,_ | .a6 _ _::p,_,.raw _,_ | .a6 _ _::p,_,.cap _ _,_ | .a6 _ _::p,_,.unit,_ | .a6 _ _::p,_,.pair _ _,_ | .a6 _ _::p,_,.slice _ _,_=>by simp only[aP];trivial
 | .idx _ _::p,_,.int _,_ | .idx _ _::p,_,.bool,_ | .idx _ _::p,_,.str,_ | .idx _ _::p,_,.raw _,_ | .idx _ _::p,_,.cap _ _,_ | .idx _ _::p,_,.unit,_ | .idx _ _::p,_,.pair _ _,_ | .idx _ _::p,_,.agg _,_=>by simp only[aP];trivial
theorem Yj[af]{f:(t1:Ty)->t1.den->M t1.den}(hf:∀t1 x1,(f t1 x1).calm):(i:Nat)->(t:Ty)->(x:t.den)->(iT i t x f).calm
 | 0,.pair _ _,x=>by simp only[iT];refine ji ?_ (hf _ _);intro _;trivial
 | i+1,.pair _ b,x=>by simp only[iT];refine ji ?_ (Yj hf i b x.2);intro _;trivial
 | 0,.int _,x|0,.bool,x|0,.str,x|0,.raw _,x|0,.cap _ _,x|0,.unit,x|0,.agg _,x|0,.slice _ _,x=>by simp only[iT];exact hf _ _
 | _+1,.int _,x|_+1,.bool,x|_+1,.str,x|_+1,.raw _,x|_+1,.cap _ _,x|_+1,.unit,x|_+1,.agg _,x|_+1,.slice _ _,x=>by simp only[iT];trivial
theorem CN[af]:(p:List St)->(t:Ty)->(x:t.den)->(t':Ty)->(y:t'.den)->(fh p t x t' y).calm
 | [],t,x,t',y=>by
  simp only[fh];split<;>trivial
 | .a6 i off::p,.agg t,x,t',y=>by
  simp only[fh];split
  ·split
   ·exact Yj (λt1 x1=>CN p t1 x1 t' y) _ _ _
   ·trivial
  ·trivial
 | .idx sz i::p,.slice _ t,x,t',y=>by
  simp only[fh];split
  ·intro z;refine ji ?_ (CN p t z t' y);intro _ _;trivial
  ·trivial
 | .a6 _ _::p,.int _,_,_,_ | .a6 _ _::p,.bool,_,_,_ | .a6 _ _::p,.str,_,_,_ | .a6 _ _::p,.raw _,_,_,_ | .a6 _ _::p,.cap _ _,_,_,_ | .a6 _ _::p,.unit,_,_,_ | .a6 _ _::p,.pair _ _,_,_,_ | .a6 _ _::p,.slice _ _,_,_,_=>by simp only[fh];trivial
 | .idx _ _::p,.int _,_,_,_ | .idx _ _::p,.bool,_,_,_ | .idx _ _::p,.str,_,_,_ | .idx _ _::p,.raw _,_,_,_ | .idx _ _::p,.cap _ _,_,_,_ | .idx _ _::p,.unit,_,_,_ | .idx _ _::p,.pair _ _,_,_,_ | .idx _ _::p,.agg _,_,_,_=>by simp only[fh];trivial
theorem amt[af]{p:List St}{k n:Nat}{t:Ty}{x:t.den}:(qw p k n t x).calm:=by
 unfold qw;split
 ·split
  ·intro y;refine ji ?_ (sr _ _ _ _);intro _;trivial
  ·trivial
 ·split
  ·split
   ·refine ji ?_ (sr _ _ _ _);intro _;trivial
   ·trivial
  ·trivial
 ·trivial
theorem anf[af]{p:List St}(u:V):(dG p u).calm:=by
 cases u with
 | box l n t x=>refine ji ?_ (sr _ _ _ _);intro _;trivial
 | d l n t x =>
  simp only[dG];split
  ·(refine ji ?_ (sr _ _ _ _);intro _;trivial)
  ·trivial
 | bO k n t x=>exact amt
 | _=>trivial
theorem amf[af]{p:List St}{t:Ty}{y:t.den}(u:V):(fY p u t y).calm:=by
 cases u with
 | box l n t x=>refine ji ?_ (CN _ _ _ _ _);intro _;trivial
 | d l n t x =>
  simp only[fY];split
  ·(refine ji ?_ (CN _ _ _ _ _);intro _;trivial)
  ·trivial
 | _=>trivial
section
variable{P:Program}{C:Ctx}{w w' w0:World}{S S':Nat->Prop}{L L' L0:Nat->aj}{s N:Nat}{vs:List Nat}{T T':List V}{tm tm':Array Value}{a:Act}
theorem Inv.ghost[af](hI:Inv w0 L0 N vs T a w L){r:Nat}{p:List St}{u:V}(hr:T.getD r .dead = .hole u p)(hu:u.fx=true)(dr:r<N)(cN:∀z,(T.getD z .dead).eE r=false\/(T.getD z .dead).on r=false):
  ∃g cur e,L g = .own r (node [] 0 p).1/\w.heap[g]?=some (.cells cur e (0,0))/\(node [] 0 p).2<cur.size/\u.root=none/\Inv w0 L0 N vs (T.set r u) a (w.setCell ⟨g,(node [] 0 p).2,none⟩ (.slice none 0 0)) L:=by
 have hs:=hI.aV r;rw[hr]at hs;obtain⟨h0,g,cur,e,h1,h2,h3,h4⟩:=hs;refine⟨g,cur,e,h1,h2,h3,h0,?_⟩;have hT:∀z,(T.set r u).getD z .dead=if z=r/\r<T.length then u else T.getD z .dead:=λz=>aH _ _ _ _ _
 have bE:(T.set r u).getD r .dead=u:=by rw[hT,if_pos ⟨rfl,by rw[hI.len];exact dr⟩]
 have bw:u.aL=true:=by cases u<;>simp[V.fx,V.aL]at hu ⊢
 have sL:∀k,L k ≠ .own r (node [] 0 p).1->(w.setCell ⟨g,(node [] 0 p).2,none⟩ (.slice none 0 0)).heap[k]?=w.heap[k]?:=λk hk=>tB (by rintro rfl;exact hk h1);refine Inv.upd (λz=>z=r\/(T.getD z .dead).on r=true) hI hI.size (by simp[hI.len]) hI.dP ?_ (λk hk=>hI.free k (by simpa[World.setCell]using hk)) hI.inj ?_ ?_ ?_ ?_ ?_ ?_
 ·refine⟨hI.fr.os,hI.fr.tape,hI.fr.output,by simpa[World.setCell]using hI.fr.size,hI.fr.drawn,λk hk h=>?_,hI.fr.hG⟩;obtain⟨e1,e2⟩:=hI.fr.aR k hk h;refine⟨e1,?_⟩;rw[sL k (by rw[e1];rcases h with h|h<;>rw[h]<;>simp),e2]
 ·intro k z q hk;rw[hT];split
  ·exact bw
  ·exact hI.owner k z q hk
 ·intro z hz k hk;refine⟨rfl,sL k (λhe=>?_)⟩;have hz:=not_or.1 hz;rcases hk with hk|⟨r',q,hk,aW⟩
  ·rw[he]at hk;cases hk
  ·rw[he]at hk;injection hk with hk _;subst hk;rcases aW with aW|aW
   ·exact hz.1 aW.symm
   ·exact hz.2 aW
 ·intro z hz;have hz:=not_or.1 hz;exact⟨by rw[hT,if_neg (λh=>hz.1 h.1)],rfl⟩
 ·intro z r' ag;rw[hT]at ag;split at ag
  ·simp[V.on,h0]at ag
  ·exact hI.roots z r' ag
 ·intro z r' hz ag _;have hz:=not_or.1 hz;refine⟨by rw[hT,if_neg (λh=>hz.2 (by rw[<-h.1];exact ag))],rfl⟩
 ·intro z hz;by_cases dL:z=r
  ·subst dL;rw[bE];exact aB.aR (L':=L) (T':=T.set z u) (tm':=a.tmps) (λk _=>⟨rfl,rfl⟩) (λr' aW _=>by simp[V.on,h0]at aW) h4
  ·have ag:(T.getD z .dead).on r=true:=hz.resolve_left dL;rw[hT,if_neg (λh=>dL h.1)];have hd:=(cN z).resolve_right (by rw[ag];simp);unfold V.eE at hd;rw[ag,Bool.true_and]at hd;have bp:=hI.aV z;generalize T.getD z .dead=v at hd bp ag;cases v with
   | ptr r2 p2 t2=>exact bp
   | _=>simp at hd
theorem anz[af]{g o:Nat}{cur:Array Value}{e:TypeId}{v c:Value}(hg:w.heap[g]?=some (.cells cur e (0,0)))(ho:o<cur.size):
  (w.setCell ⟨g,o,none⟩ v).setRow g (putCells (cur.setIfInBounds o v) o [c])=w.setRow g (putCells cur o [c]):=by
 have hp:putCells (cur.setIfInBounds o v) o [c]=putCells cur o [c]:=by
  apply Array.ext_getElem?;intro i;by_cases hi:i=o
  ·subst hi;have e1:=C4 (cur:=cur.setIfInBounds i v) (o:=i) (cs:=[c]) (by simp;omega);have e2:=C4 (cur:=cur) (o:=i) (cs:=[c]) (by simp;omega);have e3:=e1.trans e2.symm;have:=congrArg (λl=>l[0]?) e3;simpa[List.getElem?_take,List.getElem?_drop]using this
  ·rw[C5 (by simp;omega) i (by simp;omega),C5 (by simp;omega) i (by simp;omega),Array.getElem?_setIfInBounds,if_neg (Ne.symm hi)]
 have hh:((w.setCell ⟨g,o,none⟩ v).setRow g (putCells (cur.setIfInBounds o v) o [c])).heap=(w.setRow g (putCells cur o [c])).heap:=by
  rw[hp];apply Array.ext_getElem?;intro i;by_cases hi:i=g
  ·subst hi;rw[setRow_heap _ i _ _ _ _ (KR hg),setRow_heap _ i _ _ _ _ hg]
  ·rw[setRow_other _ g i _ hi,setRow_other _ g i _ hi,tB hi]
 calc (w.setCell ⟨g,o,none⟩ v).setRow g (putCells (cur.setIfInBounds o v) o [c])
   = { w.setRow g (putCells cur o [c])with heap:=((w.setCell ⟨g,o,none⟩ v).setRow g (putCells (cur.setIfInBounds o v) o [c])).heap }:=rfl
  _={ w.setRow g (putCells cur o [c])with heap:=(w.setRow g (putCells cur o [c])).heap }:=by rw[hh]
  _=w.setRow g (putCells cur o [c]):=rfl
theorem an5[af](hI:Inv w0 L0 N vs T a w L)(hC:bD P C){o:Oper}{X:TypeId}{t r:Nat}{kids:List Nat}{p p':List St}{u:V}{x:Operand}{ups:List (Nat×V)}{log:List Nat}(ho:o.op = .store X (.tmp t) x)(ay:o.dst=none)
  (ht:addrOf t (T.getD t .dead)=some (r,p)) (cV:∀r p,addrOf t (T.getD t .dead)=some (r,p)->∃g,a.eval (.tmp t) = .pointer (some ⟨g,(node [] 0 p).2,none⟩)/\L g = .own r (node [] 0 p).1)
  (hr:T.getD r .dead = .hole u p') (h:(Iy C vs N kids X r p u p' x).ai T ups log):Step P o w0 L0 N vs (ah T ups) a w:=by
 cases x with
 | tmp s =>
  simp only[Iy]at h;split at h
  ·rename_i hc;obtain⟨Jj,jw,bt,dr⟩:=hc;obtain rfl:=K3 Jj;obtain⟨eS,rfl,h⟩:=h;dsimp only at h;generalize bc:T.getD s .dead=v at h;split at h
   ·rename_i k e te y;obtain⟨⟨l,n',t',x'⟩,l1,l2,rfl,hz,h⟩:=M.an h;dsimp only at h;split at h
    ·rename_i ht';subst ht';split at h
     ·rename_i vM;obtain⟨hX,la,iM,rfl,Cp⟩:=vM;obtain⟨u2,l3,l4,rfl,hm,h⟩:=M.an h;obtain⟨cN,log2,h⟩:=jQ h;obtain⟨rfl,_⟩:=h;have Vv:∀z,(T.getD z .dead).eE r=false\/(T.getD z .dead).on r=false:=by
       intro z;by_cases im:z=s
       ·right;rw[im,bc];rfl
       ·exact .inl (cN z im)
      obtain⟨g,cur,e2,g1,g2,g3,cn,bu⟩:=Inv.ghost hI hr Cp dr Vv;obtain⟨g',pW,I2⟩:=cV r p ht;obtain rfl:=hI.inj g g' r _ g1 I2;have jm:∀z,z≠r->(T.set r u).getD z .dead=T.getD z .dead:=λz hz=>by rw[aH,if_neg (λh=>hz h.1)]
      have aiG:(T.set r u).getD r .dead=u:=by rw[aH,if_pos ⟨rfl,by rw[hI.len];exact dr⟩]
      have iO:=hI.aV s;rw[bc]at iO;obtain⟨_,cs,hf,bw⟩:=iO;have hf:cs=[a.tmps.getD s undef]:=hf;have dZ:=Own.one bw;have aN:(execOp a.eval o).run P w = .ok .skip (w.setRow g (putCells cur (node [] 0 p).2 cs)):=by
       have a7:=tA (P:=P) (w:=w) (o:=(node [] 0 p).2) (hC X _ hX) g2 (show Form (.slice e te) cs (a.eval (.tmp s))from hf) dZ (Own.len bw) (by simp only[Ty.sz];omega);simp[execOp,ho,pW,a7]
      have hlen:cs.length=1:=by rw[hf];rfl
      have aj8:(w.setCell ⟨g,(node [] 0 p).2,none⟩ (.slice none 0 0)).setRow g (putCells (cur.setIfInBounds (node [] 0 p).2 (.slice none 0 0)) (node [] 0 p).2 cs)=w.setRow g (putCells cur (node [] 0 p).2 cs):=by
       rw[hf];exact anz g2 g3
      intro K Q hK;unfold Oper.wp;rw[aN,Oper.upon_skip,ay,<-aj8];have kY:(ah T [(r,u2),(s,V.dead)]).length=N:=by rw[cF,hI.len]
      have b9:s<N:=by
       rcases Nat.lt_or_ge s N with h|h
       ·exact h
       ·rw[eF (by rw[hI.len];exact h)]at bc;cases bc
      have bI:(ah T [(r,u2),(s,V.dead)]).getD s .dead = .dead:=by
       show ((T.set r u2).set s .dead).getD s .dead = .dead;rw[aH,if_pos ⟨rfl,by simp[hI.len,b9]⟩]
      have bE:(ah T [(r,u2),(s,V.dead)]).getD r .dead=u2:=by
       show ((T.set r u2).set s .dead).getD r .dead=u2;rw[aH,if_neg (λh=>bt h.1.symm),aH,if_pos ⟨rfl,by rw[hI.len];exact dr⟩]
      have bq:∀z,z≠r->z≠s->(ah T [(r,u2),(s,V.dead)]).getD z .dead=T.getD z .dead:=by
       intro z h1 h2;show ((T.set r u2).set s .dead).getD z .dead=_;rw[aH,if_neg (λh=>h2 h.1),aH,if_neg (λh=>h1 h.1)]
      have hz1:(dG p u).ai (T.set r u) (none,⟨n',.slice e te,x'⟩) l1:=sa (anf u) hz;have kZ:(fY p u (.slice e te) y).ai (T.set r u) u2 l3:=sa (amf u) hm;refine hK a _ _ (Inv.store (m:=n') (src:=some s) bu aiG hz1 kZ (by rw[cn];simp) g1 (KR g2) (by simp only[Ty.sz,Array.size_setIfInBounds];omega) (by rw[hlen];rfl) ?_ kY bE ?_ ?_ ?_)
      ·intro s' bM;injection bM with bM;subst bM;have ij:s∉vs:=λbY=>by
        rw[List.contains_iff_mem.2 bY]at jw;cases jw
       exact⟨bt,ij,bI,by rw[jm s bt,bc];rfl⟩
      ·intro z h1 h2 ag;have BY:z≠s:=λe=>h2 (by rw[e]);rw[jm z h1]at ag ⊢;refine .inr ⟨bq z h1 BY,.inl ?_⟩;have hd:=(Vv z).resolve_right (by rw[ag];simp);unfold V.eE at hd;rw[ag,Bool.true_and]at hd;generalize T.getD z .dead=v at hd;cases v with
       | ptr r2 p2 t2 =>
        have:u.dE=false:=by cases u<;>simp[V.fx,V.dE]at Cp ⊢
        simp only[ca,this,Bool.not_false,Bool.and_true,Bool.or_eq_true];exact .inr (by simpa using hd)
       | _=>simp at hd
      ·intro z h1 h2 ag;rw[jm z h1];exact bq z h1 (λe=>h2 (by rw[e]))
      ·obtain⟨k9,c9,Jg⟩:=Own.HM (t:=.slice e te) la bw;refine Own.fi c9 (λk hk=>?_) (λk d rest hd hk=>?_) Jg
       ·rcases hk with hk|⟨_,_,hk,_⟩
        ·refine⟨.inl (ez bu hk),?_⟩;rw[setRow_other _ g k _ (by rintro rfl;rw[g1]at hk;cases hk),tB (by rintro rfl;rw[g1]at hk;cases hk)]
        ·cases hk
       ·have aI:L k = .own s (d::rest):=by simpa using hk
        have VR:k≠g:=by rintro rfl;rw[g1]at aI;injection aI with aI _;exact bt aI.symm
        have hZ:aS (dO r (node [] 0 p).1 (node [] 0 p).2 (Ty.slice e te).sz n' (some s)) (w.setCell ⟨g,(node [] 0 p).2,none⟩ (.slice none 0 0)) L (λ_=>.free) k=if rest.length<n' then .own r ((node [] 0 p).1++((node [] 0 p).2+d)::rest)else .aq:=by
         rw[cX bu (by rw[aI];simp),aI];simp only[eN,dO];rw[if_neg bt,if_pos trivial,if_pos hd]
        refine⟨by rw[setRow_other _ g k _ VR,tB VR],λh=>by rw[hZ,if_pos h],λh=>.inl (by rw[hZ,if_neg (by omega)])⟩
     ·exact h.elim
    ·exact h.elim
   ·exact h.elim
  ·exact h.elim
 | const c=>exact h.elim
 | func f=>exact h.elim
 | global g=>exact h.elim
end
end Go.Proofs.YtbhogmdpmkpinaaGreat.P.Am
set_option linter.constructorNameAsVariable false
namespace Go.Proofs.YtbhogmdpmkpinaaGreat.P.Am
def eK:List (Nat×V)->Nat->Option V
 | [],_=>none
 | u::l,s=>cond (u.1==s) (some u.2) (eK l s)
def Hu(q:Nat)(l:List Nat):Nat:=bo+(2*((q - bo) / 2 % 100000+100000*((q - bo) / 2 / 100000 ||| jA false l))+1)
def M.eU{α:Type}(ov:List (Nat×V)):M α->M α
 | .ret a=>.ret a
 | .fail=>.fail
 | .get s k=>match eK ov s with
  | some v=>(k v).eU ov
  | none=>.get s λv=>(k v).eU ov
 | .cJ t m k=>.cJ t m λx=>(k x).eU ov
 | .bm b k=>.bm b (k.eU ov)
 | .ask q k=>cond ((q - bo) % 2==0)
   (match eK ov ((q - bo) / 2)with
    | some v=>.bm (v.fx&&decide (bo<=q)) (k.eU ov)
    | none=>.ask q (k.eU ov))
   (.bm ((ov.all λu=>fC q u.1 u.2)&&decide (bo<=q)) (.ask (Hu q (ov.map (·.1))) (k.eU ov)))
 | .ite b x y=>.ite b (x.eU ov) (y.eU ov)
theorem XZ{ov:List (Nat×V)}{s:Nat}{v:V}(h:eK ov s=some v):(s,v)∈ov:=by
 induction ov with
 | nil=>cases h
 | cons u l ih =>
  simp only[eK]at h;cases hu:(u.1==s)with
  | true =>
   rw[hu]at h;simp only[cond_true,Option.some.injEq]at h;obtain⟨u1,u2⟩:=u;simp only[beq_iff_eq]at hu;subst hu h;simp
  | false =>
   rw[hu]at h;exact List.mem_cons_of_mem _ (ih h)
theorem al9{ov:List (Nat×V)}{s:Nat}(h:eK ov s=none):s∉ov.map (·.1):=by
 induction ov with
 | nil=>simp
 | cons u l ih =>
  simp only[eK]at h;cases hu:(u.1==s)with
  | true=>rw[hu]at h;cases h
  | false =>
   rw[hu]at h;simp only[List.map_cons,List.mem_cons,not_or];exact⟨λe=>by rw[e]at hu;simp at hu,ih h⟩
theorem amv{x:Nat}(h:(x % 2==0)=false):x % 2=1:=by
 rw[beq_eq_false_iff_ne]at h;omega
theorem pay{r mm:Nat}(hr:r<100000):(2*(r+100000*mm)+1) % 2=1/\(2*(r+100000*mm)+1) / 2=r+100000*mm/\(r+100000*mm) / 100000=mm/\(r+100000*mm) % 100000=r:=by
 refine⟨?_,?_,?_,?_⟩<;>omega
theorem ahA(q:Nat)(l:List Nat):Hu q l - bo=2*((q - bo) / 2 % 100000+100000*((q - bo) / 2 / 100000 ||| jA false l))+1:=Nat.add_sub_cancel_left _ _
theorem YM{T T':List V}{ov:List (Nat×V)}{q:Nat}(hl:T'.length=T.length)(hq:(q - bo) % 2=0)(hb:(T'.getD ((q - bo) / 2) .dead).fx=true)(ax:(q - bo) / 2<T.length):ep q T'=true:=by
 unfold ep;rw[Bool.and_eq_true];refine⟨Hv λs hs=>?_,Bool.or_eq_true_iff.2 (.inr (decide_eq_true (by rw[hl];exact ax)))⟩;unfold fC;rw[hq,Nat.zero_add];by_cases he:s=(q - bo) / 2
 ·rw[he,hb,Bool.or_true];rfl
 ·have:(s != (q - bo) / 2)=true:=bne_iff_ne.2 he;rw[this,Bool.true_or];rfl
theorem amC[af]{T T':List V}{ov:List (Nat×V)}{q:Nat}(hl:T'.length=T.length)(hT:∀s,T'.getD s .dead=(eK ov s).getD (T.getD s .dead))(Cn:(q - bo) % 2=1)(wu:∀u∈ov,fC q u.1 u.2=true)(hb:ep (Hu q (ov.map (·.1))) T=true):ep q T'=true:=by
 have e:=ahA q (ov.map (·.1));have hr:(q - bo) / 2 % 100000<100000:=Nat.mod_lt _ (Nat.zero_lt_succ 99999);generalize hm:((q - bo) / 2 / 100000 ||| jA false (ov.map (·.1)))=mm at e;obtain⟨e1,e2,e3,e4⟩:=pay (mm:=mm) hr;unfold ep at hb ⊢;rw[Bool.and_eq_true]at hb ⊢;refine⟨Hv λs hs=>?_,Bool.or_eq_true_iff.2 (.inl (beq_iff_eq.2 Cn))⟩;rw[Nat.zero_add,hT];cases hv:eK ov s with
 | some v=>exact wu (s,v) (XZ hv)
 | none =>
  have ed:s<T.length:=by omega
  have:=vg hb.1 s ed;unfold fC at this ⊢;rw[e,e1,e2,e3,e4,Nat.zero_add]at this;rw[Cn];simp only[Option.getD_none];have Vx:mm.testBit (s+1)=((q - bo) / 2 / 100000).testBit (s+1):=by
   rw[<-hm,Nat.testBit_or,wW (al9 hv),Bool.or_false]
  have aiL:mm.testBit 0=((q - bo) / 2 / 100000).testBit 0:=by
   rw[<-hm,Nat.testBit_or,wX,Bool.or_false]
  rw[Vx,aiL,show ((1:Nat)==0)=false from rfl,cond_false]at this;rw[show ((1:Nat)==0)=false from rfl,cond_false];exact this
theorem oY[af]{α:Type}{T T':List V}{ov:List (Nat×V)}(hl:T'.length=T.length)(gd:∀s,s∈ov.map (·.1)->s<T.length)(hT:∀s,T'.getD s .dead=(eK ov s).getD (T.getD s .dead))(m:M α):
  ∀{a:α} {log:List Nat},(m.eU ov).ai T a log->∃aF,m.ai T' a aF:=by
 induction m with
 | ret _=>intro a log h;exact⟨[],h.1,rfl⟩
 | fail=>intro a log h;exact h.elim
 | get s k ih =>
  intro a log h;simp only[M.eU]at h;have hs:=hT s;split at h
  ·rename_i v hv;rw[hv]at hs;obtain⟨aF,h⟩:=ih v h;exact⟨s::aF,aF,rfl,by rw[hs];exact h⟩
  ·rename_i hv;rw[hv]at hs;obtain⟨l1,rfl,h⟩:=h;obtain⟨aF,h⟩:=ih _ h;exact⟨s::aF,aF,rfl,by rw[hs];exact h⟩
 | cJ _ _ k ih =>
  intro a log h;obtain⟨x,hx,h⟩:=h;obtain⟨aF,h⟩:=ih x h;exact⟨aF,x,hx,h⟩
 | bm _ k ih =>
  intro a log h;obtain⟨hb,h⟩:=h;obtain⟨aF,h⟩:=ih h;exact⟨aF,hb,h⟩
 | ite _ x y ihx ihy =>
  intro a log h;rcases h with⟨hb,h⟩|⟨hb,h⟩
  ·obtain⟨aF,h⟩:=ihx h;exact⟨aF,.inl ⟨hb,h⟩⟩
  ·obtain⟨aF,h⟩:=ihy h;exact⟨aF,.inr ⟨hb,h⟩⟩
 | ask q k ih =>
  intro a log h;simp only[M.eU]at h;cases hq:((q - bo) % 2==0)with
  | true =>
   rw[hq]at h;simp only[cond_true]at h;simp only[beq_iff_eq]at hq;split at h
   ·rename_i v hv;obtain⟨hb,h⟩:=h;simp only[Bool.and_eq_true,decide_eq_true_eq]at hb;obtain⟨aF,h⟩:=ih h;exact⟨q::aF,⟨YM (ov:=ov) hl hq (by rw[hT,hv];exact hb.1) (gd _ (List.mem_map_of_mem (f:=(·.1)) (XZ hv))),hb.2⟩,aF,rfl,h⟩
   ·rename_i hv;obtain⟨⟨hb,hk⟩,l1,rfl,h⟩:=h;obtain⟨aF,h⟩:=ih h;unfold ep at hb;rw[Bool.and_eq_true,hq]at hb;have ax:(q - bo) / 2<T.length:=by simpa using hb.2
    have:=vg hb.1 _ ax;unfold fC at this;rw[hq,Nat.zero_add]at this;exact⟨q::aF,⟨YM (ov:=ov) hl hq (by rw[hT,hv];simpa using this) ax,hk⟩,aF,rfl,h⟩
  | false =>
   rw[hq]at h;obtain⟨wu,⟨hb,hk⟩,l1,rfl,h⟩:=h;simp only[Bool.and_eq_true,decide_eq_true_eq,List.all_eq_true]at wu;obtain⟨aF,h⟩:=ih h;have Cn:=amv hq;exact⟨q::aF,⟨amC hl hT Cn wu.1 hb,wu.2⟩,aF,rfl,h⟩
def TY(N:Nat)(kids:List Nat)(s r:Nat)(p:List St)(t':Ty)(u:V)(m:M (List (Nat×V))):M (List (Nat×V)):=
 (dG p u).bind λz=>match z with
  | (none,⟨n,t,x⟩) =>
   if n≠0/\t.depth≠0/\s<N/\r<N/\s≠r/\t=t' then
    match p with
    | []=>iB true r s kids ((m.eU [(r,.dead),(s,.d none n t x)]).bind λups=>.ret ((r,.dead)::(s,.d none n t x)::ups))
    | _::_=>match t,x with
     | .slice e te,x=>(fY p u (.slice e te) []).bind λu'=>iB false r s kids ((m.eU [(r,.hole u' p),(s,.d none n (.slice e te) x)]).bind λups=>.ret ((r,.hole u' p)::(s,.d none n (.slice e te) x)::ups))
     | _,_=>m
   else m
  | _=>m
def mI(N:Nat)(kids:Nat->List Nat):List Nat->M (List (Nat×V))->M (List (Nat×V))
 | [],m=>m
 | s::l,m=>.get s λv=>match v with
  | .view r p t=>.get r λu=>match u with
   | .d _ _ _ _=>match p with
    | []=>tQ N [s] (mI N kids l m)
    | _::_=>mI N kids l m
   | .box _ _ _ _=>TY N (kids r) s r p t u (mI N kids l m)
   | _=>mI N kids l m
  | _=>mI N kids l m
section
variable{P:Program}{C:Ctx}{w w' w0:World}{S S':Nat->Prop}{L L' L0:Nat->aj}{s N:Nat}{vs:List Nat}{T T':List V}{tm tm':Array Value}{a:Act}
theorem ZO[af]{r s:Nat}{v1 v2:V}(iN:s≠r)(hr:r<T.length)(hs:s<T.length):(∀z,((T.set r v1).set s v2).getD z .dead=(eK [(r,v1),(s,v2)] z).getD (T.getD z .dead))/\∀z,z∈[(r,v1),(s,v2)].map (·.1)->z<T.length:=by
 refine⟨λz=>?_,λz hz=>?_⟩
 ·simp only[eK];rw[aH,aH];by_cases h1:z=r
  ·subst h1;simp[iN.symm,hr]
  ·have e1:(r==z)=false:=by simpa using Ne.symm h1
   by_cases h2:z=s
   ·subst h2;rw[e1];simp[hs]
   ·have e2:(s==z)=false:=by simpa using Ne.symm h2
    rw[e1,e2];simp[h1,h2]
 ·simp only[List.map_cons,List.map_nil,List.mem_cons,List.not_mem_nil,or_false]at hz;rcases hz with rfl|rfl
  ·exact hr
  ·exact hs
theorem ahQ[af]{m:M (List (Nat×V))}{kids:List Nat}{r:Nat}{p:List St}{t':Ty}{u:V}{ups:List (Nat×V)}{log:List Nat}(hI:Inv w0 L0 N vs T a w L)(hs:T.getD s .dead = .view r p t')(hr:T.getD r .dead=u)(vL:∃l n t x,u = .box l n t x)
  (h0:(TY N kids s r p t' u m).ai T ups log):∃T1 L1 bH log2,Inv w0 L0 N vs T1 a w L1/\m.ai T1 bH log2/\ah T ups=ah T1 bH:=by
 obtain⟨z,l1,l2,rfl,hz,h⟩:=M.an h0;obtain⟨l,n,t,x⟩:=z;have fJ:∀{log},m.ai T ups log->∃T1 L1 bH log2,Inv w0 L0 N vs T1 a w L1/\m.ai T1 bH log2/\ah T ups=ah T1 bH:=λh=>⟨T,L,ups,_,hI,h,rfl⟩;have hu:u.fx=true:=by obtain⟨l0,n0,t0,x0,rfl⟩:=vL;rfl
 cases l with
 | some _=>exact fJ h
 | none =>
  dsimp only at h;split at h
  ·rename_i hc;obtain⟨hn,hd,b9,dr,bt,rfl⟩:=hc;have hTl:T.length=N:=hI.len;cases p with
   | nil =>
    obtain⟨cN,log2,h⟩:=jQ h;obtain⟨bH,l3,l4,rfl,h1,h2⟩:=M.an h;obtain⟨rfl,_⟩:=h2;obtain⟨nE,gd⟩:=ZO (T:=T) (v1:=.dead) (v2:=.d none n t x) bt (by omega) (by omega);obtain⟨fK,h1⟩:=oY (T':=(T.set r .dead).set s (.d none n t x)) (by simp) gd nE m h1;have Jy:(qO [] (T.getD r .dead)).ai T (none,⟨n,t,x⟩) l1:=by
     rw[hr];obtain⟨l0,n0,t0,x0,rfl⟩:=vL;exact hz
    have cA:nT r s T=true:=by
     unfold nT;rw[List.all_eq_true];intro b hb;obtain⟨i,hi⟩:=List.mem_iff_getElem?.1 hb;simp only[List.getElem?_mapIdx,Option.map_eq_some_iff]at hi;obtain⟨v,hv,rfl⟩:=hi;have kW:T.getD i .dead=v:=by simp[List.getD_eq_getElem?_getD,hv]
     simp only[id_eq,Bool.or_eq_true,beq_iff_eq,bne_iff_ne];by_cases oP:i=s
     ·exact .inl oP
     ·right;have:=cN i oP;rw[kW]at this;simpa[V.on]using this
    obtain⟨L',iG⟩:=Inv.take hI hs b9 Jy hn hd cA;exact⟨_,L',bH,fK,iG,h1,rfl⟩
   | cons st p =>
    dsimp only at h;split at h
    ·rename_i e te x;obtain⟨u',l3,l4,rfl,hm,h⟩:=M.an h;obtain⟨cN,log2,h⟩:=jQ h;obtain⟨bH,l5,l6,rfl,h1,h2⟩:=M.an h;obtain⟨rfl,_⟩:=h2;obtain⟨nE,gd⟩:=ZO (T:=T) (v1:=.hole u' (st::p)) (v2:=.d none n (.slice e te) x) bt (by omega) (by omega);obtain⟨fK,h1⟩:=oY (T':=(T.set r (.hole u' (st::p))).set s (.d none n (.slice e te) x)) (by simp) gd nE m h1;obtain⟨L',iG⟩:=Inv.aol hI hs hr hu b9 dr hz hm hn cN;exact⟨_,L',bH,fK,iG,h1,rfl⟩
    ·exact fJ h
  ·exact fJ h
theorem oa[af]{w:World}{a:Act}{m:M (List (Nat×V))}{kids:Nat->List Nat}:{ss:List Nat}->{T:List V}->{L:Nat->aj}->{ups:List (Nat×V)}->{log:List Nat}->Inv w0 L0 N vs T a w L->(mI N kids ss m).ai T ups log ->
  ∃T1 L1 bH log2,Inv w0 L0 N vs T1 a w L1/\m.ai T1 bH log2/\ah T ups=ah T1 bH
 | [],T,L,ups,log,hI,h=>⟨T,L,ups,log,hI,h,rfl⟩
 | s::l,T,L,ups,log,hI,h=>by
  obtain⟨eS,rfl,h⟩:=h;dsimp only at h;generalize bc:T.getD s .dead=v at h;split at h
  ·rename_i r p t';obtain⟨log2,rfl,h⟩:=h;dsimp only at h;generalize wI:T.getD r .dead=u at h;split at h
   ·split at h
    ·obtain⟨T1,L1,bH,fK,k1,k2,k3⟩:=xB hI h;obtain⟨T2,L2,jF,jz,j1,j2,j3⟩:=oa k1 k2;exact⟨T2,L2,jF,jz,j1,j2,k3.trans j3⟩
    ·exact oa hI h
   ·obtain⟨T1,L1,bH,fK,k1,k2,k3⟩:=ahQ hI bc wI ⟨_,_,_,_,rfl⟩ h;obtain⟨T2,L2,jF,jz,j1,j2,j3⟩:=oa k1 k2;exact⟨T2,L2,jF,jz,j1,j2,k3.trans j3⟩
   ·exact oa hI h
  ·exact oa hI h
end
def Ds(C:Ctx)(vs:List Nat)(N:Nat)(kids:List Nat)(X:TypeId)(r:Nat)(u:V)(x:Operand)(m:M (List (Nat×V))):M (List (Nat×V)):=
 match u with
 | .box _ _ t0 _=>(cI C X x).bind λv=>match v with
  | .d l 0 t y=>if t=t0/\C.ty X=some t/\t.depth≠0/\r<N/\l≠some r then
    iB false r r kids (.bm (fB vs (.box l 0 t y)) (.ret [(r,.box l 0 t y)]))
   else m
  | _=>m
 | _=>m
def pd(r:Nat):Nat->List Nat->aj:=λz q=>if z=r then (match q with|[]=>.own r []|_::_=>.other)else .own z q
section
variable{P:Program}{C:Ctx}{w w' w0:World}{S S':Nat->Prop}{L L' L0:Nat->aj}{s N:Nat}{vs:List Nat}{T T':List V}{tm tm':Array Value}{a:Act}
theorem Dr{r z z':Nat}{q q':List Nat}(h:pd r z q = .own z' q'):z'=z/\q'=q/\(z=r->q=[]):=by
 unfold pd at h;split at h
 ·rename_i hz;split at h
  ·injection h with h1 h2;exact⟨by rw[<-h1,hz],h2.symm,λ_=>rfl⟩
  ·cases h
 ·rename_i hz;injection h with h1 h2;exact⟨h1.symm,h2.symm,λe=>absurd e hz⟩
theorem Z0[af]{r:Nat}{X:Nat->Prop}(hr:X r):fF (pd r) X:=by
 refine⟨λz q hX=>?_,λz q z' q' hX h=>?_,λz q z2 q2 z' q' h1 h2=>?_,λz q=>?_⟩
 ·unfold pd;rw[if_neg (λe:z=r=>hX (e▸hr))]
 ·obtain⟨rfl,_⟩:=Dr h;exact hX
 ·obtain⟨rfl,rfl,_⟩:=Dr h1;obtain⟨h3,h4,_⟩:=Dr h2;exact⟨h3,h4⟩
 ·unfold pd
  repeat' split
  all_goals simp
theorem aoc[af](hI:Inv w0 L0 N vs T a w L)(hC:bD P C){o:Oper}{X:TypeId}{t r:Nat}{kids:List Nat}{u:V}{x:Operand}{m:M (List (Nat×V))}{ups:List (Nat×V)}{log:List Nat}(ho:o.op = .store X (.tmp t) x)(ay:o.dst=none)
  (ht:addrOf t (T.getD t .dead)=some (r,[])) (cV:∀r p,addrOf t (T.getD t .dead)=some (r,p)->∃g,a.eval (.tmp t) = .pointer (some ⟨g,(node [] 0 p).2,none⟩)/\L g = .own r (node [] 0 p).1)
  (hr:T.getD r .dead=u) (hm:∀{log:List Nat},m.ai T ups log->Step P o w0 L0 N vs (ah T ups) a w) (h:(Ds C vs N kids X r u x m).ai T ups log):Step P o w0 L0 N vs (ah T ups) a w:=by
 unfold Ds at h;split at h
 ·rename_i l0 n0 t0 x0;obtain⟨v,l1,l2,rfl,hx,h2⟩:=M.an h;split at h2
  ·rename_i l tt y;split at h2
   ·rename_i hc;obtain⟨rfl,hX,hd,dr,wb⟩:=hc;obtain⟨cN,log2,h3⟩:=jQ h2;obtain⟨az,rfl,_⟩:=h3;obtain⟨g,pW,hg⟩:=cV r [] ht;have bb:=hI.aV r;rw[hr]at bb;obtain⟨_,g2,cur,e,k1,k2,k3,k4,k5⟩:=bb;obtain rfl:=hI.inj g g2 r _ hg k2;have ef:∃s0,(∀r',l=some r'->(T.getD r' .dead).deep=true)/\∃cs,Form tt cs (a.eval x)/\Own w L (SL L l) s0 0 tt y [] 0 cs:=by
     rcases kB hI hx with⟨s,_,_,h⟩|⟨_,h⟩
     ·exact⟨s,h⟩
     ·exact⟨0,h L T a.tmps 0 w⟩
    obtain⟨s0,sN,cs,hf,bP⟩:=ef;have dZ:=Own.one bP;have hlen:=Own.len bP;have ai1:a.eval (.tmp t) = .pointer (some ⟨g,0,none⟩):=pW;have aN:(execOp a.eval o).run P w = .ok .skip (w.setRow g (putCells cur 0 cs)):=by
     have a7:=tA (P:=P) (w:=w) (o:=0) (hC X _ hX) k3 hf dZ hlen (by omega);simp[execOp,ho,ai1,a7]
    have gk:(putCells cur 0 cs).toList=cs:=by
     simp[putCells,hlen,k4]
    intro K Q hK;unfold Oper.wp;rw[aN,Oper.upon_skip,ay];have bE:(ah T [(r,V.box l 0 tt y)]).getD r .dead = .box l 0 tt y:=by
     show (T.set r _).getD r .dead=_;rw[aH,if_pos ⟨rfl,by rw[hI.len];exact dr⟩]
    have bq:∀z,z≠r->(ah T [(r,V.box l 0 tt y)]).getD z .dead=T.getD z .dead:=by
     intro z hz;show (T.set r _).getD z .dead=_;rw[aH,if_neg (λh=>hz h.1)]
    have nH:∀z,z≠r->(T.getD z .dead).on r=true->∃p' t',T.getD z .dead = .ptr r p' t'/\shallow p'=true:=by
     intro z im ag;have hb:(T.getD z .dead).eE r=false:=cN z im;unfold V.eE at hb;rw[ag,Bool.true_and]at hb;generalize T.getD z .dead=v at hb ag;cases v with
     | ptr r2 p2 t2 =>
      have:r2=r:=by simpa[V.on,V.root]using ag
      subst this;exact⟨p2,t2,rfl,by simpa using hb⟩
     | _=>simp at hb
    have sM:∀r',l=some r'->r'≠r/\(T.getD r' .dead).on r=false:=by
     intro r' dR;have bn:r'≠r:=λe=>wb (by rw[dR,e]);refine⟨bn,?_⟩;cases ag:(T.getD r' .dead).on r with
     | false=>rfl
     | true =>
      obtain⟨p',t',he,_⟩:=nH r' bn ag;have:=sN r' dR;rw[he]at this;simp[V.deep]at this
    have Je:∀k,k≠g->(w.setRow g (putCells cur 0 cs)).heap[k]?=w.heap[k]?:=λk hk=>setRow_other w g k _ hk;refine hK a _ _ (Inv.gP (f:=pd r) (X:=λz=>z=r\/(T.getD z .dead).on r=true) (nl:=λ_=>.free) hI (Z0 (.inl rfl)) ?_ (λ_ _ _ _ _ h=>by cases h) hI.size (by rw[cF,hI.len]) hI.dP ?_ ?_ ?_ ?_ ?_)
    ·refine⟨rfl,rfl,rfl,by simp[World.setRow],Nat.le_refl _,λk hk hx=>Je k ?_,λ_ _=>rfl,λ_ _ _ _ h=>by cases h⟩
     rintro rfl
     exact hx r _ hg (.inl rfl)
    ·intro k z q hz hk;by_cases dL:z=r
     ·subst dL;rw[bE];rfl
     ·rw[bq z dL];unfold aS at hk;split at hk
      ·obtain⟨s0,q0,e0,f0⟩:=eV hk;obtain⟨rfl,rfl,_⟩:=Dr f0;exact hI.owner k _ _ e0
      ·cases hk
    ·intro z r' hz ag aW;have hz:=not_or.1 hz;rcases aW with rfl|aW
     ·exact absurd ag hz.2
     ·by_cases h2:r'=r
      ·subst h2;exact absurd ag hz.2
      ·obtain⟨p',t',he,_⟩:=nH r' h2 aW;rw[he];rfl
    ·intro z hz;have hz:=not_or.1 hz;exact⟨bq z hz.1,rfl⟩
    ·intro z r' hz ag;by_cases h1:z=r
     ·subst h1;rw[bE]at ag;exact qx az r' ag
     ·rw[bq z h1]at ag;exact hI.roots z r' ag
    ·intro z hz;by_cases h1:z=r
     ·subst h1;rw[bE];refine⟨λr' aW=>?_,g,putCells cur 0 cs,e,k1,?_,setRow_heap w g cur _ e _ k3,by rw[C6 (by omega)];exact k4,?_⟩
      ·rw[bq r' (sM r' aW).1];exact sN r' aW
      ·rw[cX hI (by rw[hg];simp),hg];simp[eN,pd,node]
      ·rw[gk];refine Own.dN (Rd.move (λk hk=>?_) (Own.eM bP));rcases hk with hk|⟨r',q,dR,hk⟩
       ·exact⟨.inl (ez hI hk),Je k (by rintro rfl;rw[hg]at hk;cases hk)⟩
       ·obtain⟨h1,h2⟩:=sM r' dR;refine⟨.inr ⟨r',q,dR,w7 hI (Z0 (X:=λz'=>z'=z\/(T.getD z' .dead).on z=true) (.inl rfl)) hk (not_or.2 ⟨h1,by rw[h2];simp⟩)⟩,Je k ?_⟩
        rintro rfl
        rw[hg]at hk;injection hk with hk _;exact h1 hk.symm
     ·rw[bq z h1];have ag:(T.getD z .dead).on r=true:=hz.resolve_left h1;obtain⟨p',t',he,ey⟩:=nH z h1 ag;have bp:=hI.aV z;rw[he]at bp ⊢;obtain⟨g3,j1,j2⟩:=bp;refine⟨g3,j1,?_⟩;rw[qF ey]at j2 ⊢;rw[cX hI (by rw[j2];simp),j2];simp[eN,pd]
   ·exact hm h2
  ·exact hm h2
 ·exact hm h
end
def HR(C:Ctx)(vs:List Nat)(X:TypeId)(d:Nat)(x:Operand)(m:M (List (Nat×V))):M (List (Nat×V)):=
 match x with
 | .tmp s=>.get s λv=>match v with
  | .d none k t y=>if k≠0/\t.depth≠0 then
    (if C.ty X=some t/\s≠d/\s<100000/\vs.contains d=true then iB true s d [] (.ret [(d,.box none k t y),(s,.view d [] t)])else .fail)
   else m
  | _=>m
 | _=>m
section
variable{P:Program}{C:Ctx}{w w' w0:World}{S S':Nat->Prop}{L L' L0:Nat->aj}{s N:Nat}{vs:List Nat}{T T':List V}{tm tm':Array Value}{a:Act}
theorem anP[af](hI:Inv w0 L0 N vs T a w L)(hC:bD P C){o:Oper}{X:TypeId}{x:Operand}{d:Nat}{m:M (List (Nat×V))}{ups:List (Nat×V)}{log:List Nat}(ho:o.op = .box X x)(ay:o.dst=some d)(hd:d<N)(hid:(T.getD d .dead).idle=true)
  (h:(HR C vs X d x m).ai T ups log) (hm:∀log,m.ai T ups log->Step P o w0 L0 N vs (ah T ups) a w):Step P o w0 L0 N vs (ah T ups) a w:=by
 unfold HR at h;split at h
 ·rename_i s;obtain⟨aF,rfl,h⟩:=h;generalize hv:T.getD s .dead=v at h;dsimp only at h;split at h
  ·rename_i k t y;split at h
   ·rename_i wa;obtain⟨hk0,oL⟩:=wa;split at h
    ·rename_i hc;obtain⟨hX,bL,hs5,sI⟩:=hc;obtain⟨cN,log2,h⟩:=jQ h;obtain⟨rfl,_⟩:=h;clear hm;have cN:∀z,z≠d->(T.getD z .dead).on s=false:=λz hz=>by simpa using cN z hz
     have iO:=hI.aV s;rw[hv]at iO;obtain⟨_,cs,hf,bP⟩:=iO;have de:=Form.cells hf (Own.one bP);have b9:s<N:=by
      rcases Nat.lt_or_ge s N with h|h
      ·exact h
      ·rw[eF (by rw[hI.len];exact h)]at hv;cases hv
     have aN:(execOp a.eval o).run P w = .ok (.value (.pointer (some ⟨w.heap.size,0,none⟩))) (w.alloc (.cells (a.tmps.getD s undef).cells X)):=by
      have ai2:a.tmps.getD s undef=a.eval (.tmp s):=rfl;rw[ai2];simp[execOp,ho,Instr.box,newVar,newRow,newObj,Sem.run]
     have bI:(ah T [(d,V.box none k t y),(s,V.view d [] t)]).getD s .dead = .view d [] t:=by
      show ((T.set d _).set s _).getD s .dead=_;rw[aH,if_pos ⟨rfl,by simp[hI.len,b9]⟩]
     have bT:(ah T [(d,V.box none k t y),(s,V.view d [] t)]).getD d .dead = .box none k t y:=by
      show ((T.set d _).set s _).getD d .dead=_;rw[aH,if_neg (λh=>bL h.1.symm),aH,if_pos ⟨rfl,by rw[hI.len];exact hd⟩]
     have bq:∀z,z≠d->z≠s->(ah T [(d,V.box none k t y),(s,V.view d [] t)]).getD z .dead=T.getD z .dead:=by
      intro z h1 h2;show ((T.set d _).set s _).getD z .dead=_;rw[aH,if_neg (λh=>h2 h.1),aH,if_neg (λh=>h1 h.1)]
     have gk:∀c z,z≠d->(a.put (some d) c).tmps.getD z undef=a.tmps.getD z undef:=λc z h=>kD (by simpa using Ne.symm h);have wA:∀c,(a.put (some d) c).tmps.getD d undef=c:=λc=>by
      show (a.tmps.setIfInBounds d c).getD d undef=c;rw[dY,if_pos ⟨rfl,by rw[hI.size];exact hd⟩]
     refine Step.value (L':=aS (iq s [] 0 t.sz k d) w L (λg=>if g=w.heap.size then .own d []else .free)) ay aN ?_
     have VU:aS (iq s [] 0 t.sz k d) w L (λg=>if g=w.heap.size then .own d []else .free) w.heap.size = .own d []:=by
      unfold aS;rw[if_neg (Nat.lt_irrefl _)];exact if_pos rfl
     have bp:(w.alloc (.cells (a.tmps.getD s undef).cells X)).heap.size=w.heap.size+1:=by simp
     have JA:Wd w (w.alloc (.cells (a.tmps.getD s undef).cells X)) L (λg=>if g=w.heap.size then .own d []else .free) (λz=>z=s\/z=d):=by
      refine⟨rfl,rfl,rfl,by omega,Nat.le_refl _,λk' aI _=>Go.RowKit.Below.heap_alloc w _ k' aI,λk' aI=>?_,λk' z q aI h=>?_⟩
      ·exact if_neg (by omega)
      ·change (if k'=w.heap.size then aj.own d []else aj.free)=_ at h
       split at h
       ·injection h with h _;exact .inr h.symm
       ·cases h
     have ajK:Own (w.alloc (.cells (a.tmps.getD s undef).cells X)) (aS (iq s [] 0 t.sz k d) w L (λg=>if g=w.heap.size then .own d []else .free)) (SL (aS (iq s [] 0 t.sz k d) w L (λg=>if g=w.heap.size then .own d []else .free)) none) d k t y [] 0 cs:=by
      refine Own.move (λk' aI=>⟨aI,Go.RowKit.Below.heap_alloc w _ k' ?_⟩) (λk' dd rest _ aI=>⟨aI,Go.RowKit.Below.heap_alloc w _ k' ?_⟩) (Own.taken (Nat.le_refl _) hI (λk' aI=>by
       rcases aI with aI|⟨_,_,aI,_⟩
       ·exact aI
       ·cases aI) bP)
      ·rcases aI with aI|⟨_,_,aI,_⟩
       ·unfold aS at aI;split at aI
        ·assumption
        ·change (if k'=w.heap.size then aj.own d []else aj.free)=_ at aI
         split at aI<;>cases aI
       ·cases aI
      ·unfold aS at aI;split at aI
       ·assumption
       ·change (if k'=w.heap.size then aj.own d []else aj.free)=_ at aI
        split at aI
        ·injection aI with _ aI;cases aI
        ·cases aI
     have oJ:(a.tmps.getD s undef).cells.size=t.sz:=by rw[<-Array.length_toList,de,Own.len bP]
     refine Inv.gP (X:=λz=>z=s\/z=d) hI (Yt bL) JA ?_ (by simp[Act.put,hI.size]) (by rw[cF,hI.len]) hI.dP ?_ ?_ ?_ ?_ ?_
     ·intro g g' z q hg h h';change (if g=w.heap.size then aj.own d []else aj.free)=_ at h
      split at h
      ·rename_i hgg;injection h with h1 h2;subst h1 h2;unfold aS at h';split at h'
       ·obtain⟨s0,q0,e0,f0⟩:=eV h';rcases qu f0 with⟨_,i,rest,_,_,h3⟩|⟨h1,_,h2,_⟩
        ·cases h3
        ·exact absurd h2.symm h1
       ·change (if g'=w.heap.size then aj.own d []else aj.free)=_ at h'
        split at h'
        ·rename_i I3;rw[hgg,I3]
        ·cases h'
      ·cases h
     ·intro g z q hz h;rcases hz with rfl|rfl
      ·exfalso;unfold aS at h;split at h
       ·obtain⟨s0,q0,e0,f0⟩:=eV h;rcases qu f0 with⟨_,_,_,_,h1,_⟩|⟨_,h1,h2,_⟩
        ·exact bL h1
        ·exact h1 h2.symm
       ·change (if g=w.heap.size then aj.own d []else aj.free)=_ at h
        split at h
        ·injection h with h _;exact bL h.symm
        ·cases h
      ·rw[bT];rfl
     ·intro z r' hz ag aW;have hz:=not_or.1 hz;rcases aW with rfl|rfl
      ·rw[cN z hz.2]at ag;cases ag
      ·exact V.kA hid
     ·intro z hz;have hz:=not_or.1 hz;exact⟨bq z hz.2 hz.1,gk _ z hz.2⟩
     ·intro z r' hz ag;rcases hz with rfl|rfl
      ·rw[bI]at ag;have:d=r':=by simpa[V.on,V.root]using ag
       subst this;simpa using sI
      ·rw[bT]at ag;simp[V.on,V.root]at ag
     ·intro z hz;rcases hz with rfl|rfl
      ·rw[bI,gk _ _ bL];refine⟨by rw[bT];simp only[V.deep,Bool.and_eq_true,bne_iff_ne];exact⟨hk0,oL⟩,.inr ⟨w.heap.size,_,X,.inl (by rw[bT];rfl),VU,oM _ _,by simp only[node];omega,?_⟩⟩;rw[de];simp only[node,List.drop_zero];rw[List.take_of_length_le (by rw[Own.len bP];exact Nat.le_refl _)];exact hf
      ·rw[bT,wA];refine⟨by simp,w.heap.size,_,X,rfl,VU,oM _ _,oJ,?_⟩;rw[de];exact ajK
    ·exact h.elim
   ·exact hm _ h
  ·exact hm _ h
 ·exact hm _ h
end
def qm(u:V):V->Bool
 | .ptr _ p _=>shallow p && !u.dE
 | .view _ p _=>(shallow p && !u.dE)||(match p with|[]=>u.dE|_=>false)
 | _=>false
def kI(r:Nat)(q:List Nat)(o sz i:Nat)(ls:List Nat):aj->aj
 | .own s z=>if s=r then (match cut q z with
   | some (y::rest)=>if o<=y/\y<o+sz then .own i ((y - o)::rest)else .other
   | _=>.other)
  else if ls.contains s then .aq else .other
 | x=>x
def vD(r:Nat)(q:List Nat)(o sz i:Nat):aj->aj
 | .own j (y::rest)=>if j=i/\y<sz then .own r (q++(o+y)::rest)else .other
 | .own _ []=>.other
 | x=>x
def pE(r:Nat)(q:List Nat)(o sz i:Nat)(L L':Nat->aj):Nat->aj:=λk=>match L k with
 | .free=>vD r q o sz i (L' k)
 | .own s z=>if s=r/\Dp q o sz z=true then vD r q o sz i (L' k)else .own s z
 | x=>x
def jK(r:Nat)(q:List Nat)(o sz:Nat)(l:aj):Prop:=l = .free\/∃z,l = .own r z/\kQ q o sz z
section
variable{P:Program}{C:Ctx}{w w' w0:World}{S S':Nat->Prop}{L L' L0:Nat->aj}{s N:Nat}{vs:List Nat}{T T':List V}{tm tm':Array Value}{a:Act}
theorem BT{r:Nat}{q:List Nat}{o sz i:Nat}{l:aj}{s:Nat}{z:List Nat}(h:vD r q o sz i l = .own s z):∃y rest,l = .own i (y::rest)/\y<sz/\s=r/\z=q++(o+y)::rest:=by
 cases l with
 | own j z' =>
  cases z' with
  | nil=>cases h
  | cons y rest =>
   unfold vD at h;dsimp only at h;split at h
   ·rename_i hc;obtain⟨rfl,hy⟩:=hc;injection h with h1 h2;exact⟨y,rest,rfl,hy,h1.symm,h2.symm⟩
   ·cases h
 | aq=>cases h
 | other=>cases h
 | free=>cases h
theorem r8[af]{r:Nat}{q:List Nat}{o sz i k:Nat}(h:jK r q o sz (L k)):pE r q o sz i L L' k=vD r q o sz i (L' k):=by
 unfold pE;rcases h with h|⟨z,h,hu⟩
 ·rw[h]
 ·rw[h];dsimp only;rw[if_pos ⟨rfl,qN.2 hu⟩]
theorem vl[af]{r:Nat}{q:List Nat}{o sz i k:Nat}(h:¬jK r q o sz (L k)):pE r q o sz i L L' k=L k:=by
 unfold pE;cases hl:L k with
 | own s z =>
  dsimp only;rw[if_neg]
  rintro⟨rfl,hu⟩
  exact h (.inr ⟨z,hl,qN.1 hu⟩)
 | aq=>rfl
 | other=>rfl
 | free=>exact absurd (.inl hl) h
theorem Lb[af]{r:Nat}{q:List Nat}{o sz i:Nat}{ls:List Nat}{l:aj}(h:¬jK r q o sz l):kI r q o sz i ls l = .aq\/kI r q o sz i ls l = .other:=by
 cases l with
 | own s z =>
  unfold kI;dsimp only;split
  ·rename_i hs;subst hs;split
   ·rename_i y rest hc;rw[if_neg]
    ·exact .inr rfl
    ·rintro⟨h1,h2⟩
     refine h (.inr ⟨z,rfl,y - o,rest,by omega,?_⟩);rw[ow hc];congr 2;omega
   ·exact .inr rfl
  ·split<;>simp
 | aq=>exact .inl rfl
 | other=>exact .inr rfl
 | free=>exact absurd (.inl rfl) h
theorem Lc[af]{r:Nat}{q:List Nat}{o sz i:Nat}{ls:List Nat}{l:aj}{j:Nat}{z:List Nat}(h:kI r q o sz i ls l = .own j z):∃y rest,j=i/\z=y::rest/\l = .own r (q++(o+y)::rest):=by
 cases l with
 | own s z' =>
  unfold kI at h;dsimp only at h;split at h
  ·rename_i hs;subst hs;split at h
   ·rename_i y rest hc;split at h
    ·rename_i hb;injection h with h1 h2;refine⟨y - o,rest,h1.symm,h2.symm,?_⟩;rw[ow hc];congr 3;omega
    ·cases h
   ·cases h
  ·split at h<;>cases h
 | aq=>cases h
 | other=>cases h
 | free=>cases h
theorem aov[af]{r:Nat}{q:List Nat}{o sz i:Nat}{ls:List Nat}{y:Nat}{rest:List Nat}(h:y<sz):kI r q o sz i ls (.own r (q++(o+y)::rest)) = .own i (y::rest):=by
 unfold kI;dsimp only;rw[if_pos rfl,nh];dsimp only;rw[if_pos ⟨by omega,by omega⟩,show o+y - o=y by omega]
theorem atQ{q:List Nat}{o sz:Nat}:¬kQ q o sz []:=by
 rintro⟨d,rest,_,h⟩
 have:=congrArg List.length h;simp at this
theorem atS{q:List Nat}{o sz:Nat}:¬kQ q o sz q:=by
 rintro⟨d,rest,_,h⟩
 have:=congrArg List.length h;simp at this
theorem Inv.ahR[af](hI:Inv w0 L0 N vs T a w L){d:Nat}(hd:d<N)(hid:(T.getD d .dead).idle=true){r i:Nat}{p:List St}{ls:List Nat}{ps:List (Ty×Mode)}{rs:List (Ty×Nat)}{u u2:V}{n n':Nat}{t:Ty}{x y:t.den}{log log2:List Nat}{c:Value}
  (hr:T.getD r .dead=u) (hz:(dG p u).ai T (none,⟨n',t,x⟩) log) (hm:(fY p u t y).ai T u2 log2) (hn:t.depth<=n) (wk:t.depth<=n') {g0:Nat} {cur:Array Value} {e:TypeId}
  (hg:L g0 = .own r (node [] 0 p).1) (VK:w.heap[g0]?=some (.cells cur e (0,0)))
  (ba:Left w w' (λk=>kI r (node [] 0 p).1 (node [] 0 p).2 t.sz i ls (L k)) L' ps rs)
  (nG:∀k s q,L' k = .own s q->s=i)
  (wq:Own w' L' (λk=>L' k = .aq) i n t y [] 0 ((cur.toList.drop (node [] 0 p).2).take t.sz)) (kY:T'.length=N) (bE:T'.getD r .dead=u2)
  {V0:V} (bT:T'.getD d .dead=V0) (vH:∀r,V0.on r=false) (vI:∀L2 tm',aB L2 T' tm' d V0 w' c)
  (hT:∀z,z≠d->z≠r->(T.getD z .dead).on r=true->(T'.getD z .dead = .dead/\(T.getD z .dead).aL=false)\/(T'.getD z .dead=T.getD z .dead/\qm u (T.getD z .dead)=true))
  (iH:∀z,z≠d->z≠r->(T.getD z .dead).on r=false->T'.getD z .dead=T.getD z .dead) :
  Inv w0 L0 N vs T' (a.put (some d) c) w' (pE r (node [] 0 p).1 (node [] 0 p).2 t.sz i L L'):=by
 have cn:=Y6 hz;obtain⟨mj,wv,vO,Ci⟩:=Ke hm;have bb:=hI.aV r;rw[hr]at bb;obtain⟨_,_,_,ik,lZ⟩:=lq hz bb;have bC:r≠d:=by
  refine df hid ?_;rw[hr];exact ik
 have cE:∀k q,L k ≠ .own d q:=λk q h=>by
  have:=hI.owner k d q h;rw[V.kA hid]at this;cases this
 have nK:∀k,¬jK r (node [] 0 p).1 (node [] 0 p).2 t.sz (L k)->(pE r (node [] 0 p).1 (node [] 0 p).2 t.sz i L L' k=L k/\w'.heap[k]?=w.heap[k]?):=by
  intro k h;have ax:k<w.heap.size:=hI.lt (λe=>h (.inl e));exact⟨vl h,(ba.aR k ax (Lb h)).2⟩
 have ajk:∀k q,L' k = .own i q->jK r (node [] 0 p).1 (node [] 0 p).2 t.sz (L k):=by
  intro k q hk;apply Classical.byContradiction;intro hp;have ax:k<w.heap.size:=hI.lt (λe=>hp (.inl e));have h9:=(ba.aR k ax (Lb hp)).1;rw[hk]at h9;rcases Lb (i:=i) (ls:=ls) hp with h|h<;>rw[h]at h9<;>cases h9
 have gk:∀s',s'≠d->(a.put (some d) c).tmps.getD s' undef=a.tmps.getD s' undef:=λs' h=>kD (by simpa using Ne.symm h);let X:Nat->Prop:=λz=>z=d\/z=r\/(T.getD z .dead).on r=true;have mc:∀z,¬X z->z≠d/\z≠r/\(T.getD z .dead).on r=false:=by
  intro z hz;have hz:=not_or.1 hz;have ff:=not_or.1 hz.2;exact⟨hz.1,ff.1,by simpa using ff.2⟩
 have ajH:∀k z,¬X z->(L k = .aq\/∃r' q,L k = .own r' q/\(r'=z\/(T.getD z .dead).on r'=true))->¬jK r (node [] 0 p).1 (node [] 0 p).2 t.sz (L k):=by
  intro k z hz hk hp;obtain⟨h1,h2,h3⟩:=mc z hz;rcases hp with hp|⟨z',hp,_⟩
  ·rcases hk with hk|⟨_,_,hk,_⟩<;>rw[hp]at hk<;>cases hk
  ·rcases hk with hk|⟨r',q',hk,gI⟩
   ·rw[hp]at hk;cases hk
   ·rw[hp]at hk;injection hk with hk _;subst hk;rcases gI with rfl|gI
    ·exact h2 rfl
    ·rw[h3]at gI;cases gI
 refine Inv.upd X hI (by simp[Act.put,hI.size]) kY hI.dP ?_ ?_ ?_ ?_ ?_ ?_ ?_ ?_ ?_
 ·refine⟨ba.os.trans hI.fr.os,ba.tape.trans hI.fr.tape,ba.output.trans hI.fr.output,Nat.le_trans hI.fr.size ba.size,Nat.le_trans hI.fr.drawn ba.drawn,λk hk h0=>?_,hI.fr.hG⟩;have h1:=hI.fr.aR k hk h0;have p4:¬jK r (node [] 0 p).1 (node [] 0 p).2 t.sz (L k):=by
   rintro (h|⟨z,h,_⟩)<;>rw[h1.1]at h<;>rcases h0 with h0|h0<;>rw[h0]at h<;>cases h
  have:=nK k p4;exact⟨this.1.trans h1.1,this.2.trans h1.2⟩
 ·intro k hk;have hf:=hI.free k (Nat.le_trans ba.size hk);rw[r8 (.inl hf),ba.free k hk];rfl
 ·intro k k' s q h h';by_cases hp:jK r (node [] 0 p).1 (node [] 0 p).2 t.sz (L k)
  ·rw[r8 hp]at h;obtain⟨y1,rest,e1,e2,rfl,rfl⟩:=BT h;by_cases cB:jK s (node [] 0 p).1 (node [] 0 p).2 t.sz (L k')
   ·rw[r8 cB]at h';obtain⟨y2,KL,e3,e4,_,e5⟩:=BT h';have e6:=List.append_cancel_left e5;injection e6 with e6 e7;have:y1=y2:=by omega
    subst this e7;exact ba.inj k k' _ _ e1 e3
   ·rw[vl cB]at h';exact absurd (.inr ⟨_,h',y1,rest,e2,rfl⟩) cB
  ·rw[vl hp]at h;by_cases cB:jK r (node [] 0 p).1 (node [] 0 p).2 t.sz (L k')
   ·rw[r8 cB]at h';obtain⟨y1,rest,e1,e2,rfl,rfl⟩:=BT h';exact absurd (.inr ⟨_,h,y1,rest,e2,rfl⟩) hp
   ·rw[vl cB]at h';exact hI.inj k k' s q h h'
 ·intro k s q h;by_cases hp:jK r (node [] 0 p).1 (node [] 0 p).2 t.sz (L k)
  ·rw[r8 hp]at h;obtain⟨y1,rest,e1,e2,rfl,rfl⟩:=BT h;rw[bE,wv];exact ik
  ·rw[vl hp]at h;have ho:=hI.owner k s q h;have bL:s≠d:=df hid ho;by_cases bt:s=r
   ·subst bt;rw[bE,wv];exact ik
   ·cases ag:(T.getD s .dead).on r with
    | false=>rw[iH s bL bt ag];exact ho
    | true =>
     rcases hT s bL bt ag with⟨_,h⟩|⟨h,_⟩
     ·rw[h]at ho;cases ho
     ·rw[h];exact ho
 ·intro z hz k hk;exact nK k (ajH k z hz hk)
 ·intro z hz;obtain⟨h1,h2,h3⟩:=mc z hz;exact⟨iH z h1 h2 h3,gk z h1⟩
 ·intro z r' h;by_cases iP:z=d
  ·subst iP;rw[bT,vH]at h;cases h
  ·by_cases dL:z=r
   ·subst dL;rw[bE]at h;simp[V.on,mj,cn]at h
   ·cases ag:(T.getD z .dead).on r with
    | false=>rw[iH z iP dL ag]at h;exact hI.roots z r' h
    | true =>
     rcases hT z iP dL ag with⟨h1,_⟩|⟨h1,_⟩
     ·rw[h1]at h;simp[V.on,V.root]at h
     ·rw[h1]at h;exact hI.roots z r' h
 ·intro z r' hz ag ho;obtain⟨h1,h2,h3⟩:=mc z hz;have oQ:r'≠d:=df hid ho;have gm:r'≠r:=λe=>by rw[e,h3]at ag;cases ag
  refine⟨?_,gk r' oQ⟩;cases Wa:(T.getD r' .dead).on r with
  | false=>exact iH r' oQ gm Wa
  | true =>
   rcases hT r' oQ gm Wa with⟨_,h⟩|⟨h,_⟩
   ·rw[h]at ho;cases ho
   ·exact h
 ·intro z hX;by_cases iP:z=d
  ·subst iP;rw[bT];show aB _ _ _ _ _ _ ((a.tmps.setIfInBounds z c).getD z undef);rw[dY,if_pos ⟨rfl,by rw[hI.size];exact hd⟩];exact vI _ _
  ·by_cases dL:z=r
   ·subst dL;rw[bE,gk z iP];have pX:¬jK z (node [] 0 p).1 (node [] 0 p).2 t.sz (L g0):=by
     rintro (h|⟨z',h,hu⟩)
     ·rw[hg]at h;cases h
     ·rw[hg]at h;injection h with _ h;subst h;exact atS hu
    have pY:=nK g0 pX;refine Kd (T2:=T') (cur:=cur) (e':=e) (g':=g0) (cur':=cur) bb hz hm (λr' aW=>by rw[cn]at aW;cases aW) ?_ ?_
    ·refine⟨λk hk=>?_,λk q2 hk hq Jv=>?_,hg,by rw[pY.1];exact hg,VK,by rw[pY.2];exact VK,rfl,λ_ _=>rfl,λk hk=>hI.inj k g0 z _ hk hg⟩
     ·rw[cn]at hk ⊢;rcases hk with hk|⟨_,_,hk,_⟩
      ·have:=nK k (by rintro (h|⟨_,h,_⟩)<;>rw[hk]at h<;>cases h);exact⟨.inl (by rw[this.1];exact hk),this.2⟩
      ·cases hk
     ·exact nK k (by
       rintro (h|⟨z',h,hu⟩)
       ·rw[hk]at h;cases h
       ·rw[hk]at h;injection h with _ h;subst h;exact Jv hu)
    ·refine Own.cap hn wk (Own.move (S:=λ_=>False) (λk hk=>hk.elim) (λk dd rest iJ hk=>⟨?_,rfl⟩) (Own.full hn wq));rw[Nat.zero_add,List.nil_append]at hk;rw[r8 (ajk k _ hk),hk];show (if i=i/\dd<t.sz then _ else _)=_
     rw[if_pos ⟨rfl,iJ⟩]
   ·have ag:(T.getD z .dead).on r=true:=by
     rcases hX with h|h|h
     ·exact absurd h iP
     ·exact absurd h dL
     ·exact h
    rcases hT z iP dL ag with⟨h,_⟩|⟨h,hk⟩
    ·rw[h];trivial
    ·rw[h,gk z iP];have bp:=hI.aV z;have gi:∀k,L k = .own r []->pE r (node [] 0 p).1 (node [] 0 p).2 t.sz i L L' k=L k/\w'.heap[k]?=w.heap[k]?:=λk hk=>nK k (by
      rintro (h|⟨z',h,hu⟩)
      ·rw[hk]at h;cases h
      ·rw[hk]at h;injection h with _ h;subst h;exact atQ hu)
     generalize hv:T.getD z .dead=v at hk ag bp;cases v with
     | ptr r2 p2 t2 =>
      have:r2=r:=by simpa[V.on,V.root]using ag
      subst this;simp only[qm,Bool.and_eq_true]at hk;obtain⟨g,h1,h2⟩:=bp;refine⟨g,h1,?_⟩;rw[qF hk.1]at h2 ⊢;rw[(gi g h2).1];exact h2
     | view r2 p2 t2 =>
      have:r2=r:=by simpa[V.on,V.root]using ag
      subst this;obtain⟨cD,h1⟩:=bp;refine⟨by rw[bE,vO,<-hr];exact cD,?_⟩;rcases h1 with⟨h1,h2,l,n1,x1,h3,h4⟩|⟨g,cur1,e1,h1,h2,h3,h4,h5⟩
      ·rw[hr]at h3;subst h3;obtain⟨x2,rfl⟩:=Yn hm;exact .inl ⟨h1,by rw[gk r2 bC];exact h2,l,n1,x2,bE,h4⟩
      ·rw[hr]at h1;have ey:shallow p2=true:=by
        simp only[qm,Bool.or_eq_true,Bool.and_eq_true]at hk;rcases hk with hk|hk
        ·exact hk.1
        ·cases p2 with
         | nil=>rfl
         | cons _ _=>cases hk
       refine .inr ⟨g,cur1,e1,by rw[bE,Ci];exact h1,?_⟩;rw[qF ey]at h2 ⊢;have:=gi g h2;exact⟨by rw[this.1];exact h2,by rw[this.2];exact h3,h4,h5⟩
     | _=>simp[qm]at hk
end
end Go.Proofs.YtbhogmdpmkpinaaGreat.P.Am
