/- A part of the proof: Am39,Am40,Am41,Am42,Am43,Am44,Am45,Am46,Am47. No conditions. -/
import Derived.Test.YthfgcmoipebheaaGreatPG4
set_option linter.unusedVariables false
set_option linter.unusedSimpArgs false
namespace Go.Proofs.YthfgcmoipebheaaGreat.P.Am
section
variable{P:Program}{C:Ctx}{w w' w0:World}{S S':Nat->Prop}{L L' L0:Nat->aj}{s N:Nat}{vs:List Nat}{T T':List V}{tm tm':Array Value}{a:Act}
theorem step_append[ae](hI:Inv w0 L0 N vs T a w L)(hC:bA P C){o:Oper}{X X2:TypeId}{sO xO:Operand}{d:Nat}{ups:List (Nat×V)}{log:List Nat}
  (ho:o.op = .call { callee:=.builtin .append,args:=#[sO,xO],argTypes:=#[X,X2] }) (aw:o.dst=some d) (hd:d<N) (hid:(T.getD d .dead).idle=true)
  (h:(GX C vs d X X2 sO xO).ai T ups log):Step P o w0 L0 N vs (ag T ups) a w:=by
 unfold GX at h;split at h
 ·rename_i e t hX;split at h
  ·rename_i e2 t2 gW;obtain⟨b,l1,l2,rfl,h1,h⟩:=M.al h;obtain⟨c,l3,l4,rfl,h2,h⟩:=M.al h;split at h
   ·rename_i agH;obtain⟨bl,hby,hR⟩:=agH;obtain⟨hg,rfl,_⟩:=h;have hg:=of_decide_eq_true hg;obtain⟨hu,he⟩:=(hC X _ hX).bW;obtain⟨IL,lb⟩:=(hC X2 _ gW).bW;obtain⟨i,z,i1,i2,i3,i4,i5⟩:=(hC e t he).info;have dL:∀v∈t.cc,v.oneCell'=true:=Own.one (Own.zero (w:=w) (L:=L) (S:=λ_=>True) (s:=0) (n:=0) (t:=t) (q:=[]) (o:=0));have iJ:=Form.cells i5 dL;have gI:z.cells.size=t.sz:=by rw[<-Array.length_toList,iJ,Ty.jj]
    obtain⟨so,mO,Uc⟩:=afG hI h1 d;obtain⟨news,cO,oc,br⟩:=aly hI h2 IL;have fV:=cO.total;have UF:b.xs.length+c.ys.length<=140737488355328:=Nat.le_trans (Nat.le_mul_of_pos_right _ (by omega)) hg;have r6:b.xs.length+c.ys.length<=maxLen:=by simp only[maxLen];omega
    have U4:(b.s=some so/\so∉vs/\(T.getD so .dead).aJ=true)\/(b.s=none/\so=d):=mO.imp (λh=>⟨h.1,h.2.1,h.2.2.1⟩) id;have bg:∀s,c.s=some s->s≠so:=by
     intro s hs;rcases mO with⟨hb,_⟩|⟨hb,rfl⟩
     ·rintro rfl
      rw[hs,hb]at hR;simp at hR
     ·exact cW hid (oc s hs).2.1
    have fin:∀(kept:Bool) (nl:Nat->aj) (w':World) (g oZ:Nat) (cur':Array Value) (im:List Value),
      (Builtin.append_ #[X,X2] o.type #[a.eval sO,a.eval xO]).run P w = .ok (.slice (some ⟨g,0,none⟩) (b.xs.length+c.ys.length) oZ) w' ->
      Wd w w' L nl (λs=>s=d\/s=so\/c.s=some s)->(∀k s q,w.heap.size<=k->nl k = .own s q->s=d/\q=[0]/\k=w.heap.size/\kept=false) ->
      aS (gg d so c.s kept (b.xs.length*t.sz) (c.ys.length*t.sz) (jq b.n c.n)) w L nl g = .own d [0] ->
      w'.heap[g]?=some (.cells cur' e (0,0))->b.xs.length+c.ys.length<=oZ->oZ<=maxLen->cur'.size=oZ*t.sz ->
      (∀k,L k ≠ .free->L k ≠ .own so [0]->w'.heap[k]?=w.heap[k]?) ->
      (∀i,i<b.xs.length*t.sz->cur'[i]?=im[i]?)->(∀i,i<c.ys.length*t.sz->cur'[b.xs.length*t.sz+i]?=news[i]?) ->
      (∀(L':Nat->aj) (w':World) (m:Nat),m<=b.n->(∀k,L k = .an->L' k = .an/\w'.heap[k]?=w.heap[k]?) ->
       (∀k y rest,y<b.xs.length*t.sz->L k = .own so (0::y::rest)->w'.heap[k]?=w.heap[k]?/\(rest.length<m->L' k = .own d (0::y::rest))/\(m<=rest.length->L' k = .an)) ->
       ∀j (h:j<b.xs.length),Own w' L' (SL L' none) d m t (b.xs[j]) [0] (j*t.sz) ((im.drop (j*t.sz)).take t.sz)) ->
      Step P o w0 L0 N vs (ag T ((b.s.toList++c.s.toList).map (λs=>(s,V.dead))++[(d,.d none (jq b.n c.n+1) (.slice e t) (b.xs++c.ys))])) a w:=by
     intro kept nl w' g oZ cur' im aM hw ahu gm Ii BR agD nW hold dS eZ rT;have uX:(execOp a.eval o).run P w = .ok (.value (.slice (some ⟨g,0,none⟩) (b.xs.length+c.ys.length) oZ)) w':=by
      simp[execOp,ho,resolve,invoke,builtin,aM]
     refine Step.value aw uX (Inv.app (b1:=b.xs.length*t.sz) (b2:=c.ys.length*t.sz) (m:=jq b.n c.n) hI hd hid U4 (λs hs=>⟨(oc s hs).1,(oc s hs).2.1⟩) hw ahu rfl (by simp[V.aJ,Ty.depth]) (λT' tm'=>?_));refine⟨by simp,_,rfl,?_⟩;simp only[Own];refine .inr ⟨g,oZ,cur',by rw[List.length_append],by simpa using gm,Ii,by rw[List.length_append];exact BR,agD,nW,λj hj=>?_⟩;have a6:∀k,L k = .an->aS (gg d so c.s kept (b.xs.length*t.sz) (c.ys.length*t.sz) (jq b.n c.n)) w L nl k = .an/\w'.heap[k]?=w.heap[k]? :=
      λk hk=>⟨dX hI hk,hold k (by rw[hk];simp) (by rw[hk];simp)⟩
     by_cases Ut:j<b.xs.length
     ·rw[List.getElem_append_left Ut];have IU:(cur'.toList.drop (j*t.sz)).take t.sz=(im.drop (j*t.sz)).take t.sz:=qp λk hk=>by
       have:(j+1)*t.sz<=b.xs.length*t.sz:=Nat.mul_le_mul_right _ (by omega);rw[Nat.add_mul,Nat.one_mul]at this;rw[Array.getElem?_toList];exact dS _ (by omega)
      rw[IU];refine rT _ w' _ Sm.1 a6 (λk y rest hy hk=>?_) j Ut;have gB:aS (gg d so c.s kept (b.xs.length*t.sz) (c.ys.length*t.sz) (jq b.n c.n)) w L nl k=if rest.length<jq b.n c.n then .own d (0::y::rest)else .an:=by
       rw[cP hI (by rw[hk];simp),hk];simp[ep,gg,hy]
      refine⟨hold k (by rw[hk];simp) (by rw[hk];simp),λh=>?_,λh=>?_⟩
      ·rw[gB,if_pos h]
      ·rw[gB,if_neg (by omega)]
     ·rw[List.getElem_append_right (by omega)];have vc:j - b.xs.length<c.ys.length:=by rw[List.length_append]at hj;omega
      have B6:j*t.sz=b.xs.length*t.sz+(j - b.xs.length)*t.sz:=by rw[<-Nat.add_mul];congr 1;omega
      have IU:(cur'.toList.drop (j*t.sz)).take t.sz=(news.drop ((j - b.xs.length)*t.sz)).take t.sz:=qp λk hk=>by
       have:(j - b.xs.length+1)*t.sz<=c.ys.length*t.sz:=Nat.mul_le_mul_right _ (by omega);rw[Nat.add_mul,Nat.one_mul]at this;rw[Array.getElem?_toList,B6,Nat.add_assoc];exact eZ _ (by omega)
      rw[IU,B6];refine br _ w' d (b.xs.length*t.sz) _ (λk hk=>Sm.2 k hk) a6 (λs k y rest hs hy hk=>?_) _ vc;have gB:aS (gg d so c.s kept (b.xs.length*t.sz) (c.ys.length*t.sz) (jq b.n c.n)) w L nl k=if rest.length<jq b.n c.n then .own d (0::(b.xs.length*t.sz+y)::rest)else .an:=by
       rw[cP hI (by rw[hk];simp),hk];simp[ep,gg,bg s hs,hs,hy]
      refine⟨hold k (by rw[hk];simp) (by rw[hk];simp),λh=>?_,λh=>?_⟩
      ·rw[gB,if_pos h]
      ·rw[gB,if_neg (by omega)]
    have grow:∀(bs:Option Addr) (sc:Nat) (im:List Value),a.eval sO = .slice bs b.xs.length sc->sc<b.xs.length+c.ys.length->im.length=b.xs.length*t.sz ->
      (Builtin.firstCells i.size b.xs.length (.slice bs b.xs.length sc)).run P w.drew = .ok im.toArray w.drew ->
      (∀(L':Nat->aj) (w':World) (m:Nat),m<=b.n->(∀k,L k = .an->L' k = .an/\w'.heap[k]?=w.heap[k]?) ->
       (∀k y rest,y<b.xs.length*t.sz->L k = .own so (0::y::rest)->w'.heap[k]?=w.heap[k]?/\(rest.length<m->L' k = .own d (0::y::rest))/\(m<=rest.length->L' k = .an)) ->
       ∀j (h:j<b.xs.length),Own w' L' (SL L' none) d m t (b.xs[j]) [0] (j*t.sz) ((im.drop (j*t.sz)).take t.sz)) ->
      Step P o w0 L0 N vs (ag T ((b.s.toList++c.s.toList).map (λs=>(s,V.dead))++[(d,.d none (jq b.n c.n+1) (.slice e t) (b.xs++c.ys))])) a w:=by
     intro bs sc im cN au UN agT rT;have aM:=afv (P:=P) (w:=w) (ty:=o.type) (X2:=X2) hu i1 i4 agT (by rw[i2];exact cO) au r6 (by rw[i3];exact hg);rw[<-cN]at aM;have lg:=grownCap_ge w (b.xs.length+c.ys.length) sc e;have BT:=grownCap_le_maxLen w (b.xs.length+c.ys.length) sc e r6;have hL1:(im++news).length=(b.xs.length+c.ys.length)*t.sz:=by rw[List.length_append,UN,fV,Nat.add_mul]
     refine fin false (λk=>if k=w.heap.size then .own d [0]else .free) _ w.heap.size _ _ im aM ?_ ?_ ?_ (nZ w.drew _) lg BT ?_ ?_ ?_ ?_ rT
     ·refine⟨rfl,rfl,rfl,by simp,Nat.le_succ _,λk hk _=>Go.RowKit.Below.heap_alloc w.drew _ k hk,λk hk=>?_,λk s q hk h=>?_⟩
      ·simp at hk;rw[if_neg (by omega)]
      ·split at h
       ·injection h with h _;exact .inl h.symm
       ·cases h
     ·intro k s q hk h;split at h
      ·injection h with h1 h2;exact⟨h1.symm,h2.symm,by assumption,rfl⟩
      ·cases h
     ·unfold aS;rw[if_neg (by omega)];simp
     ·rw[Array.size_append,List.size_toArray,hL1,size_zeroCells,gI,<-Nat.add_mul];congr 1;omega
     ·exact λk hk _=>Go.RowKit.Below.heap_alloc w.drew _ k (hI.lt hk)
     ·intro k hk;rw[Array.getElem?_append_left (by simp only[List.size_toArray];rw[List.length_append];omega),List.getElem?_toArray,List.getElem?_append_left (by omega)]
     ·intro k hk;rw[Array.getElem?_append_left (by simp only[List.size_toArray];rw[List.length_append];omega),List.getElem?_toArray,List.getElem?_append_right (by omega),UN];congr 1;omega
    simp only[Own]at Uc;rcases Uc with⟨fU,iQ⟩|⟨g,cap,cur,cV,hL,B1,h5,h6,h7,h8⟩
    ·have fU:a.eval sO=_:=(List.cons.inj fU).1;by_cases hy:c.ys=[]
     ·have ahM:fB P i.size X2 (a.eval xO) 0 [] w:=by
       rw[hy]at cO fV;have:news=[]:=List.eq_nil_of_length_eq_zero (by simpa using fV);rw[this]at cO;rw[i2];exact cO
      have aM:=afw (P:=P) (ty:=o.type) hu i1 ahM;rw[<-fU]at aM;have uX:(execOp a.eval o).run P w = .ok (.value (a.eval sO)) w:=by
       simp[execOp,ho,resolve,invoke,builtin,aM]
      refine Step.value aw uX (Inv.app (kept:=false) (b1:=0) (b2:=0) (m:=0) (nl:=λ_=>.free) hI hd hid U4 (λs hs=>⟨(oc s hs).1,(oc s hs).2.1⟩) (Wd.refl hI _) (λk s q _ h=>by cases h) rfl (by simp[V.aJ,Ty.depth]) (λT' tm'=>?_));refine⟨by simp,_,rfl,?_⟩;simp only[Own];exact .inl ⟨by rw[fU],by rw[iQ,hy];rfl⟩
     ·have Iz:0<c.ys.length:=List.length_pos_iff.2 hy;have h0:b.xs.length=0:=by rw[iQ];rfl
      refine grow none 0 [] (by rw[h0];exact fU) (by omega) (by rw[h0];simp) ?_ (λL' w' m _ _ _ j hj=>absurd hj (by omega));rw[h0];exact run_firstCells_none w.drew i.size 0 0 0
    ·have cV:a.eval sO=_:=(List.cons.inj cV).1;have hL:L g = .own so [0]:=by simpa using hL
     have hle:b.xs.length*t.sz<=cur.size:=by rw[h7];exact Nat.mul_le_mul_right _ h5
     have rT:∀(L':Nat->aj) (w':World) (m:Nat),m<=b.n->(∀k,L k = .an->L' k = .an/\w'.heap[k]?=w.heap[k]?) ->
       (∀k y rest,y<b.xs.length*t.sz->L k = .own so (0::y::rest)->w'.heap[k]?=w.heap[k]?/\(rest.length<m->L' k = .own d (0::y::rest))/\(m<=rest.length->L' k = .an)) ->
       ∀j (h:j<b.xs.length),Own w' L' (SL L' none) d m t (b.xs[j]) [0] (j*t.sz) (((cur.toList.take (b.xs.length*t.sz)).drop (j*t.sz)).take t.sz):=by
      intro L' w' m hm a6 gB j hj;have hjb:j*t.sz+t.sz<=b.xs.length*t.sz:=by
       have:(j+1)*t.sz<=b.xs.length*t.sz:=Nat.mul_le_mul_right _ (by omega)
       rwa [Nat.add_mul,Nat.one_mul]at this
      have hw:((cur.toList.take (b.xs.length*t.sz)).drop (j*t.sz)).take t.sz=(cur.toList.drop (j*t.sz)).take t.sz:=qp λk hk=>by
       rw[List.getElem?_take,if_pos (by omega)]
      rw[hw];refine Own.eO hm (λk hk=>?_) (λk y rest hy hk=>?_) (h8 j hj)
      ·rcases hk with hk|⟨_,_,hk,_⟩
       ·exact⟨.inl (a6 k hk).1,(a6 k hk).2⟩
       ·cases hk
      ·have aG:L k = .own so (0::(j*t.sz+y)::rest):=by simpa using hk
       have:=gB k (j*t.sz+y) rest (by omega) aG;exact⟨this.1,λh=>by simpa using this.2.1 h,λh=>.inl (this.2.2 h)⟩
     by_cases r9:b.xs.length+c.ys.length<=cap
     ·
      have n3:b.xs.length*t.sz+news.length<=cur.size:=by
       rw[fV,<-Nat.add_mul,h7];exact Nat.mul_le_mul_right _ r9
      obtain⟨s1,s2,s3,s4,s5,cur',s6,s7,s8⟩:=X1 news (b.xs.length*t.sz) w cur e B1 n3;have pq:∀j,j<news.length->w.cell? ⟨g,b.xs.length*i.size+j,none⟩=cur[b.xs.length*t.sz+j]?:=by
       intro j hj;simp[World.cell?,B1,i2]
      have aM:=afx (P:=P) (w:=w) (ty:=o.type) (X2:=X2) (g:=g) hu i1 (by rw[i2];exact cO) r9
       (λj hj=>by rw[pq j hj,Array.getElem?_eq_getElem (by omega)];rfl) (λj hj=>by simp[World.frozen?,B1])
      rw[<-cV,i2]at aM;have cK:g<w.heap.size:=hI.lt (by rw[hL];simp);refine fin true (λ_=>.free) _ g cap cur' (cur.toList.take (b.xs.length*t.sz)) aM ?_ (λk s q _ h=>by cases h) ?_ s6 r9 h6 (by rw[s7,h7]) ?_ ?_ ?_ rT
      ·refine⟨s1,s2,s3,by rw[s4];exact Nat.le_refl _,Nat.le_of_eq (X0 _ _ _).symm,λk hk h=>?_,λk _=>rfl,λk s q _ h=>by cases h⟩;exact s5 k (λe=>by subst e;exact h so [0] hL (.inr (.inl rfl)))
      ·rw[cP hI (by rw[hL];simp),hL];simp[ep,gg]
      ·intro k hk dr;exact s5 k (λe=>by subst e;exact dr hL)
      ·intro k hk;rw[s8,if_neg (by omega),List.getElem?_take,if_pos hk,Array.getElem?_toList]
      ·intro k hk;rw[s8,if_pos (by omega)];congr 1;omega
     ·
      have hlen:(cur.toList.take (b.xs.length*t.sz)).length=b.xs.length*t.sz:=by rw[List.length_take];simp;omega
      refine grow (some ⟨g,0,none⟩) cap _ cV (by omega) hlen ?_ rT;refine run_firstCells_some w.drew i.size b.xs.length ⟨g,0,none⟩ b.xs.length cap _ (by rw[hlen,i2]) (λj u hu=>?_);rw[List.getElem?_take]at hu;split at hu
      ·show w.cell? _=_;rw[show (⟨g,0,none⟩:Addr).add j=⟨g,j,none⟩by rw[Addr.add_lit,Nat.zero_add]];simp only[World.cell?,B1];simpa using hu
      ·cases hu
   ·exact h.elim
  ·exact h.elim
 ·exact h.elim
end
abbrev lT:=Nat×Option (Nat×(t:Ty)×t.den)
def SR(d i:Nat):Option (Nat×(t:Ty)×t.den)->Option V
 | some (n,⟨t,x⟩)=>if n≠0/\t.depth≠0 then some (.part d i n t x)else none
 | none=>none
def partsOf(d:Nat)(h:Nat->Option Nat):Nat->Nat->List lT->List ((Nat×Nat×Nat)×V)
 | _,_,[]=>[]
 | i,o,(sz,c)::l=>match h i,SR d i c with
  | some e,some v=>((e,o,sz),v)::partsOf d h (i+1) (o+sz) l
  | _,_=>partsOf d h (i+1) (o+sz) l
def gN:List lT->List lT
 | []=>[]
 | (sz,c)::l=>(sz,if Bu c=true then none else c)::gN l
def vG{α:Type}:List Nat->M α->M α
 | [],m=>m
 | s::l,m=>.get s λv=>.bj v.idle (vG l m)
def Yq(vs:List Nat)(N d s:Nat)(h:Nat->Option Nat):M (List (Nat×V)):=
 .get s λv=>match v with
 | .bC l =>
  if ca (d::s::(partsOf d h 0 0 l).map (·.1.1))=true/\((partsOf d h 0 0 l).all λp=>decide (p.1.1<N))=true/\vs.contains s=false/\vs.contains d=true then
   vG (d::(partsOf d h 0 0 l).map (·.1.1)) (.ret ((s,V.dead)::((partsOf d h 0 0 l).map (λp=>(p.1.1,p.2))++[(d,.bC (gN l))])))
  else .fail
 | _=>.fail
def Th(vs:List Nat)(d:Nat)(x:Operand)(i:Nat):M (List (Nat×V)):=
 match x with
 | .tmp s=>.get d λvd=>match vd with
  | .part r j n t y=>if r=s/\j=i/\vs.contains d=false/\n≠0/\t.depth≠0 then .ret [(d,.d none n t y)]else .fail
  | _=>.bj vd.idle (.get s λv=>match v with
   | .bC l=>match l[i]? with
    | some (_,some (n,⟨t,y⟩))=>if n=0\/t.depth=0 then .ret [(d,.d none n t y)]else .fail
    | _=>.fail
   | _=>.fail)
 | _=>.fail
def kE(s d:Nat)(ms:List (Nat×Nat×Nat)):Nat->List Nat->aj:=λr z =>
 if r=s then match z with
  | y::rest=>match ms.find? (λp=>decide (p.2.1<=y)&&decide (y<p.2.1+p.2.2))with
   | some p=>.own p.1 ((y - p.2.1)::rest)
   | none=>.other
  | []=>.other
 else if r=d\/r∈ms.map (·.1)then .other else .own r z
theorem wg{s d:Nat}{ms:List (Nat×Nat×Nat)}{r:Nat}{z:List Nat}{s':Nat}{z':List Nat}(h:kE s d ms r z = .own s' z'):
  (r=s/\∃p y rest,p∈ms/\z=y::rest/\p.2.1<=y/\y<p.2.1+p.2.2/\s'=p.1/\z'=(y - p.2.1)::rest)\/(r≠s/\r≠d/\r∉ms.map (·.1)/\s'=r/\z'=z):=by
 unfold kE at h;split at h
 ·rename_i hr;split at h
  ·rename_i y rest;split at h
   ·rename_i p hp;injection h with h1 h2;have hb:=List.find?_some hp;simp only[Bool.and_eq_true,decide_eq_true_eq]at hb;exact .inl ⟨hr,p,y,rest,List.mem_of_find?_eq_some hp,rfl,hb.1,hb.2,h1.symm,h2.symm⟩
   ·cases h
  ·cases h
 ·rename_i hr;split at h
  ·cases h
  ·rename_i hn;have hn:=not_or.1 hn;injection h with h1 h2;exact .inr ⟨hr,hn.1,hn.2,h1.symm,h2.symm⟩
theorem XA[ae]{s d b:Nat}{ms:List (Nat×Nat×Nat)}(hs:eF b ms)(hn:ca (ms.map (·.1))=true):fi (kE s d ms) (λr=>r=s\/r=d\/r∈ms.map (·.1)):=by
 refine⟨λr z hX=>?_,λr z s' z' hX h=>?_,λr z r2 z2 s' z' h1 h2=>?_,λr z=>?_⟩
 ·have h1:=not_or.1 hX;unfold kE;rw[if_neg h1.1,if_neg h1.2]
 ·rcases wg h with⟨_,p,_,_,hp,_,_,_,rfl,_⟩|⟨h1,h2,h3,rfl,_⟩
  ·exact .inr (.inr (List.mem_map_of_mem hp))
  ·rcases hX with h|h|h
   ·exact absurd h h1
   ·exact absurd h h2
   ·exact absurd h h3
 ·rcases wg h1 with⟨rfl,p,y,rest,hp,rfl,b1,b2,rfl,rfl⟩|⟨g1,g2,g3,rfl,rfl⟩
  ·rcases wg h2 with⟨rfl,p',y',fc,cm,rfl,b1',b2',he,h3⟩|⟨_,_,g3,h3,_⟩
   ·have f1:=pd hn hp;have f2:=pd hn cm;rw[he]at f1;rw[f1]at f2;cases f2;simp only[List.cons.injEq]at h3;obtain⟨h3,rfl⟩:=h3;exact⟨rfl,by rw[show y=y' by omega]⟩
   ·exact absurd (h3▸List.mem_map_of_mem hp) g3
  ·rcases wg h2 with⟨_,p',_,_,cm,_,_,_,h3,_⟩|⟨_,_,_,h3,h4⟩
   ·exact absurd (h3▸List.mem_map_of_mem cm) g3
   ·exact⟨h3,h4⟩
 ·unfold kE
  repeat' split
  all_goals simp
theorem Xz[ae]{s d b:Nat}{ms:List (Nat×Nat×Nat)}(hs:eF b ms)(hn:ca (ms.map (·.1))=true){p:Nat×Nat×Nat}(hp:p∈ms){i:Nat}(hi:i<p.2.2){rest:List Nat}:
  kE s d ms s ((p.2.1+i)::rest) = .own p.1 (i::rest):=by
 unfold kE;rw[if_pos rfl];dsimp only;have hx:∃q,ms.find? (λq=>decide (q.2.1<=p.2.1+i)&&decide (p.2.1+i<q.2.1+q.2.2))=some q:=by
  rw[<-Option.isSome_iff_exists,List.find?_isSome];exact⟨p,hp,by simp;omega⟩
 obtain⟨q,hq⟩:=hx;have UY:=List.mem_of_find?_eq_some hq;have hb:=List.find?_some hq;simp only[Bool.and_eq_true,decide_eq_true_eq]at hb;have hqp:q=p:=by
  apply Classical.byContradiction;intro bg;by_cases h1:q.1=p.1
  ·have f1:=pd hn hp;have f2:=pd hn UY;rw[h1,f1]at f2;exact bg (Option.some.inj f2).symm
  ·have:=hs.S4 hn q p UY hp h1;omega
 subst hqp;rw[hq];simp only[aj.own.injEq,List.cons.injEq,and_true,true_and];omega
theorem CQ{d:Nat}{h:Nat->Option Nat}:{l:List lT}->{i o:Nat}->eF o ((partsOf d h i o l).map (·.1))
 | [],_,_=>trivial
 | (sz,c)::l,i,o=>by
  simp only[partsOf];split
  ·exact⟨Nat.le_refl _,CQ⟩
  ·exact eF.ao9 (Nat.le_add_right _ _) CQ
 where
 eF.ao9:{b b':Nat}->{ms:List (Nat×Nat×Nat)}->b<=b'->eF b' ms->eF b ms
 | _,_,[],_,_=>trivial
 | _,_,_::_,h,h2=>⟨Nat.le_trans h h2.1,h2.2⟩
section
variable{P:Program}{C:Ctx}{w w' w0:World}{S S':Nat->Prop}{L L' L0:Nat->aj}{s N:Nat}{vs:List Nat}{T T':List V}{tm tm':Array Value}{a:Act}
theorem JR{d:Nat}{h:Nat->Option Nat}:{l:List lT}->{i o:Nat}->{dc:List Value}->eG w L s o l dc->∀p v,(p,v)∈partsOf d h i o l ->
  ∃j n t x u cs,v = .part d (i+j) n t x/\dc[j]?=some u/\t.sz=p.2.2/\Form t cs u/\Own w L (SL L none) s n t x [] p.2.1 cs
 | [],_,_,_,_,_,_,hm=>by simp[partsOf]at hm
 | (sz,c)::l,i,o,dc,hr,p,v,hm=>by
  obtain⟨u,ix,rfl,h1,h2⟩:=hr;have U1:(p,v)∈partsOf d h (i+1) (o+sz) l->∃j n t x u' cs,v = .part d (i+j) n t x/\(u::ix)[j]?=some u'/\t.sz=p.2.2/\Form t cs u'/\Own w L (SL L none) s n t x [] p.2.1 cs:=by
   intro hm;obtain⟨j,n,t,x,u',cs,e1,e2,e3,e4,e5⟩:=JR h2 p v hm;exact⟨j+1,n,t,x,u',cs,by rw[e1,show i+1+j=i+(j+1)by omega],by simpa using e2,e3,e4,e5⟩
  simp only[partsOf]at hm;split at hm
  ·rename_i e v' he od;rcases List.mem_cons.1 hm with hm|hm
   ·injection hm with hp hv;subst hp hv;unfold SR at od;split at od
    ·rename_i n t x;split at od
     ·injection od with od;obtain⟨h3,cs,h4,h5⟩:=h1 n t x rfl;exact⟨0,n,t,x,u,cs,od.symm,rfl,h3,h4,h5⟩
     ·cases od
    ·cases od
   ·exact U1 hm
  ·exact U1 hm
theorem J2{s':Nat}(H:∀k,L k = .an->L' k = .an/\w'.heap[k]?=w.heap[k]?):{l:List lT}->{o:Nat}->{dc:List Value}->eG w L s o l dc->eG w' L' s' o (gN l) dc
 | [],_,_,h=>h
 | (sz,c)::l,o,dc,⟨v,ix,h1,h2,h3⟩=>by
  refine⟨v,ix,h1,λn t x hc=>?_,J2 H h3⟩;split at hc
  ·cases hc
  ·rename_i hco;obtain⟨h4,cs,h5,h6⟩:=h2 n t x hc;subst hc;refine⟨h4,cs,h5,?_⟩;have hG:¬n=0->t.depth=0:=by simpa[Bu]using hco
   have hn:n=0\/t.depth=0:=by omega
   rcases hn with hn|hn
   ·subst hn;refine Own.dw (Rd.move (λk hk=>?_) (Own.eo h6));rcases hk with hk|⟨_,_,hk,_⟩
    ·exact⟨.inl (H k hk).1,(H k hk).2⟩
    ·cases hk
   ·exact Own.flat hn h6
theorem Yn:{l:List lT}->{o i:Nat}->{dc:List Value}->{sz n:Nat}->{t:Ty}->{x:t.den}->eG w L s o l dc->l[i]?=some (sz,some (n,⟨t,x⟩))->∃o' u cs,dc[i]?=some u/\Form t cs u/\Own w L (SL L none) s n t x [] o' cs
 | [],_,_,_,_,_,_,_,_,h=>by simp at h
 | (ff,c)::l,o,0,dc,sz,n,t,x,⟨v,ix,h1,h2,h3⟩,h=>by
  simp only[List.getElem?_cons_zero,Option.some.injEq,Prod.mk.injEq]at h;obtain⟨_,cs,h5,h6⟩:=h2 n t x h.2;exact⟨o,v,cs,by rw[h1];rfl,h5,h6⟩
 | (ff,c)::l,o,i+1,dc,sz,n,t,x,⟨v,ix,h1,h2,h3⟩,h=>by
  obtain⟨o',u,cs,e1,e2,e3⟩:=Yn h3 (by simpa using h);exact⟨o',u,cs,by rw[h1];simpa using e1,e2,e3⟩
theorem Cf{α:Type}{m:M α}{x:α}:{l:List Nat}->{log:List Nat}->(vG l m).ai T x log->(∀s∈l,(T.getD s .dead).idle=true)/\∃aC,m.ai T x aC
 | [],log,h=>⟨by simp,log,h⟩
 | s::l,log,h=>by
  obtain⟨aC,rfl,hc,h⟩:=h;obtain⟨h1,h2⟩:=Cf h;exact⟨λs' hs=>by rcases List.mem_cons.1 hs with rfl|hs;exact hc;exact h1 s' hs,h2⟩
theorem rK[ae]{ups:List (Nat×V)}(hn:ca (ups.map (·.1))=true){s:Nat}{v:V}(hm:(s,v)∈ups){T:List V}(hs:s<T.length):(ag T ups).getD s .dead=v:=by
 unfold ag;induction ups generalizing T with
 | nil=>cases hm
 | cons u l ih =>
  simp only[List.map_cons,ca,Bool.and_eq_true,Bool.not_eq_true']at hn;simp only[List.foldl_cons];rcases List.mem_cons.1 hm with rfl|hm
  ·have:=eI l (T.set s v) s (λh=>by
    have h2:=List.contains_iff_mem.2 h;rw[hn.1]at h2;cases h2)
   unfold ag at this;rw[this,aF,if_pos ⟨rfl,hs⟩]
  ·exact ih hn.2 hm (by simpa using hs)
theorem JI{l:List Nat}:ca l=true->l.Nodup:=by
 induction l with
 | nil=>intro _;exact List.nodup_nil
 | cons x l ih =>
  intro h;simp only[ca,Bool.and_eq_true,Bool.not_eq_true']at h;refine List.nodup_cons.2 ⟨λhm=>?_,ih h.2⟩;rw[List.contains_iff_mem.2 hm]at h;cases h.1
theorem v7{l:List Nat}:l.Nodup->ca l=true:=by
 induction l with
 | nil=>intro _;rfl
 | cons x l ih =>
  intro h;obtain⟨h1,h2⟩:=List.nodup_cons.1 h;simp only[ca,Bool.and_eq_true,Bool.not_eq_true',ih h2,and_true];rw[Bool.eq_false_iff];intro hc;exact h1 (List.contains_iff_mem.1 hc)
theorem al1[ae](hI:Inv w0 L0 N vs T a w L){o:Oper}{d s:Nat}{h:Nat->Option Nat}{ups:List (Nat×V)}{log:List Nat}(ho:pO o (.tmp s))(aw:o.dst=some d)(hd:d<N)
  (hr:(Yq vs N d s h).ai T ups log):Step P o w0 L0 N vs (ag T ups) a w:=by
 obtain⟨aC,rfl,hr⟩:=hr;dsimp only at hr;have hs:=hI.aV s;generalize hv:T.getD s .dead=v at hr hs;split at hr
 ·rename_i l;split at hr
  ·rename_i hc;obtain⟨cK,au,iP,rW⟩:=hc;obtain⟨jz,log2,hr⟩:=Cf hr;obtain⟨rfl,_⟩:=hr;obtain⟨dc,dO,dt⟩:=hs;generalize lx:partsOf d h 0 0 l=ps at cK au jz;have vx:eF 0 (ps.map (·.1)):=by rw[<-lx];exact CQ
   have vl:=JI cK;have iO:ps.map (·.1.1)=(ps.map (·.1)).map (·.1):=by rw[List.map_map];rfl
   obtain⟨Ul,aht⟩:=List.nodup_cons.1 vl;obtain⟨kq,py⟩:=List.nodup_cons.1 aht;have gY:d≠s:=λe=>Ul (by rw[e];simp);have cr:d∉ps.map (·.1.1):=λe=>Ul (List.mem_cons_of_mem _ e);have vk:ca ((ps.map (·.1)).map (·.1))=true:=by rw[<-iO];exact v7 py
   have apJ:(T.getD s .dead).aJ=true:=by rw[hv];rfl
   have bX:s<N:=by
    apply Classical.byContradiction;intro lg;rw[dZ (by rw[hI.len];omega)]at hv;cases hv
   let U:List (Nat×V):=(s,V.dead)::(ps.map (λp=>(p.1.1,p.2))++[(d,.bC (gN l))]);have hU:U.map (·.1)=s::(ps.map (·.1.1)++[d]):=by simp[U,List.map_map,Function.comp_def]
   have nV:ca (U.map (·.1))=true:=by
    rw[hU];refine v7 (List.nodup_cons.2 ⟨λhm=>?_,?_⟩)
    ·rcases List.mem_append.1 hm with hm|hm
     ·exact kq hm
     ·exact gY (List.mem_singleton.1 hm).symm
    ·rw[List.nodup_append];refine⟨py,by simp,λx hx y hy e=>?_⟩;rw[List.mem_singleton]at hy;subst e hy;exact cr hx
   have bH:(ag T U).getD s .dead = .dead:=rK nV (by simp[U]) (by rw[hI.len];exact bX);have bQ:(ag T U).getD d .dead = .bC (gN l):=rK nV (by simp[U]) (by rw[hI.len];exact hd);have pk:∀p v,(p,v)∈ps->(ag T U).getD p.1 .dead=v:=by
    intro p v hp;refine rK nV ?_ ?_
    ·refine List.mem_cons_of_mem _ (List.mem_append_left _ (List.mem_map.2 ⟨(p,v),hp,rfl⟩))
    ·rw[List.all_eq_true]at au;rw[hI.len];simpa using au _ hp
   have bn:∀z,¬(z=s\/z=d\/z∈(ps.map (·.1)).map (·.1))->(ag T U).getD z .dead=T.getD z .dead:=by
    intro z hz;refine eI _ _ _ ?_;rw[hU,iO];intro hm;rcases List.mem_cons.1 hm with hm|hm
    ·exact hz (.inl hm)
    ·rcases List.mem_append.1 hm with hm|hm
     ·exact hz (.inr (.inr hm))
     ·exact hz (.inr (.inl (List.mem_singleton.1 hm)))
   have pB:∀p v,(p,v)∈ps->∃j n t x u cs,v = .part d j n t x/\dc.toList[j]?=some u/\t.sz=p.2.2/\Form t cs u/\Own w L (SL L none) s n t x [] p.2.1 cs:=by
    intro p v hp;rw[<-lx]at hp;obtain⟨j,n,t,x,u,cs,e1,e2⟩:=JR dt p v hp;exact⟨0+j,n,t,x,u,cs,e1,by rw[Nat.zero_add];exact e2⟩
   have fR:∀z,z∈(ps.map (·.1)).map (·.1)->∃p v,(p,v)∈ps/\p.1=z:=by
    intro z hz;rw[<-iO]at hz;obtain⟨⟨p,v⟩,hp,rfl⟩:=List.mem_map.1 hz;exact⟨p,v,hp,rfl⟩
   refine Step.value aw (sE ho) (Inv.gr (T':=ag T U) (f:=kE s d (ps.map (·.1))) (X:=λz=>z=s\/z=d\/z∈(ps.map (·.1)).map (·.1)) (nl:=λ_=>.free) hI (XA vx vk) (Wd.refl hI _) (λ_ _ _ _ _ h=>by cases h) (by simp[Act.put,hI.size]) (by rw[ct,hI.len]) hI.dB ?_ ?_ ?_ ?_ ?_)
   ·intro k z q hz hk;rcases hz with rfl|rfl|hz
    ·exfalso;unfold aS at hk;split at hk
     ·obtain⟨s0,q0,e0,f0⟩:=eD hk;rcases wg f0 with⟨_,p,_,_,hp,_,_,_,h7,_⟩|⟨h1,_,_,h7,_⟩
      ·exact kq (by rw[iO,h7];exact List.mem_map_of_mem hp)
      ·exact h1 h7.symm
     ·cases hk
    ·rw[bQ];rfl
    ·obtain⟨p,v,hp,rfl⟩:=fR z hz;rw[pk p v hp];obtain⟨j,n,t,x,u,cs,rfl,_⟩:=pB p v hp;rfl
   ·intro z r hz af hr;rcases hr with rfl|hr
    ·exfalso;have:=hI.roots z _ af;rw[List.contains_iff_mem.2 this]at iP;cases iP
    ·refine V.jN (jz r ?_);rcases hr with rfl|hr
     ·simp
     ·rw[iO];exact List.mem_cons_of_mem _ hr
   ·intro z hz;refine⟨bn z hz,?_⟩;show (a.tmps.setIfInBounds d _).getD z undef=_;rw[dK,if_neg (λe=>hz (.inr (.inl e.1)))]
   ·intro z r hz af;rcases hz with rfl|rfl|hz
    ·rw[bH]at af;simp[V.on,V.root]at af
    ·rw[bQ]at af;simp[V.on,V.root]at af
    ·obtain⟨p,v,hp,rfl⟩:=fR z hz;rw[pk p v hp]at af;obtain⟨j,n,t,x,u,cs,rfl,_⟩:=pB p v hp;simp only[V.on,V.root,beq_iff_eq,Option.some.injEq]at af;subst af;exact List.contains_iff_mem.1 rW
   ·intro z hz;have fW:(a.put (some d) (a.eval (.tmp s))).tmps.getD d undef=a.tmps.getD s undef:=by
     show (a.tmps.setIfInBounds d _).getD d undef=_;rw[dK,if_pos ⟨rfl,by rw[hI.size];exact hd⟩];rfl
    rcases hz with rfl|rfl|hz
    ·rw[bH];trivial
    ·rw[bQ,fW];exact⟨dc,dO,J2 (λk hk=>⟨dX hI hk,rfl⟩) dt⟩
    ·obtain⟨p,v,hp,rfl⟩:=fR z hz;rw[pk p v hp];obtain⟨j,n,t,x,u,cs,rfl,e2,e3,e4,e5⟩:=pB p v hp;refine⟨by rw[bQ];rfl,dc,u,cs,by rw[fW];exact dO,by simpa using e2,e4,?_⟩;refine Own.move (λk hk=>?_) (λk i rest hi hk=>⟨?_,rfl⟩) e5
     ·rcases hk with hk|⟨_,_,hk,_⟩
      ·exact⟨.inl (dX hI hk),rfl⟩
      ·cases hk
     ·have aG:L k = .own s ((p.2.1+i)::rest):=by simpa using hk
      rw[cP hI (by rw[aG];simp),aG];have:=Xz (s:=s) (d:=d) vx vk (List.mem_map_of_mem (f:=(·.1)) hp) (i:=i) (by rw[<-e3];exact hi) (rest:=rest);simpa[ep]using this
  ·exact hr.elim
 ·exact hr.elim
theorem alU[ae](hI:Inv w0 L0 N vs T a w L){o:Oper}{x:Operand}{d i:Nat}{ups:List (Nat×V)}{log:List Nat}(ho:o.op = .extract x i)(aw:o.dst=some d)(hd:d<N)
  (hr:(Th vs d x i).ai T ups log):Step P o w0 L0 N vs (ag T ups) a w:=by
 cases x with
 | tmp s =>
  obtain⟨aC,rfl,hr⟩:=hr;dsimp only at hr;have bK:=hI.aV d;generalize IQ:T.getD d .dead=vd at hr bK;split at hr
  ·rename_i r j n t y;split at hr
   ·rename_i hc;obtain⟨rfl,rfl,rW,hn,agJ⟩:=hc;obtain⟨rfl,_⟩:=hr;obtain⟨h0,dc,u,cs,h1,h2,h3,h4⟩:=bK;have aM:(execOp a.eval o).run P w = .ok (.value u) w:=by
     have:a.eval (.tmp r) = .tuple dc:=h1;simp[execOp,ho,this,Instr.extract,h2]
    have hT:∀z,(ag T [(d,V.d none n t y)]).getD z .dead=if z=d/\d<T.length then V.d none n t y else T.getD z .dead:=λz=>aF _ _ _ _ _
    have pr:d<T.length:=by rw[hI.len];exact hd
    refine Step.value aw aM (Inv.upd (λz=>z=d) hI (by simp[Act.put,hI.size]) (by rw[ct,hI.len]) hI.dB hI.fr hI.free hI.inj ?_ (λ_ _ _ _=>⟨rfl,rfl⟩) ?_ ?_ ?_ ?_)
    ·intro k z q hk;rw[hT];split
     ·simp[V.aJ,hn,agJ]
     ·exact hI.owner k z q hk
    ·intro z hz;refine⟨by rw[hT,if_neg (λe=>hz e.1)],?_⟩;show (a.tmps.setIfInBounds d _).getD z undef=_;rw[dK,if_neg (λe=>hz e.1)]
    ·intro z r' af;rw[hT]at af;split at af
     ·simp[V.on,V.root]at af
     ·exact hI.roots z r' af
    ·intro z r' hz af lq;have bz:r'≠d:=by
      rintro rfl
      have:=hI.roots z _ af;rw[List.contains_iff_mem.2 this]at rW;cases rW
     refine⟨by rw[hT,if_neg (λe=>bz e.1)],?_⟩;show (a.tmps.setIfInBounds d _).getD r' undef=_;rw[dK,if_neg (λe=>bz e.1)]
    ·intro z hz;subst hz;rw[hT,if_pos ⟨rfl,pr⟩];have:(a.put (some z) u).tmps.getD z undef=u:=by
      show (a.tmps.setIfInBounds z _).getD z undef=_;rw[dK,if_pos ⟨rfl,by rw[hI.size];exact hd⟩]
     rw[this];exact⟨by simp,cs,h3,h4⟩
   ·exact hr.elim
  ·obtain⟨hid,log2,rfl,hr⟩:=hr;dsimp only at hr;have hs:=hI.aV s;generalize hv:T.getD s .dead=v at hr hs;split at hr
   ·rename_i l;split at hr
    ·rename_i sz n t y hl;split at hr
     ·rename_i hn;obtain⟨rfl,_⟩:=hr;obtain⟨dc,h1,h2⟩:=hs;obtain⟨o',u,cs,e1,e2,e3⟩:=Yn h2 hl;have e1:dc[i]?=some u:=by simpa using e1
      have aM:(execOp a.eval o).run P w = .ok (.value u) w:=by
       have:a.eval (.tmp s) = .tuple dc:=h1;simp[execOp,ho,this,Instr.extract,e1]
      have b8:aK P o vs T a w L d (.d none n t y):=aK.still hI aM (λ_=>rfl) ⟨by simp,cs,e2,Own.bu hn e3 hn⟩;intro K Q hK;exact aK.inv hI hd (by rw[IQ];exact hid) aw b8 hK
     ·exact hr.elim
    ·exact hr.elim
   ·exact hr.elim
 | const c=>exact hr.elim
 | func f=>exact hr.elim
 | global g=>exact hr.elim
end
def iY(r s:Nat)(v:V):Nat->List V->List (Nat×V)
 | _,[]=>[]
 | i,u::l=>cond (i==s) ((i,v)::iY r s v (i+1) l) (cond (i==r||u.on r) ((i,.dead)::iY r s v (i+1) l) (iY r s v (i+1) l))
def wH(r s:Nat):Nat->List V->Bool
 | _,[]=>true
 | i,u::l=>(i==s||i==r || !(u.on r&&u.aJ))&&wH r s (i+1) l
def sW(N:Nat):List Nat->M (List (Nat×V))->M (List (Nat×V))
 | [],m=>m
 | s::l,m=>.get s λv=>match v with
  | .view r [] _=>.get r λu=>match u with
   | .d none n t x =>
    if n≠0/\t.depth≠0/\s<N/\s≠r then
     (allM 0 N).bind λTs=>.bj (wH r s 0 Ts) (((sW N l m).nk (ag Ts (iY r s (.d none n t x) 0 Ts))).bind λups=>.ret (iY r s (.d none n t x) 0 Ts++ups))
    else sW N l m
   | _=>sW N l m
  | _=>sW N l m
section
variable{P:Program}{C:Ctx}{w w' w0:World}{S S':Nat->Prop}{L L' L0:Nat->aj}{s N:Nat}{vs:List Nat}{T T':List V}{tm tm':Array Value}{a:Act}
theorem sP{r s:Nat}{v:V}:{i:Nat}->{l:List V}->(z:Nat)->(u:V)->((z,u)∈iY r s v i l↔i<=z/\z<i+l.length/\((z=s/\u=v)\/(z≠s/\u = .dead/\(z=r\/(l.getD (z - i) .dead).on r=true))))
 | i,[],z,u=>by simp[iY];omega
 | i,u0::l,z,u=>by
  have ih:=sP (r:=r) (s:=s) (v:=v) (i:=i+1) (l:=l) z u;have dU:i+1<=z->(u0::l).getD (z - i) .dead=l.getD (z - (i+1)) .dead:=λh=>by
   rw[show z - i=(z - (i+1))+1 by omega,List.getD_cons_succ]
  have ID:(z,u)∈iY r s v (i+1) l->i<=z/\z<i+(u0::l).length/\((z=s/\u=v)\/(z≠s/\u = .dead/\(z=r\/((u0::l).getD (z - i) .dead).on r=true))):=by
   intro h;obtain⟨h1,h2,h3⟩:=ih.1 h;rw[dU h1];exact⟨by omega,by simp only[List.length_cons];omega,h3⟩
  have rR:z≠i->i<=z/\z<i+(u0::l).length/\((z=s/\u=v)\/(z≠s/\u = .dead/\(z=r\/((u0::l).getD (z - i) .dead).on r=true)))->(z,u)∈iY r s v (i+1) l:=by
   rintro hz ⟨h1,h2,h3⟩
   simp only[List.length_cons]at h2;rw[dU (by omega)]at h3;exact ih.2 ⟨by omega,by omega,h3⟩
  simp only[iY];cases hc:(i==s)with
  | true =>
   have hi:i=s:=by simpa using hc
   simp only[cond_true,List.mem_cons,Prod.mk.injEq];constructor
   ·rintro (⟨rfl,rfl⟩|h)
    ·exact⟨Nat.le_refl _,by simp,.inl ⟨hi,rfl⟩⟩
    ·exact ID h
   ·intro h;by_cases hz:z=i
    ·obtain⟨_,_,h|h⟩:=h
     ·exact .inl ⟨hz,h.2⟩
     ·exact absurd (hz.trans hi) h.1
    ·exact .inr (rR hz h)
  | false =>
   have hi:i≠s:=by simpa using hc
   simp only[cond_false];cases eZ:(i==r||u0.on r)with
   | true =>
    simp only[cond_true,List.mem_cons,Prod.mk.injEq];constructor
    ·rintro (⟨rfl,rfl⟩|h)
     ·refine⟨Nat.le_refl _,by simp,.inr ⟨hi,rfl,?_⟩⟩;rw[Nat.sub_self,List.getD_cons_zero];simpa using eZ
     ·exact ID h
    ·intro h;by_cases hz:z=i
     ·obtain⟨_,_,h|h⟩:=h
      ·exact absurd (hz.symm.trans h.1) hi
      ·exact .inl ⟨hz,h.2.1⟩
     ·exact .inr (rR hz h)
   | false =>
    simp only[cond_false];constructor
    ·exact ID
    ·intro h;by_cases hz:z=i
     ·exfalso;obtain⟨_,_,h|h⟩:=h
      ·exact hi (hz.symm.trans h.1)
      ·simp only[Bool.or_eq_false_iff,beq_eq_false_iff_ne]at eZ;subst hz;rw[Nat.sub_self,List.getD_cons_zero]at h;rcases h.2.2 with h|h
       ·exact eZ.1 h
       ·rw[eZ.2]at h;cases h
     ·exact rR hz h
theorem amc[ae](hl:T.length=N){r s:Nat}{v:V}(hs:s<N)(z:Nat):(ag T (iY r s v 0 T)).getD z .dead=if z=s then v else if z=r\/(T.getD z .dead).on r=true then .dead else T.getD z .dead:=by
 split
 ·rename_i hz;subst hz;exact gS (by rw[hl];exact hs) (List.mem_map.2 ⟨(z,v),(sP z v).2 ⟨Nat.zero_le _,by rw[Nat.zero_add,hl];exact hs,.inl ⟨rfl,rfl⟩⟩,rfl⟩) (λu hu=>by
   rcases ((sP z u).1 hu).2.2 with h|h
   ·exact h.2
   ·exact absurd rfl h.1)
 ·rename_i hz;split
  ·rename_i hc;by_cases og:z<N
   ·exact gS (by rw[hl];exact og) (List.mem_map.2 ⟨(z,.dead),(sP z .dead).2 ⟨Nat.zero_le _,by rw[Nat.zero_add,hl];exact og,.inr ⟨hz,rfl,hc⟩⟩,rfl⟩) (λu hu=>by
     rcases ((sP z u).1 hu).2.2 with h|h
     ·exact absurd h.1 hz
     ·exact h.2.1)
   ·exact dZ (by rw[ct,hl];omega)
  ·rename_i hc;refine eI _ _ _ (λhm=>?_);obtain⟨u,hu,he⟩:=List.mem_map.1 hm;subst he;rcases ((sP u.1 u.2).1 hu).2.2 with h|h
   ·exact hz h.1
   ·exact hc h.2.2
theorem Yk{r s:Nat}:{i:Nat}->{l:List V}->wH r s i l=true->∀z,i+z≠s->i+z≠r->(l.getD z .dead).on r=true->(l.getD z .dead).aJ=false
 | _,[],_,z,_,_,h=>by simp[V.on,V.root]at h
 | i,u::l,h,z,hs,hr,hc=>by
  simp only[wH,Bool.and_eq_true,Bool.or_eq_true,Bool.not_eq_true',beq_iff_eq]at h;cases z with
  | zero =>
   simp only[List.getD_cons_zero]at hc ⊢;rcases h.1 with h1|h1
   ·rcases h1 with h1|h1
    ·exact absurd h1 (by simpa using hs)
    ·exact absurd h1 (by simpa using hr)
   ·rw[hc,Bool.true_and]at h1;exact h1
  | succ z =>
   simp only[List.getD_cons_succ]at hc ⊢;exact Yk h.2 z (by omega) (by omega) hc
theorem Inv.ame[ae](hI:Inv w0 L0 N vs T a w L){s r n:Nat}{t t':Ty}{x:t.den}(hs:T.getD s .dead = .view r [] t')(hr:T.getD r .dead = .d none n t x)(hn:n≠0)(hd:t.depth≠0)(bX:s<N)(bo:s≠r)
  (aI:wH r s 0 T=true):∃L',Inv w0 L0 N vs (ag T (iY r s (.d none n t x) 0 T)) a w L':=by
 let kp:Nat->V->Bool:=λz v=>z != s&&z != r&&v.on r;have bq:=Inv.ajO hI (kp:=kp) (by
  unfold Wx;rw[List.all_eq_true];intro b hb;obtain⟨i,hi⟩:=List.mem_iff_getElem?.1 hb;simp only[List.getElem?_mapIdx,Option.map_eq_some_iff]at hi;obtain⟨v,hv,rfl⟩:=hi;have kj:T.getD i .dead=v:=by simp[List.getD_eq_getElem?_getD,hv]
  simp only[id_eq,Bool.or_eq_true];cases b9:v.root with
  | none=>exact .inr rfl
  | some q =>
   dsimp only;cases hk:kp q (T.getD q .dead)with
   | false=>exact .inr rfl
   | true =>
    right;simp only[kp,Bool.and_eq_true,bne_iff_ne]at hk;have:=Yk aI q (by simpa using hk.1.1) (by simpa using hk.1.2) hk.2;rw[this];rfl)
 obtain⟨L1,bq⟩:=bq;have hg:∀z,(jH kp T).getD z .dead=if kp z (T.getD z .dead)=true then .dead else T.getD z .dead:=TK kp T
 have kq:(jH kp T).getD s .dead = .view r [] t':=by rw[hg,if_neg (by simp[kp]),hs]
 have ly:(jH kp T).getD r .dead = .d none n t x:=by rw[hg,if_neg (by simp[kp]),hr]
 have cj:ni r s (jH kp T)=true:=by
  unfold ni;rw[List.all_eq_true];intro b hb;obtain⟨i,hi⟩:=List.mem_iff_getElem?.1 hb;simp only[List.getElem?_mapIdx,Option.map_eq_some_iff]at hi;obtain⟨v,hv,rfl⟩:=hi;have kj:(jH kp T).getD i .dead=v:=by simp[List.getD_eq_getElem?_getD,hv]
  simp only[id_eq,Bool.or_eq_true,beq_iff_eq,bne_iff_ne];by_cases n5:i=s
  ·exact .inl n5
  ·right;intro b9;rw[hg]at kj;split at kj
   ·subst kj;simp[V.root]at b9
   ·rename_i hk;by_cases Us:i=r
    ·subst Us;rw[hr]at kj;subst kj;simp[V.root]at b9
    ·apply hk;rw[kj];simp[kp,n5,Us,V.on,b9]
 have IK:t'=t:=by
  have bb:=bq.aV s;rw[kq]at bb;obtain⟨cr,hh⟩:=bb;rcases hh with⟨_,_,l,n',x',h3,_⟩|⟨_,_,_,h,_⟩
  ·rw[ly]at h3;injection h3 with _ _ h3 _;exact h3.symm
  ·rw[ly]at h;simp[V.dj]at h
 obtain⟨L2,hI2⟩:=Inv.take bq (n:=n) (t:=t) (x:=x) (p:=[]) (log:=[]) (s:=s) (r:=r) (by rw[kq,IK]) bX (by rw[ly];exact⟨rfl,rfl⟩) hn hd cj
 ·refine⟨L2,?_⟩;have gD:(jH kp T).length=N:=bq.len;have:((jH kp T).set r .dead).set s (.d none n t x)=ag T (iY r s (.d none n t x) 0 T):=by
   refine Cq (by rw[List.length_set,List.length_set,gD,ct,hI.len]) (λz=>?_);rw[amc hI.len bX,aF,aF,hg];by_cases hz:z=s
   ·subst hz;rw[if_pos ⟨rfl,by rw[List.length_set,gD];exact bX⟩,if_pos rfl]
   ·rw[if_neg (λe=>hz e.1),if_neg hz];by_cases du:z=r
    ·subst du;have og:z<(jH kp T).length:=by
      apply Classical.byContradiction;intro lg;rw[dZ (by rw[hI.len];rw[gD]at lg;omega)]at hr;cases hr
     rw[if_pos ⟨rfl,og⟩,if_pos (.inl rfl)]
    ·rw[if_neg (λe=>du e.1)];by_cases af:(T.getD z .dead).on r=true
     ·have hk:kp z (T.getD z .dead)=true:=by
       show (z != s&&z != r&&(T.getD z .dead).on r)=true;rw[af];simp[hz,du]
      rw[if_pos hk,if_pos (.inr af)]
     ·have hk:¬kp z (T.getD z .dead)=true:=by
       show ¬(z != s&&z != r&&(T.getD z .dead).on r)=true;rw[Bool.not_eq_true]at af;rw[af];simp
      rw[if_neg hk,if_neg (λh=>h.elim du af)]
  rw[<-this];exact hI2
theorem wL[ae]{w:World}{a:Act}{m:M (List (Nat×V))}:{ss:List Nat}->{T:List V}->{L:Nat->aj}->{ups:List (Nat×V)}->{log:List Nat}->Inv w0 L0 N vs T a w L->(sW N ss m).ai T ups log ->
  ∃T1 L1 bF log2,Inv w0 L0 N vs T1 a w L1/\m.ai T1 bF log2/\ag T ups=ag T1 bF
 | [],T,L,ups,log,hI,h=>⟨T,L,ups,log,hI,h,rfl⟩
 | s::l,T,L,ups,log,hI,h=>by
  obtain⟨eA,rfl,h⟩:=h;dsimp only at h;generalize bc:T.getD s .dead=v at h;split at h
  ·rename_i r t';obtain⟨log2,rfl,h⟩:=h;dsimp only at h;generalize vB:T.getD r .dead=u at h;split at h
   ·rename_i n t x;split at h
    ·rename_i hc;obtain⟨hn,hd,bX,bo⟩:=hc;obtain⟨Ts,l1,l2,rfl,dC,hk,h⟩:=M.al h;have bH:Ts=T:=by rw[kS dC (by rw[Nat.zero_add,hI.len])];rfl
     subst bH;obtain⟨bF,l3,l4,rfl,h1,h2⟩:=M.al h;obtain⟨rfl,_⟩:=h2;obtain⟨aC,h1⟩:=M.om h1;obtain⟨L',gU⟩:=Inv.ame hI bc vB hn hd bX bo hk;obtain⟨T1,L1,jd,fq,k1,k2,k3⟩:=wL gU h1;exact⟨T1,L1,jd,fq,k1,k2,by rw[kH];exact k3⟩
    ·exact wL hI h
   ·exact wL hI h
  ·exact wL hI h
end
def Ti(C:Ctx)(X:TypeId)(f t:Nat):M V :=
 .ask (Hb t) (match oT C X with
  | some ta=>match bw f ta with
   | some (off,t1)=>.ret (.ptr t [.aZ f off] t1)
   | none=>.fail
  | none=>.fail)
section
variable{P:Program}{C:Ctx}{w w' w0:World}{S S':Nat->Prop}{L L' L0:Nat->aj}{s N:Nat}{vs:List Nat}{T T':List V}{tm tm':Array Value}{a:Act}
theorem afK{v:V}{c:Value}(hs:az L T tm s v w c)(hb:v.eY=true):∃g,c = .pointer (some ⟨g,0,none⟩)/\L g = .own s []:=by
 cases v with
 | box l n t x =>
  obtain⟨_,g,cur,e,h1,h2,_⟩:=hs;exact⟨g,h1,h2⟩
 | hole u p =>
  cases u with
  | box l n t x =>
   obtain⟨_,_,_,_,_,_,_,h⟩:=hs;obtain⟨_,g,cur,e,h1,h2,_⟩:=h;exact⟨g,h1,h2⟩
  | _=>simp[V.eY]at hb
 | bN k n t x =>
  unfold V.eY at hb;split at hb
  ·rename_i he;cases he
  ·rename_i he;cases he
  ·rename_i he;cases he;cases t with
   | agg t =>
    obtain⟨g,cur,e,h1,h2,_⟩:=hs;exact⟨g,h1,h2⟩
   | _=>exact hs.elim
  ·cases hb
 | _=>simp[V.eY]at hb
theorem akI[ae](hI:Inv w0 L0 N vs T a w L)(hC:bA P C){o:Oper}{X:TypeId}{t f d:Nat}{v:V}{log:List Nat}(ho:o.op = .fieldAddr X (.tmp t) f)
  (h:(Ti C X f t).ai T v log) (bc:∀r,v.on r=true->r∈vs):aK P o vs T a w L d v:=by
 obtain⟨⟨hq,_⟩,aC,rfl,h⟩:=h;obtain⟨g,h1,h2⟩:=afK (hI.aV t) (afB hq);split at h
 ·rename_i ta jF;split at h
  ·rename_i off t1 hc;obtain⟨rfl,_⟩:=h;have fm:a.eval (.tmp t)=_:=h1;refine aK.ptr hI (g:=g) ?_ h2 bc;simp[execOp,ho,fm,XS hC jF hc,node]
  ·exact h.elim
 ·exact h.elim
def lS(r:Nat)(q:List Nat)(o s:Nat):Nat->List Nat->aj:=λz q2 =>
 if z=r then match cut q q2 with
  | some (y::rest)=>if y=o then .own s (0::rest)else .own r q2
  | _=>.own r q2
 else if z=s then .other else .own z q2
theorem sR[ae]{r s:Nat}{q:List Nat}{o:Nat}{z:Nat}{q2:List Nat}{z':Nat}{q3:List Nat}(h:lS r q o s z q2 = .own z' q3):
  (z=r/\∃rest,q2=q++o::rest/\z'=s/\q3=0::rest)\/(z=r/\z'=r/\q3=q2/\∀rest,q2≠q++o::rest)\/(z≠r/\z≠s/\z'=z/\q3=q2):=by
 unfold lS at h;split at h
 ·rename_i hz;split at h
  ·rename_i y rest hc;split at h
   ·rename_i hy;injection h with h1 h2;subst hy;exact .inl ⟨hz,rest,nM hc,h1.symm,h2.symm⟩
   ·rename_i hy;injection h with h1 h2;refine .inr (.inl ⟨hz,h1.symm,h2.symm,λfc he=>?_⟩);rw[he,me]at hc;simp only[Option.some.injEq,List.cons.injEq]at hc;exact hy hc.1.symm
  ·rename_i cj;injection h with h1 h2;refine .inr (.inl ⟨hz,h1.symm,h2.symm,λfc he=>?_⟩);exact cj o fc (by rw[he,me])
 ·rename_i hz;split at h
  ·cases h
  ·rename_i hs;injection h with h1 h2;exact .inr (.inr ⟨hz,hs,h1.symm,h2.symm⟩)
theorem amh[ae]{r s:Nat}{q:List Nat}{o:Nat}{X:Nat->Prop}(hr:X r)(hs:X s)(hM:r≠s):fi (lS r q o s) X:=by
 refine⟨λz q2 hX=>?_,λz q2 z' q3 hX h=>?_,λz q2 z2 q3 z' q4 h1 h2=>?_,λz q2=>?_⟩
 ·unfold lS;rw[if_neg (λe:z=r=>hX (e▸hr)),if_neg (λe:z=s=>hX (e▸hs))]
 ·rcases sR h with⟨_,_,_,rfl,_⟩|⟨_,rfl,_⟩|⟨_,_,rfl,_⟩
  ·exact hs
  ·exact hr
  ·exact hX
 ·rcases sR h1 with⟨rfl,rest,rfl,rfl,rfl⟩|⟨rfl,rfl,rfl,hn⟩|⟨g1,g2,rfl,rfl⟩
  ·rcases sR h2 with⟨rfl,fc,rfl,_,he⟩|⟨rfl,he,_⟩|⟨_,g2,he,_⟩
   ·injection he with _ he;exact⟨rfl,by rw[he]⟩
   ·exact absurd he.symm hM
   ·exact absurd he.symm g2
  ·rcases sR h2 with⟨_,fc,_,he,_⟩|⟨rfl,_,he,_⟩|⟨g1,_,he,_⟩
   ·exact absurd he hM
   ·exact⟨rfl,he⟩
   ·exact absurd he.symm g1
  ·rcases sR h2 with⟨_,fc,_,he,_⟩|⟨_,he,_⟩|⟨_,_,h3,h4⟩
   ·exact absurd he g2
   ·exact absurd he g1
   ·exact⟨h3,h4⟩
 ·unfold lS
  repeat' split
  all_goals simp
theorem amg[ae]{r s:Nat}{q:List Nat}{o:Nat}{rest:List Nat}:lS r q o s r (q++o::rest) = .own s (0::rest):=by
 unfold lS;rw[if_pos rfl,me];simp
theorem C7[ae]{r s:Nat}{q:List Nat}{o:Nat}{q2:List Nat}(h:∀rest,q2≠q++o::rest):lS r q o s r q2 = .own r q2:=by
 unfold lS;rw[if_pos rfl];split
 ·rename_i y rest hc;split
  ·rename_i hy;subst hy;exact absurd (nM hc) (h rest)
  ·rfl
 ·rfl
theorem J8{g o:Nat}{cur:Array Value}{e:TypeId}{v:Value}(h:w.heap[g]?=some (.cells cur e (0,0))):(w.setCell ⟨g,o,none⟩ v).heap[g]?=some (.cells (cur.setIfInBounds o v) e (0,0)):=by
 simp[World.setCell,Array.getElem?_modify,h]
theorem sG{g o k:Nat}{v:Value}(h:k≠g):(w.setCell ⟨g,o,none⟩ v).heap[k]?=w.heap[k]?:=by
 simp only[World.setCell,Array.getElem?_modify];rw[if_neg (Ne.symm h)]
theorem akn{p:List St}{k n:Nat}{t:Ty}{x:t.den}{l:Option Nat}{z:D}{log:List Nat}(h:(p4 p k n t x).ai T (l,z) log):l=none:=by
 unfold p4 at h;split at h
 ·split at h
  ·obtain⟨_,y,_,h⟩:=h;obtain⟨_,_,_,_,_,h⟩:=M.al h;exact (Prod.mk.inj h.1).1
  ·exact h.elim
 ·split at h
  ·split at h
   ·obtain⟨_,_,_,_,_,h⟩:=M.al h;exact (Prod.mk.inj h.1).1
   ·exact h.elim
  ·exact h.elim
 ·exact h.elim
theorem XQ{p:List St}{u:V}{l:Option Nat}{z:D}{log:List Nat}(h:(dn p u).ai T (l,z) log):u.root=l:=by
 cases u with
 | box l0 n t x =>
  obtain⟨zz,l1,l2,rfl,h1,h2⟩:=M.al h;obtain⟨h2,_⟩:=h2;cases h2;rfl
 | d l0 n t x =>
  simp only[dn]at h;split at h
  ·obtain⟨zz,l1,l2,rfl,h1,h2⟩:=M.al h;obtain⟨h2,_⟩:=h2;cases h2;rfl
  ·exact h.elim
 | dead=>exact h.elim
 | bC _=>exact h.elim
 | rp _ _ _=>exact h.elim
 | ptr _ _ _=>exact h.elim
 | view _ _ _=>exact h.elim
 | hole _ _=>exact h.elim
 | part _ _ _ _ _=>exact h.elim
 | bN _ _ _ _=>exact (akn h).symm
 | same _ _=>exact h.elim
theorem Inv.amd[ae](hI:Inv w0 L0 N vs T a w L){s r n:Nat}{p:List St}{u u':V}{e:TypeId}{te:Ty}{x:List te.den}{log log2:List Nat}(hs:T.getD s .dead = .view r p (.slice e te))(hr:T.getD r .dead=u)(hu:u.eY=true)(bX:s<N)(c7:r<N)
  (hz:(dn p u).ai T (none,⟨n,.slice e te,x⟩) log) (hm:(fH p u (.slice e te) []).ai T u' log2) (hn:n≠0) (cG:∀z,z≠s->(T.getD z .dead).dY r=false) :
  ∃L',Inv w0 L0 N vs ((T.set r (.hole u' p)).set s (.d none n (.slice e te) x)) a w L':=by
 have b9:=XQ hz;obtain⟨lB,vo,uV,B5⟩:=Jy hm;have bo:=hI.aV s;rw[hs]at bo;have hM:r≠s:=by
  rintro rfl
  rw[hs]at hr;subst hr;simp[V.eY]at hu
 have hzv:(qo p (T.getD r .dead)).ai T (none,⟨n,.slice e te,x⟩) log:=by
  rw[hr];cases u with
  | box l0 n0 t0 x0=>exact hz
  | hole _ _=>exact hz
  | bN _ _ _ _=>exact hz
  | _=>simp[V.eY]at hu
 obtain⟨cs,hf,br,_,cr⟩:=Dc hI bo hzv;have bb:=hI.aV r;rw[hr]at bb;obtain⟨hb,_,_,gG,lh⟩:=kF hz bb;obtain⟨g,cur,e',k1,k2,k3,k4⟩:=hb;have bH:((T.set r (.hole u' p)).set s (.d none n (.slice e te) x)).getD s .dead = .d none n (.slice e te) x:=by
  rw[aF,if_pos ⟨rfl,by simp[hI.len,bX]⟩]
 have bB:((T.set r (.hole u' p)).set s (.d none n (.slice e te) x)).getD r .dead = .hole u' p:=by
  rw[aF,if_neg (λh=>hM h.1),aF,if_pos ⟨rfl,by rw[hI.len];exact c7⟩]
 have bn:∀z,z≠r->z≠s->((T.set r (.hole u' p)).set s (.d none n (.slice e te) x)).getD z .dead=T.getD z .dead:=by
  intro z h1 h2;rw[aF,if_neg (λh=>h2 h.1),aF,if_neg (λh=>h1 h.1)]
 have mK:∀z,z≠s->(T.getD z .dead).on r=true->∃p' t',T.getD z .dead = .ptr r p' t'/\shallow p'=true:=by
  intro z gI af;have hb:=cG z gI;unfold V.dY at hb;rw[af,Bool.true_and]at hb;generalize T.getD z .dead=v at hb af;cases v with
  | ptr r2 p2 t2 =>
   have:r2=r:=by simpa[V.on,V.root]using af
   subst this;exact⟨p2,t2,rfl,by simpa using hb⟩
  | _=>simp at hb
 refine⟨_,Inv.gr (f:=lS r (node [] 0 p).1 (node [] 0 p).2 s) (X:=λz=>z=r\/z=s\/(T.getD z .dead).on r=true) (nl:=λ_=>.free) hI (amh (.inl rfl) (.inr (.inl rfl)) hM) (Wd.refl hI _) (λ_ _ _ _ _ h=>by cases h) hI.size (by simp[hI.len]) hI.dB ?_ ?_ ?_ ?_ ?_⟩
 ·intro k z q bT h;by_cases h1:z=r
  ·subst h1;rw[bB];rfl
  ·by_cases h2:z=s
   ·subst h2;rw[bH];simp[V.aJ,hn,Ty.depth]
   ·rw[bn z h1 h2];unfold aS at h;split at h
    ·obtain⟨s0,q0,e0,f0⟩:=eD h;rcases sR f0 with⟨_,_,_,h3,_⟩|⟨_,h3,_⟩|⟨_,_,h3,h4⟩
     ·exact absurd h3 h2
     ·exact absurd h3 h1
     ·subst h3;exact hI.owner k _ _ e0
    ·cases h
 ·intro z r' bT af aX;have bT:=not_or.1 bT;have dV:=not_or.1 bT.2;rcases aX with rfl|rfl|aX
  ·exact absurd af dV.2
  ·rw[hs];rfl
  ·by_cases h2:r'=s
   ·subst h2;rw[hs];rfl
   ·obtain⟨p',t',he,_⟩:=mK r' h2 aX;rw[he];rfl
 ·intro z bT;have bT:=not_or.1 bT;have dV:=not_or.1 bT.2;exact⟨bn z bT.1 dV.1,rfl⟩
 ·intro z r' bT af;by_cases h1:z=r
  ·subst h1;rw[bB]at af;simp[V.on,V.root,lB,b9]at af
  ·by_cases h2:z=s
   ·subst h2;rw[bH]at af;simp[V.on,V.root]at af
   ·rw[bn z h1 h2]at af;exact hI.roots z r' af
 ·intro z bT;by_cases h1:z=r
  ·subst h1;rw[bB];refine⟨by rw[lB,b9],g,cur,e',?_,k2,by simp only[Ty.sz]at k3;omega,?_⟩
   ·rw[cP hI (by rw[k1];simp),k1];exact C7 (λrest h=>by have:=congrArg List.length h;simp at this)
   ·refine Jx (T2:=_) (cur:=cur) (e':=e') (g':=g) (cur':=cur.setIfInBounds (node [] 0 p).2 (.slice none 0 0)) bb hz hm (λr' aX=>by rw[b9]at aX;cases aX) ?_ ?_
    ·refine⟨λk hk=>?_,λk q2 hk hq IM=>?_,k1,?_,k2,J8 k2,by simp,λi hi=>?_,λk hk=>hI.inj k g z _ hk k1⟩
     ·rw[b9]at hk ⊢;rcases hk with hk|⟨_,_,hk,_⟩
      ·exact⟨.inl (dX hI hk),sG (by rintro rfl;rw[k1]at hk;cases hk)⟩
      ·cases hk
     ·refine⟨?_,sG (by rintro rfl;rw[k1]at hk;injection hk with _ hk;exact hq hk.symm)⟩;rw[cP hI (by rw[hk];simp),hk];exact C7 (λrest h=>IM ⟨0,rest,by simp[Ty.sz],by simpa using h⟩)
     ·rw[cP hI (by rw[k1];simp),k1];exact C7 (λrest h=>by have:=congrArg List.length h;simp at this)
     ·rw[Array.getElem?_setIfInBounds,if_neg (by simp only[Ty.sz]at hi;omega)]
    ·have hc:((cur.setIfInBounds (node [] 0 p).2 (.slice none 0 0)).toList.drop (node [] 0 p).2).take (Ty.slice e te).sz=[.slice none 0 0]:=by
      simp only[Ty.sz]at k3 ⊢;apply List.ext_getElem?;intro i;rw[List.getElem?_take];split
      ·obtain rfl:i=0:=by omega
       rw[List.getElem?_drop,Nat.add_zero,Array.getElem?_toList,Array.getElem?_setIfInBounds,if_pos rfl,if_pos (by omega)];rfl
      ·exact (List.getElem?_eq_none (by simp;omega)).symm
     rw[hc];cases n with
     | zero=>exact absurd rfl hn
     | succ n=>simp only[Own];exact .inl (by constructor<;>first|trivial|rfl)
  ·by_cases h2:z=s
   ·subst h2;rw[bH];refine⟨by simp,cs,hf,?_⟩;refine Own.move (λk hk=>?_) (λk d rest hd hk=>⟨?_,rfl⟩) br
    ·rcases hk with hk|⟨_,_,hk,_⟩
     ·exact⟨.inl (dX hI hk),rfl⟩
     ·cases hk
    ·simp only[Ty.sz]at hd;obtain rfl:d=0:=by omega
     rw[cP hI (by rw[hk];simp),hk];simp only[ep,Nat.add_zero,Nat.zero_add,List.nil_append];exact amg
   ·rw[bn z h1 h2];have af:(T.getD z .dead).on r=true:=by
     rcases bT with h|h|h
     ·exact absurd h h1
     ·exact absurd h h2
     ·exact h
    obtain⟨p',t',he,dU⟩:=mK z h2 af;have bl:=hI.aV z;rw[he]at bl ⊢;obtain⟨g2,j1,j2⟩:=bl;refine⟨g2,j1,?_⟩;rw[qd dU]at j2 ⊢;rw[cP hI (by rw[j2];simp),j2];exact C7 (λrest h=>by have:=congrArg List.length h;simp at this)
end
def qg:List St->List St->Bool
 | [],[]=>true
 | .aZ i o::p,.aZ i' o'::p'=>i==i'&&o==o'&&qg p p'
 | .idx s i::p,.idx s' i'::p'=>s==s'&&i==i'&&qg p p'
 | _,_=>false
theorem Kj:{p p':List St}->qg p p'=true->p=p'
 | [],[],_=>rfl
 | .aZ i o::p,.aZ i' o'::p',h=>by
  simp only[qg,Bool.and_eq_true,beq_iff_eq]at h;rw[h.1.1,h.1.2,Kj h.2]
 | .idx s i::p,.idx s' i'::p',h=>by
  simp only[qg,Bool.and_eq_true,beq_iff_eq]at h;rw[h.1.1,h.1.2,Kj h.2]
 | [],.aZ _ _::_,h|[],.idx _ _::_,h | .aZ _ _::_,[],h | .idx _ _::_,[],h | .aZ _ _::_,.idx _ _::_,h | .idx _ _::_,.aZ _ _::_,h=>by simp[qg]at h
def HK(C:Ctx)(vs:List Nat)(N:Nat)(kids:List Nat)(X:TypeId)(r:Nat)(p:List St)(u:V)(p':List St)(x:Operand):M (List (Nat×V)):=
 match x with
 | .tmp s=>if qg p p'=true/\vs.contains s=false/\s≠r/\r<N then
   .get s λv=>match v with
   | .d none k (.slice e te) y=>(dn p u).bind λz =>
    if h:z.2.t = .slice e te then
     if C.ty X=some (.slice e te)/\(z.2.n<=k\/te.depth+1<=k)/\z.2.n≠0/\z.1=none/\u.eY=true then
      (fH p u (.slice e te) y).bind λu2=>gQ false r s kids (.ret [(r,u2),(s,.dead)])
     else .fail
    else .fail
   | _=>.fail
  else .fail
 | _=>.fail
def M.calm{α:Type}:M α->Prop
 | .ret _=>True
 | .fail=>True
 | .get _ _=>False
 | .cD _ _ k=>∀x,(k x).calm
 | .bj _ k=>k.calm
 | .ask _ _=>False
 | .ite _ x y=>x.calm/\y.calm
theorem rD{α:Type}{T T':List V}:{m:M α}->{a:α}->{log:List Nat}->m.calm->m.ai T a log->m.ai T' a log
 | .ret _,_,_,_,h=>h
 | .fail,_,_,_,h=>h.elim
 | .get _ _,_,_,c,_=>c.elim
 | .cD _ _ k,a,log,c,⟨x,hx,h⟩=>⟨x,hx,rD (c x) h⟩
 | .bj _ k,a,log,c,⟨hb,h⟩=>⟨hb,rD (m:=k) c h⟩
 | .ask _ _,_,_,c,_=>c.elim
 | .ite _ x y,a,log,c,h=>by
  rcases h with⟨hb,h⟩|⟨hb,h⟩
  ·exact .inl ⟨hb,rD (m:=x) c.1 h⟩
  ·exact .inr ⟨hb,rD (m:=y) c.2 h⟩
theorem iC{α β:Type}{f:α->M β}(hf:∀a,(f a).calm):{m:M α}->m.calm->(m.bind f).calm
 | .ret a,_=>hf a
 | .fail,_=>trivial
 | .get _ _,c=>c.elim
 | .cD _ _ k,c=>λx=>iC hf (c x)
 | .bj _ k,c=>iC (m:=k) hf c
 | .ask _ _,c=>c.elim
 | .ite _ x y,c=>⟨iC (m:=x) hf c.1,iC (m:=y) hf c.2⟩
theorem rM:(p:List St)->(n:Nat)->(t:Ty)->(x:t.den)->(aP p n t x).calm
 | [],_,_,_=>trivial
 | .aZ i off::p,n,.agg t,x=>by
  simp only[aP];split
  ·split
   ·exact rM _ _ _ _
   ·trivial
  ·trivial
 | .idx sz i::p,n+1,.slice _ t,x=>by
  simp only[aP];split
  ·exact λy=>rM _ _ _ _
  ·trivial
 | .idx _ _::p,0,.slice _ _,_=>by simp only[aP];trivial
 | .aZ _ _::p,_,.int _,_ | .aZ _ _::p,_,.bool,_ | .aZ _ _::p,_,.str,_ | .aZ _ _::p,_,.raw _,_ | .aZ _ _::p,_,.cap _ _,_ | .aZ _ _::p,_,.unit,_ | .aZ _ _::p,_,.pair _ _,_ | .aZ _ _::p,_,.slice _ _,_=>by simp only[aP];trivial
 | .idx _ _::p,_,.int _,_ | .idx _ _::p,_,.bool,_ | .idx _ _::p,_,.str,_ | .idx _ _::p,_,.raw _,_ | .idx _ _::p,_,.cap _ _,_ | .idx _ _::p,_,.unit,_ | .idx _ _::p,_,.pair _ _,_ | .idx _ _::p,_,.agg _,_=>by simp only[aP];trivial
theorem W3[ae]{f:(t1:Ty)->t1.den->M t1.den}(hf:∀t1 x1,(f t1 x1).calm):(i:Nat)->(t:Ty)->(x:t.den)->(ij i t x f).calm
 | 0,.pair _ _,x=>by simp only[ij];refine iC ?_ (hf _ _);intro _;trivial
 | i+1,.pair _ b,x=>by simp only[ij];refine iC ?_ (W3 hf i b x.2);intro _;trivial
 | 0,.int _,x|0,.bool,x|0,.str,x|0,.raw _,x|0,.cap _ _,x|0,.unit,x|0,.agg _,x|0,.slice _ _,x=>by simp only[ij];exact hf _ _
 | _+1,.int _,x|_+1,.bool,x|_+1,.str,x|_+1,.raw _,x|_+1,.cap _ _,x|_+1,.unit,x|_+1,.agg _,x|_+1,.slice _ _,x=>by simp only[ij];trivial
theorem CC[ae]:(p:List St)->(t:Ty)->(x:t.den)->(t':Ty)->(y:t'.den)->(eN p t x t' y).calm
 | [],t,x,t',y=>by
  simp only[eN];split<;>trivial
 | .aZ i off::p,.agg t,x,t',y=>by
  simp only[eN];split
  ·split
   ·exact W3 (λt1 x1=>CC p t1 x1 t' y) _ _ _
   ·trivial
  ·trivial
 | .idx sz i::p,.slice _ t,x,t',y=>by
  simp only[eN];split
  ·intro z;refine iC ?_ (CC p t z t' y);intro _ _;trivial
  ·trivial
 | .aZ _ _::p,.int _,_,_,_ | .aZ _ _::p,.bool,_,_,_ | .aZ _ _::p,.str,_,_,_ | .aZ _ _::p,.raw _,_,_,_ | .aZ _ _::p,.cap _ _,_,_,_ | .aZ _ _::p,.unit,_,_,_ | .aZ _ _::p,.pair _ _,_,_,_ | .aZ _ _::p,.slice _ _,_,_,_=>by simp only[eN];trivial
 | .idx _ _::p,.int _,_,_,_ | .idx _ _::p,.bool,_,_,_ | .idx _ _::p,.str,_,_,_ | .idx _ _::p,.raw _,_,_,_ | .idx _ _::p,.cap _ _,_,_,_ | .idx _ _::p,.unit,_,_,_ | .idx _ _::p,.pair _ _,_,_,_ | .idx _ _::p,.agg _,_,_,_=>by simp only[eN];trivial
theorem akm[ae]{p:List St}{k n:Nat}{t:Ty}{x:t.den}:(p4 p k n t x).calm:=by
 unfold p4;split
 ·split
  ·intro y;refine iC ?_ (rM _ _ _ _);intro _;trivial
  ·trivial
 ·split
  ·split
   ·refine iC ?_ (rM _ _ _ _);intro _;trivial
   ·trivial
  ·trivial
 ·trivial
theorem ak6[ae]{p:List St}(u:V):(dn p u).calm:=by
 cases u with
 | box l n t x=>refine iC ?_ (rM _ _ _ _);intro _;trivial
 | d l n t x =>
  simp only[dn];split
  ·(refine iC ?_ (rM _ _ _ _);intro _;trivial)
  ·trivial
 | bN k n t x=>exact akm
 | _=>trivial
theorem aj9[ae]{p:List St}{t:Ty}{y:t.den}(u:V):(fH p u t y).calm:=by
 cases u with
 | box l n t x=>refine iC ?_ (CC _ _ _ _ _);intro _;trivial
 | d l n t x =>
  simp only[fH];split
  ·(refine iC ?_ (CC _ _ _ _ _);intro _;trivial)
  ·trivial
 | _=>trivial
section
variable{P:Program}{C:Ctx}{w w' w0:World}{S S':Nat->Prop}{L L' L0:Nat->aj}{s N:Nat}{vs:List Nat}{T T':List V}{tm tm':Array Value}{a:Act}
theorem Inv.ghost[ae](hI:Inv w0 L0 N vs T a w L){r:Nat}{p:List St}{u:V}(hr:T.getD r .dead = .hole u p)(hu:u.eY=true)(c7:r<N)(cG:∀z,(T.getD z .dead).dY r=false\/(T.getD z .dead).on r=false):
  ∃g cur e,L g = .own r (node [] 0 p).1/\w.heap[g]?=some (.cells cur e (0,0))/\(node [] 0 p).2<cur.size/\u.root=none/\Inv w0 L0 N vs (T.set r u) a (w.setCell ⟨g,(node [] 0 p).2,none⟩ (.slice none 0 0)) L:=by
 have hs:=hI.aV r;rw[hr]at hs;obtain⟨h0,g,cur,e,h1,h2,h3,h4⟩:=hs;refine⟨g,cur,e,h1,h2,h3,h0,?_⟩;have hT:∀z,(T.set r u).getD z .dead=if z=r/\r<T.length then u else T.getD z .dead:=λz=>aF _ _ _ _ _
 have bB:(T.set r u).getD r .dead=u:=by rw[hT,if_pos ⟨rfl,by rw[hI.len];exact c7⟩]
 have br:u.aJ=true:=by cases u<;>simp[V.eY,V.aJ]at hu ⊢
 have rZ:∀k,L k ≠ .own r (node [] 0 p).1->(w.setCell ⟨g,(node [] 0 p).2,none⟩ (.slice none 0 0)).heap[k]?=w.heap[k]?:=λk hk=>sG (by rintro rfl;exact hk h1);refine Inv.upd (λz=>z=r\/(T.getD z .dead).on r=true) hI hI.size (by simp[hI.len]) hI.dB ?_ (λk hk=>hI.free k (by simpa[World.setCell]using hk)) hI.inj ?_ ?_ ?_ ?_ ?_ ?_
 ·refine⟨hI.fr.os,hI.fr.tape,hI.fr.output,by simpa[World.setCell]using hI.fr.size,hI.fr.drawn,λk hk h=>?_,hI.fr.gy⟩;obtain⟨e1,e2⟩:=hI.fr.aR k hk h;refine⟨e1,?_⟩;rw[rZ k (by rw[e1];rcases h with h|h<;>rw[h]<;>simp),e2]
 ·intro k z q hk;rw[hT];split
  ·exact br
  ·exact hI.owner k z q hk
 ·intro z hz k hk;refine⟨rfl,rZ k (λhe=>?_)⟩;have hz:=not_or.1 hz;rcases hk with hk|⟨r',q,hk,aX⟩
  ·rw[he]at hk;cases hk
  ·rw[he]at hk;injection hk with hk _;subst hk;rcases aX with aX|aX
   ·exact hz.1 aX.symm
   ·exact hz.2 aX
 ·intro z hz;have hz:=not_or.1 hz;exact⟨by rw[hT,if_neg (λh=>hz.1 h.1)],rfl⟩
 ·intro z r' af;rw[hT]at af;split at af
  ·simp[V.on,h0]at af
  ·exact hI.roots z r' af
 ·intro z r' hz af _;have hz:=not_or.1 hz;refine⟨by rw[hT,if_neg (λh=>hz.2 (by rw[<-h.1];exact af))],rfl⟩
 ·intro z hz;by_cases du:z=r
  ·subst du;rw[bB];exact az.aR (L':=L) (T':=T.set z u) (tm':=a.tmps) (λk _=>⟨rfl,rfl⟩) (λr' aX _=>by simp[V.on,h0]at aX) h4
  ·have af:(T.getD z .dead).on r=true:=hz.resolve_left du;rw[hT,if_neg (λh=>du h.1)];have hd:=(cG z).resolve_right (by rw[af];simp);unfold V.dY at hd;rw[af,Bool.true_and]at hd;have bl:=hI.aV z;generalize T.getD z .dead=v at hd bl af;cases v with
   | ptr r2 p2 t2=>exact bl
   | _=>simp at hd
theorem alo[ae]{g o:Nat}{cur:Array Value}{e:TypeId}{v c:Value}(hg:w.heap[g]?=some (.cells cur e (0,0)))(ho:o<cur.size):
  (w.setCell ⟨g,o,none⟩ v).setRow g (putCells (cur.setIfInBounds o v) o [c])=w.setRow g (putCells cur o [c]):=by
 have hp:putCells (cur.setIfInBounds o v) o [c]=putCells cur o [c]:=by
  apply Array.ext_getElem?;intro i;by_cases hi:i=o
  ·subst hi;have e1:=CU (cur:=cur.setIfInBounds i v) (o:=i) (cs:=[c]) (by simp;omega);have e2:=CU (cur:=cur) (o:=i) (cs:=[c]) (by simp;omega);have e3:=e1.trans e2.symm;have:=congrArg (λl=>l[0]?) e3;simpa[List.getElem?_take,List.getElem?_drop]using this
  ·rw[CV (by simp;omega) i (by simp;omega),CV (by simp;omega) i (by simp;omega),Array.getElem?_setIfInBounds,if_neg (Ne.symm hi)]
 have hh:((w.setCell ⟨g,o,none⟩ v).setRow g (putCells (cur.setIfInBounds o v) o [c])).heap=(w.setRow g (putCells cur o [c])).heap:=by
  rw[hp];apply Array.ext_getElem?;intro i;by_cases hi:i=g
  ·subst hi;rw[setRow_heap _ i _ _ _ _ (J8 hg),setRow_heap _ i _ _ _ _ hg]
  ·rw[setRow_other _ g i _ hi,setRow_other _ g i _ hi,sG hi]
 calc (w.setCell ⟨g,o,none⟩ v).setRow g (putCells (cur.setIfInBounds o v) o [c])
   = { w.setRow g (putCells cur o [c])with heap:=((w.setCell ⟨g,o,none⟩ v).setRow g (putCells (cur.setIfInBounds o v) o [c])).heap }:=rfl
  _={ w.setRow g (putCells cur o [c])with heap:=(w.setRow g (putCells cur o [c])).heap }:=by rw[hh]
  _=w.setRow g (putCells cur o [c]):=rfl
theorem alV[ae](hI:Inv w0 L0 N vs T a w L)(hC:bA P C){o:Oper}{X:TypeId}{t r:Nat}{kids:List Nat}{p p':List St}{u:V}{x:Operand}{ups:List (Nat×V)}{log:List Nat}(ho:o.op = .store X (.tmp t) x)(aw:o.dst=none)
  (ht:addrOf t (T.getD t .dead)=some (r,p)) (cN:∀r p,addrOf t (T.getD t .dead)=some (r,p)->∃g,a.eval (.tmp t) = .pointer (some ⟨g,(node [] 0 p).2,none⟩)/\L g = .own r (node [] 0 p).1)
  (hr:T.getD r .dead = .hole u p') (h:(HK C vs N kids X r p u p' x).ai T ups log):Step P o w0 L0 N vs (ag T ups) a w:=by
 cases x with
 | tmp s =>
  simp only[HK]at h;split at h
  ·rename_i hc;obtain⟨IB,iP,bo,c7⟩:=hc;obtain rfl:=Kj IB;obtain⟨eA,rfl,h⟩:=h;dsimp only at h;generalize bc:T.getD s .dead=v at h;split at h
   ·rename_i k e te y;obtain⟨⟨l,n',t',x'⟩,l1,l2,rfl,hz,h⟩:=M.al h;dsimp only at h;split at h
    ·rename_i ht';subst ht';split at h
     ·rename_i uT;obtain⟨hX,ko,hG,rfl,Cc⟩:=uT;obtain⟨u2,l3,l4,rfl,hm,h⟩:=M.al h;obtain⟨cG,log2,h⟩:=jt h;obtain⟨rfl,_⟩:=h;have T7:∀z,(T.getD z .dead).dY r=false\/(T.getD z .dead).on r=false:=by
       intro z;by_cases gI:z=s
       ·right;rw[gI,bc];rfl
       ·exact .inl (cG z gI)
      obtain⟨g,cur,e2,g1,g2,g3,b9,bq⟩:=Inv.ghost hI hr Cc c7 T7;obtain⟨g',pt,Ii⟩:=cN r p ht;obtain rfl:=hI.inj g g' r _ g1 Ii;have iH:∀z,z≠r->(T.set r u).getD z .dead=T.getD z .dead:=λz hz=>by rw[aF,if_neg (λh=>hz h.1)]
      have agv:(T.set r u).getD r .dead=u:=by rw[aF,if_pos ⟨rfl,by rw[hI.len];exact c7⟩]
      have hR:=hI.aV s;rw[bc]at hR;obtain⟨_,cs,hf,br⟩:=hR;have hf:cs=[a.tmps.getD s undef]:=hf;have dL:=Own.one br;have aM:(execOp a.eval o).run P w = .ok .skip (w.setRow g (putCells cur (node [] 0 p).2 cs)):=by
       have a6:=sF (P:=P) (w:=w) (o:=(node [] 0 p).2) (hC X _ hX) g2 (show Form (.slice e te) cs (a.eval (.tmp s))from hf) dL (Own.len br) (by simp only[Ty.sz];omega);simp[execOp,ho,pt,a6]
      have hlen:cs.length=1:=by rw[hf];rfl
      have ahW:(w.setCell ⟨g,(node [] 0 p).2,none⟩ (.slice none 0 0)).setRow g (putCells (cur.setIfInBounds (node [] 0 p).2 (.slice none 0 0)) (node [] 0 p).2 cs)=w.setRow g (putCells cur (node [] 0 p).2 cs):=by
       rw[hf];exact alo g2 g3
      intro K Q hK;unfold Oper.wp;rw[aM,Oper.upon_skip,aw,<-ahW];have km:(ag T [(r,u2),(s,V.dead)]).length=N:=by rw[ct,hI.len]
      have bX:s<N:=by
       rcases Nat.lt_or_ge s N with h|h
       ·exact h
       ·rw[dZ (by rw[hI.len];exact h)]at bc;cases bc
      have bH:(ag T [(r,u2),(s,V.dead)]).getD s .dead = .dead:=by
       show ((T.set r u2).set s .dead).getD s .dead = .dead;rw[aF,if_pos ⟨rfl,by simp[hI.len,bX]⟩]
      have bB:(ag T [(r,u2),(s,V.dead)]).getD r .dead=u2:=by
       show ((T.set r u2).set s .dead).getD r .dead=u2;rw[aF,if_neg (λh=>bo h.1.symm),aF,if_pos ⟨rfl,by rw[hI.len];exact c7⟩]
      have bn:∀z,z≠r->z≠s->(ag T [(r,u2),(s,V.dead)]).getD z .dead=T.getD z .dead:=by
       intro z h1 h2;show ((T.set r u2).set s .dead).getD z .dead=_;rw[aF,if_neg (λh=>h2 h.1),aF,if_neg (λh=>h1 h.1)]
      have hz1:(dn p u).ai (T.set r u) (none,⟨n',.slice e te,x'⟩) l1:=rD (ak6 u) hz;have kn:(fH p u (.slice e te) y).ai (T.set r u) u2 l3:=rD (aj9 u) hm;refine hK a _ _ (Inv.store (m:=n') (src:=some s) bq agv hz1 kn (by rw[b9];simp) g1 (J8 g2) (by simp only[Ty.sz,Array.size_setIfInBounds];omega) (by rw[hlen];rfl) ?_ km bB ?_ ?_ ?_)
      ·intro s' bL;injection bL with bL;subst bL;have gF:s∉vs:=λbV=>by
        rw[List.contains_iff_mem.2 bV]at iP;cases iP
       exact⟨bo,gF,bH,by rw[iH s bo,bc];rfl⟩
      ·intro z h1 h2 af;have HX:z≠s:=λe=>h2 (by rw[e]);rw[iH z h1]at af ⊢;refine .inr ⟨bn z h1 HX,.inl ?_⟩;have hd:=(T7 z).resolve_right (by rw[af];simp);unfold V.dY at hd;rw[af,Bool.true_and]at hd;generalize T.getD z .dead=v at hd;cases v with
       | ptr r2 p2 t2 =>
        have:u.dj=false:=by cases u<;>simp[V.eY,V.dj]at Cc ⊢
        simp only[bY,this,Bool.not_false,Bool.and_true,Bool.or_eq_true];exact .inr (by simpa using hd)
       | _=>simp at hd
      ·intro z h1 h2 af;rw[iH z h1];exact bn z h1 (λe=>h2 (by rw[e]))
      ·obtain⟨k9,c9,Iy⟩:=Own.G8 (t:=.slice e te) ko br;refine Own.eO c9 (λk hk=>?_) (λk d rest hd hk=>?_) Iy
       ·rcases hk with hk|⟨_,_,hk,_⟩
        ·refine⟨.inl (dX bq hk),?_⟩;rw[setRow_other _ g k _ (by rintro rfl;rw[g1]at hk;cases hk),sG (by rintro rfl;rw[g1]at hk;cases hk)]
        ·cases hk
       ·have aG:L k = .own s (d::rest):=by simpa using hk
        have Uw:k≠g:=by rintro rfl;rw[g1]at aG;injection aG with aG _;exact bo aG.symm
        have gB:aS (dx r (node [] 0 p).1 (node [] 0 p).2 (Ty.slice e te).sz n' (some s)) (w.setCell ⟨g,(node [] 0 p).2,none⟩ (.slice none 0 0)) L (λ_=>.free) k=if rest.length<n' then .own r ((node [] 0 p).1++((node [] 0 p).2+d)::rest)else .an:=by
         rw[cP bq (by rw[aG];simp),aG];simp only[ep,dx];rw[if_neg bo,if_pos trivial,if_pos hd]
        refine⟨by rw[setRow_other _ g k _ Uw,sG Uw],λh=>by rw[gB,if_pos h],λh=>.inl (by rw[gB,if_neg (by omega)])⟩
     ·exact h.elim
    ·exact h.elim
   ·exact h.elim
  ·exact h.elim
 | const c=>exact h.elim
 | func f=>exact h.elim
 | global g=>exact h.elim
end
end Go.Proofs.YthfgcmoipebheaaGreat.P.Am
set_option linter.constructorNameAsVariable false
namespace Go.Proofs.YthfgcmoipebheaaGreat.P.Am
def ej:List (Nat×V)->Nat->Option V
 | [],_=>none
 | u::l,s=>cond (u.1==s) (some u.2) (ej l s)
def GQ(q:Nat)(l:List Nat):Nat:=bh+(2*((q - bh) / 2 % 100000+100000*((q - bh) / 2 / 100000 ||| iU false l))+1)
def M.eC{α:Type}(ov:List (Nat×V)):M α->M α
 | .ret a=>.ret a
 | .fail=>.fail
 | .get s k=>match ej ov s with
  | some v=>(k v).eC ov
  | none=>.get s λv=>(k v).eC ov
 | .cD t m k=>.cD t m λx=>(k x).eC ov
 | .bj b k=>.bj b (k.eC ov)
 | .ask q k=>cond ((q - bh) % 2==0)
   (match ej ov ((q - bh) / 2)with
    | some v=>.bj (v.eY&&decide (bh<=q)) (k.eC ov)
    | none=>.ask q (k.eC ov))
   (.bj ((ov.all λu=>fb q u.1 u.2)&&decide (bh<=q)) (.ask (GQ q (ov.map (·.1))) (k.eC ov)))
 | .ite b x y=>.ite b (x.eC ov) (y.eC ov)
theorem WI{ov:List (Nat×V)}{s:Nat}{v:V}(h:ej ov s=some v):(s,v)∈ov:=by
 induction ov with
 | nil=>cases h
 | cons u l ih =>
  simp only[ej]at h;cases hu:(u.1==s)with
  | true =>
   rw[hu]at h;simp only[cond_true,Option.some.injEq]at h;obtain⟨u1,u2⟩:=u;simp only[beq_iff_eq]at hu;subst hu h;simp
  | false =>
   rw[hu]at h;exact List.mem_cons_of_mem _ (ih h)
theorem aj1{ov:List (Nat×V)}{s:Nat}(h:ej ov s=none):s∉ov.map (·.1):=by
 induction ov with
 | nil=>simp
 | cons u l ih =>
  simp only[ej]at h;cases hu:(u.1==s)with
  | true=>rw[hu]at h;cases h
  | false =>
   rw[hu]at h;simp only[List.map_cons,List.mem_cons,not_or];exact⟨λe=>by rw[e]at hu;simp at hu,ih h⟩
theorem ako{x:Nat}(h:(x % 2==0)=false):x % 2=1:=by
 rw[beq_eq_false_iff_ne]at h;omega
theorem pay{r mm:Nat}(hr:r<100000):(2*(r+100000*mm)+1) % 2=1/\(2*(r+100000*mm)+1) / 2=r+100000*mm/\(r+100000*mm) / 100000=mm/\(r+100000*mm) % 100000=r:=by
 refine⟨?_,?_,?_,?_⟩<;>omega
theorem afs(q:Nat)(l:List Nat):GQ q l - bh=2*((q - bh) / 2 % 100000+100000*((q - bh) / 2 / 100000 ||| iU false l))+1:=Nat.add_sub_cancel_left _ _
theorem Xx{T T':List V}{ov:List (Nat×V)}{q:Nat}(hl:T'.length=T.length)(hq:(q - bh) % 2=0)(hb:(T'.getD ((q - bh) / 2) .dead).eY=true)(au:(q - bh) / 2<T.length):dR q T'=true:=by
 unfold dR;rw[Bool.and_eq_true];refine⟨GR λs hs=>?_,Bool.or_eq_true_iff.2 (.inr (decide_eq_true (by rw[hl];exact au)))⟩;unfold fb;rw[hq,Nat.zero_add];by_cases he:s=(q - bh) / 2
 ·rw[he,hb,Bool.or_true];rfl
 ·have:(s != (q - bh) / 2)=true:=bne_iff_ne.2 he;rw[this,Bool.true_or];rfl
theorem akv[ae]{T T':List V}{ov:List (Nat×V)}{q:Nat}(hl:T'.length=T.length)(hT:∀s,T'.getD s .dead=(ej ov s).getD (T.getD s .dead))(Ca:(q - bh) % 2=1)(vn:∀u∈ov,fb q u.1 u.2=true)(hb:dR (GQ q (ov.map (·.1))) T=true):dR q T'=true:=by
 have e:=afs q (ov.map (·.1));have hr:(q - bh) / 2 % 100000<100000:=Nat.mod_lt _ (Nat.zero_lt_succ 99999);generalize hm:((q - bh) / 2 / 100000 ||| iU false (ov.map (·.1)))=mm at e;obtain⟨e1,e2,e3,e4⟩:=pay (mm:=mm) hr;unfold dR at hb ⊢;rw[Bool.and_eq_true]at hb ⊢;refine⟨GR λs hs=>?_,Bool.or_eq_true_iff.2 (.inl (beq_iff_eq.2 Ca))⟩;rw[Nat.zero_add,hT];cases hv:ej ov s with
 | some v=>exact vn (s,v) (WI hv)
 | none =>
  have dM:s<T.length:=by omega
  have:=ur hb.1 s dM;unfold fb at this ⊢;rw[e,e1,e2,e3,e4,Nat.zero_add]at this;rw[Ca];simp only[Option.getD_none];have Ub:mm.testBit (s+1)=((q - bh) / 2 / 100000).testBit (s+1):=by
   rw[<-hm,Nat.testBit_or,vQ (aj1 hv),Bool.or_false]
  have agA:mm.testBit 0=((q - bh) / 2 / 100000).testBit 0:=by
   rw[<-hm,Nat.testBit_or,vR,Bool.or_false]
  rw[Ub,agA,show ((1:Nat)==0)=false from rfl,cond_false]at this;rw[show ((1:Nat)==0)=false from rfl,cond_false];exact this
theorem oo[ae]{α:Type}{T T':List V}{ov:List (Nat×V)}(hl:T'.length=T.length)(fQ:∀s,s∈ov.map (·.1)->s<T.length)(hT:∀s,T'.getD s .dead=(ej ov s).getD (T.getD s .dead))(m:M α):
  ∀{a:α} {log:List Nat},(m.eC ov).ai T a log->∃aC,m.ai T' a aC:=by
 induction m with
 | ret _=>intro a log h;exact⟨[],h.1,rfl⟩
 | fail=>intro a log h;exact h.elim
 | get s k ih =>
  intro a log h;simp only[M.eC]at h;have hs:=hT s;split at h
  ·rename_i v hv;rw[hv]at hs;obtain⟨aC,h⟩:=ih v h;exact⟨s::aC,aC,rfl,by rw[hs];exact h⟩
  ·rename_i hv;rw[hv]at hs;obtain⟨l1,rfl,h⟩:=h;obtain⟨aC,h⟩:=ih _ h;exact⟨s::aC,aC,rfl,by rw[hs];exact h⟩
 | cD _ _ k ih =>
  intro a log h;obtain⟨x,hx,h⟩:=h;obtain⟨aC,h⟩:=ih x h;exact⟨aC,x,hx,h⟩
 | bj _ k ih =>
  intro a log h;obtain⟨hb,h⟩:=h;obtain⟨aC,h⟩:=ih h;exact⟨aC,hb,h⟩
 | ite _ x y ihx ihy =>
  intro a log h;rcases h with⟨hb,h⟩|⟨hb,h⟩
  ·obtain⟨aC,h⟩:=ihx h;exact⟨aC,.inl ⟨hb,h⟩⟩
  ·obtain⟨aC,h⟩:=ihy h;exact⟨aC,.inr ⟨hb,h⟩⟩
 | ask q k ih =>
  intro a log h;simp only[M.eC]at h;cases hq:((q - bh) % 2==0)with
  | true =>
   rw[hq]at h;simp only[cond_true]at h;simp only[beq_iff_eq]at hq;split at h
   ·rename_i v hv;obtain⟨hb,h⟩:=h;simp only[Bool.and_eq_true,decide_eq_true_eq]at hb;obtain⟨aC,h⟩:=ih h;exact⟨q::aC,⟨Xx (ov:=ov) hl hq (by rw[hT,hv];exact hb.1) (fQ _ (List.mem_map_of_mem (f:=(·.1)) (WI hv))),hb.2⟩,aC,rfl,h⟩
   ·rename_i hv;obtain⟨⟨hb,hk⟩,l1,rfl,h⟩:=h;obtain⟨aC,h⟩:=ih h;unfold dR at hb;rw[Bool.and_eq_true,hq]at hb;have au:(q - bh) / 2<T.length:=by simpa using hb.2
    have:=ur hb.1 _ au;unfold fb at this;rw[hq,Nat.zero_add]at this;exact⟨q::aC,⟨Xx (ov:=ov) hl hq (by rw[hT,hv];simpa using this) au,hk⟩,aC,rfl,h⟩
  | false =>
   rw[hq]at h;obtain⟨vn,⟨hb,hk⟩,l1,rfl,h⟩:=h;simp only[Bool.and_eq_true,decide_eq_true_eq,List.all_eq_true]at vn;obtain⟨aC,h⟩:=ih h;have Ca:=ako hq;exact⟨q::aC,⟨akv hl hT Ca vn.1 hb,vn.2⟩,aC,rfl,h⟩
def SB(N:Nat)(kids:List Nat)(s r:Nat)(p:List St)(t':Ty)(u:V)(m:M (List (Nat×V))):M (List (Nat×V)):=
 (dn p u).bind λz=>match z with
  | (none,⟨n,t,x⟩) =>
   if n≠0/\t.depth≠0/\s<N/\r<N/\s≠r/\t=t' then
    match p with
    | []=>gQ true r s kids ((m.eC [(r,.dead),(s,.d none n t x)]).bind λups=>.ret ((r,.dead)::(s,.d none n t x)::ups))
    | _::_=>match t,x with
     | .slice e te,x=>(fH p u (.slice e te) []).bind λu'=>gQ false r s kids ((m.eC [(r,.hole u' p),(s,.d none n (.slice e te) x)]).bind λups=>.ret ((r,.hole u' p)::(s,.d none n (.slice e te) x)::ups))
     | _,_=>m
   else m
  | _=>m
def lR(N:Nat)(kids:Nat->List Nat):List Nat->M (List (Nat×V))->M (List (Nat×V))
 | [],m=>m
 | s::l,m=>.get s λv=>match v with
  | .view r p t=>.get r λu=>match u with
   | .d _ _ _ _=>match p with
    | []=>sW N [s] (lR N kids l m)
    | _::_=>lR N kids l m
   | .box _ _ _ _=>SB N (kids r) s r p t u (lR N kids l m)
   | _=>lR N kids l m
  | _=>lR N kids l m
section
variable{P:Program}{C:Ctx}{w w' w0:World}{S S':Nat->Prop}{L L' L0:Nat->aj}{s N:Nat}{vs:List Nat}{T T':List V}{tm tm':Array Value}{a:Act}
theorem Yt[ae]{r s:Nat}{v1 v2:V}(hM:s≠r)(hr:r<T.length)(hs:s<T.length):(∀z,((T.set r v1).set s v2).getD z .dead=(ej [(r,v1),(s,v2)] z).getD (T.getD z .dead))/\∀z,z∈[(r,v1),(s,v2)].map (·.1)->z<T.length:=by
 refine⟨λz=>?_,λz hz=>?_⟩
 ·simp only[ej];rw[aF,aF];by_cases h1:z=r
  ·subst h1;simp[hM.symm,hr]
  ·have e1:(r==z)=false:=by simpa using Ne.symm h1
   by_cases h2:z=s
   ·subst h2;rw[e1];simp[hs]
   ·have e2:(s==z)=false:=by simpa using Ne.symm h2
    rw[e1,e2];simp[h1,h2]
 ·simp only[List.map_cons,List.map_nil,List.mem_cons,List.not_mem_nil,or_false]at hz;rcases hz with rfl|rfl
  ·exact hr
  ·exact hs
theorem afJ[ae]{m:M (List (Nat×V))}{kids:List Nat}{r:Nat}{p:List St}{t':Ty}{u:V}{ups:List (Nat×V)}{log:List Nat}(hI:Inv w0 L0 N vs T a w L)(hs:T.getD s .dead = .view r p t')(hr:T.getD r .dead=u)(uS:∃l n t x,u = .box l n t x)
  (h0:(SB N kids s r p t' u m).ai T ups log):∃T1 L1 bF log2,Inv w0 L0 N vs T1 a w L1/\m.ai T1 bF log2/\ag T ups=ag T1 bF:=by
 obtain⟨z,l1,l2,rfl,hz,h⟩:=M.al h0;obtain⟨l,n,t,x⟩:=z;have fo:∀{log},m.ai T ups log->∃T1 L1 bF log2,Inv w0 L0 N vs T1 a w L1/\m.ai T1 bF log2/\ag T ups=ag T1 bF:=λh=>⟨T,L,ups,_,hI,h,rfl⟩;have hu:u.eY=true:=by obtain⟨l0,n0,t0,x0,rfl⟩:=uS;rfl
 cases l with
 | some _=>exact fo h
 | none =>
  dsimp only at h;split at h
  ·rename_i hc;obtain⟨hn,hd,bX,c7,bo,rfl⟩:=hc;have hTl:T.length=N:=hI.len;cases p with
   | nil =>
    obtain⟨cG,log2,h⟩:=jt h;obtain⟨bF,l3,l4,rfl,h1,h2⟩:=M.al h;obtain⟨rfl,_⟩:=h2;obtain⟨mE,fQ⟩:=Yt (T:=T) (v1:=.dead) (v2:=.d none n t x) bo (by omega) (by omega);obtain⟨fq,h1⟩:=oo (T':=(T.set r .dead).set s (.d none n t x)) (by simp) fQ mE m h1;have IQ:(qo [] (T.getD r .dead)).ai T (none,⟨n,t,x⟩) l1:=by
     rw[hr];obtain⟨l0,n0,t0,x0,rfl⟩:=uS;exact hz
    have cj:ni r s T=true:=by
     unfold ni;rw[List.all_eq_true];intro b hb;obtain⟨i,hi⟩:=List.mem_iff_getElem?.1 hb;simp only[List.getElem?_mapIdx,Option.map_eq_some_iff]at hi;obtain⟨v,hv,rfl⟩:=hi;have kj:T.getD i .dead=v:=by simp[List.getD_eq_getElem?_getD,hv]
     simp only[id_eq,Bool.or_eq_true,beq_iff_eq,bne_iff_ne];by_cases n5:i=s
     ·exact .inl n5
     ·right;have:=cG i n5;rw[kj]at this;simpa[V.on]using this
    obtain⟨L',gU⟩:=Inv.take hI hs bX IQ hn hd cj;exact⟨_,L',bF,fq,gU,h1,rfl⟩
   | cons st p =>
    dsimp only at h;split at h
    ·rename_i e te x;obtain⟨u',l3,l4,rfl,hm,h⟩:=M.al h;obtain⟨cG,log2,h⟩:=jt h;obtain⟨bF,l5,l6,rfl,h1,h2⟩:=M.al h;obtain⟨rfl,_⟩:=h2;obtain⟨mE,fQ⟩:=Yt (T:=T) (v1:=.hole u' (st::p)) (v2:=.d none n (.slice e te) x) bo (by omega) (by omega);obtain⟨fq,h1⟩:=oo (T':=(T.set r (.hole u' (st::p))).set s (.d none n (.slice e te) x)) (by simp) fQ mE m h1;obtain⟨L',gU⟩:=Inv.amd hI hs hr hu bX c7 hz hm hn cG;exact⟨_,L',bF,fq,gU,h1,rfl⟩
    ·exact fo h
  ·exact fo h
theorem nz[ae]{w:World}{a:Act}{m:M (List (Nat×V))}{kids:Nat->List Nat}:{ss:List Nat}->{T:List V}->{L:Nat->aj}->{ups:List (Nat×V)}->{log:List Nat}->Inv w0 L0 N vs T a w L->(lR N kids ss m).ai T ups log ->
  ∃T1 L1 bF log2,Inv w0 L0 N vs T1 a w L1/\m.ai T1 bF log2/\ag T ups=ag T1 bF
 | [],T,L,ups,log,hI,h=>⟨T,L,ups,log,hI,h,rfl⟩
 | s::l,T,L,ups,log,hI,h=>by
  obtain⟨eA,rfl,h⟩:=h;dsimp only at h;generalize bc:T.getD s .dead=v at h;split at h
  ·rename_i r p t';obtain⟨log2,rfl,h⟩:=h;dsimp only at h;generalize vB:T.getD r .dead=u at h;split at h
   ·split at h
    ·obtain⟨T1,L1,bF,fq,k1,k2,k3⟩:=wL hI h;obtain⟨T2,L2,jd,iT,j1,j2,j3⟩:=nz k1 k2;exact⟨T2,L2,jd,iT,j1,j2,k3.trans j3⟩
    ·exact nz hI h
   ·obtain⟨T1,L1,bF,fq,k1,k2,k3⟩:=afJ hI bc vB ⟨_,_,_,_,rfl⟩ h;obtain⟨T2,L2,jd,iT,j1,j2,j3⟩:=nz k1 k2;exact⟨T2,L2,jd,iT,j1,j2,k3.trans j3⟩
   ·exact nz hI h
  ·exact nz hI h
end
def De(C:Ctx)(vs:List Nat)(N:Nat)(kids:List Nat)(X:TypeId)(r:Nat)(u:V)(x:Operand)(m:M (List (Nat×V))):M (List (Nat×V)):=
 match u with
 | .box _ _ t0 _=>(cC C X x).bind λv=>match v with
  | .d l 0 t y=>if t=t0/\C.ty X=some t/\t.depth≠0/\r<N/\l≠some r then
    gQ false r r kids (.bj (fu vs (.box l 0 t y)) (.ret [(r,.box l 0 t y)]))
   else m
  | _=>m
 | _=>m
def oA(r:Nat):Nat->List Nat->aj:=λz q=>if z=r then (match q with|[]=>.own r []|_::_=>.other)else .own z q
section
variable{P:Program}{C:Ctx}{w w' w0:World}{S S':Nat->Prop}{L L' L0:Nat->aj}{s N:Nat}{vs:List Nat}{T T':List V}{tm tm':Array Value}{a:Act}
theorem Dd{r z z':Nat}{q q':List Nat}(h:oA r z q = .own z' q'):z'=z/\q'=q/\(z=r->q=[]):=by
 unfold oA at h;split at h
 ·rename_i hz;split at h
  ·injection h with h1 h2;exact⟨by rw[<-h1,hz],h2.symm,λ_=>rfl⟩
  ·cases h
 ·rename_i hz;injection h with h1 h2;exact⟨h1.symm,h2.symm,λe=>absurd e hz⟩
theorem Yw[ae]{r:Nat}{X:Nat->Prop}(hr:X r):fi (oA r) X:=by
 refine⟨λz q hX=>?_,λz q z' q' hX h=>?_,λz q z2 q2 z' q' h1 h2=>?_,λz q=>?_⟩
 ·unfold oA;rw[if_neg (λe:z=r=>hX (e▸hr))]
 ·obtain⟨rfl,_⟩:=Dd h;exact hX
 ·obtain⟨rfl,rfl,_⟩:=Dd h1;obtain⟨h3,h4,_⟩:=Dd h2;exact⟨h3,h4⟩
 ·unfold oA
  repeat' split
  all_goals simp
theorem al2[ae](hI:Inv w0 L0 N vs T a w L)(hC:bA P C){o:Oper}{X:TypeId}{t r:Nat}{kids:List Nat}{u:V}{x:Operand}{m:M (List (Nat×V))}{ups:List (Nat×V)}{log:List Nat}(ho:o.op = .store X (.tmp t) x)(aw:o.dst=none)
  (ht:addrOf t (T.getD t .dead)=some (r,[])) (cN:∀r p,addrOf t (T.getD t .dead)=some (r,p)->∃g,a.eval (.tmp t) = .pointer (some ⟨g,(node [] 0 p).2,none⟩)/\L g = .own r (node [] 0 p).1)
  (hr:T.getD r .dead=u) (hm:∀{log:List Nat},m.ai T ups log->Step P o w0 L0 N vs (ag T ups) a w) (h:(De C vs N kids X r u x m).ai T ups log):Step P o w0 L0 N vs (ag T ups) a w:=by
 unfold De at h;split at h
 ·rename_i l0 n0 t0 x0;obtain⟨v,l1,l2,rfl,hx,h2⟩:=M.al h;split at h2
  ·rename_i l tt y;split at h2
   ·rename_i hc;obtain⟨rfl,hX,hd,c7,vf⟩:=hc;obtain⟨cG,log2,h3⟩:=jt h2;obtain⟨aI,rfl,_⟩:=h3;obtain⟨g,pt,hg⟩:=cN r [] ht;have bb:=hI.aV r;rw[hr]at bb;obtain⟨_,g2,cur,e,k1,k2,k3,k4,k5⟩:=bb;obtain rfl:=hI.inj g g2 r _ hg k2;have dO:∃s0,(∀r',l=some r'->(T.getD r' .dead).deep=true)/\∃cs,Form tt cs (a.eval x)/\Own w L (SL L l) s0 0 tt y [] 0 cs:=by
     rcases jO hI hx with⟨s,_,_,h⟩|⟨_,h⟩
     ·exact⟨s,h⟩
     ·exact⟨0,h L T a.tmps 0 w⟩
    obtain⟨s0,r4,cs,hf,bO⟩:=dO;have dL:=Own.one bO;have hlen:=Own.len bO;have agQ:a.eval (.tmp t) = .pointer (some ⟨g,0,none⟩):=pt;have aM:(execOp a.eval o).run P w = .ok .skip (w.setRow g (putCells cur 0 cs)):=by
     have a6:=sF (P:=P) (w:=w) (o:=0) (hC X _ hX) k3 hf dL hlen (by omega);simp[execOp,ho,agQ,a6]
    have fW:(putCells cur 0 cs).toList=cs:=by
     simp[putCells,hlen,k4]
    intro K Q hK;unfold Oper.wp;rw[aM,Oper.upon_skip,aw];have bB:(ag T [(r,V.box l 0 tt y)]).getD r .dead = .box l 0 tt y:=by
     show (T.set r _).getD r .dead=_;rw[aF,if_pos ⟨rfl,by rw[hI.len];exact c7⟩]
    have bn:∀z,z≠r->(ag T [(r,V.box l 0 tt y)]).getD z .dead=T.getD z .dead:=by
     intro z hz;show (T.set r _).getD z .dead=_;rw[aF,if_neg (λh=>hz h.1)]
    have mK:∀z,z≠r->(T.getD z .dead).on r=true->∃p' t',T.getD z .dead = .ptr r p' t'/\shallow p'=true:=by
     intro z gI af;have hb:(T.getD z .dead).dY r=false:=cG z gI;unfold V.dY at hb;rw[af,Bool.true_and]at hb;generalize T.getD z .dead=v at hb af;cases v with
     | ptr r2 p2 t2 =>
      have:r2=r:=by simpa[V.on,V.root]using af
      subst this;exact⟨p2,t2,rfl,by simpa using hb⟩
     | _=>simp at hb
    have r3:∀r',l=some r'->r'≠r/\(T.getD r' .dead).on r=false:=by
     intro r' dE;have bg:r'≠r:=λe=>vf (by rw[dE,e]);refine⟨bg,?_⟩;cases af:(T.getD r' .dead).on r with
     | false=>rfl
     | true =>
      obtain⟨p',t',he,_⟩:=mK r' bg af;have:=r4 r' dE;rw[he]at this;simp[V.deep]at this
    have Iw:∀k,k≠g->(w.setRow g (putCells cur 0 cs)).heap[k]?=w.heap[k]?:=λk hk=>setRow_other w g k _ hk;refine hK a _ _ (Inv.gr (f:=oA r) (X:=λz=>z=r\/(T.getD z .dead).on r=true) (nl:=λ_=>.free) hI (Yw (.inl rfl)) ?_ (λ_ _ _ _ _ h=>by cases h) hI.size (by rw[ct,hI.len]) hI.dB ?_ ?_ ?_ ?_ ?_)
    ·refine⟨rfl,rfl,rfl,by simp[World.setRow],Nat.le_refl _,λk hk hx=>Iw k ?_,λ_ _=>rfl,λ_ _ _ _ h=>by cases h⟩
     rintro rfl
     exact hx r _ hg (.inl rfl)
    ·intro k z q hz hk;by_cases du:z=r
     ·subst du;rw[bB];rfl
     ·rw[bn z du];unfold aS at hk;split at hk
      ·obtain⟨s0,q0,e0,f0⟩:=eD hk;obtain⟨rfl,rfl,_⟩:=Dd f0;exact hI.owner k _ _ e0
      ·cases hk
    ·intro z r' hz af aX;have hz:=not_or.1 hz;rcases aX with rfl|aX
     ·exact absurd af hz.2
     ·by_cases h2:r'=r
      ·subst h2;exact absurd af hz.2
      ·obtain⟨p',t',he,_⟩:=mK r' h2 aX;rw[he];rfl
    ·intro z hz;have hz:=not_or.1 hz;exact⟨bn z hz.1,rfl⟩
    ·intro z r' hz af;by_cases h1:z=r
     ·subst h1;rw[bB]at af;exact sy aI r' af
     ·rw[bn z h1]at af;exact hI.roots z r' af
    ·intro z hz;by_cases h1:z=r
     ·subst h1;rw[bB];refine⟨λr' aX=>?_,g,putCells cur 0 cs,e,k1,?_,setRow_heap w g cur _ e _ k3,by rw[CW (by omega)];exact k4,?_⟩
      ·rw[bn r' (r3 r' aX).1];exact r4 r' aX
      ·rw[cP hI (by rw[hg];simp),hg];simp[ep,oA,node]
      ·rw[fW];refine Own.dw (Rd.move (λk hk=>?_) (Own.eo bO));rcases hk with hk|⟨r',q,dE,hk⟩
       ·exact⟨.inl (dX hI hk),Iw k (by rintro rfl;rw[hg]at hk;cases hk)⟩
       ·obtain⟨h1,h2⟩:=r3 r' dE;refine⟨.inr ⟨r',q,dE,vY hI (Yw (X:=λz'=>z'=z\/(T.getD z' .dead).on z=true) (.inl rfl)) hk (not_or.2 ⟨h1,by rw[h2];simp⟩)⟩,Iw k ?_⟩
        rintro rfl
        rw[hg]at hk;injection hk with hk _;exact h1 hk.symm
     ·rw[bn z h1];have af:(T.getD z .dead).on r=true:=hz.resolve_left h1;obtain⟨p',t',he,dU⟩:=mK z h1 af;have bl:=hI.aV z;rw[he]at bl ⊢;obtain⟨g3,j1,j2⟩:=bl;refine⟨g3,j1,?_⟩;rw[qd dU]at j2 ⊢;rw[cP hI (by rw[j2];simp),j2];simp[ep,oA]
   ·exact hm h2
  ·exact hm h2
 ·exact hm h
end
def Hd(C:Ctx)(vs:List Nat)(X:TypeId)(d:Nat)(x:Operand)(m:M (List (Nat×V))):M (List (Nat×V)):=
 match x with
 | .tmp s=>.get s λv=>match v with
  | .d none k t y=>if k≠0/\t.depth≠0 then
    (if C.ty X=some t/\s≠d/\s<100000/\vs.contains d=true then gQ true s d [] (.ret [(d,.box none k t y),(s,.view d [] t)])else .fail)
   else m
  | _=>m
 | _=>m
section
variable{P:Program}{C:Ctx}{w w' w0:World}{S S':Nat->Prop}{L L' L0:Nat->aj}{s N:Nat}{vs:List Nat}{T T':List V}{tm tm':Array Value}{a:Act}
theorem alF[ae](hI:Inv w0 L0 N vs T a w L)(hC:bA P C){o:Oper}{X:TypeId}{x:Operand}{d:Nat}{m:M (List (Nat×V))}{ups:List (Nat×V)}{log:List Nat}(ho:o.op = .box X x)(aw:o.dst=some d)(hd:d<N)(hid:(T.getD d .dead).idle=true)
  (h:(Hd C vs X d x m).ai T ups log) (hm:∀log,m.ai T ups log->Step P o w0 L0 N vs (ag T ups) a w):Step P o w0 L0 N vs (ag T ups) a w:=by
 unfold Hd at h;split at h
 ·rename_i s;obtain⟨aC,rfl,h⟩:=h;generalize hv:T.getD s .dead=v at h;dsimp only at h;split at h
  ·rename_i k t y;split at h
   ·rename_i ve;obtain⟨hk0,nY⟩:=ve;split at h
    ·rename_i hc;obtain⟨hX,bK,hs5,rW⟩:=hc;obtain⟨cG,log2,h⟩:=jt h;obtain⟨rfl,_⟩:=h;clear hm;have cG:∀z,z≠d->(T.getD z .dead).on s=false:=λz hz=>by simpa using cG z hz
     have hR:=hI.aV s;rw[hv]at hR;obtain⟨_,cs,hf,bO⟩:=hR;have cV:=Form.cells hf (Own.one bO);have bX:s<N:=by
      rcases Nat.lt_or_ge s N with h|h
      ·exact h
      ·rw[dZ (by rw[hI.len];exact h)]at hv;cases hv
     have aM:(execOp a.eval o).run P w = .ok (.value (.pointer (some ⟨w.heap.size,0,none⟩))) (w.alloc (.cells (a.tmps.getD s undef).cells X)):=by
      have agR:a.tmps.getD s undef=a.eval (.tmp s):=rfl;rw[agR];simp[execOp,ho,Instr.box,newVar,newRow,newObj,Sem.run]
     have bH:(ag T [(d,V.box none k t y),(s,V.view d [] t)]).getD s .dead = .view d [] t:=by
      show ((T.set d _).set s _).getD s .dead=_;rw[aF,if_pos ⟨rfl,by simp[hI.len,bX]⟩]
     have bQ:(ag T [(d,V.box none k t y),(s,V.view d [] t)]).getD d .dead = .box none k t y:=by
      show ((T.set d _).set s _).getD d .dead=_;rw[aF,if_neg (λh=>bK h.1.symm),aF,if_pos ⟨rfl,by rw[hI.len];exact hd⟩]
     have bn:∀z,z≠d->z≠s->(ag T [(d,V.box none k t y),(s,V.view d [] t)]).getD z .dead=T.getD z .dead:=by
      intro z h1 h2;show ((T.set d _).set s _).getD z .dead=_;rw[aF,if_neg (λh=>h2 h.1),aF,if_neg (λh=>h1 h.1)]
     have fW:∀c z,z≠d->(a.put (some d) c).tmps.getD z undef=a.tmps.getD z undef:=λc z h=>jQ (by simpa using Ne.symm h);have vq:∀c,(a.put (some d) c).tmps.getD d undef=c:=λc=>by
      show (a.tmps.setIfInBounds d c).getD d undef=c;rw[dK,if_pos ⟨rfl,by rw[hI.size];exact hd⟩]
     refine Step.value (L':=aS (gK s [] 0 t.sz k d) w L (λg=>if g=w.heap.size then .own d []else .free)) aw aM ?_
     have Uz:aS (gK s [] 0 t.sz k d) w L (λg=>if g=w.heap.size then .own d []else .free) w.heap.size = .own d []:=by
      unfold aS;rw[if_neg (Nat.lt_irrefl _)];exact if_pos rfl
     have bl:(w.alloc (.cells (a.tmps.getD s undef).cells X)).heap.size=w.heap.size+1:=by simp
     have IT:Wd w (w.alloc (.cells (a.tmps.getD s undef).cells X)) L (λg=>if g=w.heap.size then .own d []else .free) (λz=>z=s\/z=d):=by
      refine⟨rfl,rfl,rfl,by omega,Nat.le_refl _,λk' aG _=>Go.RowKit.Below.heap_alloc w _ k' aG,λk' aG=>?_,λk' z q aG h=>?_⟩
      ·exact if_neg (by omega)
      ·change (if k'=w.heap.size then aj.own d []else aj.free)=_ at h
       split at h
       ·injection h with h _;exact .inr h.symm
       ·cases h
     have ahy:Own (w.alloc (.cells (a.tmps.getD s undef).cells X)) (aS (gK s [] 0 t.sz k d) w L (λg=>if g=w.heap.size then .own d []else .free)) (SL (aS (gK s [] 0 t.sz k d) w L (λg=>if g=w.heap.size then .own d []else .free)) none) d k t y [] 0 cs:=by
      refine Own.move (λk' aG=>⟨aG,Go.RowKit.Below.heap_alloc w _ k' ?_⟩) (λk' dd rest _ aG=>⟨aG,Go.RowKit.Below.heap_alloc w _ k' ?_⟩) (Own.taken (Nat.le_refl _) hI (λk' aG=>by
       rcases aG with aG|⟨_,_,aG,_⟩
       ·exact aG
       ·cases aG) bO)
      ·rcases aG with aG|⟨_,_,aG,_⟩
       ·unfold aS at aG;split at aG
        ·assumption
        ·change (if k'=w.heap.size then aj.own d []else aj.free)=_ at aG
         split at aG<;>cases aG
       ·cases aG
      ·unfold aS at aG;split at aG
       ·assumption
       ·change (if k'=w.heap.size then aj.own d []else aj.free)=_ at aG
        split at aG
        ·injection aG with _ aG;cases aG
        ·cases aG
     have nW:(a.tmps.getD s undef).cells.size=t.sz:=by rw[<-Array.length_toList,cV,Own.len bO]
     refine Inv.gr (X:=λz=>z=s\/z=d) hI (Xd bK) IT ?_ (by simp[Act.put,hI.size]) (by rw[ct,hI.len]) hI.dB ?_ ?_ ?_ ?_ ?_
     ·intro g g' z q hg h h';change (if g=w.heap.size then aj.own d []else aj.free)=_ at h
      split at h
      ·rename_i hgg;injection h with h1 h2;subst h1 h2;unfold aS at h';split at h'
       ·obtain⟨s0,q0,e0,f0⟩:=eD h';rcases pZ f0 with⟨_,i,rest,_,_,h3⟩|⟨h1,_,h2,_⟩
        ·cases h3
        ·exact absurd h2.symm h1
       ·change (if g'=w.heap.size then aj.own d []else aj.free)=_ at h'
        split at h'
        ·rename_i Ij;rw[hgg,Ij]
        ·cases h'
      ·cases h
     ·intro g z q hz h;rcases hz with rfl|rfl
      ·exfalso;unfold aS at h;split at h
       ·obtain⟨s0,q0,e0,f0⟩:=eD h;rcases pZ f0 with⟨_,_,_,_,h1,_⟩|⟨_,h1,h2,_⟩
        ·exact bK h1
        ·exact h1 h2.symm
       ·change (if g=w.heap.size then aj.own d []else aj.free)=_ at h
        split at h
        ·injection h with h _;exact bK h.symm
        ·cases h
      ·rw[bQ];rfl
     ·intro z r' hz af aX;have hz:=not_or.1 hz;rcases aX with rfl|rfl
      ·rw[cG z hz.2]at af;cases af
      ·exact V.jN hid
     ·intro z hz;have hz:=not_or.1 hz;exact⟨bn z hz.2 hz.1,fW _ z hz.2⟩
     ·intro z r' hz af;rcases hz with rfl|rfl
      ·rw[bH]at af;have:d=r':=by simpa[V.on,V.root]using af
       subst this;simpa using rW
      ·rw[bQ]at af;simp[V.on,V.root]at af
     ·intro z hz;rcases hz with rfl|rfl
      ·rw[bH,fW _ _ bK];refine⟨by rw[bQ];simp only[V.deep,Bool.and_eq_true,bne_iff_ne];exact⟨hk0,nY⟩,.inr ⟨w.heap.size,_,X,.inl (by rw[bQ];rfl),Uz,nZ _ _,by simp only[node];omega,?_⟩⟩;rw[cV];simp only[node,List.drop_zero];rw[List.take_of_length_le (by rw[Own.len bO];exact Nat.le_refl _)];exact hf
      ·rw[bQ,vq];refine⟨by simp,w.heap.size,_,X,rfl,Uz,nZ _ _,nW,?_⟩;rw[cV];exact ahy
    ·exact h.elim
   ·exact hm _ h
  ·exact hm _ h
 ·exact hm _ h
end
def pP(u:V):V->Bool
 | .ptr _ p _=>shallow p && !u.dj
 | .view _ p _=>(shallow p && !u.dj)||(match p with|[]=>u.dj|_=>false)
 | _=>false
def jV(r:Nat)(q:List Nat)(o sz i:Nat)(ls:List Nat):aj->aj
 | .own s z=>if s=r then (match cut q z with
   | some (y::rest)=>if o<=y/\y<o+sz then .own i ((y - o)::rest)else .other
   | _=>.other)
  else if ls.contains s then .an else .other
 | x=>x
def uM(r:Nat)(q:List Nat)(o sz i:Nat):aj->aj
 | .own j (y::rest)=>if j=i/\y<sz then .own r (q++(o+y)::rest)else .other
 | .own _ []=>.other
 | x=>x
def oY(r:Nat)(q:List Nat)(o sz i:Nat)(L L':Nat->aj):Nat->aj:=λk=>match L k with
 | .free=>uM r q o sz i (L' k)
 | .own s z=>if s=r/\Db q o sz z=true then uM r q o sz i (L' k)else .own s z
 | x=>x
def jl(r:Nat)(q:List Nat)(o sz:Nat)(l:aj):Prop:=l = .free\/∃z,l = .own r z/\kd q o sz z
section
variable{P:Program}{C:Ctx}{w w' w0:World}{S S':Nat->Prop}{L L' L0:Nat->aj}{s N:Nat}{vs:List Nat}{T T':List V}{tm tm':Array Value}{a:Act}
theorem BH{r:Nat}{q:List Nat}{o sz i:Nat}{l:aj}{s:Nat}{z:List Nat}(h:uM r q o sz i l = .own s z):∃y rest,l = .own i (y::rest)/\y<sz/\s=r/\z=q++(o+y)::rest:=by
 cases l with
 | own j z' =>
  cases z' with
  | nil=>cases h
  | cons y rest =>
   unfold uM at h;dsimp only at h;split at h
   ·rename_i hc;obtain⟨rfl,hy⟩:=hc;injection h with h1 h2;exact⟨y,rest,rfl,hy,h1.symm,h2.symm⟩
   ·cases h
 | an=>cases h
 | other=>cases h
 | free=>cases h
theorem rA[ae]{r:Nat}{q:List Nat}{o sz i k:Nat}(h:jl r q o sz (L k)):oY r q o sz i L L' k=uM r q o sz i (L' k):=by
 unfold oY;rcases h with h|⟨z,h,hu⟩
 ·rw[h]
 ·rw[h];dsimp only;rw[if_pos ⟨rfl,qn.2 hu⟩]
theorem uy[ae]{r:Nat}{q:List Nat}{o sz i k:Nat}(h:¬jl r q o sz (L k)):oY r q o sz i L L' k=L k:=by
 unfold oY;cases hl:L k with
 | own s z =>
  dsimp only;rw[if_neg]
  rintro⟨rfl,hu⟩
  exact h (.inr ⟨z,hl,qn.1 hu⟩)
 | an=>rfl
 | other=>rfl
 | free=>exact absurd (.inl hl) h
theorem Kr[ae]{r:Nat}{q:List Nat}{o sz i:Nat}{ls:List Nat}{l:aj}(h:¬jl r q o sz l):jV r q o sz i ls l = .an\/jV r q o sz i ls l = .other:=by
 cases l with
 | own s z =>
  unfold jV;dsimp only;split
  ·rename_i hs;subst hs;split
   ·rename_i y rest hc;rw[if_neg]
    ·exact .inr rfl
    ·rintro⟨h1,h2⟩
     refine h (.inr ⟨z,rfl,y - o,rest,by omega,?_⟩);rw[nM hc];congr 2;omega
   ·exact .inr rfl
  ·split<;>simp
 | an=>exact .inl rfl
 | other=>exact .inr rfl
 | free=>exact absurd (.inl rfl) h
theorem Ks[ae]{r:Nat}{q:List Nat}{o sz i:Nat}{ls:List Nat}{l:aj}{j:Nat}{z:List Nat}(h:jV r q o sz i ls l = .own j z):∃y rest,j=i/\z=y::rest/\l = .own r (q++(o+y)::rest):=by
 cases l with
 | own s z' =>
  unfold jV at h;dsimp only at h;split at h
  ·rename_i hs;subst hs;split at h
   ·rename_i y rest hc;split at h
    ·rename_i hb;injection h with h1 h2;refine⟨y - o,rest,h1.symm,h2.symm,?_⟩;rw[nM hc];congr 3;omega
    ·cases h
   ·cases h
  ·split at h<;>cases h
 | an=>cases h
 | other=>cases h
 | free=>cases h
theorem amn[ae]{r:Nat}{q:List Nat}{o sz i:Nat}{ls:List Nat}{y:Nat}{rest:List Nat}(h:y<sz):jV r q o sz i ls (.own r (q++(o+y)::rest)) = .own i (y::rest):=by
 unfold jV;dsimp only;rw[if_pos rfl,me];dsimp only;rw[if_pos ⟨by omega,by omega⟩,show o+y - o=y by omega]
theorem ao0{q:List Nat}{o sz:Nat}:¬kd q o sz []:=by
 rintro⟨d,rest,_,h⟩
 have:=congrArg List.length h;simp at this
theorem ao1{q:List Nat}{o sz:Nat}:¬kd q o sz q:=by
 rintro⟨d,rest,_,h⟩
 have:=congrArg List.length h;simp at this
theorem Inv.afL[ae](hI:Inv w0 L0 N vs T a w L){d:Nat}(hd:d<N)(hid:(T.getD d .dead).idle=true){r i:Nat}{p:List St}{ls:List Nat}{ps:List (Ty×Mode)}{rs:List (Ty×Nat)}{u u2:V}{n n':Nat}{t:Ty}{x y:t.den}{log log2:List Nat}{c:Value}
  (hr:T.getD r .dead=u) (hz:(dn p u).ai T (none,⟨n',t,x⟩) log) (hm:(fH p u t y).ai T u2 log2) (hn:t.depth<=n) (vj:t.depth<=n') {g0:Nat} {cur:Array Value} {e:TypeId}
  (hg:L g0 = .own r (node [] 0 p).1) (Up:w.heap[g0]?=some (.cells cur e (0,0)))
  (a7:Left w w' (λk=>jV r (node [] 0 p).1 (node [] 0 p).2 t.sz i ls (L k)) L' ps rs)
  (mH:∀k s q,L' k = .own s q->s=i)
  (vm:Own w' L' (λk=>L' k = .an) i n t y [] 0 ((cur.toList.drop (node [] 0 p).2).take t.sz)) (km:T'.length=N) (bB:T'.getD r .dead=u2)
  {V0:V} (bQ:T'.getD d .dead=V0) (uP:∀r,V0.on r=false) (uQ:∀L2 tm',az L2 T' tm' d V0 w' c)
  (hT:∀z,z≠d->z≠r->(T.getD z .dead).on r=true->(T'.getD z .dead = .dead/\(T.getD z .dead).aJ=false)\/(T'.getD z .dead=T.getD z .dead/\pP u (T.getD z .dead)=true))
  (gV:∀z,z≠d->z≠r->(T.getD z .dead).on r=false->T'.getD z .dead=T.getD z .dead) :
  Inv w0 L0 N vs T' (a.put (some d) c) w' (oY r (node [] 0 p).1 (node [] 0 p).2 t.sz i L L'):=by
 have b9:=XQ hz;obtain⟨lB,vo,uV,B5⟩:=Jy hm;have bb:=hI.aV r;rw[hr]at bb;obtain⟨_,_,_,gG,lh⟩:=kF hz bb;have bz:r≠d:=by
  refine cW hid ?_;rw[hr];exact gG
 have cK:∀k q,L k ≠ .own d q:=λk q h=>by
  have:=hI.owner k d q h;rw[V.jN hid]at this;cases this
 have mS:∀k,¬jl r (node [] 0 p).1 (node [] 0 p).2 t.sz (L k)->(oY r (node [] 0 p).1 (node [] 0 p).2 t.sz i L L' k=L k/\w'.heap[k]?=w.heap[k]?):=by
  intro k h;have au:k<w.heap.size:=hI.lt (λe=>h (.inl e));exact⟨uy h,(a7.aR k au (Kr h)).2⟩
 have ahb:∀k q,L' k = .own i q->jl r (node [] 0 p).1 (node [] 0 p).2 t.sz (L k):=by
  intro k q hk;apply Classical.byContradiction;intro hp;have au:k<w.heap.size:=hI.lt (λe=>hp (.inl e));have h9:=(a7.aR k au (Kr hp)).1;rw[hk]at h9;rcases Kr (i:=i) (ls:=ls) hp with h|h<;>rw[h]at h9<;>cases h9
 have fW:∀s',s'≠d->(a.put (some d) c).tmps.getD s' undef=a.tmps.getD s' undef:=λs' h=>jQ (by simpa using Ne.symm h);let X:Nat->Prop:=λz=>z=d\/z=r\/(T.getD z .dead).on r=true;have lp:∀z,¬X z->z≠d/\z≠r/\(T.getD z .dead).on r=false:=by
  intro z hz;have hz:=not_or.1 hz;have dV:=not_or.1 hz.2;exact⟨hz.1,dV.1,by simpa using dV.2⟩
 have ahv:∀k z,¬X z->(L k = .an\/∃r' q,L k = .own r' q/\(r'=z\/(T.getD z .dead).on r'=true))->¬jl r (node [] 0 p).1 (node [] 0 p).2 t.sz (L k):=by
  intro k z hz hk hp;obtain⟨h1,h2,h3⟩:=lp z hz;rcases hp with hp|⟨z',hp,_⟩
  ·rcases hk with hk|⟨_,_,hk,_⟩<;>rw[hp]at hk<;>cases hk
  ·rcases hk with hk|⟨r',q',hk,dr⟩
   ·rw[hp]at hk;cases hk
   ·rw[hp]at hk;injection hk with hk _;subst hk;rcases dr with rfl|dr
    ·exact h2 rfl
    ·rw[h3]at dr;cases dr
 refine Inv.upd X hI (by simp[Act.put,hI.size]) km hI.dB ?_ ?_ ?_ ?_ ?_ ?_ ?_ ?_ ?_
 ·refine⟨a7.os.trans hI.fr.os,a7.tape.trans hI.fr.tape,a7.output.trans hI.fr.output,Nat.le_trans hI.fr.size a7.size,Nat.le_trans hI.fr.drawn a7.drawn,λk hk h0=>?_,hI.fr.gy⟩;have h1:=hI.fr.aR k hk h0;have pz:¬jl r (node [] 0 p).1 (node [] 0 p).2 t.sz (L k):=by
   rintro (h|⟨z,h,_⟩)<;>rw[h1.1]at h<;>rcases h0 with h0|h0<;>rw[h0]at h<;>cases h
  have:=mS k pz;exact⟨this.1.trans h1.1,this.2.trans h1.2⟩
 ·intro k hk;have hf:=hI.free k (Nat.le_trans a7.size hk);rw[rA (.inl hf),a7.free k hk];rfl
 ·intro k k' s q h h';by_cases hp:jl r (node [] 0 p).1 (node [] 0 p).2 t.sz (L k)
  ·rw[rA hp]at h;obtain⟨y1,rest,e1,e2,rfl,rfl⟩:=BH h;by_cases cm:jl s (node [] 0 p).1 (node [] 0 p).2 t.sz (L k')
   ·rw[rA cm]at h';obtain⟨y2,J1,e3,e4,_,e5⟩:=BH h';have e6:=List.append_cancel_left e5;injection e6 with e6 e7;have:y1=y2:=by omega
    subst this e7;exact a7.inj k k' _ _ e1 e3
   ·rw[uy cm]at h';exact absurd (.inr ⟨_,h',y1,rest,e2,rfl⟩) cm
  ·rw[uy hp]at h;by_cases cm:jl r (node [] 0 p).1 (node [] 0 p).2 t.sz (L k')
   ·rw[rA cm]at h';obtain⟨y1,rest,e1,e2,rfl,rfl⟩:=BH h';exact absurd (.inr ⟨_,h,y1,rest,e2,rfl⟩) hp
   ·rw[uy cm]at h';exact hI.inj k k' s q h h'
 ·intro k s q h;by_cases hp:jl r (node [] 0 p).1 (node [] 0 p).2 t.sz (L k)
  ·rw[rA hp]at h;obtain⟨y1,rest,e1,e2,rfl,rfl⟩:=BH h;rw[bB,vo];exact gG
  ·rw[uy hp]at h;have ho:=hI.owner k s q h;have bK:s≠d:=cW hid ho;by_cases bo:s=r
   ·subst bo;rw[bB,vo];exact gG
   ·cases af:(T.getD s .dead).on r with
    | false=>rw[gV s bK bo af];exact ho
    | true =>
     rcases hT s bK bo af with⟨_,h⟩|⟨h,_⟩
     ·rw[h]at ho;cases ho
     ·rw[h];exact ho
 ·intro z hz k hk;exact mS k (ahv k z hz hk)
 ·intro z hz;obtain⟨h1,h2,h3⟩:=lp z hz;exact⟨gV z h1 h2 h3,fW z h1⟩
 ·intro z r' h;by_cases hY:z=d
  ·subst hY;rw[bQ,uP]at h;cases h
  ·by_cases du:z=r
   ·subst du;rw[bB]at h;simp[V.on,lB,b9]at h
   ·cases af:(T.getD z .dead).on r with
    | false=>rw[gV z hY du af]at h;exact hI.roots z r' h
    | true =>
     rcases hT z hY du af with⟨h1,_⟩|⟨h1,_⟩
     ·rw[h1]at h;simp[V.on,V.root]at h
     ·rw[h1]at h;exact hI.roots z r' h
 ·intro z r' hz af ho;obtain⟨h1,h2,h3⟩:=lp z hz;have n9:r'≠d:=cW hid ho;have fX:r'≠r:=λe=>by rw[e,h3]at af;cases af
  refine⟨?_,fW r' n9⟩;cases UO:(T.getD r' .dead).on r with
  | false=>exact gV r' n9 fX UO
  | true =>
   rcases hT r' n9 fX UO with⟨_,h⟩|⟨h,_⟩
   ·rw[h]at ho;cases ho
   ·exact h
 ·intro z hX;by_cases hY:z=d
  ·subst hY;rw[bQ];show az _ _ _ _ _ _ ((a.tmps.setIfInBounds z c).getD z undef);rw[dK,if_pos ⟨rfl,by rw[hI.size];exact hd⟩];exact uQ _ _
  ·by_cases du:z=r
   ·subst du;rw[bB,fW z hY];have pv:¬jl z (node [] 0 p).1 (node [] 0 p).2 t.sz (L g0):=by
     rintro (h|⟨z',h,hu⟩)
     ·rw[hg]at h;cases h
     ·rw[hg]at h;injection h with _ h;subst h;exact ao1 hu
    have pw:=mS g0 pv;refine Jx (T2:=T') (cur:=cur) (e':=e) (g':=g0) (cur':=cur) bb hz hm (λr' aX=>by rw[b9]at aX;cases aX) ?_ ?_
    ·refine⟨λk hk=>?_,λk q2 hk hq IM=>?_,hg,by rw[pw.1];exact hg,Up,by rw[pw.2];exact Up,rfl,λ_ _=>rfl,λk hk=>hI.inj k g0 z _ hk hg⟩
     ·rw[b9]at hk ⊢;rcases hk with hk|⟨_,_,hk,_⟩
      ·have:=mS k (by rintro (h|⟨_,h,_⟩)<;>rw[hk]at h<;>cases h);exact⟨.inl (by rw[this.1];exact hk),this.2⟩
      ·cases hk
     ·exact mS k (by
       rintro (h|⟨z',h,hu⟩)
       ·rw[hk]at h;cases h
       ·rw[hk]at h;injection h with _ h;subst h;exact IM hu)
    ·refine Own.cap hn vj (Own.move (S:=λ_=>False) (λk hk=>hk.elim) (λk dd rest gX hk=>⟨?_,rfl⟩) (Own.full hn vm));rw[Nat.zero_add,List.nil_append]at hk;rw[rA (ahb k _ hk),hk];show (if i=i/\dd<t.sz then _ else _)=_
     rw[if_pos ⟨rfl,gX⟩]
   ·have af:(T.getD z .dead).on r=true:=by
     rcases hX with h|h|h
     ·exact absurd h hY
     ·exact absurd h du
     ·exact h
    rcases hT z hY du af with⟨h,_⟩|⟨h,hk⟩
    ·rw[h];trivial
    ·rw[h,fW z hY];have bl:=hI.aV z;have fU:∀k,L k = .own r []->oY r (node [] 0 p).1 (node [] 0 p).2 t.sz i L L' k=L k/\w'.heap[k]?=w.heap[k]?:=λk hk=>mS k (by
      rintro (h|⟨z',h,hu⟩)
      ·rw[hk]at h;cases h
      ·rw[hk]at h;injection h with _ h;subst h;exact ao0 hu)
     generalize hv:T.getD z .dead=v at hk af bl;cases v with
     | ptr r2 p2 t2 =>
      have:r2=r:=by simpa[V.on,V.root]using af
      subst this;simp only[pP,Bool.and_eq_true]at hk;obtain⟨g,h1,h2⟩:=bl;refine⟨g,h1,?_⟩;rw[qd hk.1]at h2 ⊢;rw[(fU g h2).1];exact h2
     | view r2 p2 t2 =>
      have:r2=r:=by simpa[V.on,V.root]using af
      subst this;obtain⟨cr,h1⟩:=bl;refine⟨by rw[bB,uV,<-hr];exact cr,?_⟩;rcases h1 with⟨h1,h2,l,n1,x1,h3,h4⟩|⟨g,cur1,e1,h1,h2,h3,h4,h5⟩
      ·rw[hr]at h3;subst h3;obtain⟨x2,rfl⟩:=W7 hm;exact .inl ⟨h1,by rw[fW r2 bz];exact h2,l,n1,x2,bB,h4⟩
      ·rw[hr]at h1;have dU:shallow p2=true:=by
        simp only[pP,Bool.or_eq_true,Bool.and_eq_true]at hk;rcases hk with hk|hk
        ·exact hk.1
        ·cases p2 with
         | nil=>rfl
         | cons _ _=>cases hk
       refine .inr ⟨g,cur1,e1,by rw[bB,B5];exact h1,?_⟩;rw[qd dU]at h2 ⊢;have:=fU g h2;exact⟨by rw[this.1];exact h2,by rw[this.2];exact h3,h4,h5⟩
     | _=>simp[pP]at hk
end
end Go.Proofs.YthfgcmoipebheaaGreat.P.Am
