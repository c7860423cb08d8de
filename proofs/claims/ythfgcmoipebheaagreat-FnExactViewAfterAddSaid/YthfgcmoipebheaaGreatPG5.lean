/- A part of the proof: Am39,Am40,Am41,Am42,Am43,Am44,Am45,Am46,Am47. No conditions. -/
import Derived.Test.YthfgcmoipebheaaGreatPG4
set_option linter.unusedVariables false
set_option linter.unusedSimpArgs false
namespace Go.Proofs.YthfgcmoipebheaaGreat.P.Am
section
variable{P:Program}{C:Ctx}{w w' w0:World}{S S':Nat->Prop}{L L' L0:Nat->ak}{s N:Nat}{vs:List Nat}{T T':List V}{tm tm':Array Value}{a:Act}
theorem step_append[ae](hI:Inv w0 L0 N vs T a w L)(hC:bF P C){o:Oper}{X X2:TypeId}{sO xO:Operand}{d:Nat}{ups:List (Nat×V)}{log:List Nat}
  (ho:o.op = .call { callee:=.builtin .append,args:=#[sO,xO],argTypes:=#[X,X2] }) (aA:o.dst=some d) (hd:d<N) (hid:(T.getD d .dead).idle=true)
  (h:(Jx C vs d X X2 sO xO).aj T ups log):Step P o w0 L0 N vs (ai T ups) a w:=by
 unfold Jx at h;split at h
 ·rename_i e t hX;split at h
  ·rename_i e2 t2 iq;obtain⟨b,l1,l2,rfl,h1,h⟩:=M.aq h;obtain⟨c,l3,l4,rfl,h2,h⟩:=M.aq h;split at h
   ·rename_i amg;obtain⟨bq,hby,iz⟩:=amg;obtain⟨hg,rfl,_⟩:=h;have hg:=of_decide_eq_true hg;obtain⟨hu,he⟩:=(hC X _ hX).b7;obtain⟨Le,lI⟩:=(hC X2 _ iq).b7;obtain⟨i,z,i1,i2,i3,i4,i5⟩:=(hC e t he).info;have dY:∀v∈t.cq,v.oneCell'=true:=Own.one (Own.zero (w:=w) (L:=L) (S:=λ_=>True) (s:=0) (n:=0) (t:=t) (q:=[]) (o:=0));have iX:=Form.cells i5 dY;have gZ:z.cells.size=t.sz:=by rw[<-Array.length_toList,iX,Ty.jy]
    obtain⟨so,nw,Yc⟩:=alg hI h1 d;obtain⟨news,da,oJ,bA⟩:=aro hI h2 Le;have gg:=da.total;have YE:b.xs.length+c.ys.length<=140737488355328:=Nat.le_trans (Nat.le_mul_of_pos_right _ (by omega)) hg;have sQ:b.xs.length+c.ys.length<=maxLen:=by simp only[maxLen];omega
    have Y4:(b.s=some so/\so∉vs/\(T.getD so .dead).aO=true)\/(b.s=none/\so=d):=nw.imp (λh=>⟨h.1,h.2.1,h.2.2.1⟩) id;have bm:∀s,c.s=some s->s≠so:=by
     intro s hs;rcases nw with⟨hb,_⟩|⟨hb,rfl⟩
     ·rintro rfl
      rw[hs,hb]at iz;simp at iz
     ·exact dm hid (oJ s hs).2.1
    have fin:∀(kept:Bool) (nl:Nat->ak) (w':World) (g pC:Nat) (cur':Array Value) (iI:List Value),
      (Builtin.append_ #[X,X2] o.type #[a.eval sO,a.eval xO]).run P w = .ok (.slice (some ⟨g,0,none⟩) (b.xs.length+c.ys.length) pC) w' ->
      Wd w w' L nl (λs=>s=d\/s=so\/c.s=some s)->(∀k s q,w.heap.size<=k->nl k = .own s q->s=d/\q=[0]/\k=w.heap.size/\kept=false) ->
      aW (gw d so c.s kept (b.xs.length*t.sz) (c.ys.length*t.sz) (jG b.n c.n)) w L nl g = .own d [0] ->
      w'.heap[g]?=some (.cells cur' e (0,0))->b.xs.length+c.ys.length<=pC->pC<=maxLen->cur'.size=pC*t.sz ->
      (∀k,L k ≠ .free->L k ≠ .own so [0]->w'.heap[k]?=w.heap[k]?) ->
      (∀i,i<b.xs.length*t.sz->cur'[i]?=iI[i]?)->(∀i,i<c.ys.length*t.sz->cur'[b.xs.length*t.sz+i]?=news[i]?) ->
      (∀(L':Nat->ak) (w':World) (m:Nat),m<=b.n->(∀k,L k = .au->L' k = .au/\w'.heap[k]?=w.heap[k]?) ->
       (∀k y rest,y<b.xs.length*t.sz->L k = .own so (0::y::rest)->w'.heap[k]?=w.heap[k]?/\(rest.length<m->L' k = .own d (0::y::rest))/\(m<=rest.length->L' k = .au)) ->
       ∀j (h:j<b.xs.length),Own w' L' (SL L' none) d m t (b.xs[j]) [0] (j*t.sz) ((iI.drop (j*t.sz)).take t.sz)) ->
      Step P o w0 L0 N vs (ai T ((b.s.toList++c.s.toList).map (λs=>(s,V.dead))++[(d,.d none (jG b.n c.n+1) (.slice e t) (b.xs++c.ys))])) a w:=by
     intro kept nl w' g pC cur' iI aT hw am4 gD KL DD amc oA hold eo ft sE;have vU:(execOp a.eval o).run P w = .ok (.value (.slice (some ⟨g,0,none⟩) (b.xs.length+c.ys.length) pC)) w':=by
      simp[execOp,ho,resolve,invoke,builtin,aT]
     refine Step.value aA vU (Inv.app (b1:=b.xs.length*t.sz) (b2:=c.ys.length*t.sz) (m:=jG b.n c.n) hI hd hid Y4 (λs hs=>⟨(oJ s hs).1,(oJ s hs).2.1⟩) hw am4 rfl (by simp[V.aO,Ty.depth]) (λT' tm'=>?_));refine⟨by simp,_,rfl,?_⟩;simp only[Own];refine .inr ⟨g,pC,cur',by rw[List.length_append],by simpa using gD,KL,by rw[List.length_append];exact DD,amc,oA,λj hj=>?_⟩;have ba:∀k,L k = .au->aW (gw d so c.s kept (b.xs.length*t.sz) (c.ys.length*t.sz) (jG b.n c.n)) w L nl k = .au/\w'.heap[k]?=w.heap[k]? :=
      λk hk=>⟨ew hI hk,hold k (by rw[hk];simp) (by rw[hk];simp)⟩
     by_cases Yt:j<b.xs.length
     ·rw[List.getElem_append_left Yt];have Lm:(cur'.toList.drop (j*t.sz)).take t.sz=(iI.drop (j*t.sz)).take t.sz:=qT λk hk=>by
       have:(j+1)*t.sz<=b.xs.length*t.sz:=Nat.mul_le_mul_right _ (by omega);rw[Nat.add_mul,Nat.one_mul]at this;rw[Array.getElem?_toList];exact eo _ (by omega)
      rw[Lm];refine sE _ w' _ Wp.1 ba (λk y rest hy hk=>?_) j Yt;have gS:aW (gw d so c.s kept (b.xs.length*t.sz) (c.ys.length*t.sz) (jG b.n c.n)) w L nl k=if rest.length<jG b.n c.n then .own d (0::y::rest)else .au:=by
       rw[dc hI (by rw[hk];simp),hk];simp[eI,gw,hy]
      refine⟨hold k (by rw[hk];simp) (by rw[hk];simp),λh=>?_,λh=>?_⟩
      ·rw[gS,if_pos h]
      ·rw[gS,if_neg (by omega)]
     ·rw[List.getElem_append_right (by omega)];have wk:j - b.xs.length<c.ys.length:=by rw[List.length_append]at hj;omega
      have DQ:j*t.sz=b.xs.length*t.sz+(j - b.xs.length)*t.sz:=by rw[<-Nat.add_mul];congr 1;omega
      have Lm:(cur'.toList.drop (j*t.sz)).take t.sz=(news.drop ((j - b.xs.length)*t.sz)).take t.sz:=qT λk hk=>by
       have:(j - b.xs.length+1)*t.sz<=c.ys.length*t.sz:=Nat.mul_le_mul_right _ (by omega);rw[Nat.add_mul,Nat.one_mul]at this;rw[Array.getElem?_toList,DQ,Nat.add_assoc];exact ft _ (by omega)
      rw[Lm,DQ];refine bA _ w' d (b.xs.length*t.sz) _ (λk hk=>Wp.2 k hk) ba (λs k y rest hs hy hk=>?_) _ wk;have gS:aW (gw d so c.s kept (b.xs.length*t.sz) (c.ys.length*t.sz) (jG b.n c.n)) w L nl k=if rest.length<jG b.n c.n then .own d (0::(b.xs.length*t.sz+y)::rest)else .au:=by
       rw[dc hI (by rw[hk];simp),hk];simp[eI,gw,bm s hs,hs,hy]
      refine⟨hold k (by rw[hk];simp) (by rw[hk];simp),λh=>?_,λh=>?_⟩
      ·rw[gS,if_pos h]
      ·rw[gS,if_neg (by omega)]
    have grow:∀(bs:Option Addr) (sc:Nat) (iI:List Value),a.eval sO = .slice bs b.xs.length sc->sc<b.xs.length+c.ys.length->iI.length=b.xs.length*t.sz ->
      (Builtin.firstCells i.size b.xs.length (.slice bs b.xs.length sc)).run P w.drew = .ok iI.toArray w.drew ->
      (∀(L':Nat->ak) (w':World) (m:Nat),m<=b.n->(∀k,L k = .au->L' k = .au/\w'.heap[k]?=w.heap[k]?) ->
       (∀k y rest,y<b.xs.length*t.sz->L k = .own so (0::y::rest)->w'.heap[k]?=w.heap[k]?/\(rest.length<m->L' k = .own d (0::y::rest))/\(m<=rest.length->L' k = .au)) ->
       ∀j (h:j<b.xs.length),Own w' L' (SL L' none) d m t (b.xs[j]) [0] (j*t.sz) ((iI.drop (j*t.sz)).take t.sz)) ->
      Step P o w0 L0 N vs (ai T ((b.s.toList++c.s.toList).map (λs=>(s,V.dead))++[(d,.d none (jG b.n c.n+1) (.slice e t) (b.xs++c.ys))])) a w:=by
     intro bs sc iI c8 ax YM ams sE;have aT:=ak5 (P:=P) (w:=w) (ty:=o.type) (X2:=X2) hu i1 i4 ams (by rw[i2];exact da) ax sQ (by rw[i3];exact hg);rw[<-c8]at aT;have lJ:=grownCap_ge w (b.xs.length+c.ys.length) sc e;have DF:=grownCap_le_maxLen w (b.xs.length+c.ys.length) sc e sQ;have hL1:(iI++news).length=(b.xs.length+c.ys.length)*t.sz:=by rw[List.length_append,YM,gg,Nat.add_mul]
     refine fin false (λk=>if k=w.heap.size then .own d [0]else .free) _ w.heap.size _ _ iI aT ?_ ?_ ?_ (oD w.drew _) lJ DF ?_ ?_ ?_ ?_ sE
     ·refine⟨rfl,rfl,rfl,by simp,Nat.le_succ _,λk hk _=>Go.RowKit.Below.heap_alloc w.drew _ k hk,λk hk=>?_,λk s q hk h=>?_⟩
      ·simp at hk;rw[if_neg (by omega)]
      ·split at h
       ·injection h with h _;exact .inl h.symm
       ·cases h
     ·intro k s q hk h;split at h
      ·injection h with h1 h2;exact⟨h1.symm,h2.symm,by assumption,rfl⟩
      ·cases h
     ·unfold aW;rw[if_neg (by omega)];simp
     ·rw[Array.size_append,List.size_toArray,hL1,size_zeroCells,gZ,<-Nat.add_mul];congr 1;omega
     ·exact λk hk _=>Go.RowKit.Below.heap_alloc w.drew _ k (hI.lt hk)
     ·intro k hk;rw[Array.getElem?_append_left (by simp only[List.size_toArray];rw[List.length_append];omega),List.getElem?_toArray,List.getElem?_append_left (by omega)]
     ·intro k hk;rw[Array.getElem?_append_left (by simp only[List.size_toArray];rw[List.length_append];omega),List.getElem?_toArray,List.getElem?_append_right (by omega),YM];congr 1;omega
    simp only[Own]at Yc;rcases Yc with⟨dX,jg⟩|⟨g,cap,cur,dj,hL,DL,h5,h6,h7,h8⟩
    ·have dX:a.eval sO=_:=(List.cons.inj dX).1;by_cases hy:c.ys=[]
     ·have anm:fO P i.size X2 (a.eval xO) 0 [] w:=by
       rw[hy]at da gg;have:news=[]:=List.eq_nil_of_length_eq_zero (by simpa using gg);rw[this]at da;rw[i2];exact da
      have aT:=ak6 (P:=P) (ty:=o.type) hu i1 anm;rw[<-dX]at aT;have vU:(execOp a.eval o).run P w = .ok (.value (a.eval sO)) w:=by
       simp[execOp,ho,resolve,invoke,builtin,aT]
      refine Step.value aA vU (Inv.app (kept:=false) (b1:=0) (b2:=0) (m:=0) (nl:=λ_=>.free) hI hd hid Y4 (λs hs=>⟨(oJ s hs).1,(oJ s hs).2.1⟩) (Wd.refl hI _) (λk s q _ h=>by cases h) rfl (by simp[V.aO,Ty.depth]) (λT' tm'=>?_));refine⟨by simp,_,rfl,?_⟩;simp only[Own];exact .inl ⟨by rw[dX],by rw[jg,hy];rfl⟩
     ·have K2:0<c.ys.length:=List.length_pos_iff.2 hy;have h0:b.xs.length=0:=by rw[jg];rfl
      refine grow none 0 [] (by rw[h0];exact dX) (by omega) (by rw[h0];simp) ?_ (λL' w' m _ _ _ j hj=>absurd hj (by omega));rw[h0];exact run_firstCells_none w.drew i.size 0 0 0
    ·have dj:a.eval sO=_:=(List.cons.inj dj).1;have hL:L g = .own so [0]:=by simpa using hL
     have hle:b.xs.length*t.sz<=cur.size:=by rw[h7];exact Nat.mul_le_mul_right _ h5
     have sE:∀(L':Nat->ak) (w':World) (m:Nat),m<=b.n->(∀k,L k = .au->L' k = .au/\w'.heap[k]?=w.heap[k]?) ->
       (∀k y rest,y<b.xs.length*t.sz->L k = .own so (0::y::rest)->w'.heap[k]?=w.heap[k]?/\(rest.length<m->L' k = .own d (0::y::rest))/\(m<=rest.length->L' k = .au)) ->
       ∀j (h:j<b.xs.length),Own w' L' (SL L' none) d m t (b.xs[j]) [0] (j*t.sz) (((cur.toList.take (b.xs.length*t.sz)).drop (j*t.sz)).take t.sz):=by
      intro L' w' m hm ba gS j hj;have hjb:j*t.sz+t.sz<=b.xs.length*t.sz:=by
       have:(j+1)*t.sz<=b.xs.length*t.sz:=Nat.mul_le_mul_right _ (by omega)
       rwa [Nat.add_mul,Nat.one_mul]at this
      have hw:((cur.toList.take (b.xs.length*t.sz)).drop (j*t.sz)).take t.sz=(cur.toList.drop (j*t.sz)).take t.sz:=qT λk hk=>by
       rw[List.getElem?_take,if_pos (by omega)]
      rw[hw];refine Own.ff hm (λk hk=>?_) (λk y rest hy hk=>?_) (h8 j hj)
      ·rcases hk with hk|⟨_,_,hk,_⟩
       ·exact⟨.inl (ba k hk).1,(ba k hk).2⟩
       ·cases hk
      ·have aL:L k = .own so (0::(j*t.sz+y)::rest):=by simpa using hk
       have:=gS k (j*t.sz+y) rest (by omega) aL;exact⟨this.1,λh=>by simpa using this.2.1 h,λh=>.inl (this.2.2 h)⟩
     by_cases sT:b.xs.length+c.ys.length<=cap
     ·
      have oE:b.xs.length*t.sz+news.length<=cur.size:=by
       rw[gg,<-Nat.add_mul,h7];exact Nat.mul_le_mul_right _ sT
      obtain⟨s1,s2,s3,s4,s5,cur',s6,s7,s8⟩:=acf news (b.xs.length*t.sz) w cur e DL oE;have pS:∀j,j<news.length->w.cell? ⟨g,b.xs.length*i.size+j,none⟩=cur[b.xs.length*t.sz+j]?:=by
       intro j hj;simp[World.cell?,DL,i2]
      have aT:=ak7 (P:=P) (w:=w) (ty:=o.type) (X2:=X2) (g:=g) hu i1 (by rw[i2];exact da) sT
       (λj hj=>by rw[pS j hj,Array.getElem?_eq_getElem (by omega)];rfl) (λj hj=>by simp[World.frozen?,DL])
      rw[<-dj,i2]at aT;have cW:g<w.heap.size:=hI.lt (by rw[hL];simp);refine fin true (λ_=>.free) _ g cap cur' (cur.toList.take (b.xs.length*t.sz)) aT ?_ (λk s q _ h=>by cases h) ?_ s6 sT h6 (by rw[s7,h7]) ?_ ?_ ?_ sE
      ·refine⟨s1,s2,s3,by rw[s4];exact Nat.le_refl _,Nat.le_of_eq (ace _ _ _).symm,λk hk h=>?_,λk _=>rfl,λk s q _ h=>by cases h⟩;exact s5 k (λe=>by subst e;exact h so [0] hL (.inr (.inl rfl)))
      ·rw[dc hI (by rw[hL];simp),hL];simp[eI,gw]
      ·intro k hk dp;exact s5 k (λe=>by subst e;exact dp hL)
      ·intro k hk;rw[s8,if_neg (by omega),List.getElem?_take,if_pos hk,Array.getElem?_toList]
      ·intro k hk;rw[s8,if_pos (by omega)];congr 1;omega
     ·
      have hlen:(cur.toList.take (b.xs.length*t.sz)).length=b.xs.length*t.sz:=by rw[List.length_take];simp;omega
      refine grow (some ⟨g,0,none⟩) cap _ dj (by omega) hlen ?_ sE;refine run_firstCells_some w.drew i.size b.xs.length ⟨g,0,none⟩ b.xs.length cap _ (by rw[hlen,i2]) (λj u hu=>?_);rw[List.getElem?_take]at hu;split at hu
      ·show w.cell? _=_;rw[show (⟨g,0,none⟩:Addr).add j=⟨g,j,none⟩by rw[Addr.add_lit,Nat.zero_add]];simp only[World.cell?,DL];simpa using hu
      ·cases hu
   ·exact h.elim
  ·exact h.elim
 ·exact h.elim
end
abbrev mw:=Nat×Option (Nat×(t:Ty)×t.den)
def WV(d i:Nat):Option (Nat×(t:Ty)×t.den)->Option V
 | some (n,⟨t,x⟩)=>if n≠0/\t.depth≠0 then some (.part d i n t x)else none
 | none=>none
def partsOf(d:Nat)(h:Nat->Option Nat):Nat->Nat->List mw->List ((Nat×Nat×Nat)×V)
 | _,_,[]=>[]
 | i,o,(sz,c)::l=>match h i,WV d i c with
  | some e,some v=>((e,o,sz),v)::partsOf d h (i+1) (o+sz) l
  | _,_=>partsOf d h (i+1) (o+sz) l
def hY:List mw->List mw
 | []=>[]
 | (sz,c)::l=>(sz,if Da c=true then none else c)::hY l
def wT{α:Type}:List Nat->M α->M α
 | [],m=>m
 | s::l,m=>.get s λv=>.bn v.idle (wT l m)
def acG(vs:List Nat)(N d s:Nat)(h:Nat->Option Nat):M (List (Nat×V)):=
 .get s λv=>match v with
 | .bH l =>
  if cm (d::s::(partsOf d h 0 0 l).map (·.1.1))=true/\((partsOf d h 0 0 l).all λp=>decide (p.1.1<N))=true/\vs.contains s=false/\vs.contains d=true then
   wT (d::(partsOf d h 0 0 l).map (·.1.1)) (.ret ((s,V.dead)::((partsOf d h 0 0 l).map (λp=>(p.1.1,p.2))++[(d,.bH (hY l))])))
  else .fail
 | _=>.fail
def Xh(vs:List Nat)(d:Nat)(x:Operand)(i:Nat):M (List (Nat×V)):=
 match x with
 | .tmp s=>.get d λvd=>match vd with
  | .part r j n t y=>if r=s/\j=i/\vs.contains d=false/\n≠0/\t.depth≠0 then .ret [(d,.d none n t y)]else .fail
  | _=>.bn vd.idle (.get s λv=>match v with
   | .bH l=>match l[i]? with
    | some (_,some (n,⟨t,y⟩))=>if n=0\/t.depth=0 then .ret [(d,.d none n t y)]else .fail
    | _=>.fail
   | _=>.fail)
 | _=>.fail
def kZ(s d:Nat)(ms:List (Nat×Nat×Nat)):Nat->List Nat->ak:=λr z =>
 if r=s then match z with
  | y::rest=>match ms.find? (λp=>decide (p.2.1<=y)&&decide (y<p.2.1+p.2.2))with
   | some p=>.own p.1 ((y - p.2.1)::rest)
   | none=>.other
  | []=>.other
 else if r=d\/r∈ms.map (·.1)then .other else .own r z
theorem xt{s d:Nat}{ms:List (Nat×Nat×Nat)}{r:Nat}{z:List Nat}{s':Nat}{z':List Nat}(h:kZ s d ms r z = .own s' z'):
  (r=s/\∃p y rest,p∈ms/\z=y::rest/\p.2.1<=y/\y<p.2.1+p.2.2/\s'=p.1/\z'=(y - p.2.1)::rest)\/(r≠s/\r≠d/\r∉ms.map (·.1)/\s'=r/\z'=z):=by
 unfold kZ at h;split at h
 ·rename_i hr;split at h
  ·rename_i y rest;split at h
   ·rename_i p hp;injection h with h1 h2;have hb:=List.find?_some hp;simp only[Bool.and_eq_true,decide_eq_true_eq]at hb;exact .inl ⟨hr,p,y,rest,List.mem_of_find?_eq_some hp,rfl,hb.1,hb.2,h1.symm,h2.symm⟩
   ·cases h
  ·cases h
 ·rename_i hr;split at h
  ·cases h
  ·rename_i hn;have hn:=not_or.1 hn;injection h with h1 h2;exact .inr ⟨hr,hn.1,hn.2,h1.symm,h2.symm⟩
theorem abM[ae]{s d b:Nat}{ms:List (Nat×Nat×Nat)}(hs:eU b ms)(hn:cm (ms.map (·.1))=true):fD (kZ s d ms) (λr=>r=s\/r=d\/r∈ms.map (·.1)):=by
 refine⟨λr z hX=>?_,λr z s' z' hX h=>?_,λr z r2 z2 s' z' h1 h2=>?_,λr z=>?_⟩
 ·have h1:=not_or.1 hX;unfold kZ;rw[if_neg h1.1,if_neg h1.2]
 ·rcases xt h with⟨_,p,_,_,hp,_,_,_,rfl,_⟩|⟨h1,h2,h3,rfl,_⟩
  ·exact .inr (.inr (List.mem_map_of_mem hp))
  ·rcases hX with h|h|h
   ·exact absurd h h1
   ·exact absurd h h2
   ·exact absurd h h3
 ·rcases xt h1 with⟨rfl,p,y,rest,hp,rfl,b1,b2,rfl,rfl⟩|⟨g1,g2,g3,rfl,rfl⟩
  ·rcases xt h2 with⟨rfl,p',y',fA,cw,rfl,b1',b2',he,h3⟩|⟨_,_,g3,h3,_⟩
   ·have f1:=pK hn hp;have f2:=pK hn cw;rw[he]at f1;rw[f1]at f2;cases f2;simp only[List.cons.injEq]at h3;obtain⟨h3,rfl⟩:=h3;exact⟨rfl,by rw[show y=y' by omega]⟩
   ·exact absurd (h3▸List.mem_map_of_mem hp) g3
  ·rcases xt h2 with⟨_,p',_,_,cw,_,_,_,h3,_⟩|⟨_,_,_,h3,h4⟩
   ·exact absurd (h3▸List.mem_map_of_mem cw) g3
   ·exact⟨h3,h4⟩
 ·unfold kZ
  repeat' split
  all_goals simp
theorem abL[ae]{s d b:Nat}{ms:List (Nat×Nat×Nat)}(hs:eU b ms)(hn:cm (ms.map (·.1))=true){p:Nat×Nat×Nat}(hp:p∈ms){i:Nat}(hi:i<p.2.2){rest:List Nat}:
  kZ s d ms s ((p.2.1+i)::rest) = .own p.1 (i::rest):=by
 unfold kZ;rw[if_pos rfl];dsimp only;have hx:∃q,ms.find? (λq=>decide (q.2.1<=p.2.1+i)&&decide (p.2.1+i<q.2.1+q.2.2))=some q:=by
  rw[<-Option.isSome_iff_exists,List.find?_isSome];exact⟨p,hp,by simp;omega⟩
 obtain⟨q,hq⟩:=hx;have YX:=List.mem_of_find?_eq_some hq;have hb:=List.find?_some hq;simp only[Bool.and_eq_true,decide_eq_true_eq]at hb;have hqp:q=p:=by
  apply Classical.byContradiction;intro bm;by_cases h1:q.1=p.1
  ·have f1:=pK hn hp;have f2:=pK hn YX;rw[h1,f1]at f2;exact bm (Option.some.inj f2).symm
  ·have:=hs.W5 hn q p YX hp h1;omega
 subst hqp;rw[hq];simp only[ak.own.injEq,List.cons.injEq,and_true,true_and];omega
theorem ED{d:Nat}{h:Nat->Option Nat}:{l:List mw}->{i o:Nat}->eU o ((partsOf d h i o l).map (·.1))
 | [],_,_=>trivial
 | (sz,c)::l,i,o=>by
  simp only[partsOf];split
  ·exact⟨Nat.le_refl _,ED⟩
  ·exact eU.au2 (Nat.le_add_right _ _) ED
 where
 eU.au2:{b b':Nat}->{ms:List (Nat×Nat×Nat)}->b<=b'->eU b' ms->eU b ms
 | _,_,[],_,_=>trivial
 | _,_,_::_,h,h2=>⟨Nat.le_trans h h2.1,h2.2⟩
section
variable{P:Program}{C:Ctx}{w w' w0:World}{S S':Nat->Prop}{L L' L0:Nat->ak}{s N:Nat}{vs:List Nat}{T T':List V}{tm tm':Array Value}{a:Act}
theorem Mw{d:Nat}{h:Nat->Option Nat}:{l:List mw}->{i o:Nat}->{dz:List Value}->eV w L s o l dz->∀p v,(p,v)∈partsOf d h i o l ->
  ∃j n t x u cs,v = .part d (i+j) n t x/\dz[j]?=some u/\t.sz=p.2.2/\Form t cs u/\Own w L (SL L none) s n t x [] p.2.1 cs
 | [],_,_,_,_,_,_,hm=>by simp[partsOf]at hm
 | (sz,c)::l,i,o,dz,hr,p,v,hm=>by
  obtain⟨u,iM,rfl,h1,h2⟩:=hr;have Y0:(p,v)∈partsOf d h (i+1) (o+sz) l->∃j n t x u' cs,v = .part d (i+j) n t x/\(u::iM)[j]?=some u'/\t.sz=p.2.2/\Form t cs u'/\Own w L (SL L none) s n t x [] p.2.1 cs:=by
   intro hm;obtain⟨j,n,t,x,u',cs,e1,e2,e3,e4,e5⟩:=Mw h2 p v hm;exact⟨j+1,n,t,x,u',cs,by rw[e1,show i+1+j=i+(j+1)by omega],by simpa using e2,e3,e4,e5⟩
  simp only[partsOf]at hm;split at hm
  ·rename_i e v' he oK;rcases List.mem_cons.1 hm with hm|hm
   ·injection hm with hp hv;subst hp hv;unfold WV at oK;split at oK
    ·rename_i n t x;split at oK
     ·injection oK with oK;obtain⟨h3,cs,h4,h5⟩:=h1 n t x rfl;exact⟨0,n,t,x,u,cs,oK.symm,rfl,h3,h4,h5⟩
     ·cases oK
    ·cases oK
   ·exact Y0 hm
  ·exact Y0 hm
theorem MI{s':Nat}(H:∀k,L k = .au->L' k = .au/\w'.heap[k]?=w.heap[k]?):{l:List mw}->{o:Nat}->{dz:List Value}->eV w L s o l dz->eV w' L' s' o (hY l) dz
 | [],_,_,h=>h
 | (sz,c)::l,o,dz,⟨v,iM,h1,h2,h3⟩=>by
  refine⟨v,iM,h1,λn t x hc=>?_,MI H h3⟩;split at hc
  ·cases hc
  ·rename_i hco;obtain⟨h4,cs,h5,h6⟩:=h2 n t x hc;subst hc;refine⟨h4,cs,h5,?_⟩;have ix:¬n=0->t.depth=0:=by simpa[Da]using hco
   have hn:n=0\/t.depth=0:=by omega
   rcases hn with hn|hn
   ·subst hn;refine Own.dM (Rd.move (λk hk=>?_) (Own.eH h6));rcases hk with hk|⟨_,_,hk,_⟩
    ·exact⟨.inl (H k hk).1,(H k hk).2⟩
    ·cases hk
   ·exact Own.flat hn h6
theorem acD:{l:List mw}->{o i:Nat}->{dz:List Value}->{sz n:Nat}->{t:Ty}->{x:t.den}->eV w L s o l dz->l[i]?=some (sz,some (n,⟨t,x⟩))->∃o' u cs,dz[i]?=some u/\Form t cs u/\Own w L (SL L none) s n t x [] o' cs
 | [],_,_,_,_,_,_,_,_,h=>by simp at h
 | (fC,c)::l,o,0,dz,sz,n,t,x,⟨v,iM,h1,h2,h3⟩,h=>by
  simp only[List.getElem?_cons_zero,Option.some.injEq,Prod.mk.injEq]at h;obtain⟨_,cs,h5,h6⟩:=h2 n t x h.2;exact⟨o,v,cs,by rw[h1];rfl,h5,h6⟩
 | (fC,c)::l,o,i+1,dz,sz,n,t,x,⟨v,iM,h1,h2,h3⟩,h=>by
  obtain⟨o',u,cs,e1,e2,e3⟩:=acD h3 (by simpa using h);exact⟨o',u,cs,by rw[h1];simpa using e1,e2,e3⟩
theorem D0{α:Type}{m:M α}{x:α}:{l:List Nat}->{log:List Nat}->(wT l m).aj T x log->(∀s∈l,(T.getD s .dead).idle=true)/\∃aD,m.aj T x aD
 | [],log,h=>⟨by simp,log,h⟩
 | s::l,log,h=>by
  obtain⟨aD,rfl,hc,h⟩:=h;obtain⟨h1,h2⟩:=D0 h;exact⟨λs' hs=>by rcases List.mem_cons.1 hs with rfl|hs;exact hc;exact h1 s' hs,h2⟩
theorem sr[ae]{ups:List (Nat×V)}(hn:cm (ups.map (·.1))=true){s:Nat}{v:V}(hm:(s,v)∈ups){T:List V}(hs:s<T.length):(ai T ups).getD s .dead=v:=by
 unfold ai;induction ups generalizing T with
 | nil=>cases hm
 | cons u l ih =>
  simp only[List.map_cons,cm,Bool.and_eq_true,Bool.not_eq_true']at hn;simp only[List.foldl_cons];rcases List.mem_cons.1 hm with rfl|hm
  ·have:=eX l (T.set s v) s (λh=>by
    have h2:=List.contains_iff_mem.2 h;rw[hn.1]at h2;cases h2)
   unfold ai at this;rw[this,aJ,if_pos ⟨rfl,hs⟩]
  ·exact ih hn.2 hm (by simpa using hs)
theorem Ml{l:List Nat}:cm l=true->l.Nodup:=by
 induction l with
 | nil=>intro _;exact List.nodup_nil
 | cons x l ih =>
  intro h;simp only[cm,Bool.and_eq_true,Bool.not_eq_true']at h;refine List.nodup_cons.2 ⟨λhm=>?_,ih h.2⟩;rw[List.contains_iff_mem.2 hm]at h;cases h.1
theorem xm{l:List Nat}:l.Nodup->cm l=true:=by
 induction l with
 | nil=>intro _;rfl
 | cons x l ih =>
  intro h;obtain⟨h1,h2⟩:=List.nodup_cons.1 h;simp only[cm,Bool.and_eq_true,Bool.not_eq_true',ih h2,and_true];rw[Bool.eq_false_iff];intro hc;exact h1 (List.contains_iff_mem.1 hc)
theorem arS[ae](hI:Inv w0 L0 N vs T a w L){o:Oper}{d s:Nat}{h:Nat->Option Nat}{ups:List (Nat×V)}{log:List Nat}(ho:qg o (.tmp s))(aA:o.dst=some d)(hd:d<N)
  (hr:(acG vs N d s h).aj T ups log):Step P o w0 L0 N vs (ai T ups) a w:=by
 obtain⟨aD,rfl,hr⟩:=hr;dsimp only at hr;have hs:=hI.aX s;generalize hv:T.getD s .dead=v at hr hs;split at hr
 ·rename_i l;split at hr
  ·rename_i hc;obtain⟨cW,ax,jf,sI⟩:=hc;obtain⟨jO,log2,hr⟩:=D0 hr;obtain⟨rfl,_⟩:=hr;obtain⟨dz,ee,dK⟩:=hs;generalize lQ:partsOf d h 0 0 l=ps at cW ax jO;have wL:eU 0 (ps.map (·.1)):=by rw[<-lQ];exact ED
   have wB:=Ml cW;have je:ps.map (·.1.1)=(ps.map (·.1)).map (·.1):=by rw[List.map_map];rfl
   obtain⟨Yl,am3⟩:=List.nodup_cons.1 wB;obtain⟨kO,pY⟩:=List.nodup_cons.1 am3;have iv:d≠s:=λe=>Yl (by rw[e];simp);have cB:d∉ps.map (·.1.1):=λe=>Yl (List.mem_cons_of_mem _ e);have wA:cm ((ps.map (·.1)).map (·.1))=true:=by rw[<-je];exact xm pY
   have avC:(T.getD s .dead).aO=true:=by rw[hv];rfl
   have b8:s<N:=by
    apply Classical.byContradiction;intro lJ;rw[ez (by rw[hI.len];omega)]at hv;cases hv
   let U:List (Nat×V):=(s,V.dead)::(ps.map (λp=>(p.1.1,p.2))++[(d,.bH (hY l))]);have hU:U.map (·.1)=s::(ps.map (·.1.1)++[d]):=by simp[U,List.map_map,Function.comp_def]
   have oz:cm (U.map (·.1))=true:=by
    rw[hU];refine xm (List.nodup_cons.2 ⟨λhm=>?_,?_⟩)
    ·rcases List.mem_append.1 hm with hm|hm
     ·exact kO hm
     ·exact iv (List.mem_singleton.1 hm).symm
    ·rw[List.nodup_append];refine⟨pY,by simp,λx hx y hy e=>?_⟩;rw[List.mem_singleton]at hy;subst e hy;exact cB hx
   have bL:(ai T U).getD s .dead = .dead:=sr oz (by simp[U]) (by rw[hI.len];exact b8);have bW:(ai T U).getD d .dead = .bH (hY l):=sr oz (by simp[U]) (by rw[hI.len];exact hd);have pP:∀p v,(p,v)∈ps->(ai T U).getD p.1 .dead=v:=by
    intro p v hp;refine sr oz ?_ ?_
    ·refine List.mem_cons_of_mem _ (List.mem_append_left _ (List.mem_map.2 ⟨(p,v),hp,rfl⟩))
    ·rw[List.all_eq_true]at ax;rw[hI.len];simpa using ax _ hp
   have bt:∀z,¬(z=s\/z=d\/z∈(ps.map (·.1)).map (·.1))->(ai T U).getD z .dead=T.getD z .dead:=by
    intro z hz;refine eX _ _ _ ?_;rw[hU,je];intro hm;rcases List.mem_cons.1 hm with hm|hm
    ·exact hz (.inl hm)
    ·rcases List.mem_append.1 hm with hm|hm
     ·exact hz (.inr (.inr hm))
     ·exact hz (.inr (.inl (List.mem_singleton.1 hm)))
   have p4:∀p v,(p,v)∈ps->∃j n t x u cs,v = .part d j n t x/\dz.toList[j]?=some u/\t.sz=p.2.2/\Form t cs u/\Own w L (SL L none) s n t x [] p.2.1 cs:=by
    intro p v hp;rw[<-lQ]at hp;obtain⟨j,n,t,x,u,cs,e1,e2⟩:=Mw dK p v hp;exact⟨0+j,n,t,x,u,cs,e1,by rw[Nat.zero_add];exact e2⟩
   have gb:∀z,z∈(ps.map (·.1)).map (·.1)->∃p v,(p,v)∈ps/\p.1=z:=by
    intro z hz;rw[<-je]at hz;obtain⟨⟨p,v⟩,hp,rfl⟩:=List.mem_map.1 hz;exact⟨p,v,hp,rfl⟩
   refine Step.value aA (tu ho) (Inv.gI (T':=ai T U) (f:=kZ s d (ps.map (·.1))) (X:=λz=>z=s\/z=d\/z∈(ps.map (·.1)).map (·.1)) (nl:=λ_=>.free) hI (abM wL wA) (Wd.refl hI _) (λ_ _ _ _ _ h=>by cases h) (by simp[Act.put,hI.size]) (by rw[cC,hI.len]) hI.dO ?_ ?_ ?_ ?_ ?_)
   ·intro k z q hz hk;rcases hz with rfl|rfl|hz
    ·exfalso;unfold aW at hk;split at hk
     ·obtain⟨s0,q0,e0,f0⟩:=eS hk;rcases xt f0 with⟨_,p,_,_,hp,_,_,_,h7,_⟩|⟨h1,_,_,h7,_⟩
      ·exact kO (by rw[je,h7];exact List.mem_map_of_mem hp)
      ·exact h1 h7.symm
     ·cases hk
    ·rw[bW];rfl
    ·obtain⟨p,v,hp,rfl⟩:=gb z hz;rw[pP p v hp];obtain⟨j,n,t,x,u,cs,rfl,_⟩:=p4 p v hp;rfl
   ·intro z r hz ag hr;rcases hr with rfl|hr
    ·exfalso;have:=hI.roots z _ ag;rw[List.contains_iff_mem.2 this]at jf;cases jf
    ·refine V.kd (jO r ?_);rcases hr with rfl|hr
     ·simp
     ·rw[je];exact List.mem_cons_of_mem _ hr
   ·intro z hz;refine⟨bt z hz,?_⟩;show (a.tmps.setIfInBounds d _).getD z undef=_;rw[dW,if_neg (λe=>hz (.inr (.inl e.1)))]
   ·intro z r hz ag;rcases hz with rfl|rfl|hz
    ·rw[bL]at ag;simp[V.on,V.root]at ag
    ·rw[bW]at ag;simp[V.on,V.root]at ag
    ·obtain⟨p,v,hp,rfl⟩:=gb z hz;rw[pP p v hp]at ag;obtain⟨j,n,t,x,u,cs,rfl,_⟩:=p4 p v hp;simp only[V.on,V.root,beq_iff_eq,Option.some.injEq]at ag;subst ag;exact List.contains_iff_mem.1 sI
   ·intro z hz;have gh:(a.put (some d) (a.eval (.tmp s))).tmps.getD d undef=a.tmps.getD s undef:=by
     show (a.tmps.setIfInBounds d _).getD d undef=_;rw[dW,if_pos ⟨rfl,by rw[hI.size];exact hd⟩];rfl
    rcases hz with rfl|rfl|hz
    ·rw[bL];trivial
    ·rw[bW,gh];exact⟨dz,ee,MI (λk hk=>⟨ew hI hk,rfl⟩) dK⟩
    ·obtain⟨p,v,hp,rfl⟩:=gb z hz;rw[pP p v hp];obtain⟨j,n,t,x,u,cs,rfl,e2,e3,e4,e5⟩:=p4 p v hp;refine⟨by rw[bW];rfl,dz,u,cs,by rw[gh];exact ee,by simpa using e2,e4,?_⟩;refine Own.move (λk hk=>?_) (λk i rest hi hk=>⟨?_,rfl⟩) e5
     ·rcases hk with hk|⟨_,_,hk,_⟩
      ·exact⟨.inl (ew hI hk),rfl⟩
      ·cases hk
     ·have aL:L k = .own s ((p.2.1+i)::rest):=by simpa using hk
      rw[dc hI (by rw[aL];simp),aL];have:=abL (s:=s) (d:=d) wL wA (List.mem_map_of_mem (f:=(·.1)) hp) (i:=i) (by rw[<-e3];exact hi) (rest:=rest);simpa[eI]using this
  ·exact hr.elim
 ·exact hr.elim
theorem arL[ae](hI:Inv w0 L0 N vs T a w L){o:Oper}{x:Operand}{d i:Nat}{ups:List (Nat×V)}{log:List Nat}(ho:o.op = .extract x i)(aA:o.dst=some d)(hd:d<N)
  (hr:(Xh vs d x i).aj T ups log):Step P o w0 L0 N vs (ai T ups) a w:=by
 cases x with
 | tmp s =>
  obtain⟨aD,rfl,hr⟩:=hr;dsimp only at hr;have bO:=hI.aX d;generalize Li:T.getD d .dead=vd at hr bO;split at hr
  ·rename_i r j n t y;split at hr
   ·rename_i hc;obtain⟨rfl,rfl,sI,hn,ami⟩:=hc;obtain⟨rfl,_⟩:=hr;obtain⟨h0,dz,u,cs,h1,h2,h3,h4⟩:=bO;have aT:(execOp a.eval o).run P w = .ok (.value u) w:=by
     have:a.eval (.tmp r) = .tuple dz:=h1;simp[execOp,ho,this,Instr.extract,h2]
    have hT:∀z,(ai T [(d,V.d none n t y)]).getD z .dead=if z=d/\d<T.length then V.d none n t y else T.getD z .dead:=λz=>aJ _ _ _ _ _
    have pT:d<T.length:=by rw[hI.len];exact hd
    refine Step.value aA aT (Inv.upd (λz=>z=d) hI (by simp[Act.put,hI.size]) (by rw[cC,hI.len]) hI.dO hI.fr hI.free hI.inj ?_ (λ_ _ _ _=>⟨rfl,rfl⟩) ?_ ?_ ?_ ?_)
    ·intro k z q hk;rw[hT];split
     ·simp[V.aO,hn,ami]
     ·exact hI.owner k z q hk
    ·intro z hz;refine⟨by rw[hT,if_neg (λe=>hz e.1)],?_⟩;show (a.tmps.setIfInBounds d _).getD z undef=_;rw[dW,if_neg (λe=>hz e.1)]
    ·intro z r' ag;rw[hT]at ag;split at ag
     ·simp[V.on,V.root]at ag
     ·exact hI.roots z r' ag
    ·intro z r' hz ag lO;have bD:r'≠d:=by
      rintro rfl
      have:=hI.roots z _ ag;rw[List.contains_iff_mem.2 this]at sI;cases sI
     refine⟨by rw[hT,if_neg (λe=>bD e.1)],?_⟩;show (a.tmps.setIfInBounds d _).getD r' undef=_;rw[dW,if_neg (λe=>bD e.1)]
    ·intro z hz;subst hz;rw[hT,if_pos ⟨rfl,pT⟩];have:(a.put (some z) u).tmps.getD z undef=u:=by
      show (a.tmps.setIfInBounds z _).getD z undef=_;rw[dW,if_pos ⟨rfl,by rw[hI.size];exact hd⟩]
     rw[this];exact⟨by simp,cs,h3,h4⟩
   ·exact hr.elim
  ·obtain⟨hid,log2,rfl,hr⟩:=hr;dsimp only at hr;have hs:=hI.aX s;generalize hv:T.getD s .dead=v at hr hs;split at hr
   ·rename_i l;split at hr
    ·rename_i sz n t y hl;split at hr
     ·rename_i hn;obtain⟨rfl,_⟩:=hr;obtain⟨dz,h1,h2⟩:=hs;obtain⟨o',u,cs,e1,e2,e3⟩:=acD h2 hl;have e1:dz[i]?=some u:=by simpa using e1
      have aT:(execOp a.eval o).run P w = .ok (.value u) w:=by
       have:a.eval (.tmp s) = .tuple dz:=h1;simp[execOp,ho,this,Instr.extract,e1]
      have cc:aP P o vs T a w L d (.d none n t y):=aP.still hI aT (λ_=>rfl) ⟨by simp,cs,e2,Own.bB hn e3 hn⟩;intro K Q hK;exact aP.inv hI hd (by rw[Li];exact hid) aA cc hK
     ·exact hr.elim
    ·exact hr.elim
   ·exact hr.elim
 | const c=>exact hr.elim
 | func f=>exact hr.elim
 | global g=>exact hr.elim
end
def jq(r s:Nat)(v:V):Nat->List V->List (Nat×V)
 | _,[]=>[]
 | i,u::l=>cond (i==s) ((i,v)::jq r s v (i+1) l) (cond (i==r||u.on r) ((i,.dead)::jq r s v (i+1) l) (jq r s v (i+1) l))
def xI(r s:Nat):Nat->List V->Bool
 | _,[]=>true
 | i,u::l=>(i==s||i==r || !(u.on r&&u.aO))&&xI r s (i+1) l
def tP(N:Nat):List Nat->M (List (Nat×V))->M (List (Nat×V))
 | [],m=>m
 | s::l,m=>.get s λv=>match v with
  | .view r [] _=>.get r λu=>match u with
   | .d none n t x =>
    if n≠0/\t.depth≠0/\s<N/\s≠r then
     (allM 0 N).bind λTs=>.bn (xI r s 0 Ts) (((tP N l m).nJ (ai Ts (jq r s (.d none n t x) 0 Ts))).bind λups=>.ret (jq r s (.d none n t x) 0 Ts++ups))
    else tP N l m
   | _=>tP N l m
  | _=>tP N l m
section
variable{P:Program}{C:Ctx}{w w' w0:World}{S S':Nat->Prop}{L L' L0:Nat->ak}{s N:Nat}{vs:List Nat}{T T':List V}{tm tm':Array Value}{a:Act}
theorem tI{r s:Nat}{v:V}:{i:Nat}->{l:List V}->(z:Nat)->(u:V)->((z,u)∈jq r s v i l↔i<=z/\z<i+l.length/\((z=s/\u=v)\/(z≠s/\u = .dead/\(z=r\/(l.getD (z - i) .dead).on r=true))))
 | i,[],z,u=>by simp[jq];omega
 | i,u0::l,z,u=>by
  have ih:=tI (r:=r) (s:=s) (v:=v) (i:=i+1) (l:=l) z u;have eu:i+1<=z->(u0::l).getD (z - i) .dead=l.getD (z - (i+1)) .dead:=λh=>by
   rw[show z - i=(z - (i+1))+1 by omega,List.getD_cons_succ]
  have K6:(z,u)∈jq r s v (i+1) l->i<=z/\z<i+(u0::l).length/\((z=s/\u=v)\/(z≠s/\u = .dead/\(z=r\/((u0::l).getD (z - i) .dead).on r=true))):=by
   intro h;obtain⟨h1,h2,h3⟩:=ih.1 h;rw[eu h1];exact⟨by omega,by simp only[List.length_cons];omega,h3⟩
  have sC:z≠i->i<=z/\z<i+(u0::l).length/\((z=s/\u=v)\/(z≠s/\u = .dead/\(z=r\/((u0::l).getD (z - i) .dead).on r=true)))->(z,u)∈jq r s v (i+1) l:=by
   rintro hz ⟨h1,h2,h3⟩
   simp only[List.length_cons]at h2;rw[eu (by omega)]at h3;exact ih.2 ⟨by omega,by omega,h3⟩
  simp only[jq];cases hc:(i==s)with
  | true =>
   have hi:i=s:=by simpa using hc
   simp only[cond_true,List.mem_cons,Prod.mk.injEq];constructor
   ·rintro (⟨rfl,rfl⟩|h)
    ·exact⟨Nat.le_refl _,by simp,.inl ⟨hi,rfl⟩⟩
    ·exact K6 h
   ·intro h;by_cases hz:z=i
    ·obtain⟨_,_,h|h⟩:=h
     ·exact .inl ⟨hz,h.2⟩
     ·exact absurd (hz.trans hi) h.1
    ·exact .inr (sC hz h)
  | false =>
   have hi:i≠s:=by simpa using hc
   simp only[cond_false];cases ft:(i==r||u0.on r)with
   | true =>
    simp only[cond_true,List.mem_cons,Prod.mk.injEq];constructor
    ·rintro (⟨rfl,rfl⟩|h)
     ·refine⟨Nat.le_refl _,by simp,.inr ⟨hi,rfl,?_⟩⟩;rw[Nat.sub_self,List.getD_cons_zero];simpa using ft
     ·exact K6 h
    ·intro h;by_cases hz:z=i
     ·obtain⟨_,_,h|h⟩:=h
      ·exact absurd (hz.symm.trans h.1) hi
      ·exact .inl ⟨hz,h.2.1⟩
     ·exact .inr (sC hz h)
   | false =>
    simp only[cond_false];constructor
    ·exact K6
    ·intro h;by_cases hz:z=i
     ·exfalso;obtain⟨_,_,h|h⟩:=h
      ·exact hi (hz.symm.trans h.1)
      ·simp only[Bool.or_eq_false_iff,beq_eq_false_iff_ne]at ft;subst hz;rw[Nat.sub_self,List.getD_cons_zero]at h;rcases h.2.2 with h|h
       ·exact ft.1 h
       ·rw[ft.2]at h;cases h
     ·exact sC hz h
theorem ar2[ae](hl:T.length=N){r s:Nat}{v:V}(hs:s<N)(z:Nat):(ai T (jq r s v 0 T)).getD z .dead=if z=s then v else if z=r\/(T.getD z .dead).on r=true then .dead else T.getD z .dead:=by
 split
 ·rename_i hz;subst hz;exact ij (by rw[hl];exact hs) (List.mem_map.2 ⟨(z,v),(tI z v).2 ⟨Nat.zero_le _,by rw[Nat.zero_add,hl];exact hs,.inl ⟨rfl,rfl⟩⟩,rfl⟩) (λu hu=>by
   rcases ((tI z u).1 hu).2.2 with h|h
   ·exact h.2
   ·exact absurd rfl h.1)
 ·rename_i hz;split
  ·rename_i hc;by_cases oM:z<N
   ·exact ij (by rw[hl];exact oM) (List.mem_map.2 ⟨(z,.dead),(tI z .dead).2 ⟨Nat.zero_le _,by rw[Nat.zero_add,hl];exact oM,.inr ⟨hz,rfl,hc⟩⟩,rfl⟩) (λu hu=>by
     rcases ((tI z u).1 hu).2.2 with h|h
     ·exact absurd h.1 hz
     ·exact h.2.1)
   ·exact ez (by rw[cC,hl];omega)
  ·rename_i hc;refine eX _ _ _ (λhm=>?_);obtain⟨u,hu,he⟩:=List.mem_map.1 hm;subst he;rcases ((tI u.1 u.2).1 hu).2.2 with h|h
   ·exact hz h.1
   ·exact hc h.2.2
theorem acz{r s:Nat}:{i:Nat}->{l:List V}->xI r s i l=true->∀z,i+z≠s->i+z≠r->(l.getD z .dead).on r=true->(l.getD z .dead).aO=false
 | _,[],_,z,_,_,h=>by simp[V.on,V.root]at h
 | i,u::l,h,z,hs,hr,hc=>by
  simp only[xI,Bool.and_eq_true,Bool.or_eq_true,Bool.not_eq_true',beq_iff_eq]at h;cases z with
  | zero =>
   simp only[List.getD_cons_zero]at hc ⊢;rcases h.1 with h1|h1
   ·rcases h1 with h1|h1
    ·exact absurd h1 (by simpa using hs)
    ·exact absurd h1 (by simpa using hr)
   ·rw[hc,Bool.true_and]at h1;exact h1
  | succ z =>
   simp only[List.getD_cons_succ]at hc ⊢;exact acz h.2 z (by omega) (by omega) hc
theorem Inv.ar4[ae](hI:Inv w0 L0 N vs T a w L){s r n:Nat}{t t':Ty}{x:t.den}(hs:T.getD s .dead = .view r [] t')(hr:T.getD r .dead = .d none n t x)(hn:n≠0)(hd:t.depth≠0)(b8:s<N)(bu:s≠r)
  (aH:xI r s 0 T=true):∃L',Inv w0 L0 N vs (ai T (jq r s (.d none n t x) 0 T)) a w L':=by
 let kp:Nat->V->Bool:=λz v=>z != s&&z != r&&v.on r;have bz:=Inv.apE hI (kp:=kp) (by
  unfold aaJ;rw[List.all_eq_true];intro b hb;obtain⟨i,hi⟩:=List.mem_iff_getElem?.1 hb;simp only[List.getElem?_mapIdx,Option.map_eq_some_iff]at hi;obtain⟨v,hv,rfl⟩:=hi;have kI:T.getD i .dead=v:=by simp[List.getD_eq_getElem?_getD,hv]
  simp only[id_eq,Bool.or_eq_true];cases cj:v.root with
  | none=>exact .inr rfl
  | some q =>
   dsimp only;cases hk:kp q (T.getD q .dead)with
   | false=>exact .inr rfl
   | true =>
    right;simp only[kp,Bool.and_eq_true,bne_iff_ne]at hk;have:=acz aH q (by simpa using hk.1.1) (by simpa using hk.1.2) hk.2;rw[this];rfl)
 obtain⟨L1,bz⟩:=bz;have hg:∀z,(jW kp T).getD z .dead=if kp z (T.getD z .dead)=true then .dead else T.getD z .dead:=XK kp T
 have kO:(jW kp T).getD s .dead = .view r [] t':=by rw[hg,if_neg (by simp[kp]),hs]
 have lR:(jW kp T).getD r .dead = .d none n t x:=by rw[hg,if_neg (by simp[kp]),hr]
 have cu:nH r s (jW kp T)=true:=by
  unfold nH;rw[List.all_eq_true];intro b hb;obtain⟨i,hi⟩:=List.mem_iff_getElem?.1 hb;simp only[List.getElem?_mapIdx,Option.map_eq_some_iff]at hi;obtain⟨v,hv,rfl⟩:=hi;have kI:(jW kp T).getD i .dead=v:=by simp[List.getD_eq_getElem?_getD,hv]
  simp only[id_eq,Bool.or_eq_true,beq_iff_eq,bne_iff_ne];by_cases oG:i=s
  ·exact .inl oG
  ·right;intro cj;rw[hg]at kI;split at kI
   ·subst kI;simp[V.root]at cj
   ·rename_i hk;by_cases Ys:i=r
    ·subst Ys;rw[hr]at kI;subst kI;simp[V.root]at cj
    ·apply hk;rw[kI];simp[kp,oG,Ys,V.on,cj]
 have Ld:t'=t:=by
  have bh:=bz.aX s;rw[kO]at bh;obtain⟨cB,hh⟩:=bh;rcases hh with⟨_,_,l,n',x',h3,_⟩|⟨_,_,_,h,_⟩
  ·rw[lR]at h3;injection h3 with _ _ h3 _;exact h3.symm
  ·rw[lR]at h;simp[V.dE]at h
 obtain⟨L2,hI2⟩:=Inv.take bz (n:=n) (t:=t) (x:=x) (p:=[]) (log:=[]) (s:=s) (r:=r) (by rw[kO,Ld]) b8 (by rw[lR];exact⟨rfl,rfl⟩) hn hd cu
 ·refine⟨L2,?_⟩;have gT:(jW kp T).length=N:=bz.len;have:((jW kp T).set r .dead).set s (.d none n t x)=ai T (jq r s (.d none n t x) 0 T):=by
   refine Eb (by rw[List.length_set,List.length_set,gT,cC,hI.len]) (λz=>?_);rw[ar2 hI.len b8,aJ,aJ,hg];by_cases hz:z=s
   ·subst hz;rw[if_pos ⟨rfl,by rw[List.length_set,gT];exact b8⟩,if_pos rfl]
   ·rw[if_neg (λe=>hz e.1),if_neg hz];by_cases dL:z=r
    ·subst dL;have oM:z<(jW kp T).length:=by
      apply Classical.byContradiction;intro lJ;rw[ez (by rw[hI.len];rw[gT]at lJ;omega)]at hr;cases hr
     rw[if_pos ⟨rfl,oM⟩,if_pos (.inl rfl)]
    ·rw[if_neg (λe=>dL e.1)];by_cases ag:(T.getD z .dead).on r=true
     ·have hk:kp z (T.getD z .dead)=true:=by
       show (z != s&&z != r&&(T.getD z .dead).on r)=true;rw[ag];simp[hz,dL]
      rw[if_pos hk,if_pos (.inr ag)]
     ·have hk:¬kp z (T.getD z .dead)=true:=by
       show ¬(z != s&&z != r&&(T.getD z .dead).on r)=true;rw[Bool.not_eq_true]at ag;rw[ag];simp
      rw[if_neg hk,if_neg (λh=>h.elim dL ag)]
  rw[<-this];exact hI2
theorem xM[ae]{w:World}{a:Act}{m:M (List (Nat×V))}:{ss:List Nat}->{T:List V}->{L:Nat->ak}->{ups:List (Nat×V)}->{log:List Nat}->Inv w0 L0 N vs T a w L->(tP N ss m).aj T ups log ->
  ∃T1 L1 bK log2,Inv w0 L0 N vs T1 a w L1/\m.aj T1 bK log2/\ai T ups=ai T1 bK
 | [],T,L,ups,log,hI,h=>⟨T,L,ups,log,hI,h,rfl⟩
 | s::l,T,L,ups,log,hI,h=>by
  obtain⟨eP,rfl,h⟩:=h;dsimp only at h;generalize bf:T.getD s .dead=v at h;split at h
  ·rename_i r t';obtain⟨log2,rfl,h⟩:=h;dsimp only at h;generalize wO:T.getD r .dead=u at h;split at h
   ·rename_i n t x;split at h
    ·rename_i hc;obtain⟨hn,hd,b8,bu⟩:=hc;obtain⟨Ts,l1,l2,rfl,dP,hk,h⟩:=M.aq h;have bL:Ts=T:=by rw[ly dP (by rw[Nat.zero_add,hI.len])];rfl
     subst bL;obtain⟨bK,l3,l4,rfl,h1,h2⟩:=M.aq h;obtain⟨rfl,_⟩:=h2;obtain⟨aD,h1⟩:=M.oQ h1;obtain⟨L',il⟩:=Inv.ar4 hI bf wO hn hd b8 bu hk;obtain⟨T1,L1,jv,fH,k1,k2,k3⟩:=xM il h1;exact⟨T1,L1,jv,fH,k1,k2,by rw[lg];exact k3⟩
    ·exact xM hI h
   ·exact xM hI h
  ·exact xM hI h
end
def Xi(C:Ctx)(X:TypeId)(f t:Nat):M V :=
 .ask (C8 t) (match px C X with
  | some ta=>match bC f ta with
   | some (off,t1)=>.ret (.ptr t [.a7 f off] t1)
   | none=>.fail
  | none=>.fail)
def abR(t:Nat)(ty:Ty):M V:=.ask (C8 t) (.ret (.ptr t [] ty))
section
variable{P:Program}{C:Ctx}{w w' w0:World}{S S':Nat->Prop}{L L' L0:Nat->ak}{s N:Nat}{vs:List Nat}{T T':List V}{tm tm':Array Value}{a:Act}
theorem WG{v:V}{c:Value}(hs:aB L T tm s v w c)(hb:v.fq=true):∃g,c = .pointer (some ⟨g,0,none⟩)/\L g = .own s []:=by
 cases v with
 | box l n t x =>
  obtain⟨_,g,cur,e,h1,h2,_⟩:=hs;exact⟨g,h1,h2⟩
 | hole u p =>
  cases u with
  | box l n t x =>
   obtain⟨_,_,_,_,_,_,_,h⟩:=hs;obtain⟨_,g,cur,e,h1,h2,_⟩:=h;exact⟨g,h1,h2⟩
  | _=>simp[V.fq]at hb
 | bQ k n t x =>
  unfold V.fq at hb;split at hb
  ·rename_i he;cases he
  ·rename_i he;cases he
  ·rename_i he;cases he;cases t with
   | agg t =>
    obtain⟨g,cur,e,h1,h2,_⟩:=hs;exact⟨g,h1,h2⟩
   | _=>exact hs.elim
  ·cases hb
 | _=>simp[V.fq]at hb
theorem aqx[ae](hI:Inv w0 L0 N vs T a w L)(hC:bF P C){o:Oper}{X:TypeId}{t f d:Nat}{v:V}{log:List Nat}(ho:o.op = .fieldAddr X (.tmp t) f)
  (h:(Xi C X f t).aj T v log) (bf:∀r,v.on r=true->r∈vs):aP P o vs T a w L d v:=by
 obtain⟨⟨hq,_⟩,aD,rfl,h⟩:=h;obtain⟨g,h1,h2⟩:=WG (hI.aX t) (Wx hq);split at h
 ·rename_i ta jU;split at h
  ·rename_i off t1 hc;obtain⟨rfl,_⟩:=h;have eY:a.eval (.tmp t)=_:=h1;refine aP.ptr hI (g:=g) ?_ h2 bf;simp[execOp,ho,eY,ab5 hC jU hc,node]
  ·exact h.elim
 ·exact h.elim
theorem aqG[ae](hI:Inv w0 L0 N vs T a w L){o:Oper}{t d:Nat}{ty:Ty}{v:V}{log:List Nat}(ho:o.op = .move (.tmp t))
  (h:(abR t ty).aj T v log) (bf:∀r,v.on r=true->r∈vs):aP P o vs T a w L d v:=by
 obtain⟨⟨hq,_⟩,aD,rfl,h⟩:=h;obtain⟨g,h1,h2⟩:=WG (hI.aX t) (Wx hq);obtain⟨rfl,_⟩:=h;have eY:a.eval (.tmp t)=_:=h1;refine aP.ptr hI (g:=g) ?_ h2 bf;simp[execOp,ho,eY,node]
def mq(r:Nat)(q:List Nat)(o s:Nat):Nat->List Nat->ak:=λz q2 =>
 if z=r then match cut q q2 with
  | some (y::rest)=>if y=o then .own s (0::rest)else .own r q2
  | _=>.own r q2
 else if z=s then .other else .own z q2
theorem tK[ae]{r s:Nat}{q:List Nat}{o:Nat}{z:Nat}{q2:List Nat}{z':Nat}{q3:List Nat}(h:mq r q o s z q2 = .own z' q3):
  (z=r/\∃rest,q2=q++o::rest/\z'=s/\q3=0::rest)\/(z=r/\z'=r/\q3=q2/\∀rest,q2≠q++o::rest)\/(z≠r/\z≠s/\z'=z/\q3=q2):=by
 unfold mq at h;split at h
 ·rename_i hz;split at h
  ·rename_i y rest hc;split at h
   ·rename_i hy;injection h with h1 h2;subst hy;exact .inl ⟨hz,rest,oh hc,h1.symm,h2.symm⟩
   ·rename_i hy;injection h with h1 h2;refine .inr (.inl ⟨hz,h1.symm,h2.symm,λfA he=>?_⟩);rw[he,mM]at hc;simp only[Option.some.injEq,List.cons.injEq]at hc;exact hy hc.1.symm
  ·rename_i cu;injection h with h1 h2;refine .inr (.inl ⟨hz,h1.symm,h2.symm,λfA he=>?_⟩);exact cu o fA (by rw[he,mM])
 ·rename_i hz;split at h
  ·cases h
  ·rename_i hs;injection h with h1 h2;exact .inr (.inr ⟨hz,hs,h1.symm,h2.symm⟩)
theorem ar7[ae]{r s:Nat}{q:List Nat}{o:Nat}{X:Nat->Prop}(hr:X r)(hs:X s)(iy:r≠s):fD (mq r q o s) X:=by
 refine⟨λz q2 hX=>?_,λz q2 z' q3 hX h=>?_,λz q2 z2 q3 z' q4 h1 h2=>?_,λz q2=>?_⟩
 ·unfold mq;rw[if_neg (λe:z=r=>hX (e▸hr)),if_neg (λe:z=s=>hX (e▸hs))]
 ·rcases tK h with⟨_,_,_,rfl,_⟩|⟨_,rfl,_⟩|⟨_,_,rfl,_⟩
  ·exact hs
  ·exact hr
  ·exact hX
 ·rcases tK h1 with⟨rfl,rest,rfl,rfl,rfl⟩|⟨rfl,rfl,rfl,hn⟩|⟨g1,g2,rfl,rfl⟩
  ·rcases tK h2 with⟨rfl,fA,rfl,_,he⟩|⟨rfl,he,_⟩|⟨_,g2,he,_⟩
   ·injection he with _ he;exact⟨rfl,by rw[he]⟩
   ·exact absurd he.symm iy
   ·exact absurd he.symm g2
  ·rcases tK h2 with⟨_,fA,_,he,_⟩|⟨rfl,_,he,_⟩|⟨g1,_,he,_⟩
   ·exact absurd he iy
   ·exact⟨rfl,he⟩
   ·exact absurd he.symm g1
  ·rcases tK h2 with⟨_,fA,_,he,_⟩|⟨_,he,_⟩|⟨_,_,h3,h4⟩
   ·exact absurd he g2
   ·exact absurd he g1
   ·exact⟨h3,h4⟩
 ·unfold mq
  repeat' split
  all_goals simp
theorem ar6[ae]{r s:Nat}{q:List Nat}{o:Nat}{rest:List Nat}:mq r q o s r (q++o::rest) = .own s (0::rest):=by
 unfold mq;rw[if_pos rfl,mM];simp
theorem EU[ae]{r s:Nat}{q:List Nat}{o:Nat}{q2:List Nat}(h:∀rest,q2≠q++o::rest):mq r q o s r q2 = .own r q2:=by
 unfold mq;rw[if_pos rfl];split
 ·rename_i y rest hc;split
  ·rename_i hy;subst hy;exact absurd (oh hc) (h rest)
  ·rfl
 ·rfl
theorem MO{g o:Nat}{cur:Array Value}{e:TypeId}{v:Value}(h:w.heap[g]?=some (.cells cur e (0,0))):(w.setCell ⟨g,o,none⟩ v).heap[g]?=some (.cells (cur.setIfInBounds o v) e (0,0)):=by
 simp[World.setCell,Array.getElem?_modify,h]
theorem tA{g o k:Nat}{v:Value}(h:k≠g):(w.setCell ⟨g,o,none⟩ v).heap[k]?=w.heap[k]?:=by
 simp only[World.setCell,Array.getElem?_modify];rw[if_neg (Ne.symm h)]
theorem aqc{p:List St}{k n:Nat}{t:Ty}{x:t.den}{l:Option Nat}{z:D}{log:List Nat}(h:(qv p k n t x).aj T (l,z) log):l=none:=by
 unfold qv at h;split at h
 ·split at h
  ·obtain⟨_,y,_,h⟩:=h;obtain⟨_,_,_,_,_,h⟩:=M.aq h;exact (Prod.mk.inj h.1).1
  ·exact h.elim
 ·split at h
  ·split at h
   ·obtain⟨_,_,_,_,_,h⟩:=M.aq h;exact (Prod.mk.inj h.1).1
   ·exact h.elim
  ·exact h.elim
 ·exact h.elim
theorem ab3{p:List St}{u:V}{l:Option Nat}{z:D}{log:List Nat}(h:(dG p u).aj T (l,z) log):u.root=l:=by
 cases u with
 | box l0 n t x =>
  obtain⟨zz,l1,l2,rfl,h1,h2⟩:=M.aq h;obtain⟨h2,_⟩:=h2;cases h2;rfl
 | d l0 n t x =>
  simp only[dG]at h;split at h
  ·obtain⟨zz,l1,l2,rfl,h1,h2⟩:=M.aq h;obtain⟨h2,_⟩:=h2;cases h2;rfl
  ·exact h.elim
 | dead=>exact h.elim
 | bH _=>exact h.elim
 | rp _ _ _=>exact h.elim
 | ptr _ _ _=>exact h.elim
 | view _ _ _=>exact h.elim
 | hole _ _=>exact h.elim
 | part _ _ _ _ _=>exact h.elim
 | bQ _ _ _ _=>exact (aqc h).symm
 | same _ _=>exact h.elim
theorem Inv.ar3[ae](hI:Inv w0 L0 N vs T a w L){s r n:Nat}{p:List St}{u u':V}{e:TypeId}{te:Ty}{x:List te.den}{log log2:List Nat}(hs:T.getD s .dead = .view r p (.slice e te))(hr:T.getD r .dead=u)(hu:u.fq=true)(b8:s<N)(dw:r<N)
  (hz:(dG p u).aj T (none,⟨n,.slice e te,x⟩) log) (hm:(fT p u (.slice e te) []).aj T u' log2) (hn:n≠0) (cQ:∀z,z≠s->(T.getD z .dead).ey r=false) :
  ∃L',Inv w0 L0 N vs ((T.set r (.hole u' p)).set s (.d none n (.slice e te) x)) a w L':=by
 have cj:=ab3 hz;obtain⟨lT,wE,vQ,DP⟩:=Ma hm;have bu:=hI.aX s;rw[hs]at bu;have iy:r≠s:=by
  rintro rfl
  rw[hs]at hr;subst hr;simp[V.fq]at hu
 have Za:(qS p (T.getD r .dead)).aj T (none,⟨n,.slice e te,x⟩) log:=by
  rw[hr];cases u with
  | box l0 n0 t0 x0=>exact hz
  | hole _ _=>exact hz
  | bQ _ _ _ _=>exact hz
  | _=>simp[V.fq]at hu
 obtain⟨cs,hf,bA,_,cB⟩:=E0 hI bu Za;have bh:=hI.aX r;rw[hr]at bh;obtain⟨hb,_,_,gW,lK⟩:=lb hz bh;obtain⟨g,cur,e',k1,k2,k3,k4⟩:=hb;have bL:((T.set r (.hole u' p)).set s (.d none n (.slice e te) x)).getD s .dead = .d none n (.slice e te) x:=by
  rw[aJ,if_pos ⟨rfl,by simp[hI.len,b8]⟩]
 have bG:((T.set r (.hole u' p)).set s (.d none n (.slice e te) x)).getD r .dead = .hole u' p:=by
  rw[aJ,if_neg (λh=>iy h.1),aJ,if_pos ⟨rfl,by rw[hI.len];exact dw⟩]
 have bt:∀z,z≠r->z≠s->((T.set r (.hole u' p)).set s (.d none n (.slice e te) x)).getD z .dead=T.getD z .dead:=by
  intro z h1 h2;rw[aJ,if_neg (λh=>h2 h.1),aJ,if_neg (λh=>h1 h.1)]
 have nt:∀z,z≠s->(T.getD z .dead).on r=true->∃p' t',T.getD z .dead = .ptr r p' t'/\shallow p'=true:=by
  intro z gZ ag;have hb:=cQ z gZ;unfold V.ey at hb;rw[ag,Bool.true_and]at hb;generalize T.getD z .dead=v at hb ag;cases v with
  | ptr r2 p2 t2 =>
   have:r2=r:=by simpa[V.on,V.root]using ag
   subst this;exact⟨p2,t2,rfl,by simpa using hb⟩
  | _=>simp at hb
 refine⟨_,Inv.gI (f:=mq r (node [] 0 p).1 (node [] 0 p).2 s) (X:=λz=>z=r\/z=s\/(T.getD z .dead).on r=true) (nl:=λ_=>.free) hI (ar7 (.inl rfl) (.inr (.inl rfl)) iy) (Wd.refl hI _) (λ_ _ _ _ _ h=>by cases h) hI.size (by simp[hI.len]) hI.dO ?_ ?_ ?_ ?_ ?_⟩
 ·intro k z q bY h;by_cases h1:z=r
  ·subst h1;rw[bG];rfl
  ·by_cases h2:z=s
   ·subst h2;rw[bL];simp[V.aO,hn,Ty.depth]
   ·rw[bt z h1 h2];unfold aW at h;split at h
    ·obtain⟨s0,q0,e0,f0⟩:=eS h;rcases tK f0 with⟨_,_,_,h3,_⟩|⟨_,h3,_⟩|⟨_,_,h3,h4⟩
     ·exact absurd h3 h2
     ·exact absurd h3 h1
     ·subst h3;exact hI.owner k _ _ e0
    ·cases h
 ·intro z r' bY ag aZ;have bY:=not_or.1 bY;have dq:=not_or.1 bY.2;rcases aZ with rfl|rfl|aZ
  ·exact absurd ag dq.2
  ·rw[hs];rfl
  ·by_cases h2:r'=s
   ·subst h2;rw[hs];rfl
   ·obtain⟨p',t',he,_⟩:=nt r' h2 aZ;rw[he];rfl
 ·intro z bY;have bY:=not_or.1 bY;have dq:=not_or.1 bY.2;exact⟨bt z bY.1 dq.1,rfl⟩
 ·intro z r' bY ag;by_cases h1:z=r
  ·subst h1;rw[bG]at ag;simp[V.on,V.root,lT,cj]at ag
  ·by_cases h2:z=s
   ·subst h2;rw[bL]at ag;simp[V.on,V.root]at ag
   ·rw[bt z h1 h2]at ag;exact hI.roots z r' ag
 ·intro z bY;by_cases h1:z=r
  ·subst h1;rw[bG];refine⟨by rw[lT,cj],g,cur,e',?_,k2,by simp only[Ty.sz]at k3;omega,?_⟩
   ·rw[dc hI (by rw[k1];simp),k1];exact EU (λrest h=>by have:=congrArg List.length h;simp at this)
   ·refine L7 (T2:=_) (cur:=cur) (e':=e') (g':=g) (cur':=cur.setIfInBounds (node [] 0 p).2 (.slice none 0 0)) bh hz hm (λr' aZ=>by rw[cj]at aZ;cases aZ) ?_ ?_
    ·refine⟨λk hk=>?_,λk q2 hk hq Lf=>?_,k1,?_,k2,MO k2,by simp,λi hi=>?_,λk hk=>hI.inj k g z _ hk k1⟩
     ·rw[cj]at hk ⊢;rcases hk with hk|⟨_,_,hk,_⟩
      ·exact⟨.inl (ew hI hk),tA (by rintro rfl;rw[k1]at hk;cases hk)⟩
      ·cases hk
     ·refine⟨?_,tA (by rintro rfl;rw[k1]at hk;injection hk with _ hk;exact hq hk.symm)⟩;rw[dc hI (by rw[hk];simp),hk];exact EU (λrest h=>Lf ⟨0,rest,by simp[Ty.sz],by simpa using h⟩)
     ·rw[dc hI (by rw[k1];simp),k1];exact EU (λrest h=>by have:=congrArg List.length h;simp at this)
     ·rw[Array.getElem?_setIfInBounds,if_neg (by simp only[Ty.sz]at hi;omega)]
    ·have hc:((cur.setIfInBounds (node [] 0 p).2 (.slice none 0 0)).toList.drop (node [] 0 p).2).take (Ty.slice e te).sz=[.slice none 0 0]:=by
      simp only[Ty.sz]at k3 ⊢;apply List.ext_getElem?;intro i;rw[List.getElem?_take];split
      ·obtain rfl:i=0:=by omega
       rw[List.getElem?_drop,Nat.add_zero,Array.getElem?_toList,Array.getElem?_setIfInBounds,if_pos rfl,if_pos (by omega)];rfl
      ·exact (List.getElem?_eq_none (by simp;omega)).symm
     rw[hc];cases n with
     | zero=>exact absurd rfl hn
     | succ n=>simp only[Own];exact .inl (by constructor<;>first|trivial|rfl)
  ·by_cases h2:z=s
   ·subst h2;rw[bL];refine⟨by simp,cs,hf,?_⟩;refine Own.move (λk hk=>?_) (λk d rest hd hk=>⟨?_,rfl⟩) bA
    ·rcases hk with hk|⟨_,_,hk,_⟩
     ·exact⟨.inl (ew hI hk),rfl⟩
     ·cases hk
    ·simp only[Ty.sz]at hd;obtain rfl:d=0:=by omega
     rw[dc hI (by rw[hk];simp),hk];simp only[eI,Nat.add_zero,Nat.zero_add,List.nil_append];exact ar6
   ·rw[bt z h1 h2];have ag:(T.getD z .dead).on r=true:=by
     rcases bY with h|h|h
     ·exact absurd h h1
     ·exact absurd h h2
     ·exact h
    obtain⟨p',t',he,eu⟩:=nt z h2 ag;have bq:=hI.aX z;rw[he]at bq ⊢;obtain⟨g2,j1,j2⟩:=bq;refine⟨g2,j1,?_⟩;rw[qE eu]at j2 ⊢;rw[dc hI (by rw[j2];simp),j2];exact EU (λrest h=>by have:=congrArg List.length h;simp at this)
end
def qH:List St->List St->Bool
 | [],[]=>true
 | .a7 i o::p,.a7 i' o'::p'=>i==i'&&o==o'&&qH p p'
 | .idx s i::p,.idx s' i'::p'=>s==s'&&i==i'&&qH p p'
 | _,_=>false
theorem MZ:{p p':List St}->qH p p'=true->p=p'
 | [],[],_=>rfl
 | .a7 i o::p,.a7 i' o'::p',h=>by
  simp only[qH,Bool.and_eq_true,beq_iff_eq]at h;rw[h.1.1,h.1.2,MZ h.2]
 | .idx s i::p,.idx s' i'::p',h=>by
  simp only[qH,Bool.and_eq_true,beq_iff_eq]at h;rw[h.1.1,h.1.2,MZ h.2]
 | [],.a7 _ _::_,h|[],.idx _ _::_,h | .a7 _ _::_,[],h | .idx _ _::_,[],h | .a7 _ _::_,.idx _ _::_,h | .idx _ _::_,.a7 _ _::_,h=>by simp[qH]at h
def Ki(C:Ctx)(vs:List Nat)(N:Nat)(kids:List Nat)(X:TypeId)(r:Nat)(p:List St)(u:V)(p':List St)(x:Operand):M (List (Nat×V)):=
 match x with
 | .tmp s=>if qH p p'=true/\vs.contains s=false/\s≠r/\r<N then
   .get s λv=>match v with
   | .d none k (.slice e te) y=>(dG p u).bind λz =>
    if h:z.2.t = .slice e te then
     if C.ty X=some (.slice e te)/\(z.2.n<=k\/te.depth+1<=k)/\z.2.n≠0/\z.1=none/\u.fq=true then
      (fT p u (.slice e te) y).bind λu2=>ig false r s kids (.ret [(r,u2),(s,.dead)])
     else .fail
    else .fail
   | _=>.fail
  else .fail
 | _=>.fail
def M.calm{α:Type}:M α->Prop
 | .ret _=>True
 | .fail=>True
 | .get _ _=>False
 | .cL _ _ k=>∀x,(k x).calm
 | .bn _ k=>k.calm
 | .ask _ _=>False
 | .ite _ x y=>x.calm/\y.calm
theorem sg{α:Type}{T T':List V}:{m:M α}->{a:α}->{log:List Nat}->m.calm->m.aj T a log->m.aj T' a log
 | .ret _,_,_,_,h=>h
 | .fail,_,_,_,h=>h.elim
 | .get _ _,_,_,c,_=>c.elim
 | .cL _ _ k,a,log,c,⟨x,hx,h⟩=>⟨x,hx,sg (c x) h⟩
 | .bn _ k,a,log,c,⟨hb,h⟩=>⟨hb,sg (m:=k) c h⟩
 | .ask _ _,_,_,c,_=>c.elim
 | .ite _ x y,a,log,c,h=>by
  rcases h with⟨hb,h⟩|⟨hb,h⟩
  ·exact .inl ⟨hb,sg (m:=x) c.1 h⟩
  ·exact .inr ⟨hb,sg (m:=y) c.2 h⟩
theorem iQ{α β:Type}{f:α->M β}(hf:∀a,(f a).calm):{m:M α}->m.calm->(m.bind f).calm
 | .ret a,_=>hf a
 | .fail,_=>trivial
 | .get _ _,c=>c.elim
 | .cL _ _ k,c=>λx=>iQ hf (c x)
 | .bn _ k,c=>iQ (m:=k) hf c
 | .ask _ _,c=>c.elim
 | .ite _ x y,c=>⟨iQ (m:=x) hf c.1,iQ (m:=y) hf c.2⟩
theorem su:(p:List St)->(n:Nat)->(t:Ty)->(x:t.den)->(aU p n t x).calm
 | [],_,_,_=>trivial
 | .a7 i off::p,n,.agg t,x=>by
  simp only[aU];split
  ·split
   ·exact su _ _ _ _
   ·trivial
  ·trivial
 | .idx sz i::p,n+1,.slice _ t,x=>by
  simp only[aU];split
  ·exact λy=>su _ _ _ _
  ·trivial
 | .idx _ _::p,0,.slice _ _,_=>by simp only[aU];trivial
 | .a7 _ _::p,_,.int _,_ | .a7 _ _::p,_,.bool,_ | .a7 _ _::p,_,.str,_ | .a7 _ _::p,_,.raw _,_ | .a7 _ _::p,_,.cap _ _,_ | .a7 _ _::p,_,.unit,_ | .a7 _ _::p,_,.pair _ _,_ | .a7 _ _::p,_,.slice _ _,_=>by simp only[aU];trivial
 | .idx _ _::p,_,.int _,_ | .idx _ _::p,_,.bool,_ | .idx _ _::p,_,.str,_ | .idx _ _::p,_,.raw _,_ | .idx _ _::p,_,.cap _ _,_ | .idx _ _::p,_,.unit,_ | .idx _ _::p,_,.pair _ _,_ | .idx _ _::p,_,.agg _,_=>by simp only[aU];trivial
theorem abe[ae]{f:(t1:Ty)->t1.den->M t1.den}(hf:∀t1 x1,(f t1 x1).calm):(i:Nat)->(t:Ty)->(x:t.den)->(iF i t x f).calm
 | 0,.pair _ _,x=>by simp only[iF];refine iQ ?_ (hf _ _);intro _;trivial
 | i+1,.pair _ b,x=>by simp only[iF];refine iQ ?_ (abe hf i b x.2);intro _;trivial
 | 0,.int _,x|0,.bool,x|0,.str,x|0,.raw _,x|0,.cap _ _,x|0,.unit,x|0,.agg _,x|0,.slice _ _,x=>by simp only[iF];exact hf _ _
 | _+1,.int _,x|_+1,.bool,x|_+1,.str,x|_+1,.raw _,x|_+1,.cap _ _,x|_+1,.unit,x|_+1,.agg _,x|_+1,.slice _ _,x=>by simp only[iF];trivial
theorem En[ae]:(p:List St)->(t:Ty)->(x:t.den)->(t':Ty)->(y:t'.den)->(fe p t x t' y).calm
 | [],t,x,t',y=>by
  simp only[fe];split<;>trivial
 | .a7 i off::p,.agg t,x,t',y=>by
  simp only[fe];split
  ·split
   ·exact abe (λt1 x1=>En p t1 x1 t' y) _ _ _
   ·trivial
  ·trivial
 | .idx sz i::p,.slice _ t,x,t',y=>by
  simp only[fe];split
  ·intro z;refine iQ ?_ (En p t z t' y);intro _ _;trivial
  ·trivial
 | .a7 _ _::p,.int _,_,_,_ | .a7 _ _::p,.bool,_,_,_ | .a7 _ _::p,.str,_,_,_ | .a7 _ _::p,.raw _,_,_,_ | .a7 _ _::p,.cap _ _,_,_,_ | .a7 _ _::p,.unit,_,_,_ | .a7 _ _::p,.pair _ _,_,_,_ | .a7 _ _::p,.slice _ _,_,_,_=>by simp only[fe];trivial
 | .idx _ _::p,.int _,_,_,_ | .idx _ _::p,.bool,_,_,_ | .idx _ _::p,.str,_,_,_ | .idx _ _::p,.raw _,_,_,_ | .idx _ _::p,.cap _ _,_,_,_ | .idx _ _::p,.unit,_,_,_ | .idx _ _::p,.pair _ _,_,_,_ | .idx _ _::p,.agg _,_,_,_=>by simp only[fe];trivial
theorem aqb[ae]{p:List St}{k n:Nat}{t:Ty}{x:t.den}:(qv p k n t x).calm:=by
 unfold qv;split
 ·split
  ·intro y;refine iQ ?_ (su _ _ _ _);intro _;trivial
  ·trivial
 ·split
  ·split
   ·refine iQ ?_ (su _ _ _ _);intro _;trivial
   ·trivial
  ·trivial
 ·trivial
theorem aqW[ae]{p:List St}(u:V):(dG p u).calm:=by
 cases u with
 | box l n t x=>refine iQ ?_ (su _ _ _ _);intro _;trivial
 | d l n t x =>
  simp only[dG];split
  ·(refine iQ ?_ (su _ _ _ _);intro _;trivial)
  ·trivial
 | bQ k n t x=>exact aqb
 | _=>trivial
theorem apY[ae]{p:List St}{t:Ty}{y:t.den}(u:V):(fT p u t y).calm:=by
 cases u with
 | box l n t x=>refine iQ ?_ (En _ _ _ _ _);intro _;trivial
 | d l n t x =>
  simp only[fT];split
  ·(refine iQ ?_ (En _ _ _ _ _);intro _;trivial)
  ·trivial
 | _=>trivial
section
variable{P:Program}{C:Ctx}{w w' w0:World}{S S':Nat->Prop}{L L' L0:Nat->ak}{s N:Nat}{vs:List Nat}{T T':List V}{tm tm':Array Value}{a:Act}
theorem Inv.ghost[ae](hI:Inv w0 L0 N vs T a w L){r:Nat}{p:List St}{u:V}(hr:T.getD r .dead = .hole u p)(hu:u.fq=true)(dw:r<N)(cQ:∀z,(T.getD z .dead).ey r=false\/(T.getD z .dead).on r=false):
  ∃g cur e,L g = .own r (node [] 0 p).1/\w.heap[g]?=some (.cells cur e (0,0))/\(node [] 0 p).2<cur.size/\u.root=none/\Inv w0 L0 N vs (T.set r u) a (w.setCell ⟨g,(node [] 0 p).2,none⟩ (.slice none 0 0)) L:=by
 have hs:=hI.aX r;rw[hr]at hs;obtain⟨h0,g,cur,e,h1,h2,h3,h4⟩:=hs;refine⟨g,cur,e,h1,h2,h3,h0,?_⟩;have hT:∀z,(T.set r u).getD z .dead=if z=r/\r<T.length then u else T.getD z .dead:=λz=>aJ _ _ _ _ _
 have bG:(T.set r u).getD r .dead=u:=by rw[hT,if_pos ⟨rfl,by rw[hI.len];exact dw⟩]
 have bA:u.aO=true:=by cases u<;>simp[V.fq,V.aO]at hu ⊢
 have sL:∀k,L k ≠ .own r (node [] 0 p).1->(w.setCell ⟨g,(node [] 0 p).2,none⟩ (.slice none 0 0)).heap[k]?=w.heap[k]?:=λk hk=>tA (by rintro rfl;exact hk h1);refine Inv.upd (λz=>z=r\/(T.getD z .dead).on r=true) hI hI.size (by simp[hI.len]) hI.dO ?_ (λk hk=>hI.free k (by simpa[World.setCell]using hk)) hI.inj ?_ ?_ ?_ ?_ ?_ ?_
 ·refine⟨hI.fr.os,hI.fr.tape,hI.fr.output,by simpa[World.setCell]using hI.fr.size,hI.fr.drawn,λk hk h=>?_,hI.fr.gP⟩;obtain⟨e1,e2⟩:=hI.fr.aV k hk h;refine⟨e1,?_⟩;rw[sL k (by rw[e1];rcases h with h|h<;>rw[h]<;>simp),e2]
 ·intro k z q hk;rw[hT];split
  ·exact bA
  ·exact hI.owner k z q hk
 ·intro z hz k hk;refine⟨rfl,sL k (λhe=>?_)⟩;have hz:=not_or.1 hz;rcases hk with hk|⟨r',q,hk,aZ⟩
  ·rw[he]at hk;cases hk
  ·rw[he]at hk;injection hk with hk _;subst hk;rcases aZ with aZ|aZ
   ·exact hz.1 aZ.symm
   ·exact hz.2 aZ
 ·intro z hz;have hz:=not_or.1 hz;exact⟨by rw[hT,if_neg (λh=>hz.1 h.1)],rfl⟩
 ·intro z r' ag;rw[hT]at ag;split at ag
  ·simp[V.on,h0]at ag
  ·exact hI.roots z r' ag
 ·intro z r' hz ag _;have hz:=not_or.1 hz;refine⟨by rw[hT,if_neg (λh=>hz.2 (by rw[<-h.1];exact ag))],rfl⟩
 ·intro z hz;by_cases dL:z=r
  ·subst dL;rw[bG];exact aB.aV (L':=L) (T':=T.set z u) (tm':=a.tmps) (λk _=>⟨rfl,rfl⟩) (λr' aZ _=>by simp[V.on,h0]at aZ) h4
  ·have ag:(T.getD z .dead).on r=true:=hz.resolve_left dL;rw[hT,if_neg (λh=>dL h.1)];have hd:=(cQ z).resolve_right (by rw[ag];simp);unfold V.ey at hd;rw[ag,Bool.true_and]at hd;have bq:=hI.aX z;generalize T.getD z .dead=v at hd bq ag;cases v with
   | ptr r2 p2 t2=>exact bq
   | _=>simp at hd
theorem ard[ae]{g o:Nat}{cur:Array Value}{e:TypeId}{v c:Value}(hg:w.heap[g]?=some (.cells cur e (0,0)))(ho:o<cur.size):
  (w.setCell ⟨g,o,none⟩ v).setRow g (putCells (cur.setIfInBounds o v) o [c])=w.setRow g (putCells cur o [c]):=by
 have hp:putCells (cur.setIfInBounds o v) o [c]=putCells cur o [c]:=by
  apply Array.ext_getElem?;intro i;by_cases hi:i=o
  ·subst hi;have e1:=EH (cur:=cur.setIfInBounds i v) (o:=i) (cs:=[c]) (by simp;omega);have e2:=EH (cur:=cur) (o:=i) (cs:=[c]) (by simp;omega);have e3:=e1.trans e2.symm;have:=congrArg (λl=>l[0]?) e3;simpa[List.getElem?_take,List.getElem?_drop]using this
  ·rw[EI (by simp;omega) i (by simp;omega),EI (by simp;omega) i (by simp;omega),Array.getElem?_setIfInBounds,if_neg (Ne.symm hi)]
 have hh:((w.setCell ⟨g,o,none⟩ v).setRow g (putCells (cur.setIfInBounds o v) o [c])).heap=(w.setRow g (putCells cur o [c])).heap:=by
  rw[hp];apply Array.ext_getElem?;intro i;by_cases hi:i=g
  ·subst hi;rw[setRow_heap _ i _ _ _ _ (MO hg),setRow_heap _ i _ _ _ _ hg]
  ·rw[setRow_other _ g i _ hi,setRow_other _ g i _ hi,tA hi]
 calc (w.setCell ⟨g,o,none⟩ v).setRow g (putCells (cur.setIfInBounds o v) o [c])
   = { w.setRow g (putCells cur o [c])with heap:=((w.setCell ⟨g,o,none⟩ v).setRow g (putCells (cur.setIfInBounds o v) o [c])).heap }:=rfl
  _={ w.setRow g (putCells cur o [c])with heap:=(w.setRow g (putCells cur o [c])).heap }:=by rw[hh]
  _=w.setRow g (putCells cur o [c]):=rfl
theorem arM[ae](hI:Inv w0 L0 N vs T a w L)(hC:bF P C){o:Oper}{X:TypeId}{t r:Nat}{kids:List Nat}{p p':List St}{u:V}{x:Operand}{ups:List (Nat×V)}{log:List Nat}(ho:o.op = .store X (.tmp t) x)(aA:o.dst=none)
  (ht:addrOf t (T.getD t .dead)=some (r,p)) (c8:∀r p,addrOf t (T.getD t .dead)=some (r,p)->∃g,a.eval (.tmp t) = .pointer (some ⟨g,(node [] 0 p).2,none⟩)/\L g = .own r (node [] 0 p).1)
  (hr:T.getD r .dead = .hole u p') (h:(Ki C vs N kids X r p u p' x).aj T ups log):Step P o w0 L0 N vs (ai T ups) a w:=by
 cases x with
 | tmp s =>
  simp only[Ki]at h;split at h
  ·rename_i hc;obtain⟨K4,jf,bu,dw⟩:=hc;obtain rfl:=MZ K4;obtain⟨eP,rfl,h⟩:=h;dsimp only at h;generalize bf:T.getD s .dead=v at h;split at h
   ·rename_i k e te y;obtain⟨⟨l,n',t',x'⟩,l1,l2,rfl,hz,h⟩:=M.aq h;dsimp only at h;split at h
    ·rename_i ht';subst ht';split at h
     ·rename_i vN;obtain⟨hX,kN,ix,rfl,DX⟩:=vN;obtain⟨u2,l3,l4,rfl,hm,h⟩:=M.aq h;obtain⟨cQ,log2,h⟩:=jI h;obtain⟨rfl,_⟩:=h;have X9:∀z,(T.getD z .dead).ey r=false\/(T.getD z .dead).on r=false:=by
       intro z;by_cases gZ:z=s
       ·right;rw[gZ,bf];rfl
       ·exact .inl (cQ z gZ)
      obtain⟨g,cur,e2,g1,g2,g3,cj,bz⟩:=Inv.ghost hI hr DX dw X9;obtain⟨g',pU,KL⟩:=c8 r p ht;obtain rfl:=hI.inj g g' r _ g1 KL;have iV:∀z,z≠r->(T.set r u).getD z .dead=T.getD z .dead:=λz hz=>by rw[aJ,if_neg (λh=>hz h.1)]
      have al4:(T.set r u).getD r .dead=u:=by rw[aJ,if_pos ⟨rfl,by rw[hI.len];exact dw⟩]
      have iz:=hI.aX s;rw[bf]at iz;obtain⟨_,cs,hf,bA⟩:=iz;have hf:cs=[a.tmps.getD s undef]:=hf;have dY:=Own.one bA;have aT:(execOp a.eval o).run P w = .ok .skip (w.setRow g (putCells cur (node [] 0 p).2 cs)):=by
       have ba:=tw (P:=P) (w:=w) (o:=(node [] 0 p).2) (hC X _ hX) g2 (show Form (.slice e te) cs (a.eval (.tmp s))from hf) dY (Own.len bA) (by simp only[Ty.sz];omega);simp[execOp,ho,pU,ba]
      have hlen:cs.length=1:=by rw[hf];rfl
      have anw:(w.setCell ⟨g,(node [] 0 p).2,none⟩ (.slice none 0 0)).setRow g (putCells (cur.setIfInBounds (node [] 0 p).2 (.slice none 0 0)) (node [] 0 p).2 cs)=w.setRow g (putCells cur (node [] 0 p).2 cs):=by
       rw[hf];exact ard g2 g3
      intro K Q hK;unfold Oper.wp;rw[aT,Oper.upon_skip,aA,<-anw];have kL:(ai T [(r,u2),(s,V.dead)]).length=N:=by rw[cC,hI.len]
      have b8:s<N:=by
       rcases Nat.lt_or_ge s N with h|h
       ·exact h
       ·rw[ez (by rw[hI.len];exact h)]at bf;cases bf
      have bL:(ai T [(r,u2),(s,V.dead)]).getD s .dead = .dead:=by
       show ((T.set r u2).set s .dead).getD s .dead = .dead;rw[aJ,if_pos ⟨rfl,by simp[hI.len,b8]⟩]
      have bG:(ai T [(r,u2),(s,V.dead)]).getD r .dead=u2:=by
       show ((T.set r u2).set s .dead).getD r .dead=u2;rw[aJ,if_neg (λh=>bu h.1.symm),aJ,if_pos ⟨rfl,by rw[hI.len];exact dw⟩]
      have bt:∀z,z≠r->z≠s->(ai T [(r,u2),(s,V.dead)]).getD z .dead=T.getD z .dead:=by
       intro z h1 h2;show ((T.set r u2).set s .dead).getD z .dead=_;rw[aJ,if_neg (λh=>h2 h.1),aJ,if_neg (λh=>h1 h.1)]
      have Lp:(dG p u).aj (T.set r u) (none,⟨n',.slice e te,x'⟩) l1:=sg (aqW u) hz;have kM:(fT p u (.slice e te) y).aj (T.set r u) u2 l3:=sg (apY u) hm;refine hK a _ _ (Inv.store (m:=n') (src:=some s) bz al4 Lp kM (by rw[cj];simp) g1 (MO g2) (by simp only[Ty.sz,Array.size_setIfInBounds];omega) (by rw[hlen];rfl) ?_ kL bG ?_ ?_ ?_)
      ·intro s' bP;injection bP with bP;subst bP;have gV:s∉vs:=λbZ=>by
        rw[List.contains_iff_mem.2 bZ]at jf;cases jf
       exact⟨bu,gV,bL,by rw[iV s bu,bf];rfl⟩
      ·intro z h1 h2 ag;have Kv:z≠s:=λe=>h2 (by rw[e]);rw[iV z h1]at ag ⊢;refine .inr ⟨bt z h1 Kv,.inl ?_⟩;have hd:=(X9 z).resolve_right (by rw[ag];simp);unfold V.ey at hd;rw[ag,Bool.true_and]at hd;generalize T.getD z .dead=v at hd;cases v with
       | ptr r2 p2 t2 =>
        have:u.dE=false:=by cases u<;>simp[V.fq,V.dE]at DX ⊢
        simp only[b9,this,Bool.not_false,Bool.and_true,Bool.or_eq_true];exact .inr (by simpa using hd)
       | _=>simp at hd
      ·intro z h1 h2 ag;rw[iV z h1];exact bt z h1 (λe=>h2 (by rw[e]))
      ·obtain⟨k9,c9,K1⟩:=Own.JI (t:=.slice e te) kN bA;refine Own.ff c9 (λk hk=>?_) (λk d rest hd hk=>?_) K1
       ·rcases hk with hk|⟨_,_,hk,_⟩
        ·refine⟨.inl (ew bz hk),?_⟩;rw[setRow_other _ g k _ (by rintro rfl;rw[g1]at hk;cases hk),tA (by rintro rfl;rw[g1]at hk;cases hk)]
        ·cases hk
       ·have aL:L k = .own s (d::rest):=by simpa using hk
        have Yw:k≠g:=by rintro rfl;rw[g1]at aL;injection aL with aL _;exact bu aL.symm
        have gS:aW (dN r (node [] 0 p).1 (node [] 0 p).2 (Ty.slice e te).sz n' (some s)) (w.setCell ⟨g,(node [] 0 p).2,none⟩ (.slice none 0 0)) L (λ_=>.free) k=if rest.length<n' then .own r ((node [] 0 p).1++((node [] 0 p).2+d)::rest)else .au:=by
         rw[dc bz (by rw[aL];simp),aL];simp only[eI,dN];rw[if_neg bu,if_pos trivial,if_pos hd]
        refine⟨by rw[setRow_other _ g k _ Yw,tA Yw],λh=>by rw[gS,if_pos h],λh=>.inl (by rw[gS,if_neg (by omega)])⟩
     ·exact h.elim
    ·exact h.elim
   ·exact h.elim
  ·exact h.elim
 | const c=>exact h.elim
 | func f=>exact h.elim
 | global g=>exact h.elim
end
end Go.Proofs.YthfgcmoipebheaaGreat.P.Am
set_option linter.constructorNameAsVariable false
namespace Go.Proofs.YthfgcmoipebheaaGreat.P.Am
def eE:List (Nat×V)->Nat->Option V
 | [],_=>none
 | u::l,s=>cond (u.1==s) (some u.2) (eE l s)
def Jr(q:Nat)(l:List Nat):Nat:=bo+(2*((q - bo) / 2 % 100000+100000*((q - bo) / 2 / 100000 ||| jk false l))+1)
def M.eR{α:Type}(ov:List (Nat×V)):M α->M α
 | .ret a=>.ret a
 | .fail=>.fail
 | .get s k=>match eE ov s with
  | some v=>(k v).eR ov
  | none=>.get s λv=>(k v).eR ov
 | .cL t m k=>.cL t m λx=>(k x).eR ov
 | .bn b k=>.bn b (k.eR ov)
 | .ask q k=>cond ((q - bo) % 2==0)
   (match eE ov ((q - bo) / 2)with
    | some v=>.bn (v.fq&&decide (bo<=q)) (k.eR ov)
    | none=>.ask q (k.eR ov))
   (.bn ((ov.all λu=>fz q u.1 u.2)&&decide (bo<=q)) (.ask (Jr q (ov.map (·.1))) (k.eR ov)))
 | .ite b x y=>.ite b (x.eR ov) (y.eR ov)
theorem aaT{ov:List (Nat×V)}{s:Nat}{v:V}(h:eE ov s=some v):(s,v)∈ov:=by
 induction ov with
 | nil=>cases h
 | cons u l ih =>
  simp only[eE]at h;cases hu:(u.1==s)with
  | true =>
   rw[hu]at h;simp only[cond_true,Option.some.injEq]at h;obtain⟨u1,u2⟩:=u;simp only[beq_iff_eq]at hu;subst hu h;simp
  | false =>
   rw[hu]at h;exact List.mem_cons_of_mem _ (ih h)
theorem apR{ov:List (Nat×V)}{s:Nat}(h:eE ov s=none):s∉ov.map (·.1):=by
 induction ov with
 | nil=>simp
 | cons u l ih =>
  simp only[eE]at h;cases hu:(u.1==s)with
  | true=>rw[hu]at h;cases h
  | false =>
   rw[hu]at h;simp only[List.map_cons,List.mem_cons,not_or];exact⟨λe=>by rw[e]at hu;simp at hu,ih h⟩
theorem aqd{x:Nat}(h:(x % 2==0)=false):x % 2=1:=by
 rw[beq_eq_false_iff_ne]at h;omega
theorem pay{r mm:Nat}(hr:r<100000):(2*(r+100000*mm)+1) % 2=1/\(2*(r+100000*mm)+1) / 2=r+100000*mm/\(r+100000*mm) / 100000=mm/\(r+100000*mm) % 100000=r:=by
 refine⟨?_,?_,?_,?_⟩<;>omega
theorem ak1(q:Nat)(l:List Nat):Jr q l - bo=2*((q - bo) / 2 % 100000+100000*((q - bo) / 2 / 100000 ||| jk false l))+1:=Nat.add_sub_cancel_left _ _
theorem abK{T T':List V}{ov:List (Nat×V)}{q:Nat}(hl:T'.length=T.length)(hq:(q - bo) % 2=0)(hb:(T'.getD ((q - bo) / 2) .dead).fq=true)(ax:(q - bo) / 2<T.length):en q T'=true:=by
 unfold en;rw[Bool.and_eq_true];refine⟨Js λs hs=>?_,Bool.or_eq_true_iff.2 (.inr (decide_eq_true (by rw[hl];exact ax)))⟩;unfold fz;rw[hq,Nat.zero_add];by_cases he:s=(q - bo) / 2
 ·rw[he,hb,Bool.or_true];rfl
 ·have:(s != (q - bo) / 2)=true:=bne_iff_ne.2 he;rw[this,Bool.true_or];rfl
theorem aqk[ae]{T T':List V}{ov:List (Nat×V)}{q:Nat}(hl:T'.length=T.length)(hT:∀s,T'.getD s .dead=(eE ov s).getD (T.getD s .dead))(DU:(q - bo) % 2=1)(wD:∀u∈ov,fz q u.1 u.2=true)(hb:en (Jr q (ov.map (·.1))) T=true):en q T'=true:=by
 have e:=ak1 q (ov.map (·.1));have hr:(q - bo) / 2 % 100000<100000:=Nat.mod_lt _ (Nat.zero_lt_succ 99999);generalize hm:((q - bo) / 2 / 100000 ||| jk false (ov.map (·.1)))=mm at e;obtain⟨e1,e2,e3,e4⟩:=pay (mm:=mm) hr;unfold en at hb ⊢;rw[Bool.and_eq_true]at hb ⊢;refine⟨Js λs hs=>?_,Bool.or_eq_true_iff.2 (.inl (beq_iff_eq.2 DU))⟩;rw[Nat.zero_add,hT];cases hv:eE ov s with
 | some v=>exact wD (s,v) (aaT hv)
 | none =>
  have dZ:s<T.length:=by omega
  have:=vj hb.1 s dZ;unfold fz at this ⊢;rw[e,e1,e2,e3,e4,Nat.zero_add]at this;rw[DU];simp only[Option.getD_none];have Yb:mm.testBit (s+1)=((q - bo) / 2 / 100000).testBit (s+1):=by
   rw[<-hm,Nat.testBit_or,xd (apR hv),Bool.or_false]
  have al9:mm.testBit 0=((q - bo) / 2 / 100000).testBit 0:=by
   rw[<-hm,Nat.testBit_or,xe,Bool.or_false]
  rw[Yb,al9,show ((1:Nat)==0)=false from rfl,cond_false]at this;rw[show ((1:Nat)==0)=false from rfl,cond_false];exact this
theorem oR[ae]{α:Type}{T T':List V}{ov:List (Nat×V)}(hl:T'.length=T.length)(ga:∀s,s∈ov.map (·.1)->s<T.length)(hT:∀s,T'.getD s .dead=(eE ov s).getD (T.getD s .dead))(m:M α):
  ∀{a:α} {log:List Nat},(m.eR ov).aj T a log->∃aD,m.aj T' a aD:=by
 induction m with
 | ret _=>intro a log h;exact⟨[],h.1,rfl⟩
 | fail=>intro a log h;exact h.elim
 | get s k ih =>
  intro a log h;simp only[M.eR]at h;have hs:=hT s;split at h
  ·rename_i v hv;rw[hv]at hs;obtain⟨aD,h⟩:=ih v h;exact⟨s::aD,aD,rfl,by rw[hs];exact h⟩
  ·rename_i hv;rw[hv]at hs;obtain⟨l1,rfl,h⟩:=h;obtain⟨aD,h⟩:=ih _ h;exact⟨s::aD,aD,rfl,by rw[hs];exact h⟩
 | cL _ _ k ih =>
  intro a log h;obtain⟨x,hx,h⟩:=h;obtain⟨aD,h⟩:=ih x h;exact⟨aD,x,hx,h⟩
 | bn _ k ih =>
  intro a log h;obtain⟨hb,h⟩:=h;obtain⟨aD,h⟩:=ih h;exact⟨aD,hb,h⟩
 | ite _ x y ihx ihy =>
  intro a log h;rcases h with⟨hb,h⟩|⟨hb,h⟩
  ·obtain⟨aD,h⟩:=ihx h;exact⟨aD,.inl ⟨hb,h⟩⟩
  ·obtain⟨aD,h⟩:=ihy h;exact⟨aD,.inr ⟨hb,h⟩⟩
 | ask q k ih =>
  intro a log h;simp only[M.eR]at h;cases hq:((q - bo) % 2==0)with
  | true =>
   rw[hq]at h;simp only[cond_true]at h;simp only[beq_iff_eq]at hq;split at h
   ·rename_i v hv;obtain⟨hb,h⟩:=h;simp only[Bool.and_eq_true,decide_eq_true_eq]at hb;obtain⟨aD,h⟩:=ih h;exact⟨q::aD,⟨abK (ov:=ov) hl hq (by rw[hT,hv];exact hb.1) (ga _ (List.mem_map_of_mem (f:=(·.1)) (aaT hv))),hb.2⟩,aD,rfl,h⟩
   ·rename_i hv;obtain⟨⟨hb,hk⟩,l1,rfl,h⟩:=h;obtain⟨aD,h⟩:=ih h;unfold en at hb;rw[Bool.and_eq_true,hq]at hb;have ax:(q - bo) / 2<T.length:=by simpa using hb.2
    have:=vj hb.1 _ ax;unfold fz at this;rw[hq,Nat.zero_add]at this;exact⟨q::aD,⟨abK (ov:=ov) hl hq (by rw[hT,hv];simpa using this) ax,hk⟩,aD,rfl,h⟩
  | false =>
   rw[hq]at h;obtain⟨wD,⟨hb,hk⟩,l1,rfl,h⟩:=h;simp only[Bool.and_eq_true,decide_eq_true_eq,List.all_eq_true]at wD;obtain⟨aD,h⟩:=ih h;have DU:=aqd hq;exact⟨q::aD,⟨aqk hl hT DU wD.1 hb,wD.2⟩,aD,rfl,h⟩
def WD(N:Nat)(kids:List Nat)(s r:Nat)(p:List St)(t':Ty)(u:V)(m:M (List (Nat×V))):M (List (Nat×V)):=
 (dG p u).bind λz=>match z with
  | (none,⟨n,t,x⟩) =>
   if n≠0/\t.depth≠0/\s<N/\r<N/\s≠r/\t=t' then
    match p with
    | []=>ig true r s kids ((m.eR [(r,.dead),(s,.d none n t x)]).bind λups=>.ret ((r,.dead)::(s,.d none n t x)::ups))
    | _::_=>match t,x with
     | .slice e te,x=>(fT p u (.slice e te) []).bind λu'=>ig false r s kids ((m.eR [(r,.hole u' p),(s,.d none n (.slice e te) x)]).bind λups=>.ret ((r,.hole u' p)::(s,.d none n (.slice e te) x)::ups))
     | _,_=>m
   else m
  | _=>m
def mo(N:Nat)(kids:Nat->List Nat):List Nat->M (List (Nat×V))->M (List (Nat×V))
 | [],m=>m
 | s::l,m=>.get s λv=>match v with
  | .view r p t=>.get r λu=>match u with
   | .d _ _ _ _=>match p with
    | []=>tP N [s] (mo N kids l m)
    | _::_=>mo N kids l m
   | .box _ _ _ _=>WD N (kids r) s r p t u (mo N kids l m)
   | _=>mo N kids l m
  | _=>mo N kids l m
section
variable{P:Program}{C:Ctx}{w w' w0:World}{S S':Nat->Prop}{L L' L0:Nat->ak}{s N:Nat}{vs:List Nat}{T T':List V}{tm tm':Array Value}{a:Act}
theorem acJ[ae]{r s:Nat}{v1 v2:V}(iy:s≠r)(hr:r<T.length)(hs:s<T.length):(∀z,((T.set r v1).set s v2).getD z .dead=(eE [(r,v1),(s,v2)] z).getD (T.getD z .dead))/\∀z,z∈[(r,v1),(s,v2)].map (·.1)->z<T.length:=by
 refine⟨λz=>?_,λz hz=>?_⟩
 ·simp only[eE];rw[aJ,aJ];by_cases h1:z=r
  ·subst h1;simp[iy.symm,hr]
  ·have e1:(r==z)=false:=by simpa using Ne.symm h1
   by_cases h2:z=s
   ·subst h2;rw[e1];simp[hs]
   ·have e2:(s==z)=false:=by simpa using Ne.symm h2
    rw[e1,e2];simp[h1,h2]
 ·simp only[List.map_cons,List.map_nil,List.mem_cons,List.not_mem_nil,or_false]at hz;rcases hz with rfl|rfl
  ·exact hr
  ·exact hs
theorem alj[ae]{m:M (List (Nat×V))}{kids:List Nat}{r:Nat}{p:List St}{t':Ty}{u:V}{ups:List (Nat×V)}{log:List Nat}(hI:Inv w0 L0 N vs T a w L)(hs:T.getD s .dead = .view r p t')(hr:T.getD r .dead=u)(vM:∃l n t x,u = .box l n t x)
  (h0:(WD N kids s r p t' u m).aj T ups log):∃T1 L1 bK log2,Inv w0 L0 N vs T1 a w L1/\m.aj T1 bK log2/\ai T ups=ai T1 bK:=by
 obtain⟨z,l1,l2,rfl,hz,h⟩:=M.aq h0;obtain⟨l,n,t,x⟩:=z;have e9:∀{log},m.aj T ups log->∃T1 L1 bK log2,Inv w0 L0 N vs T1 a w L1/\m.aj T1 bK log2/\ai T ups=ai T1 bK:=λh=>⟨T,L,ups,_,hI,h,rfl⟩;have hu:u.fq=true:=by obtain⟨l0,n0,t0,x0,rfl⟩:=vM;rfl
 cases l with
 | some _=>exact e9 h
 | none =>
  dsimp only at h;split at h
  ·rename_i hc;obtain⟨hn,hd,b8,dw,bu,rfl⟩:=hc;have hTl:T.length=N:=hI.len;cases p with
   | nil =>
    obtain⟨cQ,log2,h⟩:=jI h;obtain⟨bK,l3,l4,rfl,h1,h2⟩:=M.aq h;obtain⟨rfl,_⟩:=h2;obtain⟨nk,ga⟩:=acJ (T:=T) (v1:=.dead) (v2:=.d none n t x) bu (by omega) (by omega);obtain⟨fH,h1⟩:=oR (T':=(T.set r .dead).set s (.d none n t x)) (by simp) ga nk m h1;have Li:(qS [] (T.getD r .dead)).aj T (none,⟨n,t,x⟩) l1:=by
     rw[hr];obtain⟨l0,n0,t0,x0,rfl⟩:=vM;exact hz
    have cu:nH r s T=true:=by
     unfold nH;rw[List.all_eq_true];intro b hb;obtain⟨i,hi⟩:=List.mem_iff_getElem?.1 hb;simp only[List.getElem?_mapIdx,Option.map_eq_some_iff]at hi;obtain⟨v,hv,rfl⟩:=hi;have kI:T.getD i .dead=v:=by simp[List.getD_eq_getElem?_getD,hv]
     simp only[id_eq,Bool.or_eq_true,beq_iff_eq,bne_iff_ne];by_cases oG:i=s
     ·exact .inl oG
     ·right;have:=cQ i oG;rw[kI]at this;simpa[V.on]using this
    obtain⟨L',il⟩:=Inv.take hI hs b8 Li hn hd cu;exact⟨_,L',bK,fH,il,h1,rfl⟩
   | cons st p =>
    dsimp only at h;split at h
    ·rename_i e te x;obtain⟨u',l3,l4,rfl,hm,h⟩:=M.aq h;obtain⟨cQ,log2,h⟩:=jI h;obtain⟨bK,l5,l6,rfl,h1,h2⟩:=M.aq h;obtain⟨rfl,_⟩:=h2;obtain⟨nk,ga⟩:=acJ (T:=T) (v1:=.hole u' (st::p)) (v2:=.d none n (.slice e te) x) bu (by omega) (by omega);obtain⟨fH,h1⟩:=oR (T':=(T.set r (.hole u' (st::p))).set s (.d none n (.slice e te) x)) (by simp) ga nk m h1;obtain⟨L',il⟩:=Inv.ar3 hI hs hr hu b8 dw hz hm hn cQ;exact⟨_,L',bK,fH,il,h1,rfl⟩
    ·exact e9 h
  ·exact e9 h
theorem nS[ae]{w:World}{a:Act}{m:M (List (Nat×V))}{kids:Nat->List Nat}:{ss:List Nat}->{T:List V}->{L:Nat->ak}->{ups:List (Nat×V)}->{log:List Nat}->Inv w0 L0 N vs T a w L->(mo N kids ss m).aj T ups log ->
  ∃T1 L1 bK log2,Inv w0 L0 N vs T1 a w L1/\m.aj T1 bK log2/\ai T ups=ai T1 bK
 | [],T,L,ups,log,hI,h=>⟨T,L,ups,log,hI,h,rfl⟩
 | s::l,T,L,ups,log,hI,h=>by
  obtain⟨eP,rfl,h⟩:=h;dsimp only at h;generalize bf:T.getD s .dead=v at h;split at h
  ·rename_i r p t';obtain⟨log2,rfl,h⟩:=h;dsimp only at h;generalize wO:T.getD r .dead=u at h;split at h
   ·split at h
    ·obtain⟨T1,L1,bK,fH,k1,k2,k3⟩:=xM hI h;obtain⟨T2,L2,jv,jj,j1,j2,j3⟩:=nS k1 k2;exact⟨T2,L2,jv,jj,j1,j2,k3.trans j3⟩
    ·exact nS hI h
   ·obtain⟨T1,L1,bK,fH,k1,k2,k3⟩:=alj hI bf wO ⟨_,_,_,_,rfl⟩ h;obtain⟨T2,L2,jv,jj,j1,j2,j3⟩:=nS k1 k2;exact⟨T2,L2,jv,jj,j1,j2,k3.trans j3⟩
   ·exact nS hI h
  ·exact nS hI h
end
def E2(C:Ctx)(vs:List Nat)(N:Nat)(kids:List Nat)(X:TypeId)(r:Nat)(u:V)(x:Operand)(m:M (List (Nat×V))):M (List (Nat×V)):=
 match u with
 | .box _ _ t0 _=>(cI C X x).bind λv=>match v with
  | .d l 0 t y=>if t=t0/\C.ty X=some t/\t.depth≠0/\r<N/\l≠some r then
    ig false r r kids (.bn (fy vs (.box l 0 t y)) (.ret [(r,.box l 0 t y)]))
   else m
  | _=>m
 | _=>m
def oY(r:Nat):Nat->List Nat->ak:=λz q=>if z=r then (match q with|[]=>.own r []|_::_=>.other)else .own z q
section
variable{P:Program}{C:Ctx}{w w' w0:World}{S S':Nat->Prop}{L L' L0:Nat->ak}{s N:Nat}{vs:List Nat}{T T':List V}{tm tm':Array Value}{a:Act}
theorem E1{r z z':Nat}{q q':List Nat}(h:oY r z q = .own z' q'):z'=z/\q'=q/\(z=r->q=[]):=by
 unfold oY at h;split at h
 ·rename_i hz;split at h
  ·injection h with h1 h2;exact⟨by rw[<-h1,hz],h2.symm,λ_=>rfl⟩
  ·cases h
 ·rename_i hz;injection h with h1 h2;exact⟨h1.symm,h2.symm,λe=>absurd e hz⟩
theorem acL[ae]{r:Nat}{X:Nat->Prop}(hr:X r):fD (oY r) X:=by
 refine⟨λz q hX=>?_,λz q z' q' hX h=>?_,λz q z2 q2 z' q' h1 h2=>?_,λz q=>?_⟩
 ·unfold oY;rw[if_neg (λe:z=r=>hX (e▸hr))]
 ·obtain⟨rfl,_⟩:=E1 h;exact hX
 ·obtain⟨rfl,rfl,_⟩:=E1 h1;obtain⟨h3,h4,_⟩:=E1 h2;exact⟨h3,h4⟩
 ·unfold oY
  repeat' split
  all_goals simp
theorem arT[ae](hI:Inv w0 L0 N vs T a w L)(hC:bF P C){o:Oper}{X:TypeId}{t r:Nat}{kids:List Nat}{u:V}{x:Operand}{m:M (List (Nat×V))}{ups:List (Nat×V)}{log:List Nat}(ho:o.op = .store X (.tmp t) x)(aA:o.dst=none)
  (ht:addrOf t (T.getD t .dead)=some (r,[])) (c8:∀r p,addrOf t (T.getD t .dead)=some (r,p)->∃g,a.eval (.tmp t) = .pointer (some ⟨g,(node [] 0 p).2,none⟩)/\L g = .own r (node [] 0 p).1)
  (hr:T.getD r .dead=u) (hm:∀{log:List Nat},m.aj T ups log->Step P o w0 L0 N vs (ai T ups) a w) (h:(E2 C vs N kids X r u x m).aj T ups log):Step P o w0 L0 N vs (ai T ups) a w:=by
 unfold E2 at h;split at h
 ·rename_i l0 n0 t0 x0;obtain⟨v,l1,l2,rfl,hx,h2⟩:=M.aq h;split at h2
  ·rename_i l tt y;split at h2
   ·rename_i hc;obtain⟨rfl,hX,hd,dw,wo⟩:=hc;obtain⟨cQ,log2,h3⟩:=jI h2;obtain⟨aH,rfl,_⟩:=h3;obtain⟨g,pU,hg⟩:=c8 r [] ht;have bh:=hI.aX r;rw[hr]at bh;obtain⟨_,g2,cur,e,k1,k2,k3,k4,k5⟩:=bh;obtain rfl:=hI.inj g g2 r _ hg k2;have ee:∃s0,(∀r',l=some r'->(T.getD r' .dead).deep=true)/\∃cs,Form tt cs (a.eval x)/\Own w L (SL L l) s0 0 tt y [] 0 cs:=by
     rcases ke hI hx with⟨s,_,_,h⟩|⟨_,h⟩
     ·exact⟨s,h⟩
     ·exact⟨0,h L T a.tmps 0 w⟩
    obtain⟨s0,sN,cs,hf,bT⟩:=ee;have dY:=Own.one bT;have hlen:=Own.len bT;have amp:a.eval (.tmp t) = .pointer (some ⟨g,0,none⟩):=pU;have aT:(execOp a.eval o).run P w = .ok .skip (w.setRow g (putCells cur 0 cs)):=by
     have ba:=tw (P:=P) (w:=w) (o:=0) (hC X _ hX) k3 hf dY hlen (by omega);simp[execOp,ho,amp,ba]
    have gh:(putCells cur 0 cs).toList=cs:=by
     simp[putCells,hlen,k4]
    intro K Q hK;unfold Oper.wp;rw[aT,Oper.upon_skip,aA];have bG:(ai T [(r,V.box l 0 tt y)]).getD r .dead = .box l 0 tt y:=by
     show (T.set r _).getD r .dead=_;rw[aJ,if_pos ⟨rfl,by rw[hI.len];exact dw⟩]
    have bt:∀z,z≠r->(ai T [(r,V.box l 0 tt y)]).getD z .dead=T.getD z .dead:=by
     intro z hz;show (T.set r _).getD z .dead=_;rw[aJ,if_neg (λh=>hz h.1)]
    have nt:∀z,z≠r->(T.getD z .dead).on r=true->∃p' t',T.getD z .dead = .ptr r p' t'/\shallow p'=true:=by
     intro z gZ ag;have hb:(T.getD z .dead).ey r=false:=cQ z gZ;unfold V.ey at hb;rw[ag,Bool.true_and]at hb;generalize T.getD z .dead=v at hb ag;cases v with
     | ptr r2 p2 t2 =>
      have:r2=r:=by simpa[V.on,V.root]using ag
      subst this;exact⟨p2,t2,rfl,by simpa using hb⟩
     | _=>simp at hb
    have sM:∀r',l=some r'->r'≠r/\(T.getD r' .dead).on r=false:=by
     intro r' dQ;have bm:r'≠r:=λe=>wo (by rw[dQ,e]);refine⟨bm,?_⟩;cases ag:(T.getD r' .dead).on r with
     | false=>rfl
     | true =>
      obtain⟨p',t',he,_⟩:=nt r' bm ag;have:=sN r' dQ;rw[he]at this;simp[V.deep]at this
    have KY:∀k,k≠g->(w.setRow g (putCells cur 0 cs)).heap[k]?=w.heap[k]?:=λk hk=>setRow_other w g k _ hk;refine hK a _ _ (Inv.gI (f:=oY r) (X:=λz=>z=r\/(T.getD z .dead).on r=true) (nl:=λ_=>.free) hI (acL (.inl rfl)) ?_ (λ_ _ _ _ _ h=>by cases h) hI.size (by rw[cC,hI.len]) hI.dO ?_ ?_ ?_ ?_ ?_)
    ·refine⟨rfl,rfl,rfl,by simp[World.setRow],Nat.le_refl _,λk hk hx=>KY k ?_,λ_ _=>rfl,λ_ _ _ _ h=>by cases h⟩
     rintro rfl
     exact hx r _ hg (.inl rfl)
    ·intro k z q hz hk;by_cases dL:z=r
     ·subst dL;rw[bG];rfl
     ·rw[bt z dL];unfold aW at hk;split at hk
      ·obtain⟨s0,q0,e0,f0⟩:=eS hk;obtain⟨rfl,rfl,_⟩:=E1 f0;exact hI.owner k _ _ e0
      ·cases hk
    ·intro z r' hz ag aZ;have hz:=not_or.1 hz;rcases aZ with rfl|aZ
     ·exact absurd ag hz.2
     ·by_cases h2:r'=r
      ·subst h2;exact absurd ag hz.2
      ·obtain⟨p',t',he,_⟩:=nt r' h2 aZ;rw[he];rfl
    ·intro z hz;have hz:=not_or.1 hz;exact⟨bt z hz.1,rfl⟩
    ·intro z r' hz ag;by_cases h1:z=r
     ·subst h1;rw[bG]at ag;exact qx aH r' ag
     ·rw[bt z h1]at ag;exact hI.roots z r' ag
    ·intro z hz;by_cases h1:z=r
     ·subst h1;rw[bG];refine⟨λr' aZ=>?_,g,putCells cur 0 cs,e,k1,?_,setRow_heap w g cur _ e _ k3,by rw[EJ (by omega)];exact k4,?_⟩
      ·rw[bt r' (sM r' aZ).1];exact sN r' aZ
      ·rw[dc hI (by rw[hg];simp),hg];simp[eI,oY,node]
      ·rw[gh];refine Own.dM (Rd.move (λk hk=>?_) (Own.eH bT));rcases hk with hk|⟨r',q,dQ,hk⟩
       ·exact⟨.inl (ew hI hk),KY k (by rintro rfl;rw[hg]at hk;cases hk)⟩
       ·obtain⟨h1,h2⟩:=sM r' dQ;refine⟨.inr ⟨r',q,dQ,xk hI (acL (X:=λz'=>z'=z\/(T.getD z' .dead).on z=true) (.inl rfl)) hk (not_or.2 ⟨h1,by rw[h2];simp⟩)⟩,KY k ?_⟩
        rintro rfl
        rw[hg]at hk;injection hk with hk _;exact h1 hk.symm
     ·rw[bt z h1];have ag:(T.getD z .dead).on r=true:=hz.resolve_left h1;obtain⟨p',t',he,eu⟩:=nt z h1 ag;have bq:=hI.aX z;rw[he]at bq ⊢;obtain⟨g3,j1,j2⟩:=bq;refine⟨g3,j1,?_⟩;rw[qE eu]at j2 ⊢;rw[dc hI (by rw[j2];simp),j2];simp[eI,oY]
   ·exact hm h2
  ·exact hm h2
 ·exact hm h
end
def JM(C:Ctx)(vs:List Nat)(X:TypeId)(d:Nat)(x:Operand)(m:M (List (Nat×V))):M (List (Nat×V)):=
 match x with
 | .tmp s=>.get s λv=>match v with
  | .d none k t y=>if k≠0/\t.depth≠0 then
    (if C.ty X=some t/\s≠d/\s<100000/\vs.contains d=true then ig true s d [] (.ret [(d,.box none k t y),(s,.view d [] t)])else .fail)
   else m
  | _=>m
 | _=>m
section
variable{P:Program}{C:Ctx}{w w' w0:World}{S S':Nat->Prop}{L L' L0:Nat->ak}{s N:Nat}{vs:List Nat}{T T':List V}{tm tm':Array Value}{a:Act}
theorem arw[ae](hI:Inv w0 L0 N vs T a w L)(hC:bF P C){o:Oper}{X:TypeId}{x:Operand}{d:Nat}{m:M (List (Nat×V))}{ups:List (Nat×V)}{log:List Nat}(ho:o.op = .box X x)(aA:o.dst=some d)(hd:d<N)(hid:(T.getD d .dead).idle=true)
  (h:(JM C vs X d x m).aj T ups log) (hm:∀log,m.aj T ups log->Step P o w0 L0 N vs (ai T ups) a w):Step P o w0 L0 N vs (ai T ups) a w:=by
 unfold JM at h;split at h
 ·rename_i s;obtain⟨aD,rfl,h⟩:=h;generalize hv:T.getD s .dead=v at h;dsimp only at h;split at h
  ·rename_i k t y;split at h
   ·rename_i wm;obtain⟨hk0,oC⟩:=wm;split at h
    ·rename_i hc;obtain⟨hX,bO,hs5,sI⟩:=hc;obtain⟨cQ,log2,h⟩:=jI h;obtain⟨rfl,_⟩:=h;clear hm;have cQ:∀z,z≠d->(T.getD z .dead).on s=false:=λz hz=>by simpa using cQ z hz
     have iz:=hI.aX s;rw[hv]at iz;obtain⟨_,cs,hf,bT⟩:=iz;have dj:=Form.cells hf (Own.one bT);have b8:s<N:=by
      rcases Nat.lt_or_ge s N with h|h
      ·exact h
      ·rw[ez (by rw[hI.len];exact h)]at hv;cases hv
     have aT:(execOp a.eval o).run P w = .ok (.value (.pointer (some ⟨w.heap.size,0,none⟩))) (w.alloc (.cells (a.tmps.getD s undef).cells X)):=by
      have amq:a.tmps.getD s undef=a.eval (.tmp s):=rfl;rw[amq];simp[execOp,ho,Instr.box,newVar,newRow,newObj,Sem.run]
     have bL:(ai T [(d,V.box none k t y),(s,V.view d [] t)]).getD s .dead = .view d [] t:=by
      show ((T.set d _).set s _).getD s .dead=_;rw[aJ,if_pos ⟨rfl,by simp[hI.len,b8]⟩]
     have bW:(ai T [(d,V.box none k t y),(s,V.view d [] t)]).getD d .dead = .box none k t y:=by
      show ((T.set d _).set s _).getD d .dead=_;rw[aJ,if_neg (λh=>bO h.1.symm),aJ,if_pos ⟨rfl,by rw[hI.len];exact hd⟩]
     have bt:∀z,z≠d->z≠s->(ai T [(d,V.box none k t y),(s,V.view d [] t)]).getD z .dead=T.getD z .dead:=by
      intro z h1 h2;show ((T.set d _).set s _).getD z .dead=_;rw[aJ,if_neg (λh=>h2 h.1),aJ,if_neg (λh=>h1 h.1)]
     have gh:∀c z,z≠d->(a.put (some d) c).tmps.getD z undef=a.tmps.getD z undef:=λc z h=>kg (by simpa using Ne.symm h);have wG:∀c,(a.put (some d) c).tmps.getD d undef=c:=λc=>by
      show (a.tmps.setIfInBounds d c).getD d undef=c;rw[dW,if_pos ⟨rfl,by rw[hI.size];exact hd⟩]
     refine Step.value (L':=aW (hM s [] 0 t.sz k d) w L (λg=>if g=w.heap.size then .own d []else .free)) aA aT ?_
     have Yy:aW (hM s [] 0 t.sz k d) w L (λg=>if g=w.heap.size then .own d []else .free) w.heap.size = .own d []:=by
      unfold aW;rw[if_neg (Nat.lt_irrefl _)];exact if_pos rfl
     have bq:(w.alloc (.cells (a.tmps.getD s undef).cells X)).heap.size=w.heap.size+1:=by simp
     have Ll:Wd w (w.alloc (.cells (a.tmps.getD s undef).cells X)) L (λg=>if g=w.heap.size then .own d []else .free) (λz=>z=s\/z=d):=by
      refine⟨rfl,rfl,rfl,by omega,Nat.le_refl _,λk' aL _=>Go.RowKit.Below.heap_alloc w _ k' aL,λk' aL=>?_,λk' z q aL h=>?_⟩
      ·exact if_neg (by omega)
      ·change (if k'=w.heap.size then ak.own d []else ak.free)=_ at h
       split at h
       ·injection h with h _;exact .inr h.symm
       ·cases h
     have am8:Own (w.alloc (.cells (a.tmps.getD s undef).cells X)) (aW (hM s [] 0 t.sz k d) w L (λg=>if g=w.heap.size then .own d []else .free)) (SL (aW (hM s [] 0 t.sz k d) w L (λg=>if g=w.heap.size then .own d []else .free)) none) d k t y [] 0 cs:=by
      refine Own.move (λk' aL=>⟨aL,Go.RowKit.Below.heap_alloc w _ k' ?_⟩) (λk' dd rest _ aL=>⟨aL,Go.RowKit.Below.heap_alloc w _ k' ?_⟩) (Own.taken (Nat.le_refl _) hI (λk' aL=>by
       rcases aL with aL|⟨_,_,aL,_⟩
       ·exact aL
       ·cases aL) bT)
      ·rcases aL with aL|⟨_,_,aL,_⟩
       ·unfold aW at aL;split at aL
        ·assumption
        ·change (if k'=w.heap.size then ak.own d []else ak.free)=_ at aL
         split at aL<;>cases aL
       ·cases aL
      ·unfold aW at aL;split at aL
       ·assumption
       ·change (if k'=w.heap.size then ak.own d []else ak.free)=_ at aL
        split at aL
        ·injection aL with _ aL;cases aL
        ·cases aL
     have oA:(a.tmps.getD s undef).cells.size=t.sz:=by rw[<-Array.length_toList,dj,Own.len bT]
     refine Inv.gI (X:=λz=>z=s\/z=d) hI (abo bO) Ll ?_ (by simp[Act.put,hI.size]) (by rw[cC,hI.len]) hI.dO ?_ ?_ ?_ ?_ ?_
     ·intro g g' z q hg h h';change (if g=w.heap.size then ak.own d []else ak.free)=_ at h
      split at h
      ·rename_i hgg;injection h with h1 h2;subst h1 h2;unfold aW at h';split at h'
       ·obtain⟨s0,q0,e0,f0⟩:=eS h';rcases qu f0 with⟨_,i,rest,_,_,h3⟩|⟨h1,_,h2,_⟩
        ·cases h3
        ·exact absurd h2.symm h1
       ·change (if g'=w.heap.size then ak.own d []else ak.free)=_ at h'
        split at h'
        ·rename_i KM;rw[hgg,KM]
        ·cases h'
      ·cases h
     ·intro g z q hz h;rcases hz with rfl|rfl
      ·exfalso;unfold aW at h;split at h
       ·obtain⟨s0,q0,e0,f0⟩:=eS h;rcases qu f0 with⟨_,_,_,_,h1,_⟩|⟨_,h1,h2,_⟩
        ·exact bO h1
        ·exact h1 h2.symm
       ·change (if g=w.heap.size then ak.own d []else ak.free)=_ at h
        split at h
        ·injection h with h _;exact bO h.symm
        ·cases h
      ·rw[bW];rfl
     ·intro z r' hz ag aZ;have hz:=not_or.1 hz;rcases aZ with rfl|rfl
      ·rw[cQ z hz.2]at ag;cases ag
      ·exact V.kd hid
     ·intro z hz;have hz:=not_or.1 hz;exact⟨bt z hz.2 hz.1,gh _ z hz.2⟩
     ·intro z r' hz ag;rcases hz with rfl|rfl
      ·rw[bL]at ag;have:d=r':=by simpa[V.on,V.root]using ag
       subst this;simpa using sI
      ·rw[bW]at ag;simp[V.on,V.root]at ag
     ·intro z hz;rcases hz with rfl|rfl
      ·rw[bL,gh _ _ bO];refine⟨by rw[bW];simp only[V.deep,Bool.and_eq_true,bne_iff_ne];exact⟨hk0,oC⟩,.inr ⟨w.heap.size,_,X,.inl (by rw[bW];rfl),Yy,oD _ _,by simp only[node];omega,?_⟩⟩;rw[dj];simp only[node,List.drop_zero];rw[List.take_of_length_le (by rw[Own.len bT];exact Nat.le_refl _)];exact hf
      ·rw[bW,wG];refine⟨by simp,w.heap.size,_,X,rfl,Yy,oD _ _,oA,?_⟩;rw[dj];exact am8
    ·exact h.elim
   ·exact hm _ h
  ·exact hm _ h
 ·exact hm _ h
end
def qh(u:V):V->Bool
 | .ptr _ p _=>shallow p && !u.dE
 | .view _ p _=>(shallow p && !u.dE)||(match p with|[]=>u.dE|_=>false)
 | _=>false
def kn(r:Nat)(q:List Nat)(o sz i:Nat)(ls:List Nat):ak->ak
 | .own s z=>if s=r then (match cut q z with
   | some (y::rest)=>if o<=y/\y<o+sz then .own i ((y - o)::rest)else .other
   | _=>.other)
  else if ls.contains s then .au else .other
 | x=>x
def vE(r:Nat)(q:List Nat)(o sz i:Nat):ak->ak
 | .own j (y::rest)=>if j=i/\y<sz then .own r (q++(o+y)::rest)else .other
 | .own _ []=>.other
 | x=>x
def pB(r:Nat)(q:List Nat)(o sz i:Nat)(L L':Nat->ak):Nat->ak:=λk=>match L k with
 | .free=>vE r q o sz i (L' k)
 | .own s z=>if s=r/\EZ q o sz z=true then vE r q o sz i (L' k)else .own s z
 | x=>x
def jA(r:Nat)(q:List Nat)(o sz:Nat)(l:ak):Prop:=l = .free\/∃z,l = .own r z/\kD q o sz z
section
variable{P:Program}{C:Ctx}{w w' w0:World}{S S':Nat->Prop}{L L' L0:Nat->ak}{s N:Nat}{vs:List Nat}{T T':List V}{tm tm':Array Value}{a:Act}
theorem Dq{r:Nat}{q:List Nat}{o sz i:Nat}{l:ak}{s:Nat}{z:List Nat}(h:vE r q o sz i l = .own s z):∃y rest,l = .own i (y::rest)/\y<sz/\s=r/\z=q++(o+y)::rest:=by
 cases l with
 | own j z' =>
  cases z' with
  | nil=>cases h
  | cons y rest =>
   unfold vE at h;dsimp only at h;split at h
   ·rename_i hc;obtain⟨rfl,hy⟩:=hc;injection h with h1 h2;exact⟨y,rest,rfl,hy,h1.symm,h2.symm⟩
   ·cases h
 | au=>cases h
 | other=>cases h
 | free=>cases h
theorem sd[ae]{r:Nat}{q:List Nat}{o sz i k:Nat}(h:jA r q o sz (L k)):pB r q o sz i L L' k=vE r q o sz i (L' k):=by
 unfold pB;rcases h with h|⟨z,h,hu⟩
 ·rw[h]
 ·rw[h];dsimp only;rw[if_pos ⟨rfl,qQ.2 hu⟩]
theorem vn[ae]{r:Nat}{q:List Nat}{o sz i k:Nat}(h:¬jA r q o sz (L k)):pB r q o sz i L L' k=L k:=by
 unfold pB;cases hl:L k with
 | own s z =>
  dsimp only;rw[if_neg]
  rintro⟨rfl,hu⟩
  exact h (.inr ⟨z,hl,qQ.1 hu⟩)
 | au=>rfl
 | other=>rfl
 | free=>exact absurd (.inl hl) h
theorem M8[ae]{r:Nat}{q:List Nat}{o sz i:Nat}{ls:List Nat}{l:ak}(h:¬jA r q o sz l):kn r q o sz i ls l = .au\/kn r q o sz i ls l = .other:=by
 cases l with
 | own s z =>
  unfold kn;dsimp only;split
  ·rename_i hs;subst hs;split
   ·rename_i y rest hc;rw[if_neg]
    ·exact .inr rfl
    ·rintro⟨h1,h2⟩
     refine h (.inr ⟨z,rfl,y - o,rest,by omega,?_⟩);rw[oh hc];congr 2;omega
   ·exact .inr rfl
  ·split<;>simp
 | au=>exact .inl rfl
 | other=>exact .inr rfl
 | free=>exact absurd (.inl rfl) h
theorem M9[ae]{r:Nat}{q:List Nat}{o sz i:Nat}{ls:List Nat}{l:ak}{j:Nat}{z:List Nat}(h:kn r q o sz i ls l = .own j z):∃y rest,j=i/\z=y::rest/\l = .own r (q++(o+y)::rest):=by
 cases l with
 | own s z' =>
  unfold kn at h;dsimp only at h;split at h
  ·rename_i hs;subst hs;split at h
   ·rename_i y rest hc;split at h
    ·rename_i hb;injection h with h1 h2;refine⟨y - o,rest,h1.symm,h2.symm,?_⟩;rw[oh hc];congr 3;omega
    ·cases h
   ·cases h
  ·split at h<;>cases h
 | au=>cases h
 | other=>cases h
 | free=>cases h
theorem asd[ae]{r:Nat}{q:List Nat}{o sz i:Nat}{ls:List Nat}{y:Nat}{rest:List Nat}(h:y<sz):kn r q o sz i ls (.own r (q++(o+y)::rest)) = .own i (y::rest):=by
 unfold kn;dsimp only;rw[if_pos rfl,mM];dsimp only;rw[if_pos ⟨by omega,by omega⟩,show o+y - o=y by omega]
theorem auR{q:List Nat}{o sz:Nat}:¬kD q o sz []:=by
 rintro⟨d,rest,_,h⟩
 have:=congrArg List.length h;simp at this
theorem auS{q:List Nat}{o sz:Nat}:¬kD q o sz q:=by
 rintro⟨d,rest,_,h⟩
 have:=congrArg List.length h;simp at this
theorem Inv.alk[ae](hI:Inv w0 L0 N vs T a w L){d:Nat}(hd:d<N)(hid:(T.getD d .dead).idle=true){r i:Nat}{p:List St}{ls:List Nat}{ps:List (Ty×Mode)}{rs:List (Ty×Nat)}{u u2:V}{n n':Nat}{t:Ty}{x y:t.den}{log log2:List Nat}{c:Value}
  (hr:T.getD r .dead=u) (hz:(dG p u).aj T (none,⟨n',t,x⟩) log) (hm:(fT p u t y).aj T u2 log2) (hn:t.depth<=n) (wz:t.depth<=n') {g0:Nat} {cur:Array Value} {e:TypeId}
  (hg:L g0 = .own r (node [] 0 p).1) (Yp:w.heap[g0]?=some (.cells cur e (0,0)))
  (bd:Left w w' (λk=>kn r (node [] 0 p).1 (node [] 0 p).2 t.sz i ls (L k)) L' ps rs)
  (nr:∀k s q,L' k = .own s q->s=i)
  (wC:Own w' L' (λk=>L' k = .au) i n t y [] 0 ((cur.toList.drop (node [] 0 p).2).take t.sz)) (kL:T'.length=N) (bG:T'.getD r .dead=u2)
  {V0:V} (bW:T'.getD d .dead=V0) (vJ:∀r,V0.on r=false) (vK:∀L2 tm',aB L2 T' tm' d V0 w' c)
  (hT:∀z,z≠d->z≠r->(T.getD z .dead).on r=true->(T'.getD z .dead = .dead/\(T.getD z .dead).aO=false)\/(T'.getD z .dead=T.getD z .dead/\qh u (T.getD z .dead)=true))
  (im:∀z,z≠d->z≠r->(T.getD z .dead).on r=false->T'.getD z .dead=T.getD z .dead) :
  Inv w0 L0 N vs T' (a.put (some d) c) w' (pB r (node [] 0 p).1 (node [] 0 p).2 t.sz i L L'):=by
 have cj:=ab3 hz;obtain⟨lT,wE,vQ,DP⟩:=Ma hm;have bh:=hI.aX r;rw[hr]at bh;obtain⟨_,_,_,gW,lK⟩:=lb hz bh;have bD:r≠d:=by
  refine dm hid ?_;rw[hr];exact gW
 have cW:∀k q,L k ≠ .own d q:=λk q h=>by
  have:=hI.owner k d q h;rw[V.kd hid]at this;cases this
 have ny:∀k,¬jA r (node [] 0 p).1 (node [] 0 p).2 t.sz (L k)->(pB r (node [] 0 p).1 (node [] 0 p).2 t.sz i L L' k=L k/\w'.heap[k]?=w.heap[k]?):=by
  intro k h;have ax:k<w.heap.size:=hI.lt (λe=>h (.inl e));exact⟨vn h,(bd.aV k ax (M8 h)).2⟩
 have amL:∀k q,L' k = .own i q->jA r (node [] 0 p).1 (node [] 0 p).2 t.sz (L k):=by
  intro k q hk;apply Classical.byContradiction;intro hp;have ax:k<w.heap.size:=hI.lt (λe=>hp (.inl e));have h9:=(bd.aV k ax (M8 hp)).1;rw[hk]at h9;rcases M8 (i:=i) (ls:=ls) hp with h|h<;>rw[h]at h9<;>cases h9
 have gh:∀s',s'≠d->(a.put (some d) c).tmps.getD s' undef=a.tmps.getD s' undef:=λs' h=>kg (by simpa using Ne.symm h);let X:Nat->Prop:=λz=>z=d\/z=r\/(T.getD z .dead).on r=true;have lN:∀z,¬X z->z≠d/\z≠r/\(T.getD z .dead).on r=false:=by
  intro z hz;have hz:=not_or.1 hz;have dq:=not_or.1 hz.2;exact⟨hz.1,dq.1,by simpa using dq.2⟩
 have am5:∀k z,¬X z->(L k = .au\/∃r' q,L k = .own r' q/\(r'=z\/(T.getD z .dead).on r'=true))->¬jA r (node [] 0 p).1 (node [] 0 p).2 t.sz (L k):=by
  intro k z hz hk hp;obtain⟨h1,h2,h3⟩:=lN z hz;rcases hp with hp|⟨z',hp,_⟩
  ·rcases hk with hk|⟨_,_,hk,_⟩<;>rw[hp]at hk<;>cases hk
  ·rcases hk with hk|⟨r',q',hk,dp⟩
   ·rw[hp]at hk;cases hk
   ·rw[hp]at hk;injection hk with hk _;subst hk;rcases dp with rfl|dp
    ·exact h2 rfl
    ·rw[h3]at dp;cases dp
 refine Inv.upd X hI (by simp[Act.put,hI.size]) kL hI.dO ?_ ?_ ?_ ?_ ?_ ?_ ?_ ?_ ?_
 ·refine⟨bd.os.trans hI.fr.os,bd.tape.trans hI.fr.tape,bd.output.trans hI.fr.output,Nat.le_trans hI.fr.size bd.size,Nat.le_trans hI.fr.drawn bd.drawn,λk hk h0=>?_,hI.fr.gP⟩;have h1:=hI.fr.aV k hk h0;have pZ:¬jA r (node [] 0 p).1 (node [] 0 p).2 t.sz (L k):=by
   rintro (h|⟨z,h,_⟩)<;>rw[h1.1]at h<;>rcases h0 with h0|h0<;>rw[h0]at h<;>cases h
  have:=ny k pZ;exact⟨this.1.trans h1.1,this.2.trans h1.2⟩
 ·intro k hk;have hf:=hI.free k (Nat.le_trans bd.size hk);rw[sd (.inl hf),bd.free k hk];rfl
 ·intro k k' s q h h';by_cases hp:jA r (node [] 0 p).1 (node [] 0 p).2 t.sz (L k)
  ·rw[sd hp]at h;obtain⟨y1,rest,e1,e2,rfl,rfl⟩:=Dq h;by_cases cw:jA s (node [] 0 p).1 (node [] 0 p).2 t.sz (L k')
   ·rw[sd cw]at h';obtain⟨y2,MH,e3,e4,_,e5⟩:=Dq h';have e6:=List.append_cancel_left e5;injection e6 with e6 e7;have:y1=y2:=by omega
    subst this e7;exact bd.inj k k' _ _ e1 e3
   ·rw[vn cw]at h';exact absurd (.inr ⟨_,h',y1,rest,e2,rfl⟩) cw
  ·rw[vn hp]at h;by_cases cw:jA r (node [] 0 p).1 (node [] 0 p).2 t.sz (L k')
   ·rw[sd cw]at h';obtain⟨y1,rest,e1,e2,rfl,rfl⟩:=Dq h';exact absurd (.inr ⟨_,h,y1,rest,e2,rfl⟩) hp
   ·rw[vn cw]at h';exact hI.inj k k' s q h h'
 ·intro k s q h;by_cases hp:jA r (node [] 0 p).1 (node [] 0 p).2 t.sz (L k)
  ·rw[sd hp]at h;obtain⟨y1,rest,e1,e2,rfl,rfl⟩:=Dq h;rw[bG,wE];exact gW
  ·rw[vn hp]at h;have ho:=hI.owner k s q h;have bO:s≠d:=dm hid ho;by_cases bu:s=r
   ·subst bu;rw[bG,wE];exact gW
   ·cases ag:(T.getD s .dead).on r with
    | false=>rw[im s bO bu ag];exact ho
    | true =>
     rcases hT s bO bu ag with⟨_,h⟩|⟨h,_⟩
     ·rw[h]at ho;cases ho
     ·rw[h];exact ho
 ·intro z hz k hk;exact ny k (am5 k z hz hk)
 ·intro z hz;obtain⟨h1,h2,h3⟩:=lN z hz;exact⟨im z h1 h2 h3,gh z h1⟩
 ·intro z r' h;by_cases iA:z=d
  ·subst iA;rw[bW,vJ]at h;cases h
  ·by_cases dL:z=r
   ·subst dL;rw[bG]at h;simp[V.on,lT,cj]at h
   ·cases ag:(T.getD z .dead).on r with
    | false=>rw[im z iA dL ag]at h;exact hI.roots z r' h
    | true =>
     rcases hT z iA dL ag with⟨h1,_⟩|⟨h1,_⟩
     ·rw[h1]at h;simp[V.on,V.root]at h
     ·rw[h1]at h;exact hI.roots z r' h
 ·intro z r' hz ag ho;obtain⟨h1,h2,h3⟩:=lN z hz;have oH:r'≠d:=dm hid ho;have gi:r'≠r:=λe=>by rw[e,h3]at ag;cases ag
  refine⟨?_,gh r' oH⟩;cases YN:(T.getD r' .dead).on r with
  | false=>exact im r' oH gi YN
  | true =>
   rcases hT r' oH gi YN with⟨_,h⟩|⟨h,_⟩
   ·rw[h]at ho;cases ho
   ·exact h
 ·intro z hX;by_cases iA:z=d
  ·subst iA;rw[bW];show aB _ _ _ _ _ _ ((a.tmps.setIfInBounds z c).getD z undef);rw[dW,if_pos ⟨rfl,by rw[hI.size];exact hd⟩];exact vK _ _
  ·by_cases dL:z=r
   ·subst dL;rw[bG,gh z iA];have pV:¬jA z (node [] 0 p).1 (node [] 0 p).2 t.sz (L g0):=by
     rintro (h|⟨z',h,hu⟩)
     ·rw[hg]at h;cases h
     ·rw[hg]at h;injection h with _ h;subst h;exact auS hu
    have pW:=ny g0 pV;refine L7 (T2:=T') (cur:=cur) (e':=e) (g':=g0) (cur':=cur) bh hz hm (λr' aZ=>by rw[cj]at aZ;cases aZ) ?_ ?_
    ·refine⟨λk hk=>?_,λk q2 hk hq Lf=>?_,hg,by rw[pW.1];exact hg,Yp,by rw[pW.2];exact Yp,rfl,λ_ _=>rfl,λk hk=>hI.inj k g0 z _ hk hg⟩
     ·rw[cj]at hk ⊢;rcases hk with hk|⟨_,_,hk,_⟩
      ·have:=ny k (by rintro (h|⟨_,h,_⟩)<;>rw[hk]at h<;>cases h);exact⟨.inl (by rw[this.1];exact hk),this.2⟩
      ·cases hk
     ·exact ny k (by
       rintro (h|⟨z',h,hu⟩)
       ·rw[hk]at h;cases h
       ·rw[hk]at h;injection h with _ h;subst h;exact Lf hu)
    ·refine Own.cap hn wz (Own.move (S:=λ_=>False) (λk hk=>hk.elim) (λk dd rest iu hk=>⟨?_,rfl⟩) (Own.full hn wC));rw[Nat.zero_add,List.nil_append]at hk;rw[sd (amL k _ hk),hk];show (if i=i/\dd<t.sz then _ else _)=_
     rw[if_pos ⟨rfl,iu⟩]
   ·have ag:(T.getD z .dead).on r=true:=by
     rcases hX with h|h|h
     ·exact absurd h iA
     ·exact absurd h dL
     ·exact h
    rcases hT z iA dL ag with⟨h,_⟩|⟨h,hk⟩
    ·rw[h];trivial
    ·rw[h,gh z iA];have bq:=hI.aX z;have dX:∀k,L k = .own r []->pB r (node [] 0 p).1 (node [] 0 p).2 t.sz i L L' k=L k/\w'.heap[k]?=w.heap[k]?:=λk hk=>ny k (by
      rintro (h|⟨z',h,hu⟩)
      ·rw[hk]at h;cases h
      ·rw[hk]at h;injection h with _ h;subst h;exact auR hu)
     generalize hv:T.getD z .dead=v at hk ag bq;cases v with
     | ptr r2 p2 t2 =>
      have:r2=r:=by simpa[V.on,V.root]using ag
      subst this;simp only[qh,Bool.and_eq_true]at hk;obtain⟨g,h1,h2⟩:=bq;refine⟨g,h1,?_⟩;rw[qE hk.1]at h2 ⊢;rw[(dX g h2).1];exact h2
     | view r2 p2 t2 =>
      have:r2=r:=by simpa[V.on,V.root]using ag
      subst this;obtain⟨cB,h1⟩:=bq;refine⟨by rw[bG,vQ,<-hr];exact cB,?_⟩;rcases h1 with⟨h1,h2,l,n1,x1,h3,h4⟩|⟨g,cur1,e1,h1,h2,h3,h4,h5⟩
      ·rw[hr]at h3;subst h3;obtain⟨x2,rfl⟩:=abi hm;exact .inl ⟨h1,by rw[gh r2 bD];exact h2,l,n1,x2,bG,h4⟩
      ·rw[hr]at h1;have eu:shallow p2=true:=by
        simp only[qh,Bool.or_eq_true,Bool.and_eq_true]at hk;rcases hk with hk|hk
        ·exact hk.1
        ·cases p2 with
         | nil=>rfl
         | cons _ _=>cases hk
       refine .inr ⟨g,cur1,e1,by rw[bG,DP];exact h1,?_⟩;rw[qE eu]at h2 ⊢;have:=dX g h2;exact⟨by rw[this.1];exact h2,by rw[this.2];exact h3,h4,h5⟩
     | _=>simp[qh]at hk
end
end Go.Proofs.YthfgcmoipebheaaGreat.P.Am
