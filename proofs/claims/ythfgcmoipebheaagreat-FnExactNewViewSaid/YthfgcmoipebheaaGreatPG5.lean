/- A part of the proof: Am39,Am40,Am41,Am42,Am43,Am44,Am45,Am46,Am47. No conditions. -/
import Derived.Test.YthfgcmoipebheaaGreatPG4
set_option linter.unusedVariables false
set_option linter.unusedSimpArgs false
namespace Go.Proofs.YthfgcmoipebheaaGreat.P.Am
section
variable{P:Program}{C:Ctx}{w w' w0:World}{S S':Nat->Prop}{L L' L0:Nat->aj}{s N:Nat}{vs:List Nat}{T T':List V}{tm tm':Array Value}{a:Act}
theorem step_append[ae](hI:Inv w0 L0 N vs T a w L)(hC:bA P C){o:Oper}{X X2:TypeId}{sO xO:Operand}{d:Nat}{ups:List (Nat×V)}{log:List Nat}
  (ho:o.op = .call { callee:=.builtin .append,args:=#[sO,xO],argTypes:=#[X,X2] }) (ay:o.dst=some d) (hd:d<N) (hid:(T.getD d .dead).idle=true)
  (h:(Hy C vs d X X2 sO xO).ai T ups log):Step P o w0 L0 N vs (ag T ups) a w:=by
 unfold Hy at h;split at h
 ·rename_i e t hX;split at h
  ·rename_i e2 t2 hR;obtain⟨b,l1,l2,rfl,h1,h⟩:=M.an h;obtain⟨c,l3,l4,rfl,h2,h⟩:=M.an h;split at h
   ·rename_i ah7;obtain⟨bm,hby,ik⟩:=ah7;obtain⟨hg,rfl,_⟩:=h;have hg:=of_decide_eq_true hg;obtain⟨hu,he⟩:=(hC X _ hX).bX;obtain⟨Jr,lj⟩:=(hC X2 _ hR).bX;obtain⟨i,z,i1,i2,i3,i4,i5⟩:=(hC e t he).info;have dO:∀v∈t.cd,v.oneCell'=true:=Own.one (Own.zero (w:=w) (L:=L) (S:=λ_=>True) (s:=0) (n:=0) (t:=t) (q:=[]) (o:=0));have iP:=Form.cells i5 dO;have gM:z.cells.size=t.sz:=by rw[<-Array.length_toList,iP,Ty.jm]
    obtain⟨so,mV,U6⟩:=ag7 hI h1 d;obtain⟨news,cQ,og,bt⟩:=amZ hI h2 Jr;have fX:=cQ.total;have Vz:b.xs.length+c.ys.length<=140737488355328:=Nat.le_trans (Nat.le_mul_of_pos_right _ (by omega)) hg;have sf:b.xs.length+c.ys.length<=maxLen:=by simp only[maxLen];omega
    have VX:(b.s=some so/\so∉vs/\(T.getD so .dead).aJ=true)\/(b.s=none/\so=d):=mV.imp (λh=>⟨h.1,h.2.1,h.2.2.1⟩) id;have bh:∀s,c.s=some s->s≠so:=by
     intro s hs;rcases mV with⟨hb,_⟩|⟨hb,rfl⟩
     ·rintro rfl
      rw[hs,hb]at ik;simp at ik
     ·exact cX hid (og s hs).2.1
    have fin:∀(kept:Bool) (nl:Nat->aj) (w':World) (g o7:Nat) (cur':Array Value) (iz:List Value),
      (Builtin.append_ #[X,X2] o.type #[a.eval sO,a.eval xO]).run P w = .ok (.slice (some ⟨g,0,none⟩) (b.xs.length+c.ys.length) o7) w' ->
      Wd w w' L nl (λs=>s=d\/s=so\/c.s=some s)->(∀k s q,w.heap.size<=k->nl k = .own s q->s=d/\q=[0]/\k=w.heap.size/\kept=false) ->
      aT (gh d so c.s kept (b.xs.length*t.sz) (c.ys.length*t.sz) (ju b.n c.n)) w L nl g = .own d [0] ->
      w'.heap[g]?=some (.cells cur' e (0,0))->b.xs.length+c.ys.length<=o7->o7<=maxLen->cur'.size=o7*t.sz ->
      (∀k,L k ≠ .free->L k ≠ .own so [0]->w'.heap[k]?=w.heap[k]?) ->
      (∀i,i<b.xs.length*t.sz->cur'[i]?=iz[i]?)->(∀i,i<c.ys.length*t.sz->cur'[b.xs.length*t.sz+i]?=news[i]?) ->
      (∀(L':Nat->aj) (w':World) (m:Nat),m<=b.n->(∀k,L k = .aq->L' k = .aq/\w'.heap[k]?=w.heap[k]?) ->
       (∀k y rest,y<b.xs.length*t.sz->L k = .own so (0::y::rest)->w'.heap[k]?=w.heap[k]?/\(rest.length<m->L' k = .own d (0::y::rest))/\(m<=rest.length->L' k = .aq)) ->
       ∀j (h:j<b.xs.length),Own w' L' (SL L' none) d m t (b.xs[j]) [0] (j*t.sz) ((iz.drop (j*t.sz)).take t.sz)) ->
      Step P o w0 L0 N vs (ag T ((b.s.toList++c.s.toList).map (λs=>(s,V.dead))++[(d,.d none (ju b.n c.n+1) (.slice e t) (b.xs++c.ys))])) a w:=by
     intro kept nl w' g o7 cur' iz aO hw aiV gn I0 Ch ah3 nZ hold dV e9 r3;have vg:(execOp a.eval o).run P w = .ok (.value (.slice (some ⟨g,0,none⟩) (b.xs.length+c.ys.length) o7)) w':=by
      simp[execOp,ho,resolve,invoke,builtin,aO]
     refine Step.value ay vg (Inv.app (b1:=b.xs.length*t.sz) (b2:=c.ys.length*t.sz) (m:=ju b.n c.n) hI hd hid VX (λs hs=>⟨(og s hs).1,(og s hs).2.1⟩) hw aiV rfl (by simp[V.aJ,Ty.depth]) (λT' tm'=>?_));refine⟨by simp,_,rfl,?_⟩;simp only[Own];refine .inr ⟨g,o7,cur',by rw[List.length_append],by simpa using gn,I0,by rw[List.length_append];exact Ch,ah3,nZ,λj hj=>?_⟩;have a6:∀k,L k = .aq->aT (gh d so c.s kept (b.xs.length*t.sz) (c.ys.length*t.sz) (ju b.n c.n)) w L nl k = .aq/\w'.heap[k]?=w.heap[k]? :=
      λk hk=>⟨dY hI hk,hold k (by rw[hk];simp) (by rw[hk];simp)⟩
     by_cases Vn:j<b.xs.length
     ·rw[List.getElem_append_left Vn];have Jy:(cur'.toList.drop (j*t.sz)).take t.sz=(iz.drop (j*t.sz)).take t.sz:=qx λk hk=>by
       have:(j+1)*t.sz<=b.xs.length*t.sz:=Nat.mul_le_mul_right _ (by omega);rw[Nat.add_mul,Nat.one_mul]at this;rw[Array.getElem?_toList];exact dV _ (by omega)
      rw[Jy];refine r3 _ w' _ Tm.1 a6 (λk y rest hy hk=>?_) j Vn;have gF:aT (gh d so c.s kept (b.xs.length*t.sz) (c.ys.length*t.sz) (ju b.n c.n)) w L nl k=if rest.length<ju b.n c.n then .own d (0::y::rest)else .aq:=by
       rw[cR hI (by rw[hk];simp),hk];simp[er,gh,hy]
      refine⟨hold k (by rw[hk];simp) (by rw[hk];simp),λh=>?_,λh=>?_⟩
      ·rw[gF,if_pos h]
      ·rw[gF,if_neg (by omega)]
     ·rw[List.getElem_append_right (by omega)];have vr:j - b.xs.length<c.ys.length:=by rw[List.length_append]at hj;omega
      have Cv:j*t.sz=b.xs.length*t.sz+(j - b.xs.length)*t.sz:=by rw[<-Nat.add_mul];congr 1;omega
      have Jy:(cur'.toList.drop (j*t.sz)).take t.sz=(news.drop ((j - b.xs.length)*t.sz)).take t.sz:=qx λk hk=>by
       have:(j - b.xs.length+1)*t.sz<=c.ys.length*t.sz:=Nat.mul_le_mul_right _ (by omega);rw[Nat.add_mul,Nat.one_mul]at this;rw[Array.getElem?_toList,Cv,Nat.add_assoc];exact e9 _ (by omega)
      rw[Jy,Cv];refine bt _ w' d (b.xs.length*t.sz) _ (λk hk=>Tm.2 k hk) a6 (λs k y rest hs hy hk=>?_) _ vr;have gF:aT (gh d so c.s kept (b.xs.length*t.sz) (c.ys.length*t.sz) (ju b.n c.n)) w L nl k=if rest.length<ju b.n c.n then .own d (0::(b.xs.length*t.sz+y)::rest)else .aq:=by
       rw[cR hI (by rw[hk];simp),hk];simp[er,gh,bh s hs,hs,hy]
      refine⟨hold k (by rw[hk];simp) (by rw[hk];simp),λh=>?_,λh=>?_⟩
      ·rw[gF,if_pos h]
      ·rw[gF,if_neg (by omega)]
    have grow:∀(bs:Option Addr) (sc:Nat) (iz:List Value),a.eval sO = .slice bs b.xs.length sc->sc<b.xs.length+c.ys.length->iz.length=b.xs.length*t.sz ->
      (Builtin.firstCells i.size b.xs.length (.slice bs b.xs.length sc)).run P w.drew = .ok iz.toArray w.drew ->
      (∀(L':Nat->aj) (w':World) (m:Nat),m<=b.n->(∀k,L k = .aq->L' k = .aq/\w'.heap[k]?=w.heap[k]?) ->
       (∀k y rest,y<b.xs.length*t.sz->L k = .own so (0::y::rest)->w'.heap[k]?=w.heap[k]?/\(rest.length<m->L' k = .own d (0::y::rest))/\(m<=rest.length->L' k = .aq)) ->
       ∀j (h:j<b.xs.length),Own w' L' (SL L' none) d m t (b.xs[j]) [0] (j*t.sz) ((iz.drop (j*t.sz)).take t.sz)) ->
      Step P o w0 L0 N vs (ag T ((b.s.toList++c.s.toList).map (λs=>(s,V.dead))++[(d,.d none (ju b.n c.n+1) (.slice e t) (b.xs++c.ys))])) a w:=by
     intro bs sc iz cP av VH aik r3;have aO:=agW (P:=P) (w:=w) (ty:=o.type) (X2:=X2) hu i1 i4 aik (by rw[i2];exact cQ) av sf (by rw[i3];exact hg);rw[<-cP]at aO;have ln:=grownCap_ge w (b.xs.length+c.ys.length) sc e;have Cj:=grownCap_le_maxLen w (b.xs.length+c.ys.length) sc e sf;have hL1:(iz++news).length=(b.xs.length+c.ys.length)*t.sz:=by rw[List.length_append,VH,fX,Nat.add_mul]
     refine fin false (λk=>if k=w.heap.size then .own d [0]else .free) _ w.heap.size _ _ iz aO ?_ ?_ ?_ (n5 w.drew _) ln Cj ?_ ?_ ?_ ?_ r3
     ·refine⟨rfl,rfl,rfl,by simp,Nat.le_succ _,λk hk _=>Go.RowKit.Below.heap_alloc w.drew _ k hk,λk hk=>?_,λk s q hk h=>?_⟩
      ·simp at hk;rw[if_neg (by omega)]
      ·split at h
       ·injection h with h _;exact .inl h.symm
       ·cases h
     ·intro k s q hk h;split at h
      ·injection h with h1 h2;exact⟨h1.symm,h2.symm,by assumption,rfl⟩
      ·cases h
     ·unfold aT;rw[if_neg (by omega)];simp
     ·rw[Array.size_append,List.size_toArray,hL1,size_zeroCells,gM,<-Nat.add_mul];congr 1;omega
     ·exact λk hk _=>Go.RowKit.Below.heap_alloc w.drew _ k (hI.lt hk)
     ·intro k hk;rw[Array.getElem?_append_left (by simp only[List.size_toArray];rw[List.length_append];omega),List.getElem?_toArray,List.getElem?_append_left (by omega)]
     ·intro k hk;rw[Array.getElem?_append_left (by simp only[List.size_toArray];rw[List.length_append];omega),List.getElem?_toArray,List.getElem?_append_right (by omega),VH];congr 1;omega
    simp only[Own]at U6;rcases U6 with⟨fW,iW⟩|⟨g,cap,cur,cW,hL,Cq,h5,h6,h7,h8⟩
    ·have fW:a.eval sO=_:=(List.cons.inj fW).1;by_cases hy:c.ys=[]
     ·have ajd:fE P i.size X2 (a.eval xO) 0 [] w:=by
       rw[hy]at cQ fX;have:news=[]:=List.eq_nil_of_length_eq_zero (by simpa using fX);rw[this]at cQ;rw[i2];exact cQ
      have aO:=agX (P:=P) (ty:=o.type) hu i1 ajd;rw[<-fW]at aO;have vg:(execOp a.eval o).run P w = .ok (.value (a.eval sO)) w:=by
       simp[execOp,ho,resolve,invoke,builtin,aO]
      refine Step.value ay vg (Inv.app (kept:=false) (b1:=0) (b2:=0) (m:=0) (nl:=λ_=>.free) hI hd hid VX (λs hs=>⟨(og s hs).1,(og s hs).2.1⟩) (Wd.refl hI _) (λk s q _ h=>by cases h) rfl (by simp[V.aJ,Ty.depth]) (λT' tm'=>?_));refine⟨by simp,_,rfl,?_⟩;simp only[Own];exact .inl ⟨by rw[fW],by rw[iW,hy];rfl⟩
     ·have Jf:0<c.ys.length:=List.length_pos_iff.2 hy;have h0:b.xs.length=0:=by rw[iW];rfl
      refine grow none 0 [] (by rw[h0];exact fW) (by omega) (by rw[h0];simp) ?_ (λL' w' m _ _ _ j hj=>absurd hj (by omega));rw[h0];exact run_firstCells_none w.drew i.size 0 0 0
    ·have cW:a.eval sO=_:=(List.cons.inj cW).1;have hL:L g = .own so [0]:=by simpa using hL
     have hle:b.xs.length*t.sz<=cur.size:=by rw[h7];exact Nat.mul_le_mul_right _ h5
     have r3:∀(L':Nat->aj) (w':World) (m:Nat),m<=b.n->(∀k,L k = .aq->L' k = .aq/\w'.heap[k]?=w.heap[k]?) ->
       (∀k y rest,y<b.xs.length*t.sz->L k = .own so (0::y::rest)->w'.heap[k]?=w.heap[k]?/\(rest.length<m->L' k = .own d (0::y::rest))/\(m<=rest.length->L' k = .aq)) ->
       ∀j (h:j<b.xs.length),Own w' L' (SL L' none) d m t (b.xs[j]) [0] (j*t.sz) (((cur.toList.take (b.xs.length*t.sz)).drop (j*t.sz)).take t.sz):=by
      intro L' w' m hm a6 gF j hj;have hjb:j*t.sz+t.sz<=b.xs.length*t.sz:=by
       have:(j+1)*t.sz<=b.xs.length*t.sz:=Nat.mul_le_mul_right _ (by omega)
       rwa [Nat.add_mul,Nat.one_mul]at this
      have hw:((cur.toList.take (b.xs.length*t.sz)).drop (j*t.sz)).take t.sz=(cur.toList.drop (j*t.sz)).take t.sz:=qx λk hk=>by
       rw[List.getElem?_take,if_pos (by omega)]
      rw[hw];refine Own.eQ hm (λk hk=>?_) (λk y rest hy hk=>?_) (h8 j hj)
      ·rcases hk with hk|⟨_,_,hk,_⟩
       ·exact⟨.inl (a6 k hk).1,(a6 k hk).2⟩
       ·cases hk
      ·have aG:L k = .own so (0::(j*t.sz+y)::rest):=by simpa using hk
       have:=gF k (j*t.sz+y) rest (by omega) aG;exact⟨this.1,λh=>by simpa using this.2.1 h,λh=>.inl (this.2.2 h)⟩
     by_cases si:b.xs.length+c.ys.length<=cap
     ·
      have n9:b.xs.length*t.sz+news.length<=cur.size:=by
       rw[fX,<-Nat.add_mul,h7];exact Nat.mul_le_mul_right _ si
      obtain⟨s1,s2,s3,s4,s5,cur',s6,s7,s8⟩:=YZ news (b.xs.length*t.sz) w cur e Cq n9;have px:∀j,j<news.length->w.cell? ⟨g,b.xs.length*i.size+j,none⟩=cur[b.xs.length*t.sz+j]?:=by
       intro j hj;simp[World.cell?,Cq,i2]
      have aO:=agY (P:=P) (w:=w) (ty:=o.type) (X2:=X2) (g:=g) hu i1 (by rw[i2];exact cQ) si
       (λj hj=>by rw[px j hj,Array.getElem?_eq_getElem (by omega)];rfl) (λj hj=>by simp[World.frozen?,Cq])
      rw[<-cW,i2]at aO;have cK:g<w.heap.size:=hI.lt (by rw[hL];simp);refine fin true (λ_=>.free) _ g cap cur' (cur.toList.take (b.xs.length*t.sz)) aO ?_ (λk s q _ h=>by cases h) ?_ s6 si h6 (by rw[s7,h7]) ?_ ?_ ?_ r3
      ·refine⟨s1,s2,s3,by rw[s4];exact Nat.le_refl _,Nat.le_of_eq (YY _ _ _).symm,λk hk h=>?_,λk _=>rfl,λk s q _ h=>by cases h⟩;exact s5 k (λe=>by subst e;exact h so [0] hL (.inr (.inl rfl)))
      ·rw[cR hI (by rw[hL];simp),hL];simp[er,gh]
      ·intro k hk c7;exact s5 k (λe=>by subst e;exact c7 hL)
      ·intro k hk;rw[s8,if_neg (by omega),List.getElem?_take,if_pos hk,Array.getElem?_toList]
      ·intro k hk;rw[s8,if_pos (by omega)];congr 1;omega
     ·
      have hlen:(cur.toList.take (b.xs.length*t.sz)).length=b.xs.length*t.sz:=by rw[List.length_take];simp;omega
      refine grow (some ⟨g,0,none⟩) cap _ cW (by omega) hlen ?_ r3;refine run_firstCells_some w.drew i.size b.xs.length ⟨g,0,none⟩ b.xs.length cap _ (by rw[hlen,i2]) (λj u hu=>?_);rw[List.getElem?_take]at hu;split at hu
      ·show w.cell? _=_;rw[show (⟨g,0,none⟩:Addr).add j=⟨g,j,none⟩by rw[Addr.add_lit,Nat.zero_add]];simp only[World.cell?,Cq];simpa using hu
      ·cases hu
   ·exact h.elim
  ·exact h.elim
 ·exact h.elim
end
abbrev lX:=Nat×Option (Nat×(t:Ty)×t.den)
def TQ(d i:Nat):Option (Nat×(t:Ty)×t.den)->Option V
 | some (n,⟨t,x⟩)=>if n≠0/\t.depth≠0 then some (.part d i n t x)else none
 | none=>none
def partsOf(d:Nat)(h:Nat->Option Nat):Nat->Nat->List lX->List ((Nat×Nat×Nat)×V)
 | _,_,[]=>[]
 | i,o,(sz,c)::l=>match h i,TQ d i c with
  | some e,some v=>((e,o,sz),v)::partsOf d h (i+1) (o+sz) l
  | _,_=>partsOf d h (i+1) (o+sz) l
def gQ:List lX->List lX
 | []=>[]
 | (sz,c)::l=>(sz,if BU c=true then none else c)::gQ l
def vU{α:Type}:List Nat->M α->M α
 | [],m=>m
 | s::l,m=>.get s λv=>.bl v.idle (vU l m)
def Zn(vs:List Nat)(N d s:Nat)(h:Nat->Option Nat):M (List (Nat×V)):=
 .get s λv=>match v with
 | .bC l =>
  if cc (d::s::(partsOf d h 0 0 l).map (·.1.1))=true/\((partsOf d h 0 0 l).all λp=>decide (p.1.1<N))=true/\vs.contains s=false/\vs.contains d=true then
   vU (d::(partsOf d h 0 0 l).map (·.1.1)) (.ret ((s,V.dead)::((partsOf d h 0 0 l).map (λp=>(p.1.1,p.2))++[(d,.bC (gQ l))])))
  else .fail
 | _=>.fail
def Ui(vs:List Nat)(d:Nat)(x:Operand)(i:Nat):M (List (Nat×V)):=
 match x with
 | .tmp s=>.get d λvd=>match vd with
  | .part r j n t y=>if r=s/\j=i/\vs.contains d=false/\n≠0/\t.depth≠0 then .ret [(d,.d none n t y)]else .fail
  | _=>.bl vd.idle (.get s λv=>match v with
   | .bC l=>match l[i]? with
    | some (_,some (n,⟨t,y⟩))=>if n=0\/t.depth=0 then .ret [(d,.d none n t y)]else .fail
    | _=>.fail
   | _=>.fail)
 | _=>.fail
def kH(s d:Nat)(ms:List (Nat×Nat×Nat)):Nat->List Nat->aj:=λr z =>
 if r=s then match z with
  | y::rest=>match ms.find? (λp=>decide (p.2.1<=y)&&decide (y<p.2.1+p.2.2))with
   | some p=>.own p.1 ((y - p.2.1)::rest)
   | none=>.other
  | []=>.other
 else if r=d\/r∈ms.map (·.1)then .other else .own r z
theorem wH{s d:Nat}{ms:List (Nat×Nat×Nat)}{r:Nat}{z:List Nat}{s':Nat}{z':List Nat}(h:kH s d ms r z = .own s' z'):
  (r=s/\∃p y rest,p∈ms/\z=y::rest/\p.2.1<=y/\y<p.2.1+p.2.2/\s'=p.1/\z'=(y - p.2.1)::rest)\/(r≠s/\r≠d/\r∉ms.map (·.1)/\s'=r/\z'=z):=by
 unfold kH at h;split at h
 ·rename_i hr;split at h
  ·rename_i y rest;split at h
   ·rename_i p hp;injection h with h1 h2;have hb:=List.find?_some hp;simp only[Bool.and_eq_true,decide_eq_true_eq]at hb;exact .inl ⟨hr,p,y,rest,List.mem_of_find?_eq_some hp,rfl,hb.1,hb.2,h1.symm,h2.symm⟩
   ·cases h
  ·cases h
 ·rename_i hr;split at h
  ·cases h
  ·rename_i hn;have hn:=not_or.1 hn;injection h with h1 h2;exact .inr ⟨hr,hn.1,hn.2,h1.symm,h2.symm⟩
theorem Yy[ae]{s d b:Nat}{ms:List (Nat×Nat×Nat)}(hs:eH b ms)(hn:cc (ms.map (·.1))=true):fj (kH s d ms) (λr=>r=s\/r=d\/r∈ms.map (·.1)):=by
 refine⟨λr z hX=>?_,λr z s' z' hX h=>?_,λr z r2 z2 s' z' h1 h2=>?_,λr z=>?_⟩
 ·have h1:=not_or.1 hX;unfold kH;rw[if_neg h1.1,if_neg h1.2]
 ·rcases wH h with⟨_,p,_,_,hp,_,_,_,rfl,_⟩|⟨h1,h2,h3,rfl,_⟩
  ·exact .inr (.inr (List.mem_map_of_mem hp))
  ·rcases hX with h|h|h
   ·exact absurd h h1
   ·exact absurd h h2
   ·exact absurd h h3
 ·rcases wH h1 with⟨rfl,p,y,rest,hp,rfl,b1,b2,rfl,rfl⟩|⟨g1,g2,g3,rfl,rfl⟩
  ·rcases wH h2 with⟨rfl,p',y',fe,cn,rfl,b1',b2',he,h3⟩|⟨_,_,g3,h3,_⟩
   ·have f1:=pk hn hp;have f2:=pk hn cn;rw[he]at f1;rw[f1]at f2;cases f2;simp only[List.cons.injEq]at h3;obtain⟨h3,rfl⟩:=h3;exact⟨rfl,by rw[show y=y' by omega]⟩
   ·exact absurd (h3▸List.mem_map_of_mem hp) g3
  ·rcases wH h2 with⟨_,p',_,_,cn,_,_,_,h3,_⟩|⟨_,_,_,h3,h4⟩
   ·exact absurd (h3▸List.mem_map_of_mem cn) g3
   ·exact⟨h3,h4⟩
 ·unfold kH
  repeat' split
  all_goals simp
theorem Yx[ae]{s d b:Nat}{ms:List (Nat×Nat×Nat)}(hs:eH b ms)(hn:cc (ms.map (·.1))=true){p:Nat×Nat×Nat}(hp:p∈ms){i:Nat}(hi:i<p.2.2){rest:List Nat}:
  kH s d ms s ((p.2.1+i)::rest) = .own p.1 (i::rest):=by
 unfold kH;rw[if_pos rfl];dsimp only;have hx:∃q,ms.find? (λq=>decide (q.2.1<=p.2.1+i)&&decide (p.2.1+i<q.2.1+q.2.2))=some q:=by
  rw[<-Option.isSome_iff_exists,List.find?_isSome];exact⟨p,hp,by simp;omega⟩
 obtain⟨q,hq⟩:=hx;have VR:=List.mem_of_find?_eq_some hq;have hb:=List.find?_some hq;simp only[Bool.and_eq_true,decide_eq_true_eq]at hb;have hqp:q=p:=by
  apply Classical.byContradiction;intro bh;by_cases h1:q.1=p.1
  ·have f1:=pk hn hp;have f2:=pk hn VR;rw[h1,f1]at f2;exact bh (Option.some.inj f2).symm
  ·have:=hs.T4 hn q p VR hp h1;omega
 subst hqp;rw[hq];simp only[aj.own.injEq,List.cons.injEq,and_true,true_and];omega
theorem De{d:Nat}{h:Nat->Option Nat}:{l:List lX}->{i o:Nat}->eH o ((partsOf d h i o l).map (·.1))
 | [],_,_=>trivial
 | (sz,c)::l,i,o=>by
  simp only[partsOf];split
  ·exact⟨Nat.le_refl _,De⟩
  ·exact eH.aqC (Nat.le_add_right _ _) De
 where
 eH.aqC:{b b':Nat}->{ms:List (Nat×Nat×Nat)}->b<=b'->eH b' ms->eH b ms
 | _,_,[],_,_=>trivial
 | _,_,_::_,h,h2=>⟨Nat.le_trans h h2.1,h2.2⟩
section
variable{P:Program}{C:Ctx}{w w' w0:World}{S S':Nat->Prop}{L L' L0:Nat->aj}{s N:Nat}{vs:List Nat}{T T':List V}{tm tm':Array Value}{a:Act}
theorem Ku{d:Nat}{h:Nat->Option Nat}:{l:List lX}->{i o:Nat}->{dj:List Value}->eI w L s o l dj->∀p v,(p,v)∈partsOf d h i o l ->
  ∃j n t x u cs,v = .part d (i+j) n t x/\dj[j]?=some u/\t.sz=p.2.2/\Form t cs u/\Own w L (SL L none) s n t x [] p.2.1 cs
 | [],_,_,_,_,_,_,hm=>by simp[partsOf]at hm
 | (sz,c)::l,i,o,dj,hr,p,v,hm=>by
  obtain⟨u,iD,rfl,h1,h2⟩:=hr;have VU:(p,v)∈partsOf d h (i+1) (o+sz) l->∃j n t x u' cs,v = .part d (i+j) n t x/\(u::iD)[j]?=some u'/\t.sz=p.2.2/\Form t cs u'/\Own w L (SL L none) s n t x [] p.2.1 cs:=by
   intro hm;obtain⟨j,n,t,x,u',cs,e1,e2,e3,e4,e5⟩:=Ku h2 p v hm;exact⟨j+1,n,t,x,u',cs,by rw[e1,show i+1+j=i+(j+1)by omega],by simpa using e2,e3,e4,e5⟩
  simp only[partsOf]at hm;split at hm
  ·rename_i e v' he oh;rcases List.mem_cons.1 hm with hm|hm
   ·injection hm with hp hv;subst hp hv;unfold TQ at oh;split at oh
    ·rename_i n t x;split at oh
     ·injection oh with oh;obtain⟨h3,cs,h4,h5⟩:=h1 n t x rfl;exact⟨0,n,t,x,u,cs,oh.symm,rfl,h3,h4,h5⟩
     ·cases oh
    ·cases oh
   ·exact VU hm
  ·exact VU hm
theorem KE{s':Nat}(H:∀k,L k = .aq->L' k = .aq/\w'.heap[k]?=w.heap[k]?):{l:List lX}->{o:Nat}->{dj:List Value}->eI w L s o l dj->eI w' L' s' o (gQ l) dj
 | [],_,_,h=>h
 | (sz,c)::l,o,dj,⟨v,iD,h1,h2,h3⟩=>by
  refine⟨v,iD,h1,λn t x hc=>?_,KE H h3⟩;split at hc
  ·cases hc
  ·rename_i hco;obtain⟨h4,cs,h5,h6⟩:=h2 n t x hc;subst hc;refine⟨h4,cs,h5,?_⟩;have ig:¬n=0->t.depth=0:=by simpa[BU]using hco
   have hn:n=0\/t.depth=0:=by omega
   rcases hn with hn|hn
   ·subst hn;refine Own.dB (Rd.move (λk hk=>?_) (Own.ep h6));rcases hk with hk|⟨_,_,hk,_⟩
    ·exact⟨.inl (H k hk).1,(H k hk).2⟩
    ·cases hk
   ·exact Own.flat hn h6
theorem Zk:{l:List lX}->{o i:Nat}->{dj:List Value}->{sz n:Nat}->{t:Ty}->{x:t.den}->eI w L s o l dj->l[i]?=some (sz,some (n,⟨t,x⟩))->∃o' u cs,dj[i]?=some u/\Form t cs u/\Own w L (SL L none) s n t x [] o' cs
 | [],_,_,_,_,_,_,_,_,h=>by simp at h
 | (fg,c)::l,o,0,dj,sz,n,t,x,⟨v,iD,h1,h2,h3⟩,h=>by
  simp only[List.getElem?_cons_zero,Option.some.injEq,Prod.mk.injEq]at h;obtain⟨_,cs,h5,h6⟩:=h2 n t x h.2;exact⟨o,v,cs,by rw[h1];rfl,h5,h6⟩
 | (fg,c)::l,o,i+1,dj,sz,n,t,x,⟨v,iD,h1,h2,h3⟩,h=>by
  obtain⟨o',u,cs,e1,e2,e3⟩:=Zk h3 (by simpa using h);exact⟨o',u,cs,by rw[h1];simpa using e1,e2,e3⟩
theorem CE{α:Type}{m:M α}{x:α}:{l:List Nat}->{log:List Nat}->(vU l m).ai T x log->(∀s∈l,(T.getD s .dead).idle=true)/\∃aC,m.ai T x aC
 | [],log,h=>⟨by simp,log,h⟩
 | s::l,log,h=>by
  obtain⟨aC,rfl,hc,h⟩:=h;obtain⟨h1,h2⟩:=CE h;exact⟨λs' hs=>by rcases List.mem_cons.1 hs with rfl|hs;exact hc;exact h1 s' hs,h2⟩
theorem rR[ae]{ups:List (Nat×V)}(hn:cc (ups.map (·.1))=true){s:Nat}{v:V}(hm:(s,v)∈ups){T:List V}(hs:s<T.length):(ag T ups).getD s .dead=v:=by
 unfold ag;induction ups generalizing T with
 | nil=>cases hm
 | cons u l ih =>
  simp only[List.map_cons,cc,Bool.and_eq_true,Bool.not_eq_true']at hn;simp only[List.foldl_cons];rcases List.mem_cons.1 hm with rfl|hm
  ·have:=eK l (T.set s v) s (λh=>by
    have h2:=List.contains_iff_mem.2 h;rw[hn.1]at h2;cases h2)
   unfold ag at this;rw[this,aF,if_pos ⟨rfl,hs⟩]
  ·exact ih hn.2 hm (by simpa using hs)
theorem Kl{l:List Nat}:cc l=true->l.Nodup:=by
 induction l with
 | nil=>intro _;exact List.nodup_nil
 | cons x l ih =>
  intro h;simp only[cc,Bool.and_eq_true,Bool.not_eq_true']at h;refine List.nodup_cons.2 ⟨λhm=>?_,ih h.2⟩;rw[List.contains_iff_mem.2 hm]at h;cases h.1
theorem wC{l:List Nat}:l.Nodup->cc l=true:=by
 induction l with
 | nil=>intro _;rfl
 | cons x l ih =>
  intro h;obtain⟨h1,h2⟩:=List.nodup_cons.1 h;simp only[cc,Bool.and_eq_true,Bool.not_eq_true',ih h2,and_true];rw[Bool.eq_false_iff];intro hc;exact h1 (List.contains_iff_mem.1 hc)
theorem ant[ae](hI:Inv w0 L0 N vs T a w L){o:Oper}{d s:Nat}{h:Nat->Option Nat}{ups:List (Nat×V)}{log:List Nat}(ho:pT o (.tmp s))(ay:o.dst=some d)(hd:d<N)
  (hr:(Zn vs N d s h).ai T ups log):Step P o w0 L0 N vs (ag T ups) a w:=by
 obtain⟨aC,rfl,hr⟩:=hr;dsimp only at hr;have hs:=hI.aW s;generalize hv:T.getD s .dead=v at hr hs;split at hr
 ·rename_i l;split at hr
  ·rename_i hc;obtain⟨cK,av,iV,r6⟩:=hc;obtain⟨jC,log2,hr⟩:=CE hr;obtain⟨rfl,_⟩:=hr;obtain⟨dj,dR,dz⟩:=hs;generalize lC:partsOf d h 0 0 l=ps at cK av jC;have vM:eH 0 (ps.map (·.1)):=by rw[<-lC];exact De
   have vC:=Kl cK;have iU:ps.map (·.1.1)=(ps.map (·.1)).map (·.1):=by rw[List.map_map];rfl
   obtain⟨Vf,aiU⟩:=List.nodup_cons.1 vC;obtain⟨kz,pD⟩:=List.nodup_cons.1 aiU;have hZ:d≠s:=λe=>Vf (by rw[e];simp);have cq:d∉ps.map (·.1.1):=λe=>Vf (List.mem_cons_of_mem _ e);have vB:cc ((ps.map (·.1)).map (·.1))=true:=by rw[<-iU];exact wC pD
   have arc:(T.getD s .dead).aJ=true:=by rw[hv];rfl
   have bY:s<N:=by
    apply Classical.byContradiction;intro ln;rw[ed (by rw[hI.len];omega)]at hv;cases hv
   let U:List (Nat×V):=(s,V.dead)::(ps.map (λp=>(p.1.1,p.2))++[(d,.bC (gQ l))]);have hU:U.map (·.1)=s::(ps.map (·.1.1)++[d]):=by simp[U,List.map_map,Function.comp_def]
   have nY:cc (U.map (·.1))=true:=by
    rw[hU];refine wC (List.nodup_cons.2 ⟨λhm=>?_,?_⟩)
    ·rcases List.mem_append.1 hm with hm|hm
     ·exact kz hm
     ·exact hZ (List.mem_singleton.1 hm).symm
    ·rw[List.nodup_append];refine⟨pD,by simp,λx hx y hy e=>?_⟩;rw[List.mem_singleton]at hy;subst e hy;exact cq hx
   have bI:(ag T U).getD s .dead = .dead:=rR nY (by simp[U]) (by rw[hI.len];exact bY);have bT:(ag T U).getD d .dead = .bC (gQ l):=rR nY (by simp[U]) (by rw[hI.len];exact hd);have pt:∀p v,(p,v)∈ps->(ag T U).getD p.1 .dead=v:=by
    intro p v hp;refine rR nY ?_ ?_
    ·refine List.mem_cons_of_mem _ (List.mem_append_left _ (List.mem_map.2 ⟨(p,v),hp,rfl⟩))
    ·rw[List.all_eq_true]at av;rw[hI.len];simpa using av _ hp
   have bo:∀z,¬(z=s\/z=d\/z∈(ps.map (·.1)).map (·.1))->(ag T U).getD z .dead=T.getD z .dead:=by
    intro z hz;refine eK _ _ _ ?_;rw[hU,iU];intro hm;rcases List.mem_cons.1 hm with hm|hm
    ·exact hz (.inl hm)
    ·rcases List.mem_append.1 hm with hm|hm
     ·exact hz (.inr (.inr hm))
     ·exact hz (.inr (.inl (List.mem_singleton.1 hm)))
   have pG:∀p v,(p,v)∈ps->∃j n t x u cs,v = .part d j n t x/\dj.toList[j]?=some u/\t.sz=p.2.2/\Form t cs u/\Own w L (SL L none) s n t x [] p.2.1 cs:=by
    intro p v hp;rw[<-lC]at hp;obtain⟨j,n,t,x,u,cs,e1,e2⟩:=Ku dz p v hp;exact⟨0+j,n,t,x,u,cs,e1,by rw[Nat.zero_add];exact e2⟩
   have fT:∀z,z∈(ps.map (·.1)).map (·.1)->∃p v,(p,v)∈ps/\p.1=z:=by
    intro z hz;rw[<-iU]at hz;obtain⟨⟨p,v⟩,hp,rfl⟩:=List.mem_map.1 hz;exact⟨p,v,hp,rfl⟩
   refine Step.value ay (sM ho) (Inv.gw (T':=ag T U) (f:=kH s d (ps.map (·.1))) (X:=λz=>z=s\/z=d\/z∈(ps.map (·.1)).map (·.1)) (nl:=λ_=>.free) hI (Yy vM vB) (Wd.refl hI _) (λ_ _ _ _ _ h=>by cases h) (by simp[Act.put,hI.size]) (by rw[cr,hI.len]) hI.dG ?_ ?_ ?_ ?_ ?_)
   ·intro k z q hz hk;rcases hz with rfl|rfl|hz
    ·exfalso;unfold aT at hk;split at hk
     ·obtain⟨s0,q0,e0,f0⟩:=eF hk;rcases wH f0 with⟨_,p,_,_,hp,_,_,_,h7,_⟩|⟨h1,_,_,h7,_⟩
      ·exact kz (by rw[iU,h7];exact List.mem_map_of_mem hp)
      ·exact h1 h7.symm
     ·cases hk
    ·rw[bT];rfl
    ·obtain⟨p,v,hp,rfl⟩:=fT z hz;rw[pt p v hp];obtain⟨j,n,t,x,u,cs,rfl,_⟩:=pG p v hp;rfl
   ·intro z r hz af hr;rcases hr with rfl|hr
    ·exfalso;have:=hI.roots z _ af;rw[List.contains_iff_mem.2 this]at iV;cases iV
    ·refine V.jP (jC r ?_);rcases hr with rfl|hr
     ·simp
     ·rw[iU];exact List.mem_cons_of_mem _ hr
   ·intro z hz;refine⟨bo z hz,?_⟩;show (a.tmps.setIfInBounds d _).getD z undef=_;rw[dN,if_neg (λe=>hz (.inr (.inl e.1)))]
   ·intro z r hz af;rcases hz with rfl|rfl|hz
    ·rw[bI]at af;simp[V.on,V.root]at af
    ·rw[bT]at af;simp[V.on,V.root]at af
    ·obtain⟨p,v,hp,rfl⟩:=fT z hz;rw[pt p v hp]at af;obtain⟨j,n,t,x,u,cs,rfl,_⟩:=pG p v hp;simp only[V.on,V.root,beq_iff_eq,Option.some.injEq]at af;subst af;exact List.contains_iff_mem.1 r6
   ·intro z hz;have fY:(a.put (some d) (a.eval (.tmp s))).tmps.getD d undef=a.tmps.getD s undef:=by
     show (a.tmps.setIfInBounds d _).getD d undef=_;rw[dN,if_pos ⟨rfl,by rw[hI.size];exact hd⟩];rfl
    rcases hz with rfl|rfl|hz
    ·rw[bI];trivial
    ·rw[bT,fY];exact⟨dj,dR,KE (λk hk=>⟨dY hI hk,rfl⟩) dz⟩
    ·obtain⟨p,v,hp,rfl⟩:=fT z hz;rw[pt p v hp];obtain⟨j,n,t,x,u,cs,rfl,e2,e3,e4,e5⟩:=pG p v hp;refine⟨by rw[bT];rfl,dj,u,cs,by rw[fY];exact dR,by simpa using e2,e4,?_⟩;refine Own.move (λk hk=>?_) (λk i rest hi hk=>⟨?_,rfl⟩) e5
     ·rcases hk with hk|⟨_,_,hk,_⟩
      ·exact⟨.inl (dY hI hk),rfl⟩
      ·cases hk
     ·have aG:L k = .own s ((p.2.1+i)::rest):=by simpa using hk
      rw[cR hI (by rw[aG];simp),aG];have:=Yx (s:=s) (d:=d) vM vB (List.mem_map_of_mem (f:=(·.1)) hp) (i:=i) (by rw[<-e3];exact hi) (rest:=rest);simpa[er]using this
  ·exact hr.elim
 ·exact hr.elim
theorem anm[ae](hI:Inv w0 L0 N vs T a w L){o:Oper}{x:Operand}{d i:Nat}{ups:List (Nat×V)}{log:List Nat}(ho:o.op = .extract x i)(ay:o.dst=some d)(hd:d<N)
  (hr:(Ui vs d x i).ai T ups log):Step P o w0 L0 N vs (ag T ups) a w:=by
 cases x with
 | tmp s =>
  obtain⟨aC,rfl,hr⟩:=hr;dsimp only at hr;have bL:=hI.aW d;generalize Jv:T.getD d .dead=vd at hr bL;split at hr
  ·rename_i r j n t y;split at hr
   ·rename_i hc;obtain⟨rfl,rfl,r6,hn,ah9⟩:=hc;obtain⟨rfl,_⟩:=hr;obtain⟨h0,dj,u,cs,h1,h2,h3,h4⟩:=bL;have aO:(execOp a.eval o).run P w = .ok (.value u) w:=by
     have:a.eval (.tmp r) = .tuple dj:=h1;simp[execOp,ho,this,Instr.extract,h2]
    have hT:∀z,(ag T [(d,V.d none n t y)]).getD z .dead=if z=d/\d<T.length then V.d none n t y else T.getD z .dead:=λz=>aF _ _ _ _ _
    have py:d<T.length:=by rw[hI.len];exact hd
    refine Step.value ay aO (Inv.upd (λz=>z=d) hI (by simp[Act.put,hI.size]) (by rw[cr,hI.len]) hI.dG hI.fr hI.free hI.inj ?_ (λ_ _ _ _=>⟨rfl,rfl⟩) ?_ ?_ ?_ ?_)
    ·intro k z q hk;rw[hT];split
     ·simp[V.aJ,hn,ah9]
     ·exact hI.owner k z q hk
    ·intro z hz;refine⟨by rw[hT,if_neg (λe=>hz e.1)],?_⟩;show (a.tmps.setIfInBounds d _).getD z undef=_;rw[dN,if_neg (λe=>hz e.1)]
    ·intro z r' af;rw[hT]at af;split at af
     ·simp[V.on,V.root]at af
     ·exact hI.roots z r' af
    ·intro z r' hz af lA;have bz:r'≠d:=by
      rintro rfl
      have:=hI.roots z _ af;rw[List.contains_iff_mem.2 this]at r6;cases r6
     refine⟨by rw[hT,if_neg (λe=>bz e.1)],?_⟩;show (a.tmps.setIfInBounds d _).getD r' undef=_;rw[dN,if_neg (λe=>bz e.1)]
    ·intro z hz;subst hz;rw[hT,if_pos ⟨rfl,py⟩];have:(a.put (some z) u).tmps.getD z undef=u:=by
      show (a.tmps.setIfInBounds z _).getD z undef=_;rw[dN,if_pos ⟨rfl,by rw[hI.size];exact hd⟩]
     rw[this];exact⟨by simp,cs,h3,h4⟩
   ·exact hr.elim
  ·obtain⟨hid,log2,rfl,hr⟩:=hr;dsimp only at hr;have hs:=hI.aW s;generalize hv:T.getD s .dead=v at hr hs;split at hr
   ·rename_i l;split at hr
    ·rename_i sz n t y hl;split at hr
     ·rename_i hn;obtain⟨rfl,_⟩:=hr;obtain⟨dj,h1,h2⟩:=hs;obtain⟨o',u,cs,e1,e2,e3⟩:=Zk h2 hl;have e1:dj[i]?=some u:=by simpa using e1
      have aO:(execOp a.eval o).run P w = .ok (.value u) w:=by
       have:a.eval (.tmp s) = .tuple dj:=h1;simp[execOp,ho,this,Instr.extract,e1]
      have b9:aK P o vs T a w L d (.d none n t y):=aK.still hI aO (λ_=>rfl) ⟨by simp,cs,e2,Own.bu hn e3 hn⟩;intro K Q hK;exact aK.inv hI hd (by rw[Jv];exact hid) ay b9 hK
     ·exact hr.elim
    ·exact hr.elim
   ·exact hr.elim
 | const c=>exact hr.elim
 | func f=>exact hr.elim
 | global g=>exact hr.elim
end
def je(r s:Nat)(v:V):Nat->List V->List (Nat×V)
 | _,[]=>[]
 | i,u::l=>cond (i==s) ((i,v)::je r s v (i+1) l) (cond (i==r||u.on r) ((i,.dead)::je r s v (i+1) l) (je r s v (i+1) l))
def wZ(r s:Nat):Nat->List V->Bool
 | _,[]=>true
 | i,u::l=>(i==s||i==r || !(u.on r&&u.aJ))&&wZ r s (i+1) l
def tg(N:Nat):List Nat->M (List (Nat×V))->M (List (Nat×V))
 | [],m=>m
 | s::l,m=>.get s λv=>match v with
  | .view r [] _=>.get r λu=>match u with
   | .d none n t x =>
    if n≠0/\t.depth≠0/\s<N/\s≠r then
     (allM 0 N).bind λTs=>.bl (wZ r s 0 Ts) (((tg N l m).nr (ag Ts (je r s (.d none n t x) 0 Ts))).bind λups=>.ret (je r s (.d none n t x) 0 Ts++ups))
    else tg N l m
   | _=>tg N l m
  | _=>tg N l m
section
variable{P:Program}{C:Ctx}{w w' w0:World}{S S':Nat->Prop}{L L' L0:Nat->aj}{s N:Nat}{vs:List Nat}{T T':List V}{tm tm':Array Value}{a:Act}
theorem sX{r s:Nat}{v:V}:{i:Nat}->{l:List V}->(z:Nat)->(u:V)->((z,u)∈je r s v i l↔i<=z/\z<i+l.length/\((z=s/\u=v)\/(z≠s/\u = .dead/\(z=r\/(l.getD (z - i) .dead).on r=true))))
 | i,[],z,u=>by simp[je];omega
 | i,u0::l,z,u=>by
  have ih:=sX (r:=r) (s:=s) (v:=v) (i:=i+1) (l:=l) z u;have dX:i+1<=z->(u0::l).getD (z - i) .dead=l.getD (z - (i+1)) .dead:=λh=>by
   rw[show z - i=(z - (i+1))+1 by omega,List.getD_cons_succ]
  have Jj:(z,u)∈je r s v (i+1) l->i<=z/\z<i+(u0::l).length/\((z=s/\u=v)\/(z≠s/\u = .dead/\(z=r\/((u0::l).getD (z - i) .dead).on r=true))):=by
   intro h;obtain⟨h1,h2,h3⟩:=ih.1 h;rw[dX h1];exact⟨by omega,by simp only[List.length_cons];omega,h3⟩
  have rY:z≠i->i<=z/\z<i+(u0::l).length/\((z=s/\u=v)\/(z≠s/\u = .dead/\(z=r\/((u0::l).getD (z - i) .dead).on r=true)))->(z,u)∈je r s v (i+1) l:=by
   rintro hz ⟨h1,h2,h3⟩
   simp only[List.length_cons]at h2;rw[dX (by omega)]at h3;exact ih.2 ⟨by omega,by omega,h3⟩
  simp only[je];cases hc:(i==s)with
  | true =>
   have hi:i=s:=by simpa using hc
   simp only[cond_true,List.mem_cons,Prod.mk.injEq];constructor
   ·rintro (⟨rfl,rfl⟩|h)
    ·exact⟨Nat.le_refl _,by simp,.inl ⟨hi,rfl⟩⟩
    ·exact Jj h
   ·intro h;by_cases hz:z=i
    ·obtain⟨_,_,h|h⟩:=h
     ·exact .inl ⟨hz,h.2⟩
     ·exact absurd (hz.trans hi) h.1
    ·exact .inr (rY hz h)
  | false =>
   have hi:i≠s:=by simpa using hc
   simp only[cond_false];cases e9:(i==r||u0.on r)with
   | true =>
    simp only[cond_true,List.mem_cons,Prod.mk.injEq];constructor
    ·rintro (⟨rfl,rfl⟩|h)
     ·refine⟨Nat.le_refl _,by simp,.inr ⟨hi,rfl,?_⟩⟩;rw[Nat.sub_self,List.getD_cons_zero];simpa using e9
     ·exact Jj h
    ·intro h;by_cases hz:z=i
     ·obtain⟨_,_,h|h⟩:=h
      ·exact absurd (hz.symm.trans h.1) hi
      ·exact .inl ⟨hz,h.2.1⟩
     ·exact .inr (rY hz h)
   | false =>
    simp only[cond_false];constructor
    ·exact Jj
    ·intro h;by_cases hz:z=i
     ·exfalso;obtain⟨_,_,h|h⟩:=h
      ·exact hi (hz.symm.trans h.1)
      ·simp only[Bool.or_eq_false_iff,beq_eq_false_iff_ne]at e9;subst hz;rw[Nat.sub_self,List.getD_cons_zero]at h;rcases h.2.2 with h|h
       ·exact e9.1 h
       ·rw[e9.2]at h;cases h
     ·exact rY hz h
theorem anF[ae](hl:T.length=N){r s:Nat}{v:V}(hs:s<N)(z:Nat):(ag T (je r s v 0 T)).getD z .dead=if z=s then v else if z=r\/(T.getD z .dead).on r=true then .dead else T.getD z .dead:=by
 split
 ·rename_i hz;subst hz;exact gY (by rw[hl];exact hs) (List.mem_map.2 ⟨(z,v),(sX z v).2 ⟨Nat.zero_le _,by rw[Nat.zero_add,hl];exact hs,.inl ⟨rfl,rfl⟩⟩,rfl⟩) (λu hu=>by
   rcases ((sX z u).1 hu).2.2 with h|h
   ·exact h.2
   ·exact absurd rfl h.1)
 ·rename_i hz;split
  ·rename_i hc;by_cases oj:z<N
   ·exact gY (by rw[hl];exact oj) (List.mem_map.2 ⟨(z,.dead),(sX z .dead).2 ⟨Nat.zero_le _,by rw[Nat.zero_add,hl];exact oj,.inr ⟨hz,rfl,hc⟩⟩,rfl⟩) (λu hu=>by
     rcases ((sX z u).1 hu).2.2 with h|h
     ·exact absurd h.1 hz
     ·exact h.2.1)
   ·exact ed (by rw[cr,hl];omega)
  ·rename_i hc;refine eK _ _ _ (λhm=>?_);obtain⟨u,hu,he⟩:=List.mem_map.1 hm;subst he;rcases ((sX u.1 u.2).1 hu).2.2 with h|h
   ·exact hz h.1
   ·exact hc h.2.2
theorem Zh{r s:Nat}:{i:Nat}->{l:List V}->wZ r s i l=true->∀z,i+z≠s->i+z≠r->(l.getD z .dead).on r=true->(l.getD z .dead).aJ=false
 | _,[],_,z,_,_,h=>by simp[V.on,V.root]at h
 | i,u::l,h,z,hs,hr,hc=>by
  simp only[wZ,Bool.and_eq_true,Bool.or_eq_true,Bool.not_eq_true',beq_iff_eq]at h;cases z with
  | zero =>
   simp only[List.getD_cons_zero]at hc ⊢;rcases h.1 with h1|h1
   ·rcases h1 with h1|h1
    ·exact absurd h1 (by simpa using hs)
    ·exact absurd h1 (by simpa using hr)
   ·rw[hc,Bool.true_and]at h1;exact h1
  | succ z =>
   simp only[List.getD_cons_succ]at hc ⊢;exact Zh h.2 z (by omega) (by omega) hc
theorem Inv.anH[ae](hI:Inv w0 L0 N vs T a w L){s r n:Nat}{t t':Ty}{x:t.den}(hs:T.getD s .dead = .view r [] t')(hr:T.getD r .dead = .d none n t x)(hn:n≠0)(hd:t.depth≠0)(bY:s<N)(bp:s≠r)
  (aI:wZ r s 0 T=true):∃L',Inv w0 L0 N vs (ag T (je r s (.d none n t x) 0 T)) a w L':=by
 let kp:Nat->V->Bool:=λz v=>z != s&&z != r&&v.on r;have br:=Inv.alg hI (kp:=kp) (by
  unfold Xw;rw[List.all_eq_true];intro b hb;obtain⟨i,hi⟩:=List.mem_iff_getElem?.1 hb;simp only[List.getElem?_mapIdx,Option.map_eq_some_iff]at hi;obtain⟨v,hv,rfl⟩:=hi;have kn:T.getD i .dead=v:=by simp[List.getD_eq_getElem?_getD,hv]
  simp only[id_eq,Bool.or_eq_true];cases cb:v.root with
  | none=>exact .inr rfl
  | some q =>
   dsimp only;cases hk:kp q (T.getD q .dead)with
   | false=>exact .inr rfl
   | true =>
    right;simp only[kp,Bool.and_eq_true,bne_iff_ne]at hk;have:=Zh aI q (by simpa using hk.1.1) (by simpa using hk.1.2) hk.2;rw[this];rfl)
 obtain⟨L1,br⟩:=br;have hg:∀z,(jK kp T).getD z .dead=if kp z (T.getD z .dead)=true then .dead else T.getD z .dead:=UI kp T
 have kz:(jK kp T).getD s .dead = .view r [] t':=by rw[hg,if_neg (by simp[kp]),hs]
 have lD:(jK kp T).getD r .dead = .d none n t x:=by rw[hg,if_neg (by simp[kp]),hr]
 have cm:np r s (jK kp T)=true:=by
  unfold np;rw[List.all_eq_true];intro b hb;obtain⟨i,hi⟩:=List.mem_iff_getElem?.1 hb;simp only[List.getElem?_mapIdx,Option.map_eq_some_iff]at hi;obtain⟨v,hv,rfl⟩:=hi;have kn:(jK kp T).getD i .dead=v:=by simp[List.getD_eq_getElem?_getD,hv]
  simp only[id_eq,Bool.or_eq_true,beq_iff_eq,bne_iff_ne];by_cases oc:i=s
  ·exact .inl oc
  ·right;intro cb;rw[hg]at kn;split at kn
   ·subst kn;simp[V.root]at cb
   ·rename_i hk;by_cases Vm:i=r
    ·subst Vm;rw[hr]at kn;subst kn;simp[V.root]at cb
    ·apply hk;rw[kn];simp[kp,oc,Vm,V.on,cb]
 have Jq:t'=t:=by
  have bc:=br.aW s;rw[kz]at bc;obtain⟨cq,hh⟩:=bc;rcases hh with⟨_,_,l,n',x',h3,_⟩|⟨_,_,_,h,_⟩
  ·rw[lD]at h3;injection h3 with _ _ h3 _;exact h3.symm
  ·rw[lD]at h;simp[V.dr]at h
 obtain⟨L2,hI2⟩:=Inv.take br (n:=n) (t:=t) (x:=x) (p:=[]) (log:=[]) (s:=s) (r:=r) (by rw[kz,Jq]) bY (by rw[lD];exact⟨rfl,rfl⟩) hn hd cm
 ·refine⟨L2,?_⟩;have gG:(jK kp T).length=N:=br.len;have:((jK kp T).set r .dead).set s (.d none n t x)=ag T (je r s (.d none n t x) 0 T):=by
   refine CP (by rw[List.length_set,List.length_set,gG,cr,hI.len]) (λz=>?_);rw[anF hI.len bY,aF,aF,hg];by_cases hz:z=s
   ·subst hz;rw[if_pos ⟨rfl,by rw[List.length_set,gG];exact bY⟩,if_pos rfl]
   ·rw[if_neg (λe=>hz e.1),if_neg hz];by_cases dA:z=r
    ·subst dA;have oj:z<(jK kp T).length:=by
      apply Classical.byContradiction;intro ln;rw[ed (by rw[hI.len];rw[gG]at ln;omega)]at hr;cases hr
     rw[if_pos ⟨rfl,oj⟩,if_pos (.inl rfl)]
    ·rw[if_neg (λe=>dA e.1)];by_cases af:(T.getD z .dead).on r=true
     ·have hk:kp z (T.getD z .dead)=true:=by
       show (z != s&&z != r&&(T.getD z .dead).on r)=true;rw[af];simp[hz,dA]
      rw[if_pos hk,if_pos (.inr af)]
     ·have hk:¬kp z (T.getD z .dead)=true:=by
       show ¬(z != s&&z != r&&(T.getD z .dead).on r)=true;rw[Bool.not_eq_true]at af;rw[af];simp
      rw[if_neg hk,if_neg (λh=>h.elim dA af)]
  rw[<-this];exact hI2
theorem xc[ae]{w:World}{a:Act}{m:M (List (Nat×V))}:{ss:List Nat}->{T:List V}->{L:Nat->aj}->{ups:List (Nat×V)}->{log:List Nat}->Inv w0 L0 N vs T a w L->(tg N ss m).ai T ups log ->
  ∃T1 L1 bF log2,Inv w0 L0 N vs T1 a w L1/\m.ai T1 bF log2/\ag T ups=ag T1 bF
 | [],T,L,ups,log,hI,h=>⟨T,L,ups,log,hI,h,rfl⟩
 | s::l,T,L,ups,log,hI,h=>by
  obtain⟨eC,rfl,h⟩:=h;dsimp only at h;generalize bd:T.getD s .dead=v at h;split at h
  ·rename_i r t';obtain⟨log2,rfl,h⟩:=h;dsimp only at h;generalize vP:T.getD r .dead=u at h;split at h
   ·rename_i n t x;split at h
    ·rename_i hc;obtain⟨hn,hd,bY,bp⟩:=hc;obtain⟨Ts,l1,l2,rfl,dH,hk,h⟩:=M.an h;have bI:Ts=T:=by rw[kW dH (by rw[Nat.zero_add,hI.len])];rfl
     subst bI;obtain⟨bF,l3,l4,rfl,h1,h2⟩:=M.an h;obtain⟨rfl,_⟩:=h2;obtain⟨aC,h1⟩:=M.ou h1;obtain⟨L',hG⟩:=Inv.anH hI bd vP hn hd bY bp hk;obtain⟨T1,L1,jj,fw,k1,k2,k3⟩:=xc hG h1;exact⟨T1,L1,jj,fw,k1,k2,by rw[kK];exact k3⟩
    ·exact xc hI h
   ·exact xc hI h
  ·exact xc hI h
end
def Uj(C:Ctx)(X:TypeId)(f t:Nat):M V :=
 .ask (HM t) (match oY C X with
  | some ta=>match bw f ta with
   | some (off,t1)=>.ret (.ptr t [.aZ f off] t1)
   | none=>.fail
  | none=>.fail)
section
variable{P:Program}{C:Ctx}{w w' w0:World}{S S':Nat->Prop}{L L' L0:Nat->aj}{s N:Nat}{vs:List Nat}{T T':List V}{tm tm':Array Value}{a:Act}
theorem ahb{v:V}{c:Value}(hs:az L T tm s v w c)(hb:v.eZ=true):∃g,c = .pointer (some ⟨g,0,none⟩)/\L g = .own s []:=by
 cases v with
 | box l n t x =>
  obtain⟨_,g,cur,e,h1,h2,_⟩:=hs;exact⟨g,h1,h2⟩
 | hole u p =>
  cases u with
  | box l n t x =>
   obtain⟨_,_,_,_,_,_,_,h⟩:=hs;obtain⟨_,g,cur,e,h1,h2,_⟩:=h;exact⟨g,h1,h2⟩
  | _=>simp[V.eZ]at hb
 | bP k n t x =>
  unfold V.eZ at hb;split at hb
  ·rename_i he;cases he
  ·rename_i he;cases he
  ·rename_i he;cases he;cases t with
   | agg t =>
    obtain⟨g,cur,e,h1,h2,_⟩:=hs;exact⟨g,h1,h2⟩
   | _=>exact hs.elim
  ·cases hb
 | _=>simp[V.eZ]at hb
theorem amb[ae](hI:Inv w0 L0 N vs T a w L)(hC:bA P C){o:Oper}{X:TypeId}{t f d:Nat}{v:V}{log:List Nat}(ho:o.op = .fieldAddr X (.tmp t) f)
  (h:(Uj C X f t).ai T v log) (bd:∀r,v.on r=true->r∈vs):aK P o vs T a w L d v:=by
 obtain⟨⟨hq,_⟩,aC,rfl,h⟩:=h;obtain⟨g,h1,h2⟩:=ahb (hI.aW t) (ag2 hq);split at h
 ·rename_i ta jI;split at h
  ·rename_i off t1 hc;obtain⟨rfl,_⟩:=h;have fp:a.eval (.tmp t)=_:=h1;refine aK.ptr hI (g:=g) ?_ h2 bd;simp[execOp,ho,fp,YQ hC jI hc,node]
  ·exact h.elim
 ·exact h.elim
def lW(r:Nat)(q:List Nat)(o s:Nat):Nat->List Nat->aj:=λz q2 =>
 if z=r then match cut q q2 with
  | some (y::rest)=>if y=o then .own s (0::rest)else .own r q2
  | _=>.own r q2
 else if z=s then .other else .own z q2
theorem sZ[ae]{r s:Nat}{q:List Nat}{o:Nat}{z:Nat}{q2:List Nat}{z':Nat}{q3:List Nat}(h:lW r q o s z q2 = .own z' q3):
  (z=r/\∃rest,q2=q++o::rest/\z'=s/\q3=0::rest)\/(z=r/\z'=r/\q3=q2/\∀rest,q2≠q++o::rest)\/(z≠r/\z≠s/\z'=z/\q3=q2):=by
 unfold lW at h;split at h
 ·rename_i hz;split at h
  ·rename_i y rest hc;split at h
   ·rename_i hy;injection h with h1 h2;subst hy;exact .inl ⟨hz,rest,nP hc,h1.symm,h2.symm⟩
   ·rename_i hy;injection h with h1 h2;refine .inr (.inl ⟨hz,h1.symm,h2.symm,λfe he=>?_⟩);rw[he,mi]at hc;simp only[Option.some.injEq,List.cons.injEq]at hc;exact hy hc.1.symm
  ·rename_i cm;injection h with h1 h2;refine .inr (.inl ⟨hz,h1.symm,h2.symm,λfe he=>?_⟩);exact cm o fe (by rw[he,mi])
 ·rename_i hz;split at h
  ·cases h
  ·rename_i hs;injection h with h1 h2;exact .inr (.inr ⟨hz,hs,h1.symm,h2.symm⟩)
theorem anL[ae]{r s:Nat}{q:List Nat}{o:Nat}{X:Nat->Prop}(hr:X r)(hs:X s)(ij:r≠s):fj (lW r q o s) X:=by
 refine⟨λz q2 hX=>?_,λz q2 z' q3 hX h=>?_,λz q2 z2 q3 z' q4 h1 h2=>?_,λz q2=>?_⟩
 ·unfold lW;rw[if_neg (λe:z=r=>hX (e▸hr)),if_neg (λe:z=s=>hX (e▸hs))]
 ·rcases sZ h with⟨_,_,_,rfl,_⟩|⟨_,rfl,_⟩|⟨_,_,rfl,_⟩
  ·exact hs
  ·exact hr
  ·exact hX
 ·rcases sZ h1 with⟨rfl,rest,rfl,rfl,rfl⟩|⟨rfl,rfl,rfl,hn⟩|⟨g1,g2,rfl,rfl⟩
  ·rcases sZ h2 with⟨rfl,fe,rfl,_,he⟩|⟨rfl,he,_⟩|⟨_,g2,he,_⟩
   ·injection he with _ he;exact⟨rfl,by rw[he]⟩
   ·exact absurd he.symm ij
   ·exact absurd he.symm g2
  ·rcases sZ h2 with⟨_,fe,_,he,_⟩|⟨rfl,_,he,_⟩|⟨g1,_,he,_⟩
   ·exact absurd he ij
   ·exact⟨rfl,he⟩
   ·exact absurd he.symm g1
  ·rcases sZ h2 with⟨_,fe,_,he,_⟩|⟨_,he,_⟩|⟨_,_,h3,h4⟩
   ·exact absurd he g2
   ·exact absurd he g1
   ·exact⟨h3,h4⟩
 ·unfold lW
  repeat' split
  all_goals simp
theorem anK[ae]{r s:Nat}{q:List Nat}{o:Nat}{rest:List Nat}:lW r q o s r (q++o::rest) = .own s (0::rest):=by
 unfold lW;rw[if_pos rfl,mi];simp
theorem Dv[ae]{r s:Nat}{q:List Nat}{o:Nat}{q2:List Nat}(h:∀rest,q2≠q++o::rest):lW r q o s r q2 = .own r q2:=by
 unfold lW;rw[if_pos rfl];split
 ·rename_i y rest hc;split
  ·rename_i hy;subst hy;exact absurd (nP hc) (h rest)
  ·rfl
 ·rfl
theorem KK{g o:Nat}{cur:Array Value}{e:TypeId}{v:Value}(h:w.heap[g]?=some (.cells cur e (0,0))):(w.setCell ⟨g,o,none⟩ v).heap[g]?=some (.cells (cur.setIfInBounds o v) e (0,0)):=by
 simp[World.setCell,Array.getElem?_modify,h]
theorem sP{g o k:Nat}{v:Value}(h:k≠g):(w.setCell ⟨g,o,none⟩ v).heap[k]?=w.heap[k]?:=by
 simp only[World.setCell,Array.getElem?_modify];rw[if_neg (Ne.symm h)]
theorem alQ{p:List St}{k n:Nat}{t:Ty}{x:t.den}{l:Option Nat}{z:D}{log:List Nat}(h:(qa p k n t x).ai T (l,z) log):l=none:=by
 unfold qa at h;split at h
 ·split at h
  ·obtain⟨_,y,_,h⟩:=h;obtain⟨_,_,_,_,_,h⟩:=M.an h;exact (Prod.mk.inj h.1).1
  ·exact h.elim
 ·split at h
  ·split at h
   ·obtain⟨_,_,_,_,_,h⟩:=M.an h;exact (Prod.mk.inj h.1).1
   ·exact h.elim
  ·exact h.elim
 ·exact h.elim
theorem YO{p:List St}{u:V}{l:Option Nat}{z:D}{log:List Nat}(h:(du p u).ai T (l,z) log):u.root=l:=by
 cases u with
 | box l0 n t x =>
  obtain⟨zz,l1,l2,rfl,h1,h2⟩:=M.an h;obtain⟨h2,_⟩:=h2;cases h2;rfl
 | d l0 n t x =>
  simp only[du]at h;split at h
  ·obtain⟨zz,l1,l2,rfl,h1,h2⟩:=M.an h;obtain⟨h2,_⟩:=h2;cases h2;rfl
  ·exact h.elim
 | dead=>exact h.elim
 | bC _=>exact h.elim
 | rp _ _ _=>exact h.elim
 | ptr _ _ _=>exact h.elim
 | view _ _ _=>exact h.elim
 | hole _ _=>exact h.elim
 | part _ _ _ _ _=>exact h.elim
 | bP _ _ _ _=>exact (alQ h).symm
 | same _ _=>exact h.elim
theorem Inv.anG[ae](hI:Inv w0 L0 N vs T a w L){s r n:Nat}{p:List St}{u u':V}{e:TypeId}{te:Ty}{x:List te.den}{log log2:List Nat}(hs:T.getD s .dead = .view r p (.slice e te))(hr:T.getD r .dead=u)(hu:u.eZ=true)(bY:s<N)(dh:r<N)
  (hz:(du p u).ai T (none,⟨n,.slice e te,x⟩) log) (hm:(fK p u (.slice e te) []).ai T u' log2) (hn:n≠0) (cF:∀z,z≠s->(T.getD z .dead).dZ r=false) :
  ∃L',Inv w0 L0 N vs ((T.set r (.hole u' p)).set s (.d none n (.slice e te) x)) a w L':=by
 have cb:=YO hz;obtain⟨lF,vF,vc,Cu⟩:=Kb hm;have bp:=hI.aW s;rw[hs]at bp;have ij:r≠s:=by
  rintro rfl
  rw[hs]at hr;subst hr;simp[V.eZ]at hu
 have hzv:(qw p (T.getD r .dead)).ai T (none,⟨n,.slice e te,x⟩) log:=by
  rw[hr];cases u with
  | box l0 n0 t0 x0=>exact hz
  | hole _ _=>exact hz
  | bP _ _ _ _=>exact hz
  | _=>simp[V.eZ]at hu
 obtain⟨cs,hf,bt,_,cq⟩:=DC hI bp hzv;have bc:=hI.aW r;rw[hr]at bc;obtain⟨hb,_,_,gJ,lp⟩:=kI hz bc;obtain⟨g,cur,e',k1,k2,k3,k4⟩:=hb;have bI:((T.set r (.hole u' p)).set s (.d none n (.slice e te) x)).getD s .dead = .d none n (.slice e te) x:=by
  rw[aF,if_pos ⟨rfl,by simp[hI.len,bY]⟩]
 have bB:((T.set r (.hole u' p)).set s (.d none n (.slice e te) x)).getD r .dead = .hole u' p:=by
  rw[aF,if_neg (λh=>ij h.1),aF,if_pos ⟨rfl,by rw[hI.len];exact dh⟩]
 have bo:∀z,z≠r->z≠s->((T.set r (.hole u' p)).set s (.d none n (.slice e te) x)).getD z .dead=T.getD z .dead:=by
  intro z h1 h2;rw[aF,if_neg (λh=>h2 h.1),aF,if_neg (λh=>h1 h.1)]
 have mT:∀z,z≠s->(T.getD z .dead).on r=true->∃p' t',T.getD z .dead = .ptr r p' t'/\shallow p'=true:=by
  intro z gM af;have hb:=cF z gM;unfold V.dZ at hb;rw[af,Bool.true_and]at hb;generalize T.getD z .dead=v at hb af;cases v with
  | ptr r2 p2 t2 =>
   have:r2=r:=by simpa[V.on,V.root]using af
   subst this;exact⟨p2,t2,rfl,by simpa using hb⟩
  | _=>simp at hb
 refine⟨_,Inv.gw (f:=lW r (node [] 0 p).1 (node [] 0 p).2 s) (X:=λz=>z=r\/z=s\/(T.getD z .dead).on r=true) (nl:=λ_=>.free) hI (anL (.inl rfl) (.inr (.inl rfl)) ij) (Wd.refl hI _) (λ_ _ _ _ _ h=>by cases h) hI.size (by simp[hI.len]) hI.dG ?_ ?_ ?_ ?_ ?_⟩
 ·intro k z q bV h;by_cases h1:z=r
  ·subst h1;rw[bB];rfl
  ·by_cases h2:z=s
   ·subst h2;rw[bI];simp[V.aJ,hn,Ty.depth]
   ·rw[bo z h1 h2];unfold aT at h;split at h
    ·obtain⟨s0,q0,e0,f0⟩:=eF h;rcases sZ f0 with⟨_,_,_,h3,_⟩|⟨_,h3,_⟩|⟨_,_,h3,h4⟩
     ·exact absurd h3 h2
     ·exact absurd h3 h1
     ·subst h3;exact hI.owner k _ _ e0
    ·cases h
 ·intro z r' bV af aY;have bV:=not_or.1 bV;have c8:=not_or.1 bV.2;rcases aY with rfl|rfl|aY
  ·exact absurd af c8.2
  ·rw[hs];rfl
  ·by_cases h2:r'=s
   ·subst h2;rw[hs];rfl
   ·obtain⟨p',t',he,_⟩:=mT r' h2 aY;rw[he];rfl
 ·intro z bV;have bV:=not_or.1 bV;have c8:=not_or.1 bV.2;exact⟨bo z bV.1 c8.1,rfl⟩
 ·intro z r' bV af;by_cases h1:z=r
  ·subst h1;rw[bB]at af;simp[V.on,V.root,lF,cb]at af
  ·by_cases h2:z=s
   ·subst h2;rw[bI]at af;simp[V.on,V.root]at af
   ·rw[bo z h1 h2]at af;exact hI.roots z r' af
 ·intro z bV;by_cases h1:z=r
  ·subst h1;rw[bB];refine⟨by rw[lF,cb],g,cur,e',?_,k2,by simp only[Ty.sz]at k3;omega,?_⟩
   ·rw[cR hI (by rw[k1];simp),k1];exact Dv (λrest h=>by have:=congrArg List.length h;simp at this)
   ·refine Ka (T2:=_) (cur:=cur) (e':=e') (g':=g) (cur':=cur.setIfInBounds (node [] 0 p).2 (.slice none 0 0)) bc hz hm (λr' aY=>by rw[cb]at aY;cases aY) ?_ ?_
    ·refine⟨λk hk=>?_,λk q2 hk hq Js=>?_,k1,?_,k2,KK k2,by simp,λi hi=>?_,λk hk=>hI.inj k g z _ hk k1⟩
     ·rw[cb]at hk ⊢;rcases hk with hk|⟨_,_,hk,_⟩
      ·exact⟨.inl (dY hI hk),sP (by rintro rfl;rw[k1]at hk;cases hk)⟩
      ·cases hk
     ·refine⟨?_,sP (by rintro rfl;rw[k1]at hk;injection hk with _ hk;exact hq hk.symm)⟩;rw[cR hI (by rw[hk];simp),hk];exact Dv (λrest h=>Js ⟨0,rest,by simp[Ty.sz],by simpa using h⟩)
     ·rw[cR hI (by rw[k1];simp),k1];exact Dv (λrest h=>by have:=congrArg List.length h;simp at this)
     ·rw[Array.getElem?_setIfInBounds,if_neg (by simp only[Ty.sz]at hi;omega)]
    ·have hc:((cur.setIfInBounds (node [] 0 p).2 (.slice none 0 0)).toList.drop (node [] 0 p).2).take (Ty.slice e te).sz=[.slice none 0 0]:=by
      simp only[Ty.sz]at k3 ⊢;apply List.ext_getElem?;intro i;rw[List.getElem?_take];split
      ·obtain rfl:i=0:=by omega
       rw[List.getElem?_drop,Nat.add_zero,Array.getElem?_toList,Array.getElem?_setIfInBounds,if_pos rfl,if_pos (by omega)];rfl
      ·exact (List.getElem?_eq_none (by simp;omega)).symm
     rw[hc];cases n with
     | zero=>exact absurd rfl hn
     | succ n=>simp only[Own];exact .inl (by constructor<;>first|trivial|rfl)
  ·by_cases h2:z=s
   ·subst h2;rw[bI];refine⟨by simp,cs,hf,?_⟩;refine Own.move (λk hk=>?_) (λk d rest hd hk=>⟨?_,rfl⟩) bt
    ·rcases hk with hk|⟨_,_,hk,_⟩
     ·exact⟨.inl (dY hI hk),rfl⟩
     ·cases hk
    ·simp only[Ty.sz]at hd;obtain rfl:d=0:=by omega
     rw[cR hI (by rw[hk];simp),hk];simp only[er,Nat.add_zero,Nat.zero_add,List.nil_append];exact anK
   ·rw[bo z h1 h2];have af:(T.getD z .dead).on r=true:=by
     rcases bV with h|h|h
     ·exact absurd h h1
     ·exact absurd h h2
     ·exact h
    obtain⟨p',t',he,dX⟩:=mT z h2 af;have bm:=hI.aW z;rw[he]at bm ⊢;obtain⟨g2,j1,j2⟩:=bm;refine⟨g2,j1,?_⟩;rw[qj dX]at j2 ⊢;rw[cR hI (by rw[j2];simp),j2];exact Dv (λrest h=>by have:=congrArg List.length h;simp at this)
end
def qm:List St->List St->Bool
 | [],[]=>true
 | .aZ i o::p,.aZ i' o'::p'=>i==i'&&o==o'&&qm p p'
 | .idx s i::p,.idx s' i'::p'=>s==s'&&i==i'&&qm p p'
 | _,_=>false
theorem KV:{p p':List St}->qm p p'=true->p=p'
 | [],[],_=>rfl
 | .aZ i o::p,.aZ i' o'::p',h=>by
  simp only[qm,Bool.and_eq_true,beq_iff_eq]at h;rw[h.1.1,h.1.2,KV h.2]
 | .idx s i::p,.idx s' i'::p',h=>by
  simp only[qm,Bool.and_eq_true,beq_iff_eq]at h;rw[h.1.1,h.1.2,KV h.2]
 | [],.aZ _ _::_,h|[],.idx _ _::_,h | .aZ _ _::_,[],h | .idx _ _::_,[],h | .aZ _ _::_,.idx _ _::_,h | .idx _ _::_,.aZ _ _::_,h=>by simp[qm]at h
def Iu(C:Ctx)(vs:List Nat)(N:Nat)(kids:List Nat)(X:TypeId)(r:Nat)(p:List St)(u:V)(p':List St)(x:Operand):M (List (Nat×V)):=
 match x with
 | .tmp s=>if qm p p'=true/\vs.contains s=false/\s≠r/\r<N then
   .get s λv=>match v with
   | .d none k (.slice e te) y=>(du p u).bind λz =>
    if h:z.2.t = .slice e te then
     if C.ty X=some (.slice e te)/\(z.2.n<=k\/te.depth+1<=k)/\z.2.n≠0/\z.1=none/\u.eZ=true then
      (fK p u (.slice e te) y).bind λu2=>gX false r s kids (.ret [(r,u2),(s,.dead)])
     else .fail
    else .fail
   | _=>.fail
  else .fail
 | _=>.fail
def M.calm{α:Type}:M α->Prop
 | .ret _=>True
 | .fail=>True
 | .get _ _=>False
 | .cC _ _ k=>∀x,(k x).calm
 | .bl _ k=>k.calm
 | .ask _ _=>False
 | .ite _ x y=>x.calm/\y.calm
theorem rK{α:Type}{T T':List V}:{m:M α}->{a:α}->{log:List Nat}->m.calm->m.ai T a log->m.ai T' a log
 | .ret _,_,_,_,h=>h
 | .fail,_,_,_,h=>h.elim
 | .get _ _,_,_,c,_=>c.elim
 | .cC _ _ k,a,log,c,⟨x,hx,h⟩=>⟨x,hx,rK (c x) h⟩
 | .bl _ k,a,log,c,⟨hb,h⟩=>⟨hb,rK (m:=k) c h⟩
 | .ask _ _,_,_,c,_=>c.elim
 | .ite _ x y,a,log,c,h=>by
  rcases h with⟨hb,h⟩|⟨hb,h⟩
  ·exact .inl ⟨hb,rK (m:=x) c.1 h⟩
  ·exact .inr ⟨hb,rK (m:=y) c.2 h⟩
theorem iI{α β:Type}{f:α->M β}(hf:∀a,(f a).calm):{m:M α}->m.calm->(m.bind f).calm
 | .ret a,_=>hf a
 | .fail,_=>trivial
 | .get _ _,c=>c.elim
 | .cC _ _ k,c=>λx=>iI hf (c x)
 | .bl _ k,c=>iI (m:=k) hf c
 | .ask _ _,c=>c.elim
 | .ite _ x y,c=>⟨iI (m:=x) hf c.1,iI (m:=y) hf c.2⟩
theorem rT:(p:List St)->(n:Nat)->(t:Ty)->(x:t.den)->(aQ p n t x).calm
 | [],_,_,_=>trivial
 | .aZ i off::p,n,.agg t,x=>by
  simp only[aQ];split
  ·split
   ·exact rT _ _ _ _
   ·trivial
  ·trivial
 | .idx sz i::p,n+1,.slice _ t,x=>by
  simp only[aQ];split
  ·exact λy=>rT _ _ _ _
  ·trivial
 | .idx _ _::p,0,.slice _ _,_=>by simp only[aQ];trivial
 | .aZ _ _::p,_,.int _,_ | .aZ _ _::p,_,.bool,_ | .aZ _ _::p,_,.str,_ | .aZ _ _::p,_,.raw _,_ | .aZ _ _::p,_,.cap _ _,_ | .aZ _ _::p,_,.unit,_ | .aZ _ _::p,_,.pair _ _,_ | .aZ _ _::p,_,.slice _ _,_=>by simp only[aQ];trivial
 | .idx _ _::p,_,.int _,_ | .idx _ _::p,_,.bool,_ | .idx _ _::p,_,.str,_ | .idx _ _::p,_,.raw _,_ | .idx _ _::p,_,.cap _ _,_ | .idx _ _::p,_,.unit,_ | .idx _ _::p,_,.pair _ _,_ | .idx _ _::p,_,.agg _,_=>by simp only[aQ];trivial
theorem X1[ae]{f:(t1:Ty)->t1.den->M t1.den}(hf:∀t1 x1,(f t1 x1).calm):(i:Nat)->(t:Ty)->(x:t.den)->(iw i t x f).calm
 | 0,.pair _ _,x=>by simp only[iw];refine iI ?_ (hf _ _);intro _;trivial
 | i+1,.pair _ b,x=>by simp only[iw];refine iI ?_ (X1 hf i b x.2);intro _;trivial
 | 0,.int _,x|0,.bool,x|0,.str,x|0,.raw _,x|0,.cap _ _,x|0,.unit,x|0,.agg _,x|0,.slice _ _,x=>by simp only[iw];exact hf _ _
 | _+1,.int _,x|_+1,.bool,x|_+1,.str,x|_+1,.raw _,x|_+1,.cap _ _,x|_+1,.unit,x|_+1,.agg _,x|_+1,.slice _ _,x=>by simp only[iw];trivial
theorem C1[ae]:(p:List St)->(t:Ty)->(x:t.den)->(t':Ty)->(y:t'.den)->(eP p t x t' y).calm
 | [],t,x,t',y=>by
  simp only[eP];split<;>trivial
 | .aZ i off::p,.agg t,x,t',y=>by
  simp only[eP];split
  ·split
   ·exact X1 (λt1 x1=>C1 p t1 x1 t' y) _ _ _
   ·trivial
  ·trivial
 | .idx sz i::p,.slice _ t,x,t',y=>by
  simp only[eP];split
  ·intro z;refine iI ?_ (C1 p t z t' y);intro _ _;trivial
  ·trivial
 | .aZ _ _::p,.int _,_,_,_ | .aZ _ _::p,.bool,_,_,_ | .aZ _ _::p,.str,_,_,_ | .aZ _ _::p,.raw _,_,_,_ | .aZ _ _::p,.cap _ _,_,_,_ | .aZ _ _::p,.unit,_,_,_ | .aZ _ _::p,.pair _ _,_,_,_ | .aZ _ _::p,.slice _ _,_,_,_=>by simp only[eP];trivial
 | .idx _ _::p,.int _,_,_,_ | .idx _ _::p,.bool,_,_,_ | .idx _ _::p,.str,_,_,_ | .idx _ _::p,.raw _,_,_,_ | .idx _ _::p,.cap _ _,_,_,_ | .idx _ _::p,.unit,_,_,_ | .idx _ _::p,.pair _ _,_,_,_ | .idx _ _::p,.agg _,_,_,_=>by simp only[eP];trivial
theorem alP[ae]{p:List St}{k n:Nat}{t:Ty}{x:t.den}:(qa p k n t x).calm:=by
 unfold qa;split
 ·split
  ·intro y;refine iI ?_ (rT _ _ _ _);intro _;trivial
  ·trivial
 ·split
  ·split
   ·refine iI ?_ (rT _ _ _ _);intro _;trivial
   ·trivial
  ·trivial
 ·trivial
theorem amz[ae]{p:List St}(u:V):(du p u).calm:=by
 cases u with
 | box l n t x=>refine iI ?_ (rT _ _ _ _);intro _;trivial
 | d l n t x =>
  simp only[du];split
  ·(refine iI ?_ (rT _ _ _ _);intro _;trivial)
  ·trivial
 | bP k n t x=>exact alP
 | _=>trivial
theorem alC[ae]{p:List St}{t:Ty}{y:t.den}(u:V):(fK p u t y).calm:=by
 cases u with
 | box l n t x=>refine iI ?_ (C1 _ _ _ _ _);intro _;trivial
 | d l n t x =>
  simp only[fK];split
  ·(refine iI ?_ (C1 _ _ _ _ _);intro _;trivial)
  ·trivial
 | _=>trivial
section
variable{P:Program}{C:Ctx}{w w' w0:World}{S S':Nat->Prop}{L L' L0:Nat->aj}{s N:Nat}{vs:List Nat}{T T':List V}{tm tm':Array Value}{a:Act}
theorem Inv.ghost[ae](hI:Inv w0 L0 N vs T a w L){r:Nat}{p:List St}{u:V}(hr:T.getD r .dead = .hole u p)(hu:u.eZ=true)(dh:r<N)(cF:∀z,(T.getD z .dead).dZ r=false\/(T.getD z .dead).on r=false):
  ∃g cur e,L g = .own r (node [] 0 p).1/\w.heap[g]?=some (.cells cur e (0,0))/\(node [] 0 p).2<cur.size/\u.root=none/\Inv w0 L0 N vs (T.set r u) a (w.setCell ⟨g,(node [] 0 p).2,none⟩ (.slice none 0 0)) L:=by
 have hs:=hI.aW r;rw[hr]at hs;obtain⟨h0,g,cur,e,h1,h2,h3,h4⟩:=hs;refine⟨g,cur,e,h1,h2,h3,h0,?_⟩;have hT:∀z,(T.set r u).getD z .dead=if z=r/\r<T.length then u else T.getD z .dead:=λz=>aF _ _ _ _ _
 have bB:(T.set r u).getD r .dead=u:=by rw[hT,if_pos ⟨rfl,by rw[hI.len];exact dh⟩]
 have bt:u.aJ=true:=by cases u<;>simp[V.eZ,V.aJ]at hu ⊢
 have r9:∀k,L k ≠ .own r (node [] 0 p).1->(w.setCell ⟨g,(node [] 0 p).2,none⟩ (.slice none 0 0)).heap[k]?=w.heap[k]?:=λk hk=>sP (by rintro rfl;exact hk h1);refine Inv.upd (λz=>z=r\/(T.getD z .dead).on r=true) hI hI.size (by simp[hI.len]) hI.dG ?_ (λk hk=>hI.free k (by simpa[World.setCell]using hk)) hI.inj ?_ ?_ ?_ ?_ ?_ ?_
 ·refine⟨hI.fr.os,hI.fr.tape,hI.fr.output,by simpa[World.setCell]using hI.fr.size,hI.fr.drawn,λk hk h=>?_,hI.fr.gD⟩;obtain⟨e1,e2⟩:=hI.fr.aS k hk h;refine⟨e1,?_⟩;rw[r9 k (by rw[e1];rcases h with h|h<;>rw[h]<;>simp),e2]
 ·intro k z q hk;rw[hT];split
  ·exact bt
  ·exact hI.owner k z q hk
 ·intro z hz k hk;refine⟨rfl,r9 k (λhe=>?_)⟩;have hz:=not_or.1 hz;rcases hk with hk|⟨r',q,hk,aY⟩
  ·rw[he]at hk;cases hk
  ·rw[he]at hk;injection hk with hk _;subst hk;rcases aY with aY|aY
   ·exact hz.1 aY.symm
   ·exact hz.2 aY
 ·intro z hz;have hz:=not_or.1 hz;exact⟨by rw[hT,if_neg (λh=>hz.1 h.1)],rfl⟩
 ·intro z r' af;rw[hT]at af;split at af
  ·simp[V.on,h0]at af
  ·exact hI.roots z r' af
 ·intro z r' hz af _;have hz:=not_or.1 hz;refine⟨by rw[hT,if_neg (λh=>hz.2 (by rw[<-h.1];exact af))],rfl⟩
 ·intro z hz;by_cases dA:z=r
  ·subst dA;rw[bB];exact az.aS (L':=L) (T':=T.set z u) (tm':=a.tmps) (λk _=>⟨rfl,rfl⟩) (λr' aY _=>by simp[V.on,h0]at aY) h4
  ·have af:(T.getD z .dead).on r=true:=hz.resolve_left dA;rw[hT,if_neg (λh=>dA h.1)];have hd:=(cF z).resolve_right (by rw[af];simp);unfold V.dZ at hd;rw[af,Bool.true_and]at hd;have bm:=hI.aW z;generalize T.getD z .dead=v at hd bm af;cases v with
   | ptr r2 p2 t2=>exact bm
   | _=>simp at hd
theorem amQ[ae]{g o:Nat}{cur:Array Value}{e:TypeId}{v c:Value}(hg:w.heap[g]?=some (.cells cur e (0,0)))(ho:o<cur.size):
  (w.setCell ⟨g,o,none⟩ v).setRow g (putCells (cur.setIfInBounds o v) o [c])=w.setRow g (putCells cur o [c]):=by
 have hp:putCells (cur.setIfInBounds o v) o [c]=putCells cur o [c]:=by
  apply Array.ext_getElem?;intro i;by_cases hi:i=o
  ·subst hi;have e1:=Di (cur:=cur.setIfInBounds i v) (o:=i) (cs:=[c]) (by simp;omega);have e2:=Di (cur:=cur) (o:=i) (cs:=[c]) (by simp;omega);have e3:=e1.trans e2.symm;have:=congrArg (λl=>l[0]?) e3;simpa[List.getElem?_take,List.getElem?_drop]using this
  ·rw[Dj (by simp;omega) i (by simp;omega),Dj (by simp;omega) i (by simp;omega),Array.getElem?_setIfInBounds,if_neg (Ne.symm hi)]
 have hh:((w.setCell ⟨g,o,none⟩ v).setRow g (putCells (cur.setIfInBounds o v) o [c])).heap=(w.setRow g (putCells cur o [c])).heap:=by
  rw[hp];apply Array.ext_getElem?;intro i;by_cases hi:i=g
  ·subst hi;rw[setRow_heap _ i _ _ _ _ (KK hg),setRow_heap _ i _ _ _ _ hg]
  ·rw[setRow_other _ g i _ hi,setRow_other _ g i _ hi,sP hi]
 calc (w.setCell ⟨g,o,none⟩ v).setRow g (putCells (cur.setIfInBounds o v) o [c])
   = { w.setRow g (putCells cur o [c])with heap:=((w.setCell ⟨g,o,none⟩ v).setRow g (putCells (cur.setIfInBounds o v) o [c])).heap }:=rfl
  _={ w.setRow g (putCells cur o [c])with heap:=(w.setRow g (putCells cur o [c])).heap }:=by rw[hh]
  _=w.setRow g (putCells cur o [c]):=rfl
theorem ann[ae](hI:Inv w0 L0 N vs T a w L)(hC:bA P C){o:Oper}{X:TypeId}{t r:Nat}{kids:List Nat}{p p':List St}{u:V}{x:Operand}{ups:List (Nat×V)}{log:List Nat}(ho:o.op = .store X (.tmp t) x)(ay:o.dst=none)
  (ht:addrOf t (T.getD t .dead)=some (r,p)) (cP:∀r p,addrOf t (T.getD t .dead)=some (r,p)->∃g,a.eval (.tmp t) = .pointer (some ⟨g,(node [] 0 p).2,none⟩)/\L g = .own r (node [] 0 p).1)
  (hr:T.getD r .dead = .hole u p') (h:(Iu C vs N kids X r p u p' x).ai T ups log):Step P o w0 L0 N vs (ag T ups) a w:=by
 cases x with
 | tmp s =>
  simp only[Iu]at h;split at h
  ·rename_i hc;obtain⟨Jh,iV,bp,dh⟩:=hc;obtain rfl:=KV Jh;obtain⟨eC,rfl,h⟩:=h;dsimp only at h;generalize bd:T.getD s .dead=v at h;split at h
   ·rename_i k e te y;obtain⟨⟨l,n',t',x'⟩,l1,l2,rfl,hz,h⟩:=M.an h;dsimp only at h;split at h
    ·rename_i ht';subst ht';split at h
     ·rename_i va;obtain⟨hX,ky,ig,rfl,CB⟩:=va;obtain⟨u2,l3,l4,rfl,hm,h⟩:=M.an h;obtain⟨cF,log2,h⟩:=jw h;obtain⟨rfl,_⟩:=h;have U3:∀z,(T.getD z .dead).dZ r=false\/(T.getD z .dead).on r=false:=by
       intro z;by_cases gM:z=s
       ·right;rw[gM,bd];rfl
       ·exact .inl (cF z gM)
      obtain⟨g,cur,e2,g1,g2,g3,cb,br⟩:=Inv.ghost hI hr CB dh U3;obtain⟨g',pz,I0⟩:=cP r p ht;obtain rfl:=hI.inj g g' r _ g1 I0;have iN:∀z,z≠r->(T.set r u).getD z .dead=T.getD z .dead:=λz hz=>by rw[aF,if_neg (λh=>hz h.1)]
      have ahV:(T.set r u).getD r .dead=u:=by rw[aF,if_pos ⟨rfl,by rw[hI.len];exact dh⟩]
      have ik:=hI.aW s;rw[bd]at ik;obtain⟨_,cs,hf,bt⟩:=ik;have hf:cs=[a.tmps.getD s undef]:=hf;have dO:=Own.one bt;have aO:(execOp a.eval o).run P w = .ok .skip (w.setRow g (putCells cur (node [] 0 p).2 cs)):=by
       have a6:=sN (P:=P) (w:=w) (o:=(node [] 0 p).2) (hC X _ hX) g2 (show Form (.slice e te) cs (a.eval (.tmp s))from hf) dO (Own.len bt) (by simp only[Ty.sz];omega);simp[execOp,ho,pz,a6]
      have hlen:cs.length=1:=by rw[hf];rfl
      have ajn:(w.setCell ⟨g,(node [] 0 p).2,none⟩ (.slice none 0 0)).setRow g (putCells (cur.setIfInBounds (node [] 0 p).2 (.slice none 0 0)) (node [] 0 p).2 cs)=w.setRow g (putCells cur (node [] 0 p).2 cs):=by
       rw[hf];exact amQ g2 g3
      intro K Q hK;unfold Oper.wp;rw[aO,Oper.upon_skip,ay,<-ajn];have kq:(ag T [(r,u2),(s,V.dead)]).length=N:=by rw[cr,hI.len]
      have bY:s<N:=by
       rcases Nat.lt_or_ge s N with h|h
       ·exact h
       ·rw[ed (by rw[hI.len];exact h)]at bd;cases bd
      have bI:(ag T [(r,u2),(s,V.dead)]).getD s .dead = .dead:=by
       show ((T.set r u2).set s .dead).getD s .dead = .dead;rw[aF,if_pos ⟨rfl,by simp[hI.len,bY]⟩]
      have bB:(ag T [(r,u2),(s,V.dead)]).getD r .dead=u2:=by
       show ((T.set r u2).set s .dead).getD r .dead=u2;rw[aF,if_neg (λh=>bp h.1.symm),aF,if_pos ⟨rfl,by rw[hI.len];exact dh⟩]
      have bo:∀z,z≠r->z≠s->(ag T [(r,u2),(s,V.dead)]).getD z .dead=T.getD z .dead:=by
       intro z h1 h2;show ((T.set r u2).set s .dead).getD z .dead=_;rw[aF,if_neg (λh=>h2 h.1),aF,if_neg (λh=>h1 h.1)]
      have JB:(du p u).ai (T.set r u) (none,⟨n',.slice e te,x'⟩) l1:=rK (amz u) hz;have kr:(fK p u (.slice e te) y).ai (T.set r u) u2 l3:=rK (alC u) hm;refine hK a _ _ (Inv.store (m:=n') (src:=some s) br ahV JB kr (by rw[cb];simp) g1 (KK g2) (by simp only[Ty.sz,Array.size_setIfInBounds];omega) (by rw[hlen];rfl) ?_ kq bB ?_ ?_ ?_)
      ·intro s' bN;injection bN with bN;subst bN;have gI:s∉vs:=λbW=>by
        rw[List.contains_iff_mem.2 bW]at iV;cases iV
       exact⟨bp,gI,bI,by rw[iN s bp,bd];rfl⟩
      ·intro z h1 h2 af;have II:z≠s:=λe=>h2 (by rw[e]);rw[iN z h1]at af ⊢;refine .inr ⟨bo z h1 II,.inl ?_⟩;have hd:=(U3 z).resolve_right (by rw[af];simp);unfold V.dZ at hd;rw[af,Bool.true_and]at hd;generalize T.getD z .dead=v at hd;cases v with
       | ptr r2 p2 t2 =>
        have:u.dr=false:=by cases u<;>simp[V.eZ,V.dr]at CB ⊢
        simp only[bZ,this,Bool.not_false,Bool.and_true,Bool.or_eq_true];exact .inr (by simpa using hd)
       | _=>simp at hd
      ·intro z h1 h2 af;rw[iN z h1];exact bo z h1 (λe=>h2 (by rw[e]))
      ·obtain⟨k9,c9,Je⟩:=Own.HJ (t:=.slice e te) ky bt;refine Own.eQ c9 (λk hk=>?_) (λk d rest hd hk=>?_) Je
       ·rcases hk with hk|⟨_,_,hk,_⟩
        ·refine⟨.inl (dY br hk),?_⟩;rw[setRow_other _ g k _ (by rintro rfl;rw[g1]at hk;cases hk),sP (by rintro rfl;rw[g1]at hk;cases hk)]
        ·cases hk
       ·have aG:L k = .own s (d::rest):=by simpa using hk
        have Vq:k≠g:=by rintro rfl;rw[g1]at aG;injection aG with aG _;exact bp aG.symm
        have gF:aT (dC r (node [] 0 p).1 (node [] 0 p).2 (Ty.slice e te).sz n' (some s)) (w.setCell ⟨g,(node [] 0 p).2,none⟩ (.slice none 0 0)) L (λ_=>.free) k=if rest.length<n' then .own r ((node [] 0 p).1++((node [] 0 p).2+d)::rest)else .aq:=by
         rw[cR br (by rw[aG];simp),aG];simp only[er,dC];rw[if_neg bp,if_pos trivial,if_pos hd]
        refine⟨by rw[setRow_other _ g k _ Vq,sP Vq],λh=>by rw[gF,if_pos h],λh=>.inl (by rw[gF,if_neg (by omega)])⟩
     ·exact h.elim
    ·exact h.elim
   ·exact h.elim
  ·exact h.elim
 | const c=>exact h.elim
 | func f=>exact h.elim
 | global g=>exact h.elim
end
end Go.Proofs.YthfgcmoipebheaaGreat.P.Am
set_option linter.constructorNameAsVariable false
namespace Go.Proofs.YthfgcmoipebheaaGreat.P.Am
def ek:List (Nat×V)->Nat->Option V
 | [],_=>none
 | u::l,s=>cond (u.1==s) (some u.2) (ek l s)
def Hs(q:Nat)(l:List Nat):Nat:=bj+(2*((q - bj) / 2 % 100000+100000*((q - bj) / 2 / 100000 ||| ja false l))+1)
def M.eE{α:Type}(ov:List (Nat×V)):M α->M α
 | .ret a=>.ret a
 | .fail=>.fail
 | .get s k=>match ek ov s with
  | some v=>(k v).eE ov
  | none=>.get s λv=>(k v).eE ov
 | .cC t m k=>.cC t m λx=>(k x).eE ov
 | .bl b k=>.bl b (k.eE ov)
 | .ask q k=>cond ((q - bj) % 2==0)
   (match ek ov ((q - bj) / 2)with
    | some v=>.bl (v.eZ&&decide (bj<=q)) (k.eE ov)
    | none=>.ask q (k.eE ov))
   (.bl ((ov.all λu=>fc q u.1 u.2)&&decide (bj<=q)) (.ask (Hs q (ov.map (·.1))) (k.eE ov)))
 | .ite b x y=>.ite b (x.eE ov) (y.eE ov)
theorem XG{ov:List (Nat×V)}{s:Nat}{v:V}(h:ek ov s=some v):(s,v)∈ov:=by
 induction ov with
 | nil=>cases h
 | cons u l ih =>
  simp only[ek]at h;cases hu:(u.1==s)with
  | true =>
   rw[hu]at h;simp only[cond_true,Option.some.injEq]at h;obtain⟨u1,u2⟩:=u;simp only[beq_iff_eq]at hu;subst hu h;simp
  | false =>
   rw[hu]at h;exact List.mem_cons_of_mem _ (ih h)
theorem alv{ov:List (Nat×V)}{s:Nat}(h:ek ov s=none):s∉ov.map (·.1):=by
 induction ov with
 | nil=>simp
 | cons u l ih =>
  simp only[ek]at h;cases hu:(u.1==s)with
  | true=>rw[hu]at h;cases h
  | false =>
   rw[hu]at h;simp only[List.map_cons,List.mem_cons,not_or];exact⟨λe=>by rw[e]at hu;simp at hu,ih h⟩
theorem alR{x:Nat}(h:(x % 2==0)=false):x % 2=1:=by
 rw[beq_eq_false_iff_ne]at h;omega
theorem pay{r mm:Nat}(hr:r<100000):(2*(r+100000*mm)+1) % 2=1/\(2*(r+100000*mm)+1) / 2=r+100000*mm/\(r+100000*mm) / 100000=mm/\(r+100000*mm) % 100000=r:=by
 refine⟨?_,?_,?_,?_⟩<;>omega
theorem agT(q:Nat)(l:List Nat):Hs q l - bj=2*((q - bj) / 2 % 100000+100000*((q - bj) / 2 / 100000 ||| ja false l))+1:=Nat.add_sub_cancel_left _ _
theorem Yv{T T':List V}{ov:List (Nat×V)}{q:Nat}(hl:T'.length=T.length)(hq:(q - bj) % 2=0)(hb:(T'.getD ((q - bj) / 2) .dead).eZ=true)(av:(q - bj) / 2<T.length):dU q T'=true:=by
 unfold dU;rw[Bool.and_eq_true];refine⟨Ht λs hs=>?_,Bool.or_eq_true_iff.2 (.inr (decide_eq_true (by rw[hl];exact av)))⟩;unfold fc;rw[hq,Nat.zero_add];by_cases he:s=(q - bj) / 2
 ·rw[he,hb,Bool.or_true];rfl
 ·have:(s != (q - bj) / 2)=true:=bne_iff_ne.2 he;rw[this,Bool.true_or];rfl
theorem alY[ae]{T T':List V}{ov:List (Nat×V)}{q:Nat}(hl:T'.length=T.length)(hT:∀s,T'.getD s .dead=(ek ov s).getD (T.getD s .dead))(Cz:(q - bj) % 2=1)(vE:∀u∈ov,fc q u.1 u.2=true)(hb:dU (Hs q (ov.map (·.1))) T=true):dU q T'=true:=by
 have e:=agT q (ov.map (·.1));have hr:(q - bj) / 2 % 100000<100000:=Nat.mod_lt _ (Nat.zero_lt_succ 99999);generalize hm:((q - bj) / 2 / 100000 ||| ja false (ov.map (·.1)))=mm at e;obtain⟨e1,e2,e3,e4⟩:=pay (mm:=mm) hr;unfold dU at hb ⊢;rw[Bool.and_eq_true]at hb ⊢;refine⟨Ht λs hs=>?_,Bool.or_eq_true_iff.2 (.inl (beq_iff_eq.2 Cz))⟩;rw[Nat.zero_add,hT];cases hv:ek ov s with
 | some v=>exact vE (s,v) (XG hv)
 | none =>
  have dP:s<T.length:=by omega
  have:=uH hb.1 s dP;unfold fc at this ⊢;rw[e,e1,e2,e3,e4,Nat.zero_add]at this;rw[Cz];simp only[Option.getD_none];have U5:mm.testBit (s+1)=((q - bj) / 2 / 100000).testBit (s+1):=by
   rw[<-hm,Nat.testBit_or,wk (alv hv),Bool.or_false]
  have ah0:mm.testBit 0=((q - bj) / 2 / 100000).testBit 0:=by
   rw[<-hm,Nat.testBit_or,wm,Bool.or_false]
  rw[U5,ah0,show ((1:Nat)==0)=false from rfl,cond_false]at this;rw[show ((1:Nat)==0)=false from rfl,cond_false];exact this
theorem ow[ae]{α:Type}{T T':List V}{ov:List (Nat×V)}(hl:T'.length=T.length)(fS:∀s,s∈ov.map (·.1)->s<T.length)(hT:∀s,T'.getD s .dead=(ek ov s).getD (T.getD s .dead))(m:M α):
  ∀{a:α} {log:List Nat},(m.eE ov).ai T a log->∃aC,m.ai T' a aC:=by
 induction m with
 | ret _=>intro a log h;exact⟨[],h.1,rfl⟩
 | fail=>intro a log h;exact h.elim
 | get s k ih =>
  intro a log h;simp only[M.eE]at h;have hs:=hT s;split at h
  ·rename_i v hv;rw[hv]at hs;obtain⟨aC,h⟩:=ih v h;exact⟨s::aC,aC,rfl,by rw[hs];exact h⟩
  ·rename_i hv;rw[hv]at hs;obtain⟨l1,rfl,h⟩:=h;obtain⟨aC,h⟩:=ih _ h;exact⟨s::aC,aC,rfl,by rw[hs];exact h⟩
 | cC _ _ k ih =>
  intro a log h;obtain⟨x,hx,h⟩:=h;obtain⟨aC,h⟩:=ih x h;exact⟨aC,x,hx,h⟩
 | bl _ k ih =>
  intro a log h;obtain⟨hb,h⟩:=h;obtain⟨aC,h⟩:=ih h;exact⟨aC,hb,h⟩
 | ite _ x y ihx ihy =>
  intro a log h;rcases h with⟨hb,h⟩|⟨hb,h⟩
  ·obtain⟨aC,h⟩:=ihx h;exact⟨aC,.inl ⟨hb,h⟩⟩
  ·obtain⟨aC,h⟩:=ihy h;exact⟨aC,.inr ⟨hb,h⟩⟩
 | ask q k ih =>
  intro a log h;simp only[M.eE]at h;cases hq:((q - bj) % 2==0)with
  | true =>
   rw[hq]at h;simp only[cond_true]at h;simp only[beq_iff_eq]at hq;split at h
   ·rename_i v hv;obtain⟨hb,h⟩:=h;simp only[Bool.and_eq_true,decide_eq_true_eq]at hb;obtain⟨aC,h⟩:=ih h;exact⟨q::aC,⟨Yv (ov:=ov) hl hq (by rw[hT,hv];exact hb.1) (fS _ (List.mem_map_of_mem (f:=(·.1)) (XG hv))),hb.2⟩,aC,rfl,h⟩
   ·rename_i hv;obtain⟨⟨hb,hk⟩,l1,rfl,h⟩:=h;obtain⟨aC,h⟩:=ih h;unfold dU at hb;rw[Bool.and_eq_true,hq]at hb;have av:(q - bj) / 2<T.length:=by simpa using hb.2
    have:=uH hb.1 _ av;unfold fc at this;rw[hq,Nat.zero_add]at this;exact⟨q::aC,⟨Yv (ov:=ov) hl hq (by rw[hT,hv];simpa using this) av,hk⟩,aC,rfl,h⟩
  | false =>
   rw[hq]at h;obtain⟨vE,⟨hb,hk⟩,l1,rfl,h⟩:=h;simp only[Bool.and_eq_true,decide_eq_true_eq,List.all_eq_true]at vE;obtain⟨aC,h⟩:=ih h;have Cz:=alR hq;exact⟨q::aC,⟨alY hl hT Cz vE.1 hb,vE.2⟩,aC,rfl,h⟩
def TB(N:Nat)(kids:List Nat)(s r:Nat)(p:List St)(t':Ty)(u:V)(m:M (List (Nat×V))):M (List (Nat×V)):=
 (du p u).bind λz=>match z with
  | (none,⟨n,t,x⟩) =>
   if n≠0/\t.depth≠0/\s<N/\r<N/\s≠r/\t=t' then
    match p with
    | []=>gX true r s kids ((m.eE [(r,.dead),(s,.d none n t x)]).bind λups=>.ret ((r,.dead)::(s,.d none n t x)::ups))
    | _::_=>match t,x with
     | .slice e te,x=>(fK p u (.slice e te) []).bind λu'=>gX false r s kids ((m.eE [(r,.hole u' p),(s,.d none n (.slice e te) x)]).bind λups=>.ret ((r,.hole u' p)::(s,.d none n (.slice e te) x)::ups))
     | _,_=>m
   else m
  | _=>m
def lV(N:Nat)(kids:Nat->List Nat):List Nat->M (List (Nat×V))->M (List (Nat×V))
 | [],m=>m
 | s::l,m=>.get s λv=>match v with
  | .view r p t=>.get r λu=>match u with
   | .d _ _ _ _=>match p with
    | []=>tg N [s] (lV N kids l m)
    | _::_=>lV N kids l m
   | .box _ _ _ _=>TB N (kids r) s r p t u (lV N kids l m)
   | _=>lV N kids l m
  | _=>lV N kids l m
section
variable{P:Program}{C:Ctx}{w w' w0:World}{S S':Nat->Prop}{L L' L0:Nat->aj}{s N:Nat}{vs:List Nat}{T T':List V}{tm tm':Array Value}{a:Act}
theorem Zq[ae]{r s:Nat}{v1 v2:V}(ij:s≠r)(hr:r<T.length)(hs:s<T.length):(∀z,((T.set r v1).set s v2).getD z .dead=(ek [(r,v1),(s,v2)] z).getD (T.getD z .dead))/\∀z,z∈[(r,v1),(s,v2)].map (·.1)->z<T.length:=by
 refine⟨λz=>?_,λz hz=>?_⟩
 ·simp only[ek];rw[aF,aF];by_cases h1:z=r
  ·subst h1;simp[ij.symm,hr]
  ·have e1:(r==z)=false:=by simpa using Ne.symm h1
   by_cases h2:z=s
   ·subst h2;rw[e1];simp[hs]
   ·have e2:(s==z)=false:=by simpa using Ne.symm h2
    rw[e1,e2];simp[h1,h2]
 ·simp only[List.map_cons,List.map_nil,List.mem_cons,List.not_mem_nil,or_false]at hz;rcases hz with rfl|rfl
  ·exact hr
  ·exact hs
theorem aha[ae]{m:M (List (Nat×V))}{kids:List Nat}{r:Nat}{p:List St}{t':Ty}{u:V}{ups:List (Nat×V)}{log:List Nat}(hI:Inv w0 L0 N vs T a w L)(hs:T.getD s .dead = .view r p t')(hr:T.getD r .dead=u)(u9:∃l n t x,u = .box l n t x)
  (h0:(TB N kids s r p t' u m).ai T ups log):∃T1 L1 bF log2,Inv w0 L0 N vs T1 a w L1/\m.ai T1 bF log2/\ag T ups=ag T1 bF:=by
 obtain⟨z,l1,l2,rfl,hz,h⟩:=M.an h0;obtain⟨l,n,t,x⟩:=z;have fq:∀{log},m.ai T ups log->∃T1 L1 bF log2,Inv w0 L0 N vs T1 a w L1/\m.ai T1 bF log2/\ag T ups=ag T1 bF:=λh=>⟨T,L,ups,_,hI,h,rfl⟩;have hu:u.eZ=true:=by obtain⟨l0,n0,t0,x0,rfl⟩:=u9;rfl
 cases l with
 | some _=>exact fq h
 | none =>
  dsimp only at h;split at h
  ·rename_i hc;obtain⟨hn,hd,bY,dh,bp,rfl⟩:=hc;have hTl:T.length=N:=hI.len;cases p with
   | nil =>
    obtain⟨cF,log2,h⟩:=jw h;obtain⟨bF,l3,l4,rfl,h1,h2⟩:=M.an h;obtain⟨rfl,_⟩:=h2;obtain⟨mJ,fS⟩:=Zq (T:=T) (v1:=.dead) (v2:=.d none n t x) bp (by omega) (by omega);obtain⟨fw,h1⟩:=ow (T':=(T.set r .dead).set s (.d none n t x)) (by simp) fS mJ m h1;have Jv:(qw [] (T.getD r .dead)).ai T (none,⟨n,t,x⟩) l1:=by
     rw[hr];obtain⟨l0,n0,t0,x0,rfl⟩:=u9;exact hz
    have cm:np r s T=true:=by
     unfold np;rw[List.all_eq_true];intro b hb;obtain⟨i,hi⟩:=List.mem_iff_getElem?.1 hb;simp only[List.getElem?_mapIdx,Option.map_eq_some_iff]at hi;obtain⟨v,hv,rfl⟩:=hi;have kn:T.getD i .dead=v:=by simp[List.getD_eq_getElem?_getD,hv]
     simp only[id_eq,Bool.or_eq_true,beq_iff_eq,bne_iff_ne];by_cases oc:i=s
     ·exact .inl oc
     ·right;have:=cF i oc;rw[kn]at this;simpa[V.on]using this
    obtain⟨L',hG⟩:=Inv.take hI hs bY Jv hn hd cm;exact⟨_,L',bF,fw,hG,h1,rfl⟩
   | cons st p =>
    dsimp only at h;split at h
    ·rename_i e te x;obtain⟨u',l3,l4,rfl,hm,h⟩:=M.an h;obtain⟨cF,log2,h⟩:=jw h;obtain⟨bF,l5,l6,rfl,h1,h2⟩:=M.an h;obtain⟨rfl,_⟩:=h2;obtain⟨mJ,fS⟩:=Zq (T:=T) (v1:=.hole u' (st::p)) (v2:=.d none n (.slice e te) x) bp (by omega) (by omega);obtain⟨fw,h1⟩:=ow (T':=(T.set r (.hole u' (st::p))).set s (.d none n (.slice e te) x)) (by simp) fS mJ m h1;obtain⟨L',hG⟩:=Inv.anG hI hs hr hu bY dh hz hm hn cF;exact⟨_,L',bF,fw,hG,h1,rfl⟩
    ·exact fq h
  ·exact fq h
theorem nD[ae]{w:World}{a:Act}{m:M (List (Nat×V))}{kids:Nat->List Nat}:{ss:List Nat}->{T:List V}->{L:Nat->aj}->{ups:List (Nat×V)}->{log:List Nat}->Inv w0 L0 N vs T a w L->(lV N kids ss m).ai T ups log ->
  ∃T1 L1 bF log2,Inv w0 L0 N vs T1 a w L1/\m.ai T1 bF log2/\ag T ups=ag T1 bF
 | [],T,L,ups,log,hI,h=>⟨T,L,ups,log,hI,h,rfl⟩
 | s::l,T,L,ups,log,hI,h=>by
  obtain⟨eC,rfl,h⟩:=h;dsimp only at h;generalize bd:T.getD s .dead=v at h;split at h
  ·rename_i r p t';obtain⟨log2,rfl,h⟩:=h;dsimp only at h;generalize vP:T.getD r .dead=u at h;split at h
   ·split at h
    ·obtain⟨T1,L1,bF,fw,k1,k2,k3⟩:=xc hI h;obtain⟨T2,L2,jj,iZ,j1,j2,j3⟩:=nD k1 k2;exact⟨T2,L2,jj,iZ,j1,j2,k3.trans j3⟩
    ·exact nD hI h
   ·obtain⟨T1,L1,bF,fw,k1,k2,k3⟩:=aha hI bd vP ⟨_,_,_,_,rfl⟩ h;obtain⟨T2,L2,jj,iZ,j1,j2,j3⟩:=nD k1 k2;exact⟨T2,L2,jj,iZ,j1,j2,k3.trans j3⟩
   ·exact nD hI h
  ·exact nD hI h
end
def DE(C:Ctx)(vs:List Nat)(N:Nat)(kids:List Nat)(X:TypeId)(r:Nat)(u:V)(x:Operand)(m:M (List (Nat×V))):M (List (Nat×V)):=
 match u with
 | .box _ _ t0 _=>(cB C X x).bind λv=>match v with
  | .d l 0 t y=>if t=t0/\C.ty X=some t/\t.depth≠0/\r<N/\l≠some r then
    gX false r r kids (.bl (fy vs (.box l 0 t y)) (.ret [(r,.box l 0 t y)]))
   else m
  | _=>m
 | _=>m
def oE(r:Nat):Nat->List Nat->aj:=λz q=>if z=r then (match q with|[]=>.own r []|_::_=>.other)else .own z q
section
variable{P:Program}{C:Ctx}{w w' w0:World}{S S':Nat->Prop}{L L' L0:Nat->aj}{s N:Nat}{vs:List Nat}{T T':List V}{tm tm':Array Value}{a:Act}
theorem DD{r z z':Nat}{q q':List Nat}(h:oE r z q = .own z' q'):z'=z/\q'=q/\(z=r->q=[]):=by
 unfold oE at h;split at h
 ·rename_i hz;split at h
  ·injection h with h1 h2;exact⟨by rw[<-h1,hz],h2.symm,λ_=>rfl⟩
  ·cases h
 ·rename_i hz;injection h with h1 h2;exact⟨h1.symm,h2.symm,λe=>absurd e hz⟩
theorem Zt[ae]{r:Nat}{X:Nat->Prop}(hr:X r):fj (oE r) X:=by
 refine⟨λz q hX=>?_,λz q z' q' hX h=>?_,λz q z2 q2 z' q' h1 h2=>?_,λz q=>?_⟩
 ·unfold oE;rw[if_neg (λe:z=r=>hX (e▸hr))]
 ·obtain⟨rfl,_⟩:=DD h;exact hX
 ·obtain⟨rfl,rfl,_⟩:=DD h1;obtain⟨h3,h4,_⟩:=DD h2;exact⟨h3,h4⟩
 ·unfold oE
  repeat' split
  all_goals simp
theorem anu[ae](hI:Inv w0 L0 N vs T a w L)(hC:bA P C){o:Oper}{X:TypeId}{t r:Nat}{kids:List Nat}{u:V}{x:Operand}{m:M (List (Nat×V))}{ups:List (Nat×V)}{log:List Nat}(ho:o.op = .store X (.tmp t) x)(ay:o.dst=none)
  (ht:addrOf t (T.getD t .dead)=some (r,[])) (cP:∀r p,addrOf t (T.getD t .dead)=some (r,p)->∃g,a.eval (.tmp t) = .pointer (some ⟨g,(node [] 0 p).2,none⟩)/\L g = .own r (node [] 0 p).1)
  (hr:T.getD r .dead=u) (hm:∀{log:List Nat},m.ai T ups log->Step P o w0 L0 N vs (ag T ups) a w) (h:(DE C vs N kids X r u x m).ai T ups log):Step P o w0 L0 N vs (ag T ups) a w:=by
 unfold DE at h;split at h
 ·rename_i l0 n0 t0 x0;obtain⟨v,l1,l2,rfl,hx,h2⟩:=M.an h;split at h2
  ·rename_i l tt y;split at h2
   ·rename_i hc;obtain⟨rfl,hX,hd,dh,vu⟩:=hc;obtain⟨cF,log2,h3⟩:=jw h2;obtain⟨aI,rfl,_⟩:=h3;obtain⟨g,pz,hg⟩:=cP r [] ht;have bc:=hI.aW r;rw[hr]at bc;obtain⟨_,g2,cur,e,k1,k2,k3,k4,k5⟩:=bc;obtain rfl:=hI.inj g g2 r _ hg k2;have dR:∃s0,(∀r',l=some r'->(T.getD r' .dead).deep=true)/\∃cs,Form tt cs (a.eval x)/\Own w L (SL L l) s0 0 tt y [] 0 cs:=by
     rcases jQ hI hx with⟨s,_,_,h⟩|⟨_,h⟩
     ·exact⟨s,h⟩
     ·exact⟨0,h L T a.tmps 0 w⟩
    obtain⟨s0,sd,cs,hf,bR⟩:=dR;have dO:=Own.one bR;have hlen:=Own.len bR;have aih:a.eval (.tmp t) = .pointer (some ⟨g,0,none⟩):=pz;have aO:(execOp a.eval o).run P w = .ok .skip (w.setRow g (putCells cur 0 cs)):=by
     have a6:=sN (P:=P) (w:=w) (o:=0) (hC X _ hX) k3 hf dO hlen (by omega);simp[execOp,ho,aih,a6]
    have fY:(putCells cur 0 cs).toList=cs:=by
     simp[putCells,hlen,k4]
    intro K Q hK;unfold Oper.wp;rw[aO,Oper.upon_skip,ay];have bB:(ag T [(r,V.box l 0 tt y)]).getD r .dead = .box l 0 tt y:=by
     show (T.set r _).getD r .dead=_;rw[aF,if_pos ⟨rfl,by rw[hI.len];exact dh⟩]
    have bo:∀z,z≠r->(ag T [(r,V.box l 0 tt y)]).getD z .dead=T.getD z .dead:=by
     intro z hz;show (T.set r _).getD z .dead=_;rw[aF,if_neg (λh=>hz h.1)]
    have mT:∀z,z≠r->(T.getD z .dead).on r=true->∃p' t',T.getD z .dead = .ptr r p' t'/\shallow p'=true:=by
     intro z gM af;have hb:(T.getD z .dead).dZ r=false:=cF z gM;unfold V.dZ at hb;rw[af,Bool.true_and]at hb;generalize T.getD z .dead=v at hb af;cases v with
     | ptr r2 p2 t2 =>
      have:r2=r:=by simpa[V.on,V.root]using af
      subst this;exact⟨p2,t2,rfl,by simpa using hb⟩
     | _=>simp at hb
    have sa:∀r',l=some r'->r'≠r/\(T.getD r' .dead).on r=false:=by
     intro r' dI;have bh:r'≠r:=λe=>vu (by rw[dI,e]);refine⟨bh,?_⟩;cases af:(T.getD r' .dead).on r with
     | false=>rfl
     | true =>
      obtain⟨p',t',he,_⟩:=mT r' bh af;have:=sd r' dI;rw[he]at this;simp[V.deep]at this
    have Jc:∀k,k≠g->(w.setRow g (putCells cur 0 cs)).heap[k]?=w.heap[k]?:=λk hk=>setRow_other w g k _ hk;refine hK a _ _ (Inv.gw (f:=oE r) (X:=λz=>z=r\/(T.getD z .dead).on r=true) (nl:=λ_=>.free) hI (Zt (.inl rfl)) ?_ (λ_ _ _ _ _ h=>by cases h) hI.size (by rw[cr,hI.len]) hI.dG ?_ ?_ ?_ ?_ ?_)
    ·refine⟨rfl,rfl,rfl,by simp[World.setRow],Nat.le_refl _,λk hk hx=>Jc k ?_,λ_ _=>rfl,λ_ _ _ _ h=>by cases h⟩
     rintro rfl
     exact hx r _ hg (.inl rfl)
    ·intro k z q hz hk;by_cases dA:z=r
     ·subst dA;rw[bB];rfl
     ·rw[bo z dA];unfold aT at hk;split at hk
      ·obtain⟨s0,q0,e0,f0⟩:=eF hk;obtain⟨rfl,rfl,_⟩:=DD f0;exact hI.owner k _ _ e0
      ·cases hk
    ·intro z r' hz af aY;have hz:=not_or.1 hz;rcases aY with rfl|aY
     ·exact absurd af hz.2
     ·by_cases h2:r'=r
      ·subst h2;exact absurd af hz.2
      ·obtain⟨p',t',he,_⟩:=mT r' h2 aY;rw[he];rfl
    ·intro z hz;have hz:=not_or.1 hz;exact⟨bo z hz.1,rfl⟩
    ·intro z r' hz af;by_cases h1:z=r
     ·subst h1;rw[bB]at af;exact sG aI r' af
     ·rw[bo z h1]at af;exact hI.roots z r' af
    ·intro z hz;by_cases h1:z=r
     ·subst h1;rw[bB];refine⟨λr' aY=>?_,g,putCells cur 0 cs,e,k1,?_,setRow_heap w g cur _ e _ k3,by rw[Dk (by omega)];exact k4,?_⟩
      ·rw[bo r' (sa r' aY).1];exact sd r' aY
      ·rw[cR hI (by rw[hg];simp),hg];simp[er,oE,node]
      ·rw[fY];refine Own.dB (Rd.move (λk hk=>?_) (Own.ep bR));rcases hk with hk|⟨r',q,dI,hk⟩
       ·exact⟨.inl (dY hI hk),Jc k (by rintro rfl;rw[hg]at hk;cases hk)⟩
       ·obtain⟨h1,h2⟩:=sa r' dI;refine⟨.inr ⟨r',q,dI,wA hI (Zt (X:=λz'=>z'=z\/(T.getD z' .dead).on z=true) (.inl rfl)) hk (not_or.2 ⟨h1,by rw[h2];simp⟩)⟩,Jc k ?_⟩
        rintro rfl
        rw[hg]at hk;injection hk with hk _;exact h1 hk.symm
     ·rw[bo z h1];have af:(T.getD z .dead).on r=true:=hz.resolve_left h1;obtain⟨p',t',he,dX⟩:=mT z h1 af;have bm:=hI.aW z;rw[he]at bm ⊢;obtain⟨g3,j1,j2⟩:=bm;refine⟨g3,j1,?_⟩;rw[qj dX]at j2 ⊢;rw[cR hI (by rw[j2];simp),j2];simp[er,oE]
   ·exact hm h2
  ·exact hm h2
 ·exact hm h
end
def HP(C:Ctx)(vs:List Nat)(X:TypeId)(d:Nat)(x:Operand)(m:M (List (Nat×V))):M (List (Nat×V)):=
 match x with
 | .tmp s=>.get s λv=>match v with
  | .d none k t y=>if k≠0/\t.depth≠0 then
    (if C.ty X=some t/\s≠d/\s<100000/\vs.contains d=true then gX true s d [] (.ret [(d,.box none k t y),(s,.view d [] t)])else .fail)
   else m
  | _=>m
 | _=>m
section
variable{P:Program}{C:Ctx}{w w' w0:World}{S S':Nat->Prop}{L L' L0:Nat->aj}{s N:Nat}{vs:List Nat}{T T':List V}{tm tm':Array Value}{a:Act}
theorem am6[ae](hI:Inv w0 L0 N vs T a w L)(hC:bA P C){o:Oper}{X:TypeId}{x:Operand}{d:Nat}{m:M (List (Nat×V))}{ups:List (Nat×V)}{log:List Nat}(ho:o.op = .box X x)(ay:o.dst=some d)(hd:d<N)(hid:(T.getD d .dead).idle=true)
  (h:(HP C vs X d x m).ai T ups log) (hm:∀log,m.ai T ups log->Step P o w0 L0 N vs (ag T ups) a w):Step P o w0 L0 N vs (ag T ups) a w:=by
 unfold HP at h;split at h
 ·rename_i s;obtain⟨aC,rfl,h⟩:=h;generalize hv:T.getD s .dead=v at h;dsimp only at h;split at h
  ·rename_i k t y;split at h
   ·rename_i vt;obtain⟨hk0,n4⟩:=vt;split at h
    ·rename_i hc;obtain⟨hX,bL,hs5,r6⟩:=hc;obtain⟨cF,log2,h⟩:=jw h;obtain⟨rfl,_⟩:=h;clear hm;have cF:∀z,z≠d->(T.getD z .dead).on s=false:=λz hz=>by simpa using cF z hz
     have ik:=hI.aW s;rw[hv]at ik;obtain⟨_,cs,hf,bR⟩:=ik;have cW:=Form.cells hf (Own.one bR);have bY:s<N:=by
      rcases Nat.lt_or_ge s N with h|h
      ·exact h
      ·rw[ed (by rw[hI.len];exact h)]at hv;cases hv
     have aO:(execOp a.eval o).run P w = .ok (.value (.pointer (some ⟨w.heap.size,0,none⟩))) (w.alloc (.cells (a.tmps.getD s undef).cells X)):=by
      have aii:a.tmps.getD s undef=a.eval (.tmp s):=rfl;rw[aii];simp[execOp,ho,Instr.box,newVar,newRow,newObj,Sem.run]
     have bI:(ag T [(d,V.box none k t y),(s,V.view d [] t)]).getD s .dead = .view d [] t:=by
      show ((T.set d _).set s _).getD s .dead=_;rw[aF,if_pos ⟨rfl,by simp[hI.len,bY]⟩]
     have bT:(ag T [(d,V.box none k t y),(s,V.view d [] t)]).getD d .dead = .box none k t y:=by
      show ((T.set d _).set s _).getD d .dead=_;rw[aF,if_neg (λh=>bL h.1.symm),aF,if_pos ⟨rfl,by rw[hI.len];exact hd⟩]
     have bo:∀z,z≠d->z≠s->(ag T [(d,V.box none k t y),(s,V.view d [] t)]).getD z .dead=T.getD z .dead:=by
      intro z h1 h2;show ((T.set d _).set s _).getD z .dead=_;rw[aF,if_neg (λh=>h2 h.1),aF,if_neg (λh=>h1 h.1)]
     have fY:∀c z,z≠d->(a.put (some d) c).tmps.getD z undef=a.tmps.getD z undef:=λc z h=>jS (by simpa using Ne.symm h);have vH:∀c,(a.put (some d) c).tmps.getD d undef=c:=λc=>by
      show (a.tmps.setIfInBounds d c).getD d undef=c;rw[dN,if_pos ⟨rfl,by rw[hI.size];exact hd⟩]
     refine Step.value (L':=aT (gO s [] 0 t.sz k d) w L (λg=>if g=w.heap.size then .own d []else .free)) ay aO ?_
     have Vt:aT (gO s [] 0 t.sz k d) w L (λg=>if g=w.heap.size then .own d []else .free) w.heap.size = .own d []:=by
      unfold aT;rw[if_neg (Nat.lt_irrefl _)];exact if_pos rfl
     have bm:(w.alloc (.cells (a.tmps.getD s undef).cells X)).heap.size=w.heap.size+1:=by simp
     have Jx:Wd w (w.alloc (.cells (a.tmps.getD s undef).cells X)) L (λg=>if g=w.heap.size then .own d []else .free) (λz=>z=s\/z=d):=by
      refine⟨rfl,rfl,rfl,by omega,Nat.le_refl _,λk' aG _=>Go.RowKit.Below.heap_alloc w _ k' aG,λk' aG=>?_,λk' z q aG h=>?_⟩
      ·exact if_neg (by omega)
      ·change (if k'=w.heap.size then aj.own d []else aj.free)=_ at h
       split at h
       ·injection h with h _;exact .inr h.symm
       ·cases h
     have aiZ:Own (w.alloc (.cells (a.tmps.getD s undef).cells X)) (aT (gO s [] 0 t.sz k d) w L (λg=>if g=w.heap.size then .own d []else .free)) (SL (aT (gO s [] 0 t.sz k d) w L (λg=>if g=w.heap.size then .own d []else .free)) none) d k t y [] 0 cs:=by
      refine Own.move (λk' aG=>⟨aG,Go.RowKit.Below.heap_alloc w _ k' ?_⟩) (λk' dd rest _ aG=>⟨aG,Go.RowKit.Below.heap_alloc w _ k' ?_⟩) (Own.taken (Nat.le_refl _) hI (λk' aG=>by
       rcases aG with aG|⟨_,_,aG,_⟩
       ·exact aG
       ·cases aG) bR)
      ·rcases aG with aG|⟨_,_,aG,_⟩
       ·unfold aT at aG;split at aG
        ·assumption
        ·change (if k'=w.heap.size then aj.own d []else aj.free)=_ at aG
         split at aG<;>cases aG
       ·cases aG
      ·unfold aT at aG;split at aG
       ·assumption
       ·change (if k'=w.heap.size then aj.own d []else aj.free)=_ at aG
        split at aG
        ·injection aG with _ aG;cases aG
        ·cases aG
     have nZ:(a.tmps.getD s undef).cells.size=t.sz:=by rw[<-Array.length_toList,cW,Own.len bR]
     refine Inv.gw (X:=λz=>z=s\/z=d) hI (Yc bL) Jx ?_ (by simp[Act.put,hI.size]) (by rw[cr,hI.len]) hI.dG ?_ ?_ ?_ ?_ ?_
     ·intro g g' z q hg h h';change (if g=w.heap.size then aj.own d []else aj.free)=_ at h
      split at h
      ·rename_i hgg;injection h with h1 h2;subst h1 h2;unfold aT at h';split at h'
       ·obtain⟨s0,q0,e0,f0⟩:=eF h';rcases p8 f0 with⟨_,i,rest,_,_,h3⟩|⟨h1,_,h2,_⟩
        ·cases h3
        ·exact absurd h2.symm h1
       ·change (if g'=w.heap.size then aj.own d []else aj.free)=_ at h'
        split at h'
        ·rename_i I1;rw[hgg,I1]
        ·cases h'
      ·cases h
     ·intro g z q hz h;rcases hz with rfl|rfl
      ·exfalso;unfold aT at h;split at h
       ·obtain⟨s0,q0,e0,f0⟩:=eF h;rcases p8 f0 with⟨_,_,_,_,h1,_⟩|⟨_,h1,h2,_⟩
        ·exact bL h1
        ·exact h1 h2.symm
       ·change (if g=w.heap.size then aj.own d []else aj.free)=_ at h
        split at h
        ·injection h with h _;exact bL h.symm
        ·cases h
      ·rw[bT];rfl
     ·intro z r' hz af aY;have hz:=not_or.1 hz;rcases aY with rfl|rfl
      ·rw[cF z hz.2]at af;cases af
      ·exact V.jP hid
     ·intro z hz;have hz:=not_or.1 hz;exact⟨bo z hz.2 hz.1,fY _ z hz.2⟩
     ·intro z r' hz af;rcases hz with rfl|rfl
      ·rw[bI]at af;have:d=r':=by simpa[V.on,V.root]using af
       subst this;simpa using r6
      ·rw[bT]at af;simp[V.on,V.root]at af
     ·intro z hz;rcases hz with rfl|rfl
      ·rw[bI,fY _ _ bL];refine⟨by rw[bT];simp only[V.deep,Bool.and_eq_true,bne_iff_ne];exact⟨hk0,n4⟩,.inr ⟨w.heap.size,_,X,.inl (by rw[bT];rfl),Vt,n5 _ _,by simp only[node];omega,?_⟩⟩;rw[cW];simp only[node,List.drop_zero];rw[List.take_of_length_le (by rw[Own.len bR];exact Nat.le_refl _)];exact hf
      ·rw[bT,vH];refine⟨by simp,w.heap.size,_,X,rfl,Vt,n5 _ _,nZ,?_⟩;rw[cW];exact aiZ
    ·exact h.elim
   ·exact hm _ h
  ·exact hm _ h
 ·exact hm _ h
end
def pU(u:V):V->Bool
 | .ptr _ p _=>shallow p && !u.dr
 | .view _ p _=>(shallow p && !u.dr)||(match p with|[]=>u.dr|_=>false)
 | _=>false
def jX(r:Nat)(q:List Nat)(o sz i:Nat)(ls:List Nat):aj->aj
 | .own s z=>if s=r then (match cut q z with
   | some (y::rest)=>if o<=y/\y<o+sz then .own i ((y - o)::rest)else .other
   | _=>.other)
  else if ls.contains s then .aq else .other
 | x=>x
def uZ(r:Nat)(q:List Nat)(o sz i:Nat):aj->aj
 | .own j (y::rest)=>if j=i/\y<sz then .own r (q++(o+y)::rest)else .other
 | .own _ []=>.other
 | x=>x
def o6(r:Nat)(q:List Nat)(o sz i:Nat)(L L':Nat->aj):Nat->aj:=λk=>match L k with
 | .free=>uZ r q o sz i (L' k)
 | .own s z=>if s=r/\Dz q o sz z=true then uZ r q o sz i (L' k)else .own s z
 | x=>x
def jo(r:Nat)(q:List Nat)(o sz:Nat)(l:aj):Prop:=l = .free\/∃z,l = .own r z/\kg q o sz z
section
variable{P:Program}{C:Ctx}{w w' w0:World}{S S':Nat->Prop}{L L' L0:Nat->aj}{s N:Nat}{vs:List Nat}{T T':List V}{tm tm':Array Value}{a:Act}
theorem B7{r:Nat}{q:List Nat}{o sz i:Nat}{l:aj}{s:Nat}{z:List Nat}(h:uZ r q o sz i l = .own s z):∃y rest,l = .own i (y::rest)/\y<sz/\s=r/\z=q++(o+y)::rest:=by
 cases l with
 | own j z' =>
  cases z' with
  | nil=>cases h
  | cons y rest =>
   unfold uZ at h;dsimp only at h;split at h
   ·rename_i hc;obtain⟨rfl,hy⟩:=hc;injection h with h1 h2;exact⟨y,rest,rfl,hy,h1.symm,h2.symm⟩
   ·cases h
 | aq=>cases h
 | other=>cases h
 | free=>cases h
theorem rH[ae]{r:Nat}{q:List Nat}{o sz i k:Nat}(h:jo r q o sz (L k)):o6 r q o sz i L L' k=uZ r q o sz i (L' k):=by
 unfold o6;rcases h with h|⟨z,h,hu⟩
 ·rw[h]
 ·rw[h];dsimp only;rw[if_pos ⟨rfl,qv.2 hu⟩]
theorem uL[ae]{r:Nat}{q:List Nat}{o sz i k:Nat}(h:¬jo r q o sz (L k)):o6 r q o sz i L L' k=L k:=by
 unfold o6;cases hl:L k with
 | own s z =>
  dsimp only;rw[if_neg]
  rintro⟨rfl,hu⟩
  exact h (.inr ⟨z,hl,qv.1 hu⟩)
 | aq=>rfl
 | other=>rfl
 | free=>exact absurd (.inl hl) h
theorem K4[ae]{r:Nat}{q:List Nat}{o sz i:Nat}{ls:List Nat}{l:aj}(h:¬jo r q o sz l):jX r q o sz i ls l = .aq\/jX r q o sz i ls l = .other:=by
 cases l with
 | own s z =>
  unfold jX;dsimp only;split
  ·rename_i hs;subst hs;split
   ·rename_i y rest hc;rw[if_neg]
    ·exact .inr rfl
    ·rintro⟨h1,h2⟩
     refine h (.inr ⟨z,rfl,y - o,rest,by omega,?_⟩);rw[nP hc];congr 2;omega
   ·exact .inr rfl
  ·split<;>simp
 | aq=>exact .inl rfl
 | other=>exact .inr rfl
 | free=>exact absurd (.inl rfl) h
theorem K5[ae]{r:Nat}{q:List Nat}{o sz i:Nat}{ls:List Nat}{l:aj}{j:Nat}{z:List Nat}(h:jX r q o sz i ls l = .own j z):∃y rest,j=i/\z=y::rest/\l = .own r (q++(o+y)::rest):=by
 cases l with
 | own s z' =>
  unfold jX at h;dsimp only at h;split at h
  ·rename_i hs;subst hs;split at h
   ·rename_i y rest hc;split at h
    ·rename_i hb;injection h with h1 h2;refine⟨y - o,rest,h1.symm,h2.symm,?_⟩;rw[nP hc];congr 3;omega
    ·cases h
   ·cases h
  ·split at h<;>cases h
 | aq=>cases h
 | other=>cases h
 | free=>cases h
theorem anR[ae]{r:Nat}{q:List Nat}{o sz i:Nat}{ls:List Nat}{y:Nat}{rest:List Nat}(h:y<sz):jX r q o sz i ls (.own r (q++(o+y)::rest)) = .own i (y::rest):=by
 unfold jX;dsimp only;rw[if_pos rfl,mi];dsimp only;rw[if_pos ⟨by omega,by omega⟩,show o+y - o=y by omega]
theorem aqs{q:List Nat}{o sz:Nat}:¬kg q o sz []:=by
 rintro⟨d,rest,_,h⟩
 have:=congrArg List.length h;simp at this
theorem aqt{q:List Nat}{o sz:Nat}:¬kg q o sz q:=by
 rintro⟨d,rest,_,h⟩
 have:=congrArg List.length h;simp at this
theorem Inv.ahc[ae](hI:Inv w0 L0 N vs T a w L){d:Nat}(hd:d<N)(hid:(T.getD d .dead).idle=true){r i:Nat}{p:List St}{ls:List Nat}{ps:List (Ty×Mode)}{rs:List (Ty×Nat)}{u u2:V}{n n':Nat}{t:Ty}{x y:t.den}{log log2:List Nat}{c:Value}
  (hr:T.getD r .dead=u) (hz:(du p u).ai T (none,⟨n',t,x⟩) log) (hm:(fK p u t y).ai T u2 log2) (hn:t.depth<=n) (vA:t.depth<=n') {g0:Nat} {cur:Array Value} {e:TypeId}
  (hg:L g0 = .own r (node [] 0 p).1) (Vj:w.heap[g0]?=some (.cells cur e (0,0)))
  (a8:Left w w' (λk=>jX r (node [] 0 p).1 (node [] 0 p).2 t.sz i ls (L k)) L' ps rs)
  (mO:∀k s q,L' k = .own s q->s=i)
  (vD:Own w' L' (λk=>L' k = .aq) i n t y [] 0 ((cur.toList.drop (node [] 0 p).2).take t.sz)) (kq:T'.length=N) (bB:T'.getD r .dead=u2)
  {V0:V} (bT:T'.getD d .dead=V0) (u5:∀r,V0.on r=false) (u6:∀L2 tm',az L2 T' tm' d V0 w' c)
  (hT:∀z,z≠d->z≠r->(T.getD z .dead).on r=true->(T'.getD z .dead = .dead/\(T.getD z .dead).aJ=false)\/(T'.getD z .dead=T.getD z .dead/\pU u (T.getD z .dead)=true))
  (hM:∀z,z≠d->z≠r->(T.getD z .dead).on r=false->T'.getD z .dead=T.getD z .dead) :
  Inv w0 L0 N vs T' (a.put (some d) c) w' (o6 r (node [] 0 p).1 (node [] 0 p).2 t.sz i L L'):=by
 have cb:=YO hz;obtain⟨lF,vF,vc,Cu⟩:=Kb hm;have bc:=hI.aW r;rw[hr]at bc;obtain⟨_,_,_,gJ,lp⟩:=kI hz bc;have bz:r≠d:=by
  refine cX hid ?_;rw[hr];exact gJ
 have cK:∀k q,L k ≠ .own d q:=λk q h=>by
  have:=hI.owner k d q h;rw[V.jP hid]at this;cases this
 have mW:∀k,¬jo r (node [] 0 p).1 (node [] 0 p).2 t.sz (L k)->(o6 r (node [] 0 p).1 (node [] 0 p).2 t.sz i L L' k=L k/\w'.heap[k]?=w.heap[k]?):=by
  intro k h;have av:k<w.heap.size:=hI.lt (λe=>h (.inl e));exact⟨uL h,(a8.aS k av (K4 h)).2⟩
 have aiC:∀k q,L' k = .own i q->jo r (node [] 0 p).1 (node [] 0 p).2 t.sz (L k):=by
  intro k q hk;apply Classical.byContradiction;intro hp;have av:k<w.heap.size:=hI.lt (λe=>hp (.inl e));have h9:=(a8.aS k av (K4 hp)).1;rw[hk]at h9;rcases K4 (i:=i) (ls:=ls) hp with h|h<;>rw[h]at h9<;>cases h9
 have fY:∀s',s'≠d->(a.put (some d) c).tmps.getD s' undef=a.tmps.getD s' undef:=λs' h=>jS (by simpa using Ne.symm h);let X:Nat->Prop:=λz=>z=d\/z=r\/(T.getD z .dead).on r=true;have ly:∀z,¬X z->z≠d/\z≠r/\(T.getD z .dead).on r=false:=by
  intro z hz;have hz:=not_or.1 hz;have c8:=not_or.1 hz.2;exact⟨hz.1,c8.1,by simpa using c8.2⟩
 have aiW:∀k z,¬X z->(L k = .aq\/∃r' q,L k = .own r' q/\(r'=z\/(T.getD z .dead).on r'=true))->¬jo r (node [] 0 p).1 (node [] 0 p).2 t.sz (L k):=by
  intro k z hz hk hp;obtain⟨h1,h2,h3⟩:=ly z hz;rcases hp with hp|⟨z',hp,_⟩
  ·rcases hk with hk|⟨_,_,hk,_⟩<;>rw[hp]at hk<;>cases hk
  ·rcases hk with hk|⟨r',q',hk,c7⟩
   ·rw[hp]at hk;cases hk
   ·rw[hp]at hk;injection hk with hk _;subst hk;rcases c7 with rfl|c7
    ·exact h2 rfl
    ·rw[h3]at c7;cases c7
 refine Inv.upd X hI (by simp[Act.put,hI.size]) kq hI.dG ?_ ?_ ?_ ?_ ?_ ?_ ?_ ?_ ?_
 ·refine⟨a8.os.trans hI.fr.os,a8.tape.trans hI.fr.tape,a8.output.trans hI.fr.output,Nat.le_trans hI.fr.size a8.size,Nat.le_trans hI.fr.drawn a8.drawn,λk hk h0=>?_,hI.fr.gD⟩;have h1:=hI.fr.aS k hk h0;have pE:¬jo r (node [] 0 p).1 (node [] 0 p).2 t.sz (L k):=by
   rintro (h|⟨z,h,_⟩)<;>rw[h1.1]at h<;>rcases h0 with h0|h0<;>rw[h0]at h<;>cases h
  have:=mW k pE;exact⟨this.1.trans h1.1,this.2.trans h1.2⟩
 ·intro k hk;have hf:=hI.free k (Nat.le_trans a8.size hk);rw[rH (.inl hf),a8.free k hk];rfl
 ·intro k k' s q h h';by_cases hp:jo r (node [] 0 p).1 (node [] 0 p).2 t.sz (L k)
  ·rw[rH hp]at h;obtain⟨y1,rest,e1,e2,rfl,rfl⟩:=B7 h;by_cases cn:jo s (node [] 0 p).1 (node [] 0 p).2 t.sz (L k')
   ·rw[rH cn]at h';obtain⟨y2,KD,e3,e4,_,e5⟩:=B7 h';have e6:=List.append_cancel_left e5;injection e6 with e6 e7;have:y1=y2:=by omega
    subst this e7;exact a8.inj k k' _ _ e1 e3
   ·rw[uL cn]at h';exact absurd (.inr ⟨_,h',y1,rest,e2,rfl⟩) cn
  ·rw[uL hp]at h;by_cases cn:jo r (node [] 0 p).1 (node [] 0 p).2 t.sz (L k')
   ·rw[rH cn]at h';obtain⟨y1,rest,e1,e2,rfl,rfl⟩:=B7 h';exact absurd (.inr ⟨_,h,y1,rest,e2,rfl⟩) hp
   ·rw[uL cn]at h';exact hI.inj k k' s q h h'
 ·intro k s q h;by_cases hp:jo r (node [] 0 p).1 (node [] 0 p).2 t.sz (L k)
  ·rw[rH hp]at h;obtain⟨y1,rest,e1,e2,rfl,rfl⟩:=B7 h;rw[bB,vF];exact gJ
  ·rw[uL hp]at h;have ho:=hI.owner k s q h;have bL:s≠d:=cX hid ho;by_cases bp:s=r
   ·subst bp;rw[bB,vF];exact gJ
   ·cases af:(T.getD s .dead).on r with
    | false=>rw[hM s bL bp af];exact ho
    | true =>
     rcases hT s bL bp af with⟨_,h⟩|⟨h,_⟩
     ·rw[h]at ho;cases ho
     ·rw[h];exact ho
 ·intro z hz k hk;exact mW k (aiW k z hz hk)
 ·intro z hz;obtain⟨h1,h2,h3⟩:=ly z hz;exact⟨hM z h1 h2 h3,fY z h1⟩
 ·intro z r' h;by_cases il:z=d
  ·subst il;rw[bT,u5]at h;cases h
  ·by_cases dA:z=r
   ·subst dA;rw[bB]at h;simp[V.on,lF,cb]at h
   ·cases af:(T.getD z .dead).on r with
    | false=>rw[hM z il dA af]at h;exact hI.roots z r' h
    | true =>
     rcases hT z il dA af with⟨h1,_⟩|⟨h1,_⟩
     ·rw[h1]at h;simp[V.on,V.root]at h
     ·rw[h1]at h;exact hI.roots z r' h
 ·intro z r' hz af ho;obtain⟨h1,h2,h3⟩:=ly z hz;have od:r'≠d:=cX hid ho;have fZ:r'≠r:=λe=>by rw[e,h3]at af;cases af
  refine⟨?_,fY r' od⟩;cases VI:(T.getD r' .dead).on r with
  | false=>exact hM r' od fZ VI
  | true =>
   rcases hT r' od fZ VI with⟨_,h⟩|⟨h,_⟩
   ·rw[h]at ho;cases ho
   ·exact h
 ·intro z hX;by_cases il:z=d
  ·subst il;rw[bT];show az _ _ _ _ _ _ ((a.tmps.setIfInBounds z c).getD z undef);rw[dN,if_pos ⟨rfl,by rw[hI.size];exact hd⟩];exact u6 _ _
  ·by_cases dA:z=r
   ·subst dA;rw[bB,fY z il];have pA:¬jo z (node [] 0 p).1 (node [] 0 p).2 t.sz (L g0):=by
     rintro (h|⟨z',h,hu⟩)
     ·rw[hg]at h;cases h
     ·rw[hg]at h;injection h with _ h;subst h;exact aqt hu
    have pB:=mW g0 pA;refine Ka (T2:=T') (cur:=cur) (e':=e) (g':=g0) (cur':=cur) bc hz hm (λr' aY=>by rw[cb]at aY;cases aY) ?_ ?_
    ·refine⟨λk hk=>?_,λk q2 hk hq Js=>?_,hg,by rw[pB.1];exact hg,Vj,by rw[pB.2];exact Vj,rfl,λ_ _=>rfl,λk hk=>hI.inj k g0 z _ hk hg⟩
     ·rw[cb]at hk ⊢;rcases hk with hk|⟨_,_,hk,_⟩
      ·have:=mW k (by rintro (h|⟨_,h,_⟩)<;>rw[hk]at h<;>cases h);exact⟨.inl (by rw[this.1];exact hk),this.2⟩
      ·cases hk
     ·exact mW k (by
       rintro (h|⟨z',h,hu⟩)
       ·rw[hk]at h;cases h
       ·rw[hk]at h;injection h with _ h;subst h;exact Js hu)
    ·refine Own.cap hn vA (Own.move (S:=λ_=>False) (λk hk=>hk.elim) (λk dd rest hY hk=>⟨?_,rfl⟩) (Own.full hn vD));rw[Nat.zero_add,List.nil_append]at hk;rw[rH (aiC k _ hk),hk];show (if i=i/\dd<t.sz then _ else _)=_
     rw[if_pos ⟨rfl,hY⟩]
   ·have af:(T.getD z .dead).on r=true:=by
     rcases hX with h|h|h
     ·exact absurd h il
     ·exact absurd h dA
     ·exact h
    rcases hT z il dA af with⟨h,_⟩|⟨h,hk⟩
    ·rw[h];trivial
    ·rw[h,fY z il];have bm:=hI.aW z;have fW:∀k,L k = .own r []->o6 r (node [] 0 p).1 (node [] 0 p).2 t.sz i L L' k=L k/\w'.heap[k]?=w.heap[k]?:=λk hk=>mW k (by
      rintro (h|⟨z',h,hu⟩)
      ·rw[hk]at h;cases h
      ·rw[hk]at h;injection h with _ h;subst h;exact aqs hu)
     generalize hv:T.getD z .dead=v at hk af bm;cases v with
     | ptr r2 p2 t2 =>
      have:r2=r:=by simpa[V.on,V.root]using af
      subst this;simp only[pU,Bool.and_eq_true]at hk;obtain⟨g,h1,h2⟩:=bm;refine⟨g,h1,?_⟩;rw[qj hk.1]at h2 ⊢;rw[(fW g h2).1];exact h2
     | view r2 p2 t2 =>
      have:r2=r:=by simpa[V.on,V.root]using af
      subst this;obtain⟨cq,h1⟩:=bm;refine⟨by rw[bB,vc,<-hr];exact cq,?_⟩;rcases h1 with⟨h1,h2,l,n1,x1,h3,h4⟩|⟨g,cur1,e1,h1,h2,h3,h4,h5⟩
      ·rw[hr]at h3;subst h3;obtain⟨x2,rfl⟩:=X6 hm;exact .inl ⟨h1,by rw[fY r2 bz];exact h2,l,n1,x2,bB,h4⟩
      ·rw[hr]at h1;have dX:shallow p2=true:=by
        simp only[pU,Bool.or_eq_true,Bool.and_eq_true]at hk;rcases hk with hk|hk
        ·exact hk.1
        ·cases p2 with
         | nil=>rfl
         | cons _ _=>cases hk
       refine .inr ⟨g,cur1,e1,by rw[bB,Cu];exact h1,?_⟩;rw[qj dX]at h2 ⊢;have:=fW g h2;exact⟨by rw[this.1];exact h2,by rw[this.2];exact h3,h4,h5⟩
     | _=>simp[pU]at hk
end
end Go.Proofs.YthfgcmoipebheaaGreat.P.Am
