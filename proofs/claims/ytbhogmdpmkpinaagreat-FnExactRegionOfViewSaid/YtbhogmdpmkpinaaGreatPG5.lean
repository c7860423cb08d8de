/- A part of the proof: Am39,Am40,Am41,Am42,Am43,Am44,Am45,Am46,Am47. No conditions. -/
import Derived.Test.YtbhogmdpmkpinaaGreatPG4
set_option linter.unusedVariables false
set_option linter.unusedSimpArgs false
namespace Go.Proofs.YtbhogmdpmkpinaaGreat.P.Am
section
variable{P:Program}{C:Ctx}{w w' w0:World}{S S':Nat->Prop}{L L' L0:Nat->aj}{s N:Nat}{vs:List Nat}{T T':List V}{tm tm':Array Value}{a:Act}
theorem step_append[ae](hI:Inv w0 L0 N vs T a w L)(hC:bt P C){o:Oper}{X X2:TypeId}{sO xO:Operand}{d:Nat}{ups:List (Nat×V)}{log:List Nat}
  (ho:o.op = .call { callee:=.builtin .append,args:=#[sO,xO],argTypes:=#[X,X2] }) (av:o.dst=some d) (hd:d<N) (hid:(T.getD d .dead).idle=true)
  (h:(Gc C vs d X X2 sO xO).ai T ups log):Step P o w0 L0 N vs (ah T ups) a w:=by
 unfold Gc at h;split at h
 ·rename_i e t hX;split at h
  ·rename_i e2 t2 gK;obtain⟨b,l1,l2,rfl,h1,h⟩:=M.ak h;obtain⟨c,l3,l4,rfl,h2,h⟩:=M.ak h;split at h
   ·rename_i afM;obtain⟨bd,hby,gS⟩:=afM;obtain⟨hg,rfl,_⟩:=h;have hg:=of_decide_eq_true hg;obtain⟨hu,he⟩:=(hC X _ hX).bT;obtain⟨HT,kV⟩:=(hC X2 _ gK).bT;obtain⟨i,z,i1,i2,i3,i4,i5⟩:=(hC e t he).info;have dH:∀v∈t.ca,v.oneCell'=true:=Own.one (Own.zero (w:=w) (L:=L) (S:=λ_=>True) (s:=0) (n:=0) (t:=t) (q:=[]) (o:=0));have iC:=Form.cells i5 dH;have gv:z.cells.size=t.sz:=by rw[<-Array.length_toList,iC,Ty.iY]
    obtain⟨so,mw,SI⟩:=aeP hI h1 d;obtain⟨news,cL,nV,bn⟩:=aky hI h2 HT;have fI:=cL.total;have Th:b.xs.length+c.ys.length<=140737488355328:=Nat.le_trans (Nat.le_mul_of_pos_right _ (by omega)) hg;have rK:b.xs.length+c.ys.length<=maxLen:=by simp only[maxLen];omega
    have TH:(b.s=some so/\so∉vs/\(T.getD so .dead).aD=true)\/(b.s=none/\so=d):=mw.imp (λh=>⟨h.1,h.2.1,h.2.2.1⟩) id;have a8:∀s,c.s=some s->s≠so:=by
     intro s hs;rcases mw with⟨hb,_⟩|⟨hb,rfl⟩
     ·rintro rfl
      rw[hs,hb]at gS;simp at gS
     ·exact cV hid (nV s hs).2.1
    have fin:∀(kept:Bool) (nl:Nat->aj) (w':World) (g oK:Nat) (cur':Array Value) (gZ:List Value),
      (Builtin.append_ #[X,X2] o.type #[a.eval sO,a.eval xO]).run P w = .ok (.slice (some ⟨g,0,none⟩) (b.xs.length+c.ys.length) oK) w' ->
      Wd w w' L nl (λs=>s=d\/s=so\/c.s=some s)->(∀k s q,w.heap.size<=k->nl k = .own s q->s=d/\q=[0]/\k=w.heap.size/\kept=false) ->
      aP (fS d so c.s kept (b.xs.length*t.sz) (c.ys.length*t.sz) (jd b.n c.n)) w L nl g = .own d [0] ->
      w'.heap[g]?=some (.cells cur' e (0,0))->b.xs.length+c.ys.length<=oK->oK<=maxLen->cur'.size=oK*t.sz ->
      (∀k,L k ≠ .free->L k ≠ .own so [0]->w'.heap[k]?=w.heap[k]?) ->
      (∀i,i<b.xs.length*t.sz->cur'[i]?=gZ[i]?)->(∀i,i<c.ys.length*t.sz->cur'[b.xs.length*t.sz+i]?=news[i]?) ->
      (∀(L':Nat->aj) (w':World) (m:Nat),m<=b.n->(∀k,L k = .al->L' k = .al/\w'.heap[k]?=w.heap[k]?) ->
       (∀k y rest,y<b.xs.length*t.sz->L k = .own so (0::y::rest)->w'.heap[k]?=w.heap[k]?/\(rest.length<m->L' k = .own d (0::y::rest))/\(m<=rest.length->L' k = .al)) ->
       ∀j (h:j<b.xs.length),Own w' L' (SL L' none) d m t (b.xs[j]) [0] (j*t.sz) ((gZ.drop (j*t.sz)).take t.sz)) ->
      Step P o w0 L0 N vs (ah T ((b.s.toList++c.s.toList).map (λs=>(s,V.dead))++[(d,.d none (jd b.n c.n+1) (.slice e t) (b.xs++c.ys))])) a w:=by
     intro kept nl w' g oK cur' gZ aJ hw agz fX Hp Bk afI nL hold dN eW rz;have uk:(execOp a.eval o).run P w = .ok (.value (.slice (some ⟨g,0,none⟩) (b.xs.length+c.ys.length) oK)) w':=by
      simp[execOp,ho,resolve,invoke,builtin,aJ]
     refine Step.value av uk (Inv.app (b1:=b.xs.length*t.sz) (b2:=c.ys.length*t.sz) (m:=jd b.n c.n) hI hd hid TH (λs hs=>⟨(nV s hs).1,(nV s hs).2.1⟩) hw agz rfl (by simp[V.aD,Ty.depth]) (λT' tm'=>?_));refine⟨by simp,_,rfl,?_⟩;simp only[Own];refine .inr ⟨g,oK,cur',by rw[List.length_append],by simpa using fX,Hp,by rw[List.length_append];exact Bk,afI,nL,λj hj=>?_⟩;have aX:∀k,L k = .al->aP (fS d so c.s kept (b.xs.length*t.sz) (c.ys.length*t.sz) (jd b.n c.n)) w L nl k = .al/\w'.heap[k]?=w.heap[k]? :=
      λk hk=>⟨dQ hI hk,hold k (by rw[hk];simp) (by rw[hk];simp)⟩
     by_cases S3:j<b.xs.length
     ·rw[List.getElem_append_left S3];have H0:(cur'.toList.drop (j*t.sz)).take t.sz=(gZ.drop (j*t.sz)).take t.sz:=p9 λk hk=>by
       have:(j+1)*t.sz<=b.xs.length*t.sz:=Nat.mul_le_mul_right _ (by omega);rw[Nat.add_mul,Nat.one_mul]at this;rw[Array.getElem?_toList];exact dN _ (by omega)
      rw[H0];refine rz _ w' _ Rb.1 aX (λk y rest hy hk=>?_) j S3;have gp:aP (fS d so c.s kept (b.xs.length*t.sz) (c.ys.length*t.sz) (jd b.n c.n)) w L nl k=if rest.length<jd b.n c.n then .own d (0::y::rest)else .al:=by
       rw[cM hI (by rw[hk];simp),hk];simp[ef,fS,hy]
      refine⟨hold k (by rw[hk];simp) (by rw[hk];simp),λh=>?_,λh=>?_⟩
      ·rw[gp,if_pos h]
      ·rw[gp,if_neg (by omega)]
     ·rw[List.getElem_append_right (by omega)];have Ht:j - b.xs.length<c.ys.length:=by rw[List.length_append]at hj;omega
      have Bx:j*t.sz=b.xs.length*t.sz+(j - b.xs.length)*t.sz:=by rw[<-Nat.add_mul];congr 1;omega
      have H0:(cur'.toList.drop (j*t.sz)).take t.sz=(news.drop ((j - b.xs.length)*t.sz)).take t.sz:=p9 λk hk=>by
       have:(j - b.xs.length+1)*t.sz<=c.ys.length*t.sz:=Nat.mul_le_mul_right _ (by omega);rw[Nat.add_mul,Nat.one_mul]at this;rw[Array.getElem?_toList,Bx,Nat.add_assoc];exact eW _ (by omega)
      rw[H0,Bx];refine bn _ w' d (b.xs.length*t.sz) _ (λk hk=>Rb.2 k hk) aX (λs k y rest hs hy hk=>?_) _ Ht;have gp:aP (fS d so c.s kept (b.xs.length*t.sz) (c.ys.length*t.sz) (jd b.n c.n)) w L nl k=if rest.length<jd b.n c.n then .own d (0::(b.xs.length*t.sz+y)::rest)else .al:=by
       rw[cM hI (by rw[hk];simp),hk];simp[ef,fS,a8 s hs,hs,hy]
      refine⟨hold k (by rw[hk];simp) (by rw[hk];simp),λh=>?_,λh=>?_⟩
      ·rw[gp,if_pos h]
      ·rw[gp,if_neg (by omega)]
    have grow:∀(bs:Option Addr) (sc:Nat) (gZ:List Value),a.eval sO = .slice bs b.xs.length sc->sc<b.xs.length+c.ys.length->gZ.length=b.xs.length*t.sz ->
      (Builtin.firstCells i.size b.xs.length (.slice bs b.xs.length sc)).run P w.drew = .ok gZ.toArray w.drew ->
      (∀(L':Nat->aj) (w':World) (m:Nat),m<=b.n->(∀k,L k = .al->L' k = .al/\w'.heap[k]?=w.heap[k]?) ->
       (∀k y rest,y<b.xs.length*t.sz->L k = .own so (0::y::rest)->w'.heap[k]?=w.heap[k]?/\(rest.length<m->L' k = .own d (0::y::rest))/\(m<=rest.length->L' k = .al)) ->
       ∀j (h:j<b.xs.length),Own w' L' (SL L' none) d m t (b.xs[j]) [0] (j*t.sz) ((gZ.drop (j*t.sz)).take t.sz)) ->
      Step P o w0 L0 N vs (ah T ((b.s.toList++c.s.toList).map (λs=>(s,V.dead))++[(d,.d none (jd b.n c.n+1) (.slice e t) (b.xs++c.ys))])) a w:=by
     intro bs sc gZ cK au Tp afX rz;have aJ:=aeD (P:=P) (w:=w) (ty:=o.type) (X2:=X2) hu i1 i4 afX (by rw[i2];exact cL) au rK (by rw[i3];exact hg);rw[<-cK]at aJ;have kX:=grownCap_ge w (b.xs.length+c.ys.length) sc e;have fY:=grownCap_le_maxLen w (b.xs.length+c.ys.length) sc e rK;have hL1:(gZ++news).length=(b.xs.length+c.ys.length)*t.sz:=by rw[List.length_append,Tp,fI,Nat.add_mul]
     refine fin false (λk=>if k=w.heap.size then .own d [0]else .free) _ w.heap.size _ _ gZ aJ ?_ ?_ ?_ (nO w.drew _) kX fY ?_ ?_ ?_ ?_ rz
     ·refine⟨rfl,rfl,rfl,by simp,Nat.le_succ _,λk hk _=>Go.RowKit.Below.heap_alloc w.drew _ k hk,λk hk=>?_,λk s q hk h=>?_⟩
      ·simp at hk;rw[if_neg (by omega)]
      ·split at h
       ·injection h with h _;exact .inl h.symm
       ·cases h
     ·intro k s q hk h;split at h
      ·injection h with h1 h2;exact⟨h1.symm,h2.symm,by assumption,rfl⟩
      ·cases h
     ·unfold aP;rw[if_neg (by omega)];simp
     ·rw[Array.size_append,List.size_toArray,hL1,size_zeroCells,gv,<-Nat.add_mul];congr 1;omega
     ·exact λk hk _=>Go.RowKit.Below.heap_alloc w.drew _ k (hI.lt hk)
     ·intro k hk;rw[Array.getElem?_append_left (by simp only[List.size_toArray];rw[List.length_append];omega),List.getElem?_toArray,List.getElem?_append_left (by omega)]
     ·intro k hk;rw[Array.getElem?_append_left (by simp only[List.size_toArray];rw[List.length_append];omega),List.getElem?_toArray,List.getElem?_append_right (by omega),Tp];congr 1;omega
    simp only[Own]at SI;rcases SI with⟨fH,iI⟩|⟨g,cap,cur,cT,hL,Br,h5,h6,h7,h8⟩
    ·have fH:a.eval sO=_:=(List.cons.inj fH).1;by_cases hy:c.ys=[]
     ·have agS:fo P i.size X2 (a.eval xO) 0 [] w:=by
       rw[hy]at cL fI;have:news=[]:=List.eq_nil_of_length_eq_zero (by simpa using fI);rw[this]at cL;rw[i2];exact cL
      have aJ:=aeE (P:=P) (ty:=o.type) hu i1 agS;rw[<-fH]at aJ;have uk:(execOp a.eval o).run P w = .ok (.value (a.eval sO)) w:=by
       simp[execOp,ho,resolve,invoke,builtin,aJ]
      refine Step.value av uk (Inv.app (kept:=false) (b1:=0) (b2:=0) (m:=0) (nl:=λ_=>.free) hI hd hid TH (λs hs=>⟨(nV s hs).1,(nV s hs).2.1⟩) (Wd.refl hI _) (λk s q _ h=>by cases h) rfl (by simp[V.aD,Ty.depth]) (λT' tm'=>?_));refine⟨by simp,_,rfl,?_⟩;simp only[Own];exact .inl ⟨by rw[fH],by rw[iI,hy];rfl⟩
     ·have HF:0<c.ys.length:=List.length_pos_iff.2 hy;have h0:b.xs.length=0:=by rw[iI];rfl
      refine grow none 0 [] (by rw[h0];exact fH) (by omega) (by rw[h0];simp) ?_ (λL' w' m _ _ _ j hj=>absurd hj (by omega));rw[h0];exact run_firstCells_none w.drew i.size 0 0 0
    ·have cT:a.eval sO=_:=(List.cons.inj cT).1;have hL:L g = .own so [0]:=by simpa using hL
     have hle:b.xs.length*t.sz<=cur.size:=by rw[h7];exact Nat.mul_le_mul_right _ h5
     have rz:∀(L':Nat->aj) (w':World) (m:Nat),m<=b.n->(∀k,L k = .al->L' k = .al/\w'.heap[k]?=w.heap[k]?) ->
       (∀k y rest,y<b.xs.length*t.sz->L k = .own so (0::y::rest)->w'.heap[k]?=w.heap[k]?/\(rest.length<m->L' k = .own d (0::y::rest))/\(m<=rest.length->L' k = .al)) ->
       ∀j (h:j<b.xs.length),Own w' L' (SL L' none) d m t (b.xs[j]) [0] (j*t.sz) (((cur.toList.take (b.xs.length*t.sz)).drop (j*t.sz)).take t.sz):=by
      intro L' w' m hm aX gp j hj;have hjb:j*t.sz+t.sz<=b.xs.length*t.sz:=by
       have:(j+1)*t.sz<=b.xs.length*t.sz:=Nat.mul_le_mul_right _ (by omega)
       rwa [Nat.add_mul,Nat.one_mul]at this
      have hw:((cur.toList.take (b.xs.length*t.sz)).drop (j*t.sz)).take t.sz=(cur.toList.drop (j*t.sz)).take t.sz:=p9 λk hk=>by
       rw[List.getElem?_take,if_pos (by omega)]
      rw[hw];refine Own.eL hm (λk hk=>?_) (λk y rest hy hk=>?_) (h8 j hj)
      ·rcases hk with hk|⟨_,_,hk,_⟩
       ·exact⟨.inl (aX k hk).1,(aX k hk).2⟩
       ·cases hk
      ·have aA:L k = .own so (0::(j*t.sz+y)::rest):=by simpa using hk
       have:=gp k (j*t.sz+y) rest (by omega) aA;exact⟨this.1,λh=>by simpa using this.2.1 h,λh=>.inl (this.2.2 h)⟩
     by_cases rM:b.xs.length+c.ys.length<=cap
     ·
      have Ho:b.xs.length*t.sz+news.length<=cur.size:=by
       rw[fI,<-Nat.add_mul,h7];exact Nat.mul_le_mul_right _ rM
      obtain⟨s1,s2,s3,s4,s5,cur',s6,s7,s8⟩:=Wx news (b.xs.length*t.sz) w cur e Br Ho;have ug:∀j,j<news.length->w.cell? ⟨g,b.xs.length*i.size+j,none⟩=cur[b.xs.length*t.sz+j]?:=by
       intro j hj;simp[World.cell?,Br,i2]
      have aJ:=aeF (P:=P) (w:=w) (ty:=o.type) (X2:=X2) (g:=g) hu i1 (by rw[i2];exact cL) rM
       (λj hj=>by rw[ug j hj,Array.getElem?_eq_getElem (by omega)];rfl) (λj hj=>by simp[World.frozen?,Br])
      rw[<-cT,i2]at aJ;have cF:g<w.heap.size:=hI.lt (by rw[hL];simp);refine fin true (λ_=>.free) _ g cap cur' (cur.toList.take (b.xs.length*t.sz)) aJ ?_ (λk s q _ h=>by cases h) ?_ s6 rM h6 (by rw[s7,h7]) ?_ ?_ ?_ rz
      ·refine⟨s1,s2,s3,by rw[s4];exact Nat.le_refl _,Nat.le_of_eq (Ww _ _ _).symm,λk hk h=>?_,λk _=>rfl,λk s q _ h=>by cases h⟩;exact s5 k (λe=>by subst e;exact h so [0] hL (.inr (.inl rfl)))
      ·rw[cM hI (by rw[hL];simp),hL];simp[ef,fS]
      ·intro k hk cU;exact s5 k (λe=>by subst e;exact cU hL)
      ·intro k hk;rw[s8,if_neg (by omega),List.getElem?_take,if_pos hk,Array.getElem?_toList]
      ·intro k hk;rw[s8,if_pos (by omega)];congr 1;omega
     ·
      have hlen:(cur.toList.take (b.xs.length*t.sz)).length=b.xs.length*t.sz:=by rw[List.length_take];simp;omega
      refine grow (some ⟨g,0,none⟩) cap _ cT (by omega) hlen ?_ rz;refine run_firstCells_some w.drew i.size b.xs.length ⟨g,0,none⟩ b.xs.length cap _ (by rw[hlen,i2]) (λj u hu=>?_);rw[List.getElem?_take]at hu;split at hu
      ·show w.cell? _=_;rw[show (⟨g,0,none⟩:Addr).add j=⟨g,j,none⟩by rw[Addr.add_lit,Nat.zero_add]];simp only[World.cell?,Br];simpa using hu
      ·cases hu
   ·exact h.elim
  ·exact h.elim
 ·exact h.elim
end
abbrev lM:=Nat×Option (Nat×(t:Ty)×t.den)
def RD(d i:Nat):Option (Nat×(t:Ty)×t.den)->Option V
 | some (n,⟨t,x⟩)=>if n≠0/\t.depth≠0 then some (.part d i n t x)else none
 | none=>none
def partsOf(d:Nat)(h:Nat->Option Nat):Nat->Nat->List lM->List ((Nat×Nat×Nat)×V)
 | _,_,[]=>[]
 | i,o,(sz,c)::l=>match h i,RD d i c with
  | some e,some v=>((e,o,sz),v)::partsOf d h (i+1) (o+sz) l
  | _,_=>partsOf d h (i+1) (o+sz) l
def gz:List lM->List lM
 | []=>[]
 | (sz,c)::l=>(sz,if AW c=true then none else c)::gz l
def uZ{α:Type}:List Nat->M α->M α
 | [],m=>m
 | s::l,m=>.get s λv=>.bc v.idle (uZ l m)
def WX(vs:List Nat)(N d s:Nat)(h:Nat->Option Nat):M (List (Nat×V)):=
 .get s λv=>match v with
 | .bB l =>
  if b9 (d::s::(partsOf d h 0 0 l).map (·.1.1))=true/\((partsOf d h 0 0 l).all λp=>decide (p.1.1<N))=true/\vs.contains s=false/\vs.contains d=true then
   uZ (d::(partsOf d h 0 0 l).map (·.1.1)) (.ret ((s,V.dead)::((partsOf d h 0 0 l).map (λp=>(p.1.1,p.2))++[(d,.bB (gz l))])))
  else .fail
 | _=>.fail
def RX(vs:List Nat)(d:Nat)(x:Operand)(i:Nat):M (List (Nat×V)):=
 match x with
 | .tmp s=>.get d λvd=>match vd with
  | .part r j n t y=>if r=s/\j=i/\vs.contains d=false/\n≠0/\t.depth≠0 then .ret [(d,.d none n t y)]else .fail
  | _=>.bc vd.idle (.get s λv=>match v with
   | .bB l=>match l[i]? with
    | some (_,some (n,⟨t,y⟩))=>if n=0\/t.depth=0 then .ret [(d,.d none n t y)]else .fail
    | _=>.fail
   | _=>.fail)
 | _=>.fail
def ko(s d:Nat)(ms:List (Nat×Nat×Nat)):Nat->List Nat->aj:=λr z =>
 if r=s then match z with
  | y::rest=>match ms.find? (λp=>decide (p.2.1<=y)&&decide (y<p.2.1+p.2.2))with
   | some p=>.own p.1 ((y - p.2.1)::rest)
   | none=>.other
  | []=>.other
 else if r=d\/r∈ms.map (·.1)then .other else .own r z
theorem vq{s d:Nat}{ms:List (Nat×Nat×Nat)}{r:Nat}{z:List Nat}{s':Nat}{z':List Nat}(h:ko s d ms r z = .own s' z'):
  (r=s/\∃p y rest,p∈ms/\z=y::rest/\p.2.1<=y/\y<p.2.1+p.2.2/\s'=p.1/\z'=(y - p.2.1)::rest)\/(r≠s/\r≠d/\r∉ms.map (·.1)/\s'=r/\z'=z):=by
 unfold ko at h;split at h
 ·rename_i hr;split at h
  ·rename_i y rest;split at h
   ·rename_i p hp;injection h with h1 h2;have hb:=List.find?_some hp;simp only[Bool.and_eq_true,decide_eq_true_eq]at hb;exact .inl ⟨hr,p,y,rest,List.mem_of_find?_eq_some hp,rfl,hb.1,hb.2,h1.symm,h2.symm⟩
   ·cases h
  ·cases h
 ·rename_i hr;split at h
  ·cases h
  ·rename_i hn;have hn:=not_or.1 hn;injection h with h1 h2;exact .inr ⟨hr,hn.1,hn.2,h1.symm,h2.symm⟩
theorem V7[ae]{s d b:Nat}{ms:List (Nat×Nat×Nat)}(hs:eC b ms)(hn:b9 (ms.map (·.1))=true):fe (ko s d ms) (λr=>r=s\/r=d\/r∈ms.map (·.1)):=by
 refine⟨λr z hX=>?_,λr z s' z' hX h=>?_,λr z r2 z2 s' z' h1 h2=>?_,λr z=>?_⟩
 ·have h1:=not_or.1 hX;unfold ko;rw[if_neg h1.1,if_neg h1.2]
 ·rcases vq h with⟨_,p,_,_,hp,_,_,_,rfl,_⟩|⟨h1,h2,h3,rfl,_⟩
  ·exact .inr (.inr (List.mem_map_of_mem hp))
  ·rcases hX with h|h|h
   ·exact absurd h h1
   ·exact absurd h h2
   ·exact absurd h h3
 ·rcases vq h1 with⟨rfl,p,y,rest,hp,rfl,b1,b2,rfl,rfl⟩|⟨g1,g2,g3,rfl,rfl⟩
  ·rcases vq h2 with⟨rfl,p',y',e9,cc,rfl,b1',b2',he,h3⟩|⟨_,_,g3,h3,_⟩
   ·have f1:=oS hn hp;have f2:=oS hn cc;rw[he]at f1;rw[f1]at f2;cases f2;simp only[List.cons.injEq]at h3;obtain⟨h3,rfl⟩:=h3;exact⟨rfl,by rw[show y=y' by omega]⟩
   ·exact absurd (h3▸List.mem_map_of_mem hp) g3
  ·rcases vq h2 with⟨_,p',_,_,cc,_,_,_,h3,_⟩|⟨_,_,_,h3,h4⟩
   ·exact absurd (h3▸List.mem_map_of_mem cc) g3
   ·exact⟨h3,h4⟩
 ·unfold ko
  repeat' split
  all_goals simp
theorem V6[ae]{s d b:Nat}{ms:List (Nat×Nat×Nat)}(hs:eC b ms)(hn:b9 (ms.map (·.1))=true){p:Nat×Nat×Nat}(hp:p∈ms){i:Nat}(hi:i<p.2.2){rest:List Nat}:
  ko s d ms s ((p.2.1+i)::rest) = .own p.1 (i::rest):=by
 unfold ko;rw[if_pos rfl];dsimp only;have hx:∃q,ms.find? (λq=>decide (q.2.1<=p.2.1+i)&&decide (p.2.1+i<q.2.1+q.2.2))=some q:=by
  rw[<-Option.isSome_iff_exists,List.find?_isSome];exact⟨p,hp,by simp;omega⟩
 obtain⟨q,hq⟩:=hx;have TB:=List.mem_of_find?_eq_some hq;have hb:=List.find?_some hq;simp only[Bool.and_eq_true,decide_eq_true_eq]at hb;have hqp:q=p:=by
  apply Classical.byContradiction;intro a8;by_cases h1:q.1=p.1
  ·have f1:=oS hn hp;have f2:=oS hn TB;rw[h1,f1]at f2;exact a8 (Option.some.inj f2).symm
  ·have:=hs.RK hn q p TB hp h1;omega
 subst hqp;rw[hq];simp only[aj.own.injEq,List.cons.injEq,and_true,true_and];omega
theorem Ch{d:Nat}{h:Nat->Option Nat}:{l:List lM}->{i o:Nat}->eC o ((partsOf d h i o l).map (·.1))
 | [],_,_=>trivial
 | (sz,c)::l,i,o=>by
  simp only[partsOf];split
  ·exact⟨Nat.le_refl _,Ch⟩
  ·exact eC.aqP (Nat.le_add_right _ _) Ch
 where
 eC.aqP:{b b':Nat}->{ms:List (Nat×Nat×Nat)}->b<=b'->eC b' ms->eC b ms
 | _,_,[],_,_=>trivial
 | _,_,_::_,h,h2=>⟨Nat.le_trans h h2.1,h2.2⟩
section
variable{P:Program}{C:Ctx}{w w' w0:World}{S S':Nat->Prop}{L L' L0:Nat->aj}{s N:Nat}{vs:List Nat}{T T':List V}{tm tm':Array Value}{a:Act}
theorem I2{d:Nat}{h:Nat->Option Nat}:{l:List lM}->{i o:Nat}->{dc:List Value}->eD w L s o l dc->∀p v,(p,v)∈partsOf d h i o l ->
  ∃j n t x u cs,v = .part d (i+j) n t x/\dc[j]?=some u/\t.sz=p.2.2/\Form t cs u/\Own w L (SL L none) s n t x [] p.2.1 cs
 | [],_,_,_,_,_,_,hm=>by simp[partsOf]at hm
 | (sz,c)::l,i,o,dc,hr,p,v,hm=>by
  obtain⟨u,ig,rfl,h1,h2⟩:=hr;have TE:(p,v)∈partsOf d h (i+1) (o+sz) l->∃j n t x u' cs,v = .part d (i+j) n t x/\(u::ig)[j]?=some u'/\t.sz=p.2.2/\Form t cs u'/\Own w L (SL L none) s n t x [] p.2.1 cs:=by
   intro hm;obtain⟨j,n,t,x,u',cs,e1,e2,e3,e4,e5⟩:=I2 h2 p v hm;exact⟨j+1,n,t,x,u',cs,by rw[e1,show i+1+j=i+(j+1)by omega],by simpa using e2,e3,e4,e5⟩
  simp only[partsOf]at hm;split at hm
  ·rename_i e v' he nW;rcases List.mem_cons.1 hm with hm|hm
   ·injection hm with hp hv;subst hp hv;unfold RD at nW;split at nW
    ·rename_i n t x;split at nW
     ·injection nW with nW;obtain⟨h3,cs,h4,h5⟩:=h1 n t x rfl;exact⟨0,n,t,x,u,cs,nW.symm,rfl,h3,h4,h5⟩
     ·cases nW
    ·cases nW
   ·exact TE hm
  ·exact TE hm
theorem Jf{s':Nat}(H:∀k,L k = .al->L' k = .al/\w'.heap[k]?=w.heap[k]?):{l:List lM}->{o:Nat}->{dc:List Value}->eD w L s o l dc->eD w' L' s' o (gz l) dc
 | [],_,_,h=>h
 | (sz,c)::l,o,dc,⟨v,ig,h1,h2,h3⟩=>by
  refine⟨v,ig,h1,λn t x hc=>?_,Jf H h3⟩;split at hc
  ·cases hc
  ·rename_i hco;obtain⟨h4,cs,h5,h6⟩:=h2 n t x hc;subst hc;refine⟨h4,cs,h5,?_⟩;have gP:¬n=0->t.depth=0:=by simpa[AW]using hco
   have hn:n=0\/t.depth=0:=by omega
   rcases hn with hn|hn
   ·subst hn;refine Own.du (Rd.move (λk hk=>?_) (Own.ee h6));rcases hk with hk|⟨_,_,hk,_⟩
    ·exact⟨.inl (H k hk).1,(H k hk).2⟩
    ·cases hk
   ·exact Own.flat hn h6
theorem WU:{l:List lM}->{o i:Nat}->{dc:List Value}->{sz n:Nat}->{t:Ty}->{x:t.den}->eD w L s o l dc->l[i]?=some (sz,some (n,⟨t,x⟩))->∃o' u cs,dc[i]?=some u/\Form t cs u/\Own w L (SL L none) s n t x [] o' cs
 | [],_,_,_,_,_,_,_,_,h=>by simp at h
 | (fa,c)::l,o,0,dc,sz,n,t,x,⟨v,ig,h1,h2,h3⟩,h=>by
  simp only[List.getElem?_cons_zero,Option.some.injEq,Prod.mk.injEq]at h;obtain⟨_,cs,h5,h6⟩:=h2 n t x h.2;exact⟨o,v,cs,by rw[h1];rfl,h5,h6⟩
 | (fa,c)::l,o,i+1,dc,sz,n,t,x,⟨v,ig,h1,h2,h3⟩,h=>by
  obtain⟨o',u,cs,e1,e2,e3⟩:=WU h3 (by simpa using h);exact⟨o',u,cs,by rw[h1];simpa using e1,e2,e3⟩
theorem BF{α:Type}{m:M α}{x:α}:{l:List Nat}->{log:List Nat}->(uZ l m).ai T x log->(∀s∈l,(T.getD s .dead).idle=true)/\∃ay,m.ai T x ay
 | [],log,h=>⟨by simp,log,h⟩
 | s::l,log,h=>by
  obtain⟨ay,rfl,hc,h⟩:=h;obtain⟨h1,h2⟩:=BF h;exact⟨λs' hs=>by rcases List.mem_cons.1 hs with rfl|hs;exact hc;exact h1 s' hs,h2⟩
theorem rh[ae]{ups:List (Nat×V)}(hn:b9 (ups.map (·.1))=true){s:Nat}{v:V}(hm:(s,v)∈ups){T:List V}(hs:s<T.length):(ah T ups).getD s .dead=v:=by
 unfold ah;induction ups generalizing T with
 | nil=>cases hm
 | cons u l ih =>
  simp only[List.map_cons,b9,Bool.and_eq_true,Bool.not_eq_true']at hn;simp only[List.foldl_cons];rcases List.mem_cons.1 hm with rfl|hm
  ·have:=eF l (T.set s v) s (λh=>by
    have h2:=List.contains_iff_mem.2 h;rw[hn.1]at h2;cases h2)
   unfold ah at this;rw[this,az,if_pos ⟨rfl,hs⟩]
  ·exact ih hn.2 hm (by simpa using hs)
theorem IS{l:List Nat}:b9 l=true->l.Nodup:=by
 induction l with
 | nil=>intro _;exact List.nodup_nil
 | cons x l ih =>
  intro h;simp only[b9,Bool.and_eq_true,Bool.not_eq_true']at h;refine List.nodup_cons.2 ⟨λhm=>?_,ih h.2⟩;rw[List.contains_iff_mem.2 hm]at h;cases h.1
theorem vl{l:List Nat}:l.Nodup->b9 l=true:=by
 induction l with
 | nil=>intro _;rfl
 | cons x l ih =>
  intro h;obtain⟨h1,h2⟩:=List.nodup_cons.1 h;simp only[b9,Bool.and_eq_true,Bool.not_eq_true',ih h2,and_true];rw[Bool.eq_false_iff];intro hc;exact h1 (List.contains_iff_mem.1 hc)
theorem ak1[ae](hI:Inv w0 L0 N vs T a w L){o:Oper}{d s:Nat}{h:Nat->Option Nat}{ups:List (Nat×V)}{log:List Nat}(ho:pz o (.tmp s))(av:o.dst=some d)(hd:d<N)
  (hr:(WX vs N d s h).ai T ups log):Step P o w0 L0 N vs (ah T ups) a w:=by
 obtain⟨ay,rfl,hr⟩:=hr;dsimp only at hr;have hs:=hI.aS s;generalize hv:T.getD s .dead=v at hr hs;split at hr
 ·rename_i l;split at hr
  ·rename_i hc;obtain⟨cF,au,iH,rD⟩:=hc;obtain⟨jk,log2,hr⟩:=BF hr;obtain⟨rfl,_⟩:=hr;obtain⟨dc,dK,dr⟩:=hs;generalize lj:partsOf d h 0 0 l=ps at cF au jk;have uR:eC 0 (ps.map (·.1)):=by rw[<-lj];exact Ch
   have uI:=IS cF;have iG:ps.map (·.1.1)=(ps.map (·.1)).map (·.1):=by rw[List.map_map];rfl
   obtain⟨SS,agy⟩:=List.nodup_cons.1 uI;obtain⟨jY,pd⟩:=List.nodup_cons.1 agy;have gN:d≠s:=λe=>SS (by rw[e];simp);have ch:d∉ps.map (·.1.1):=λe=>SS (List.mem_cons_of_mem _ e);have uH:b9 ((ps.map (·.1)).map (·.1))=true:=by rw[<-iG];exact vl pd
   have arn:(T.getD s .dead).aD=true:=by rw[hv];rfl
   have bW:s<N:=by
    apply Classical.byContradiction;intro kX;rw[dW (by rw[hI.len];omega)]at hv;cases hv
   let U:List (Nat×V):=(s,V.dead)::(ps.map (λp=>(p.1.1,p.2))++[(d,.bB (gz l))]);have hU:U.map (·.1)=s::(ps.map (·.1.1)++[d]):=by simp[U,List.map_map,Function.comp_def]
   have nK:b9 (U.map (·.1))=true:=by
    rw[hU];refine vl (List.nodup_cons.2 ⟨λhm=>?_,?_⟩)
    ·rcases List.mem_append.1 hm with hm|hm
     ·exact jY hm
     ·exact gN (List.mem_singleton.1 hm).symm
    ·rw[List.nodup_append];refine⟨pd,by simp,λx hx y hy e=>?_⟩;rw[List.mem_singleton]at hy;subst e hy;exact ch hx
   have bJ:(ah T U).getD s .dead = .dead:=rh nK (by simp[U]) (by rw[hI.len];exact bW);have bO:(ah T U).getD d .dead = .bB (gz l):=rh nK (by simp[U]) (by rw[hI.len];exact hd);have oW:∀p v,(p,v)∈ps->(ah T U).getD p.1 .dead=v:=by
    intro p v hp;refine rh nK ?_ ?_
    ·refine List.mem_cons_of_mem _ (List.mem_append_left _ (List.mem_map.2 ⟨(p,v),hp,rfl⟩))
    ·rw[List.all_eq_true]at au;rw[hI.len];simpa using au _ hp
   have bg:∀z,¬(z=s\/z=d\/z∈(ps.map (·.1)).map (·.1))->(ah T U).getD z .dead=T.getD z .dead:=by
    intro z hz;refine eF _ _ _ ?_;rw[hU,iG];intro hm;rcases List.mem_cons.1 hm with hm|hm
    ·exact hz (.inl hm)
    ·rcases List.mem_append.1 hm with hm|hm
     ·exact hz (.inr (.inr hm))
     ·exact hz (.inr (.inl (List.mem_singleton.1 hm)))
   have pg:∀p v,(p,v)∈ps->∃j n t x u cs,v = .part d j n t x/\dc.toList[j]?=some u/\t.sz=p.2.2/\Form t cs u/\Own w L (SL L none) s n t x [] p.2.1 cs:=by
    intro p v hp;rw[<-lj]at hp;obtain⟨j,n,t,x,u,cs,e1,e2⟩:=I2 dr p v hp;exact⟨0+j,n,t,x,u,cs,e1,by rw[Nat.zero_add];exact e2⟩
   have fE:∀z,z∈(ps.map (·.1)).map (·.1)->∃p v,(p,v)∈ps/\p.1=z:=by
    intro z hz;rw[<-iG]at hz;obtain⟨⟨p,v⟩,hp,rfl⟩:=List.mem_map.1 hz;exact⟨p,v,hp,rfl⟩
   refine Step.value av (sa ho) (Inv.gf (T':=ah T U) (f:=ko s d (ps.map (·.1))) (X:=λz=>z=s\/z=d\/z∈(ps.map (·.1)).map (·.1)) (nl:=λ_=>.free) hI (V7 uR uH) (Wd.refl hI _) (λ_ _ _ _ _ h=>by cases h) (by simp[Act.put,hI.size]) (by rw[cj,hI.len]) hI.dy ?_ ?_ ?_ ?_ ?_)
   ·intro k z q hz hk;rcases hz with rfl|rfl|hz
    ·exfalso;unfold aP at hk;split at hk
     ·obtain⟨s0,q0,e0,f0⟩:=ey hk;rcases vq f0 with⟨_,p,_,_,hp,_,_,_,h7,_⟩|⟨h1,_,_,h7,_⟩
      ·exact jY (by rw[iG,h7];exact List.mem_map_of_mem hp)
      ·exact h1 h7.symm
     ·cases hk
    ·rw[bO];rfl
    ·obtain⟨p,v,hp,rfl⟩:=fE z hz;rw[oW p v hp];obtain⟨j,n,t,x,u,cs,rfl,_⟩:=pg p v hp;rfl
   ·intro z r hz af hr;rcases hr with rfl|hr
    ·exfalso;have:=hI.roots z _ af;rw[List.contains_iff_mem.2 this]at iH;cases iH
    ·refine V.jy (jk r ?_);rcases hr with rfl|hr
     ·simp
     ·rw[iG];exact List.mem_cons_of_mem _ hr
   ·intro z hz;refine⟨bg z hz,?_⟩;show (a.tmps.setIfInBounds d _).getD z undef=_;rw[dG,if_neg (λe=>hz (.inr (.inl e.1)))]
   ·intro z r hz af;rcases hz with rfl|rfl|hz
    ·rw[bJ]at af;simp[V.on,V.root]at af
    ·rw[bO]at af;simp[V.on,V.root]at af
    ·obtain⟨p,v,hp,rfl⟩:=fE z hz;rw[oW p v hp]at af;obtain⟨j,n,t,x,u,cs,rfl,_⟩:=pg p v hp;simp only[V.on,V.root,beq_iff_eq,Option.some.injEq]at af;subst af;exact List.contains_iff_mem.1 rD
   ·intro z hz;have fJ:(a.put (some d) (a.eval (.tmp s))).tmps.getD d undef=a.tmps.getD s undef:=by
     show (a.tmps.setIfInBounds d _).getD d undef=_;rw[dG,if_pos ⟨rfl,by rw[hI.size];exact hd⟩];rfl
    rcases hz with rfl|rfl|hz
    ·rw[bJ];trivial
    ·rw[bO,fJ];exact⟨dc,dK,Jf (λk hk=>⟨dQ hI hk,rfl⟩) dr⟩
    ·obtain⟨p,v,hp,rfl⟩:=fE z hz;rw[oW p v hp];obtain⟨j,n,t,x,u,cs,rfl,e2,e3,e4,e5⟩:=pg p v hp;refine⟨by rw[bO];rfl,dc,u,cs,by rw[fJ];exact dK,by simpa using e2,e4,?_⟩;refine Own.move (λk hk=>?_) (λk i rest hi hk=>⟨?_,rfl⟩) e5
     ·rcases hk with hk|⟨_,_,hk,_⟩
      ·exact⟨.inl (dQ hI hk),rfl⟩
      ·cases hk
     ·have aA:L k = .own s ((p.2.1+i)::rest):=by simpa using hk
      rw[cM hI (by rw[aA];simp),aA];have:=V6 (s:=s) (d:=d) uR uH (List.mem_map_of_mem (f:=(·.1)) hp) (i:=i) (by rw[<-e3];exact hi) (rest:=rest);simpa[ef]using this
  ·exact hr.elim
 ·exact hr.elim
theorem akU[ae](hI:Inv w0 L0 N vs T a w L){o:Oper}{x:Operand}{d i:Nat}{ups:List (Nat×V)}{log:List Nat}(ho:o.op = .extract x i)(av:o.dst=some d)(hd:d<N)
  (hr:(RX vs d x i).ai T ups log):Step P o w0 L0 N vs (ah T ups) a w:=by
 cases x with
 | tmp s =>
  obtain⟨ay,rfl,hr⟩:=hr;dsimp only at hr;have bH:=hI.aS d;generalize HX:T.getD d .dead=vd at hr bH;split at hr
  ·rename_i r j n t y;split at hr
   ·rename_i hc;obtain⟨rfl,rfl,rD,hn,afO⟩:=hc;obtain⟨rfl,_⟩:=hr;obtain⟨h0,dc,u,cs,h1,h2,h3,h4⟩:=bH;have aJ:(execOp a.eval o).run P w = .ok (.value u) w:=by
     have:a.eval (.tmp r) = .tuple dc:=h1;simp[execOp,ho,this,Instr.extract,h2]
    have hT:∀z,(ah T [(d,V.d none n t y)]).getD z .dead=if z=d/\d<T.length then V.d none n t y else T.getD z .dead:=λz=>az _ _ _ _ _
    have o3:d<T.length:=by rw[hI.len];exact hd
    refine Step.value av aJ (Inv.upd (λz=>z=d) hI (by simp[Act.put,hI.size]) (by rw[cj,hI.len]) hI.dy hI.fr hI.free hI.inj ?_ (λ_ _ _ _=>⟨rfl,rfl⟩) ?_ ?_ ?_ ?_)
    ·intro k z q hk;rw[hT];split
     ·simp[V.aD,hn,afO]
     ·exact hI.owner k z q hk
    ·intro z hz;refine⟨by rw[hT,if_neg (λe=>hz e.1)],?_⟩;show (a.tmps.setIfInBounds d _).getD z undef=_;rw[dG,if_neg (λe=>hz e.1)]
    ·intro z r' af;rw[hT]at af;split at af
     ·simp[V.on,V.root]at af
     ·exact hI.roots z r' af
    ·intro z r' hz af lg;have br:r'≠d:=by
      rintro rfl
      have:=hI.roots z _ af;rw[List.contains_iff_mem.2 this]at rD;cases rD
     refine⟨by rw[hT,if_neg (λe=>br e.1)],?_⟩;show (a.tmps.setIfInBounds d _).getD r' undef=_;rw[dG,if_neg (λe=>br e.1)]
    ·intro z hz;subst hz;rw[hT,if_pos ⟨rfl,o3⟩];have:(a.put (some z) u).tmps.getD z undef=u:=by
      show (a.tmps.setIfInBounds z _).getD z undef=_;rw[dG,if_pos ⟨rfl,by rw[hI.size];exact hd⟩]
     rw[this];exact⟨by simp,cs,h3,h4⟩
   ·exact hr.elim
  ·obtain⟨hid,log2,rfl,hr⟩:=hr;dsimp only at hr;have hs:=hI.aS s;generalize hv:T.getD s .dead=v at hr hs;split at hr
   ·rename_i l;split at hr
    ·rename_i sz n t y hl;split at hr
     ·rename_i hn;obtain⟨rfl,_⟩:=hr;obtain⟨dc,h1,h2⟩:=hs;obtain⟨o',u,cs,e1,e2,e3⟩:=WU h2 hl;have e1:dc[i]?=some u:=by simpa using e1
      have aJ:(execOp a.eval o).run P w = .ok (.value u) w:=by
       have:a.eval (.tmp s) = .tuple dc:=h1;simp[execOp,ho,this,Instr.extract,e1]
      have bX:aH P o vs T a w L d (.d none n t y):=aH.still hI aJ (λ_=>rfl) ⟨by simp,cs,e2,Own.bp hn e3 hn⟩;intro K Q hK;exact aH.inv hI hd (by rw[HX];exact hid) av bX hK
     ·exact hr.elim
    ·exact hr.elim
   ·exact hr.elim
 | const c=>exact hr.elim
 | func f=>exact hr.elim
 | global g=>exact hr.elim
end
def iQ(r s:Nat)(v:V):Nat->List V->List (Nat×V)
 | _,[]=>[]
 | i,u::l=>cond (i==s) ((i,v)::iQ r s v (i+1) l) (cond (i==r||u.on r) ((i,.dead)::iQ r s v (i+1) l) (iQ r s v (i+1) l))
def vI(r s:Nat):Nat->List V->Bool
 | _,[]=>true
 | i,u::l=>(i==s||i==r || !(u.on r&&u.aD))&&vI r s (i+1) l
def sC(N:Nat):List Nat->M (List (Nat×V))->M (List (Nat×V))
 | [],m=>m
 | s::l,m=>.get s λv=>match v with
  | .view r [] _=>.get r λu=>match u with
   | .d none n t x =>
    if n≠0/\t.depth≠0/\s<N/\s≠r then
     (allM 0 N).bind λTs=>.bc (vI r s 0 Ts) (((sC N l m).mK (ah Ts (iQ r s (.d none n t x) 0 Ts))).bind λups=>.ret (iQ r s (.d none n t x) 0 Ts++ups))
    else sC N l m
   | _=>sC N l m
  | _=>sC N l m
section
variable{P:Program}{C:Ctx}{w w' w0:World}{S S':Nat->Prop}{L L' L0:Nat->aj}{s N:Nat}{vs:List Nat}{T T':List V}{tm tm':Array Value}{a:Act}
theorem sq{r s:Nat}{v:V}:{i:Nat}->{l:List V}->(z:Nat)->(u:V)->((z,u)∈iQ r s v i l↔i<=z/\z<i+l.length/\((z=s/\u=v)\/(z≠s/\u = .dead/\(z=r\/(l.getD (z - i) .dead).on r=true))))
 | i,[],z,u=>by simp[iQ];omega
 | i,u0::l,z,u=>by
  have ih:=sq (r:=r) (s:=s) (v:=v) (i:=i+1) (l:=l) z u;have dP:i+1<=z->(u0::l).getD (z - i) .dead=l.getD (z - (i+1)) .dead:=λh=>by
   rw[show z - i=(z - (i+1))+1 by omega,List.getD_cons_succ]
  have HJ:(z,u)∈iQ r s v (i+1) l->i<=z/\z<i+(u0::l).length/\((z=s/\u=v)\/(z≠s/\u = .dead/\(z=r\/((u0::l).getD (z - i) .dead).on r=true))):=by
   intro h;obtain⟨h1,h2,h3⟩:=ih.1 h;rw[dP h1];exact⟨by omega,by simp only[List.length_cons];omega,h3⟩
  have ru:z≠i->i<=z/\z<i+(u0::l).length/\((z=s/\u=v)\/(z≠s/\u = .dead/\(z=r\/((u0::l).getD (z - i) .dead).on r=true)))->(z,u)∈iQ r s v (i+1) l:=by
   rintro hz ⟨h1,h2,h3⟩
   simp only[List.length_cons]at h2;rw[dP (by omega)]at h3;exact ih.2 ⟨by omega,by omega,h3⟩
  simp only[iQ];cases hc:(i==s)with
  | true =>
   have hi:i=s:=by simpa using hc
   simp only[cond_true,List.mem_cons,Prod.mk.injEq];constructor
   ·rintro (⟨rfl,rfl⟩|h)
    ·exact⟨Nat.le_refl _,by simp,.inl ⟨hi,rfl⟩⟩
    ·exact HJ h
   ·intro h;by_cases hz:z=i
    ·obtain⟨_,_,h|h⟩:=h
     ·exact .inl ⟨hz,h.2⟩
     ·exact absurd (hz.trans hi) h.1
    ·exact .inr (ru hz h)
  | false =>
   have hi:i≠s:=by simpa using hc
   simp only[cond_false];cases eW:(i==r||u0.on r)with
   | true =>
    simp only[cond_true,List.mem_cons,Prod.mk.injEq];constructor
    ·rintro (⟨rfl,rfl⟩|h)
     ·refine⟨Nat.le_refl _,by simp,.inr ⟨hi,rfl,?_⟩⟩;rw[Nat.sub_self,List.getD_cons_zero];simpa using eW
     ·exact HJ h
    ·intro h;by_cases hz:z=i
     ·obtain⟨_,_,h|h⟩:=h
      ·exact absurd (hz.symm.trans h.1) hi
      ·exact .inl ⟨hz,h.2.1⟩
     ·exact .inr (ru hz h)
   | false =>
    simp only[cond_false];constructor
    ·exact HJ
    ·intro h;by_cases hz:z=i
     ·exfalso;obtain⟨_,_,h|h⟩:=h
      ·exact hi (hz.symm.trans h.1)
      ·simp only[Bool.or_eq_false_iff,beq_eq_false_iff_ne]at eW;subst hz;rw[Nat.sub_self,List.getD_cons_zero]at h;rcases h.2.2 with h|h
       ·exact eW.1 h
       ·rw[eW.2]at h;cases h
     ·exact ru hz h
theorem ak8[ae](hl:T.length=N){r s:Nat}{v:V}(hs:s<N)(z:Nat):(ah T (iQ r s v 0 T)).getD z .dead=if z=s then v else if z=r\/(T.getD z .dead).on r=true then .dead else T.getD z .dead:=by
 split
 ·rename_i hz;subst hz;exact gG (by rw[hl];exact hs) (List.mem_map.2 ⟨(z,v),(sq z v).2 ⟨Nat.zero_le _,by rw[Nat.zero_add,hl];exact hs,.inl ⟨rfl,rfl⟩⟩,rfl⟩) (λu hu=>by
   rcases ((sq z u).1 hu).2.2 with h|h
   ·exact h.2
   ·exact absurd rfl h.1)
 ·rename_i hz;split
  ·rename_i hc;by_cases nY:z<N
   ·exact gG (by rw[hl];exact nY) (List.mem_map.2 ⟨(z,.dead),(sq z .dead).2 ⟨Nat.zero_le _,by rw[Nat.zero_add,hl];exact nY,.inr ⟨hz,rfl,hc⟩⟩,rfl⟩) (λu hu=>by
     rcases ((sq z u).1 hu).2.2 with h|h
     ·exact absurd h.1 hz
     ·exact h.2.1)
   ·exact dW (by rw[cj,hl];omega)
  ·rename_i hc;refine eF _ _ _ (λhm=>?_);obtain⟨u,hu,he⟩:=List.mem_map.1 hm;subst he;rcases ((sq u.1 u.2).1 hu).2.2 with h|h
   ·exact hz h.1
   ·exact hc h.2.2
theorem WR{r s:Nat}:{i:Nat}->{l:List V}->vI r s i l=true->∀z,i+z≠s->i+z≠r->(l.getD z .dead).on r=true->(l.getD z .dead).aD=false
 | _,[],_,z,_,_,h=>by simp[V.on,V.root]at h
 | i,u::l,h,z,hs,hr,hc=>by
  simp only[vI,Bool.and_eq_true,Bool.or_eq_true,Bool.not_eq_true',beq_iff_eq]at h;cases z with
  | zero =>
   simp only[List.getD_cons_zero]at hc ⊢;rcases h.1 with h1|h1
   ·rcases h1 with h1|h1
    ·exact absurd h1 (by simpa using hs)
    ·exact absurd h1 (by simpa using hr)
   ·rw[hc,Bool.true_and]at h1;exact h1
  | succ z =>
   simp only[List.getD_cons_succ]at hc ⊢;exact WR h.2 z (by omega) (by omega) hc
theorem Inv.ala[ae](hI:Inv w0 L0 N vs T a w L){s r n:Nat}{t t':Ty}{x:t.den}(hs:T.getD s .dead = .view r [] t')(hr:T.getD r .dead = .d none n t x)(hn:n≠0)(hd:t.depth≠0)(bW:s<N)(bj:s≠r)
  (aI:vI r s 0 T=true):∃L',Inv w0 L0 N vs (ah T (iQ r s (.d none n t x) 0 T)) a w L':=by
 let kp:Nat->V->Bool:=λz v=>z != s&&z != r&&v.on r;have bu:=Inv.aiS hI (kp:=kp) (by
  unfold Vc;rw[List.all_eq_true];intro b hb;obtain⟨i,hi⟩:=List.mem_iff_getElem?.1 hb;simp only[List.getElem?_mapIdx,Option.map_eq_some_iff]at hi;obtain⟨v,hv,rfl⟩:=hi;have jT:T.getD i .dead=v:=by simp[List.getD_eq_getElem?_getD,hv]
  simp only[id_eq,Bool.or_eq_true];cases b8:v.root with
  | none=>exact .inr rfl
  | some q =>
   dsimp only;cases hk:kp q (T.getD q .dead)with
   | false=>exact .inr rfl
   | true =>
    right;simp only[kp,Bool.and_eq_true,bne_iff_ne]at hk;have:=WR aI q (by simpa using hk.1.1) (by simpa using hk.1.2) hk.2;rw[this];rfl)
 obtain⟨L1,bu⟩:=bu;have hg:∀z,(jt kp T).getD z .dead=if kp z (T.getD z .dead)=true then .dead else T.getD z .dead:=Sl kp T
 have jY:(jt kp T).getD s .dead = .view r [] t':=by rw[hg,if_neg (by simp[kp]),hs]
 have lk:(jt kp T).getD r .dead = .d none n t x:=by rw[hg,if_neg (by simp[kp]),hr]
 have cu:mJ r s (jt kp T)=true:=by
  unfold mJ;rw[List.all_eq_true];intro b hb;obtain⟨i,hi⟩:=List.mem_iff_getElem?.1 hb;simp only[List.getElem?_mapIdx,Option.map_eq_some_iff]at hi;obtain⟨v,hv,rfl⟩:=hi;have jT:(jt kp T).getD i .dead=v:=by simp[List.getD_eq_getElem?_getD,hv]
  simp only[id_eq,Bool.or_eq_true,beq_iff_eq,bne_iff_ne];by_cases nQ:i=s
  ·exact .inl nQ
  ·right;intro b8;rw[hg]at jT;split at jT
   ·subst jT;simp[V.root]at b8
   ·rename_i hk;by_cases S1:i=r
    ·subst S1;rw[hr]at jT;subst jT;simp[V.root]at b8
    ·apply hk;rw[jT];simp[kp,nQ,S1,V.on,b8]
 have HR:t'=t:=by
  have ba:=bu.aS s;rw[jY]at ba;obtain⟨ch,hh⟩:=ba;rcases hh with⟨_,_,l,n',x',h3,_⟩|⟨_,_,_,h,_⟩
  ·rw[lk]at h3;injection h3 with _ _ h3 _;exact h3.symm
  ·rw[lk]at h;simp[V.dm]at h
 obtain⟨L2,hI2⟩:=Inv.take bu (n:=n) (t:=t) (x:=x) (p:=[]) (log:=[]) (s:=s) (r:=r) (by rw[jY,HR]) bW (by rw[lk];exact⟨rfl,rfl⟩) hn hd cu
 ·refine⟨L2,?_⟩;have gq:(jt kp T).length=N:=bu.len;have:((jt kp T).set r .dead).set s (.d none n t x)=ah T (iQ r s (.d none n t x) 0 T):=by
   refine BQ (by rw[List.length_set,List.length_set,gq,cj,hI.len]) (λz=>?_);rw[ak8 hI.len bW,az,az,hg];by_cases hz:z=s
   ·subst hz;rw[if_pos ⟨rfl,by rw[List.length_set,gq];exact bW⟩,if_pos rfl]
   ·rw[if_neg (λe=>hz e.1),if_neg hz];by_cases dt:z=r
    ·subst dt;have nY:z<(jt kp T).length:=by
      apply Classical.byContradiction;intro kX;rw[dW (by rw[hI.len];rw[gq]at kX;omega)]at hr;cases hr
     rw[if_pos ⟨rfl,nY⟩,if_pos (.inl rfl)]
    ·rw[if_neg (λe=>dt e.1)];by_cases af:(T.getD z .dead).on r=true
     ·have hk:kp z (T.getD z .dead)=true:=by
       show (z != s&&z != r&&(T.getD z .dead).on r)=true;rw[af];simp[hz,dt]
      rw[if_pos hk,if_pos (.inr af)]
     ·have hk:¬kp z (T.getD z .dead)=true:=by
       show ¬(z != s&&z != r&&(T.getD z .dead).on r)=true;rw[Bool.not_eq_true]at af;rw[af];simp
      rw[if_neg hk,if_neg (λh=>h.elim dt af)]
  rw[<-this];exact hI2
theorem vN[ae]{w:World}{a:Act}{m:M (List (Nat×V))}:{ss:List Nat}->{T:List V}->{L:Nat->aj}->{ups:List (Nat×V)}->{log:List Nat}->Inv w0 L0 N vs T a w L->(sC N ss m).ai T ups log ->
  ∃T1 L1 bL log2,Inv w0 L0 N vs T1 a w L1/\m.ai T1 bL log2/\ah T ups=ah T1 bL
 | [],T,L,ups,log,hI,h=>⟨T,L,ups,log,hI,h,rfl⟩
 | s::l,T,L,ups,log,hI,h=>by
  obtain⟨ew,rfl,h⟩:=h;dsimp only at h;generalize bh:T.getD s .dead=v at h;split at h
  ·rename_i r t';obtain⟨log2,rfl,h⟩:=h;dsimp only at h;generalize uU:T.getD r .dead=u at h;split at h
   ·rename_i n t x;split at h
    ·rename_i hc;obtain⟨hn,hd,bW,bj⟩:=hc;obtain⟨Ts,l1,l2,rfl,dA,hk,h⟩:=M.ak h;have bJ:Ts=T:=by rw[kN dA (by rw[Nat.zero_add,hI.len])];rfl
     subst bJ;obtain⟨bL,l3,l4,rfl,h1,h2⟩:=M.ak h;obtain⟨rfl,_⟩:=h2;obtain⟨ay,h1⟩:=M.n9 h1;obtain⟨L',gI⟩:=Inv.ala hI bh uU hn hd bW bj hk;obtain⟨T1,L1,kG,fu,k1,k2,k3⟩:=vN gI h1;exact⟨T1,L1,kG,fu,k1,k2,by rw[kA];exact k3⟩
    ·exact vN hI h
   ·exact vN hI h
  ·exact vN hI h
end
def RY(C:Ctx)(X:TypeId)(f t:Nat):M V :=
 .ask (Gr t) (match oF C X with
  | some ta=>match bq f ta with
   | some (off,t1)=>.ret (.ptr t [.aW f off] t1)
   | none=>.fail
  | none=>.fail)
section
variable{P:Program}{C:Ctx}{w w' w0:World}{S S':Nat->Prop}{L L' L0:Nat->aj}{s N:Nat}{vs:List Nat}{T T':List V}{tm tm':Array Value}{a:Act}
theorem aeT{v:V}{c:Value}(hs:ax L T tm s v w c)(hb:v.eV=true):∃g,c = .pointer (some ⟨g,0,none⟩)/\L g = .own s []:=by
 cases v with
 | box l n t x =>
  obtain⟨_,g,cur,e,h1,h2,_⟩:=hs;exact⟨g,h1,h2⟩
 | hole u p =>
  cases u with
  | box l n t x =>
   obtain⟨_,_,_,_,_,_,_,h⟩:=hs;obtain⟨_,g,cur,e,h1,h2,_⟩:=h;exact⟨g,h1,h2⟩
  | _=>simp[V.eV]at hb
 | bK k n t x =>
  unfold V.eV at hb;split at hb
  ·rename_i he;cases he
  ·rename_i he;cases he
  ·rename_i he;cases he;cases t with
   | agg t =>
    obtain⟨g,cur,e,h1,h2,_⟩:=hs;exact⟨g,h1,h2⟩
   | _=>exact hs.elim
  ·cases hb
 | _=>simp[V.eV]at hb
theorem ajI[ae](hI:Inv w0 L0 N vs T a w L)(hC:bt P C){o:Oper}{X:TypeId}{t f d:Nat}{v:V}{log:List Nat}(ho:o.op = .fieldAddr X (.tmp t) f)
  (h:(RY C X f t).ai T v log) (bh:∀r,v.on r=true->r∈vs):aH P o vs T a w L d v:=by
 obtain⟨⟨hq,_⟩,ay,rfl,h⟩:=h;obtain⟨g,h1,h2⟩:=aeT (hI.aS t) (aeK hq);split at h
 ·rename_i ta jr;split at h
  ·rename_i off t1 hc;obtain⟨rfl,_⟩:=h;have fg:a.eval (.tmp t)=_:=h1;refine aH.ptr hI (g:=g) ?_ h2 bh;simp[execOp,ho,fg,Wo hC jr hc,node]
  ·exact h.elim
 ·exact h.elim
def lI(r:Nat)(q:List Nat)(o s:Nat):Nat->List Nat->aj:=λz q2 =>
 if z=r then match cut q q2 with
  | some (y::rest)=>if y=o then .own s (0::rest)else .own r q2
  | _=>.own r q2
 else if z=s then .other else .own z q2
theorem su[ae]{r s:Nat}{q:List Nat}{o:Nat}{z:Nat}{q2:List Nat}{z':Nat}{q3:List Nat}(h:lI r q o s z q2 = .own z' q3):
  (z=r/\∃rest,q2=q++o::rest/\z'=s/\q3=0::rest)\/(z=r/\z'=r/\q3=q2/\∀rest,q2≠q++o::rest)\/(z≠r/\z≠s/\z'=z/\q3=q2):=by
 unfold lI at h;split at h
 ·rename_i hz;split at h
  ·rename_i y rest hc;split at h
   ·rename_i hy;injection h with h1 h2;subst hy;exact .inl ⟨hz,rest,nv hc,h1.symm,h2.symm⟩
   ·rename_i hy;injection h with h1 h2;refine .inr (.inl ⟨hz,h1.symm,h2.symm,λe9 he=>?_⟩);rw[he,lT]at hc;simp only[Option.some.injEq,List.cons.injEq]at hc;exact hy hc.1.symm
  ·rename_i cu;injection h with h1 h2;refine .inr (.inl ⟨hz,h1.symm,h2.symm,λe9 he=>?_⟩);exact cu o e9 (by rw[he,lT])
 ·rename_i hz;split at h
  ·cases h
  ·rename_i hs;injection h with h1 h2;exact .inr (.inr ⟨hz,hs,h1.symm,h2.symm⟩)
theorem alf[ae]{r s:Nat}{q:List Nat}{o:Nat}{X:Nat->Prop}(hr:X r)(hs:X s)(gQ:r≠s):fe (lI r q o s) X:=by
 refine⟨λz q2 hX=>?_,λz q2 z' q3 hX h=>?_,λz q2 z2 q3 z' q4 h1 h2=>?_,λz q2=>?_⟩
 ·unfold lI;rw[if_neg (λe:z=r=>hX (e▸hr)),if_neg (λe:z=s=>hX (e▸hs))]
 ·rcases su h with⟨_,_,_,rfl,_⟩|⟨_,rfl,_⟩|⟨_,_,rfl,_⟩
  ·exact hs
  ·exact hr
  ·exact hX
 ·rcases su h1 with⟨rfl,rest,rfl,rfl,rfl⟩|⟨rfl,rfl,rfl,hn⟩|⟨g1,g2,rfl,rfl⟩
  ·rcases su h2 with⟨rfl,e9,rfl,_,he⟩|⟨rfl,he,_⟩|⟨_,g2,he,_⟩
   ·injection he with _ he;exact⟨rfl,by rw[he]⟩
   ·exact absurd he.symm gQ
   ·exact absurd he.symm g2
  ·rcases su h2 with⟨_,e9,_,he,_⟩|⟨rfl,_,he,_⟩|⟨g1,_,he,_⟩
   ·exact absurd he gQ
   ·exact⟨rfl,he⟩
   ·exact absurd he.symm g1
  ·rcases su h2 with⟨_,e9,_,he,_⟩|⟨_,he,_⟩|⟨_,_,h3,h4⟩
   ·exact absurd he g2
   ·exact absurd he g1
   ·exact⟨h3,h4⟩
 ·unfold lI
  repeat' split
  all_goals simp
theorem ale[ae]{r s:Nat}{q:List Nat}{o:Nat}{rest:List Nat}:lI r q o s r (q++o::rest) = .own s (0::rest):=by
 unfold lI;rw[if_pos rfl,lT];simp
theorem Cv[ae]{r s:Nat}{q:List Nat}{o:Nat}{q2:List Nat}(h:∀rest,q2≠q++o::rest):lI r q o s r q2 = .own r q2:=by
 unfold lI;rw[if_pos rfl];split
 ·rename_i y rest hc;split
  ·rename_i hy;subst hy;exact absurd (nv hc) (h rest)
  ·rfl
 ·rfl
theorem Jk{g o:Nat}{cur:Array Value}{e:TypeId}{v:Value}(h:w.heap[g]?=some (.cells cur e (0,0))):(w.setCell ⟨g,o,none⟩ v).heap[g]?=some (.cells (cur.setIfInBounds o v) e (0,0)):=by
 simp[World.setCell,Array.getElem?_modify,h]
theorem se{g o k:Nat}{v:Value}(h:k≠g):(w.setCell ⟨g,o,none⟩ v).heap[k]?=w.heap[k]?:=by
 simp only[World.setCell,Array.getElem?_modify];rw[if_neg (Ne.symm h)]
theorem ajm{p:List St}{k n:Nat}{t:Ty}{x:t.den}{l:Option Nat}{z:D}{log:List Nat}(h:(pL p k n t x).ai T (l,z) log):l=none:=by
 unfold pL at h;split at h
 ·split at h
  ·obtain⟨_,y,_,h⟩:=h;obtain⟨_,_,_,_,_,h⟩:=M.ak h;exact (Prod.mk.inj h.1).1
  ·exact h.elim
 ·split at h
  ·split at h
   ·obtain⟨_,_,_,_,_,h⟩:=M.ak h;exact (Prod.mk.inj h.1).1
   ·exact h.elim
  ·exact h.elim
 ·exact h.elim
theorem Wm{p:List St}{u:V}{l:Option Nat}{z:D}{log:List Nat}(h:(dp p u).ai T (l,z) log):u.root=l:=by
 cases u with
 | box l0 n t x =>
  obtain⟨zz,l1,l2,rfl,h1,h2⟩:=M.ak h;obtain⟨h2,_⟩:=h2;cases h2;rfl
 | d l0 n t x =>
  simp only[dp]at h;split at h
  ·obtain⟨zz,l1,l2,rfl,h1,h2⟩:=M.ak h;obtain⟨h2,_⟩:=h2;cases h2;rfl
  ·exact h.elim
 | dead=>exact h.elim
 | bB _=>exact h.elim
 | rp _ _ _=>exact h.elim
 | ptr _ _ _=>exact h.elim
 | view _ _ _=>exact h.elim
 | hole _ _=>exact h.elim
 | part _ _ _ _ _=>exact h.elim
 | bK _ _ _ _=>exact (ajm h).symm
 | same _ _=>exact h.elim
theorem Inv.ak9[ae](hI:Inv w0 L0 N vs T a w L){s r n:Nat}{p:List St}{u u':V}{e:TypeId}{te:Ty}{x:List te.den}{log log2:List Nat}(hs:T.getD s .dead = .view r p (.slice e te))(hr:T.getD r .dead=u)(hu:u.eV=true)(bW:s<N)(c8:r<N)
  (hz:(dp p u).ai T (none,⟨n,.slice e te,x⟩) log) (hm:(fw p u (.slice e te) []).ai T u' log2) (hn:n≠0) (cJ:∀z,z≠s->(T.getD z .dead).dV r=false) :
  ∃L',Inv w0 L0 N vs ((T.set r (.hole u' p)).set s (.d none n (.slice e te) x)) a w L':=by
 have b8:=Wm hz;obtain⟨lp,uL,uh,Bw⟩:=IH hm;have bj:=hI.aS s;rw[hs]at bj;have gQ:r≠s:=by
  rintro rfl
  rw[hs]at hr;subst hr;simp[V.eV]at hu
 have hzv:(p8 p (T.getD r .dead)).ai T (none,⟨n,.slice e te,x⟩) log:=by
  rw[hr];cases u with
  | box l0 n0 t0 x0=>exact hz
  | hole _ _=>exact hz
  | bK _ _ _ _=>exact hz
  | _=>simp[V.eV]at hu
 obtain⟨cs,hf,bn,_,ch⟩:=CB hI bj hzv;have ba:=hI.aS r;rw[hr]at ba;obtain⟨hb,_,_,gr,kY⟩:=ky hz ba;obtain⟨g,cur,e',k1,k2,k3,k4⟩:=hb;have bJ:((T.set r (.hole u' p)).set s (.d none n (.slice e te) x)).getD s .dead = .d none n (.slice e te) x:=by
  rw[az,if_pos ⟨rfl,by simp[hI.len,bW]⟩]
 have bw:((T.set r (.hole u' p)).set s (.d none n (.slice e te) x)).getD r .dead = .hole u' p:=by
  rw[az,if_neg (λh=>gQ h.1),az,if_pos ⟨rfl,by rw[hI.len];exact c8⟩]
 have bg:∀z,z≠r->z≠s->((T.set r (.hole u' p)).set s (.d none n (.slice e te) x)).getD z .dead=T.getD z .dead:=by
  intro z h1 h2;rw[az,if_neg (λh=>h2 h.1),az,if_neg (λh=>h1 h.1)]
 have mq:∀z,z≠s->(T.getD z .dead).on r=true->∃p' t',T.getD z .dead = .ptr r p' t'/\shallow p'=true:=by
  intro z gv af;have hb:=cJ z gv;unfold V.dV at hb;rw[af,Bool.true_and]at hb;generalize T.getD z .dead=v at hb af;cases v with
  | ptr r2 p2 t2 =>
   have:r2=r:=by simpa[V.on,V.root]using af
   subst this;exact⟨p2,t2,rfl,by simpa using hb⟩
  | _=>simp at hb
 refine⟨_,Inv.gf (f:=lI r (node [] 0 p).1 (node [] 0 p).2 s) (X:=λz=>z=r\/z=s\/(T.getD z .dead).on r=true) (nl:=λ_=>.free) hI (alf (.inl rfl) (.inr (.inl rfl)) gQ) (Wd.refl hI _) (λ_ _ _ _ _ h=>by cases h) hI.size (by simp[hI.len]) hI.dy ?_ ?_ ?_ ?_ ?_⟩
 ·intro k z q bR h;by_cases h1:z=r
  ·subst h1;rw[bw];rfl
  ·by_cases h2:z=s
   ·subst h2;rw[bJ];simp[V.aD,hn,Ty.depth]
   ·rw[bg z h1 h2];unfold aP at h;split at h
    ·obtain⟨s0,q0,e0,f0⟩:=ey h;rcases su f0 with⟨_,_,_,h3,_⟩|⟨_,h3,_⟩|⟨_,_,h3,h4⟩
     ·exact absurd h3 h2
     ·exact absurd h3 h1
     ·subst h3;exact hI.owner k _ _ e0
    ·cases h
 ·intro z r' bR af aV;have bR:=not_or.1 bR;have dj:=not_or.1 bR.2;rcases aV with rfl|rfl|aV
  ·exact absurd af dj.2
  ·rw[hs];rfl
  ·by_cases h2:r'=s
   ·subst h2;rw[hs];rfl
   ·obtain⟨p',t',he,_⟩:=mq r' h2 aV;rw[he];rfl
 ·intro z bR;have bR:=not_or.1 bR;have dj:=not_or.1 bR.2;exact⟨bg z bR.1 dj.1,rfl⟩
 ·intro z r' bR af;by_cases h1:z=r
  ·subst h1;rw[bw]at af;simp[V.on,V.root,lp,b8]at af
  ·by_cases h2:z=s
   ·subst h2;rw[bJ]at af;simp[V.on,V.root]at af
   ·rw[bg z h1 h2]at af;exact hI.roots z r' af
 ·intro z bR;by_cases h1:z=r
  ·subst h1;rw[bw];refine⟨by rw[lp,b8],g,cur,e',?_,k2,by simp only[Ty.sz]at k3;omega,?_⟩
   ·rw[cM hI (by rw[k1];simp),k1];exact Cv (λrest h=>by have:=congrArg List.length h;simp at this)
   ·refine IG (T2:=_) (cur:=cur) (e':=e') (g':=g) (cur':=cur.setIfInBounds (node [] 0 p).2 (.slice none 0 0)) ba hz hm (λr' aV=>by rw[b8]at aV;cases aV) ?_ ?_
    ·refine⟨λk hk=>?_,λk q2 hk hq HU=>?_,k1,?_,k2,Jk k2,by simp,λi hi=>?_,λk hk=>hI.inj k g z _ hk k1⟩
     ·rw[b8]at hk ⊢;rcases hk with hk|⟨_,_,hk,_⟩
      ·exact⟨.inl (dQ hI hk),se (by rintro rfl;rw[k1]at hk;cases hk)⟩
      ·cases hk
     ·refine⟨?_,se (by rintro rfl;rw[k1]at hk;injection hk with _ hk;exact hq hk.symm)⟩;rw[cM hI (by rw[hk];simp),hk];exact Cv (λrest h=>HU ⟨0,rest,by simp[Ty.sz],by simpa using h⟩)
     ·rw[cM hI (by rw[k1];simp),k1];exact Cv (λrest h=>by have:=congrArg List.length h;simp at this)
     ·rw[Array.getElem?_setIfInBounds,if_neg (by simp only[Ty.sz]at hi;omega)]
    ·have hc:((cur.setIfInBounds (node [] 0 p).2 (.slice none 0 0)).toList.drop (node [] 0 p).2).take (Ty.slice e te).sz=[.slice none 0 0]:=by
      simp only[Ty.sz]at k3 ⊢;apply List.ext_getElem?;intro i;rw[List.getElem?_take];split
      ·obtain rfl:i=0:=by omega
       rw[List.getElem?_drop,Nat.add_zero,Array.getElem?_toList,Array.getElem?_setIfInBounds,if_pos rfl,if_pos (by omega)];rfl
      ·exact (List.getElem?_eq_none (by simp;omega)).symm
     rw[hc];cases n with
     | zero=>exact absurd rfl hn
     | succ n=>simp only[Own];exact .inl (by constructor<;>first|trivial|rfl)
  ·by_cases h2:z=s
   ·subst h2;rw[bJ];refine⟨by simp,cs,hf,?_⟩;refine Own.move (λk hk=>?_) (λk d rest hd hk=>⟨?_,rfl⟩) bn
    ·rcases hk with hk|⟨_,_,hk,_⟩
     ·exact⟨.inl (dQ hI hk),rfl⟩
     ·cases hk
    ·simp only[Ty.sz]at hd;obtain rfl:d=0:=by omega
     rw[cM hI (by rw[hk];simp),hk];simp only[ef,Nat.add_zero,Nat.zero_add,List.nil_append];exact ale
   ·rw[bg z h1 h2];have af:(T.getD z .dead).on r=true:=by
     rcases bR with h|h|h
     ·exact absurd h h1
     ·exact absurd h h2
     ·exact h
    obtain⟨p',t',he,dP⟩:=mq z h2 af;have bd:=hI.aS z;rw[he]at bd ⊢;obtain⟨g2,j1,j2⟩:=bd;refine⟨g2,j1,?_⟩;rw[pU dP]at j2 ⊢;rw[cM hI (by rw[j2];simp),j2];exact Cv (λrest h=>by have:=congrArg List.length h;simp at this)
end
def pX:List St->List St->Bool
 | [],[]=>true
 | .aW i o::p,.aW i' o'::p'=>i==i'&&o==o'&&pX p p'
 | .idx s i::p,.idx s' i'::p'=>s==s'&&i==i'&&pX p p'
 | _,_=>false
theorem Jv:{p p':List St}->pX p p'=true->p=p'
 | [],[],_=>rfl
 | .aW i o::p,.aW i' o'::p',h=>by
  simp only[pX,Bool.and_eq_true,beq_iff_eq]at h;rw[h.1.1,h.1.2,Jv h.2]
 | .idx s i::p,.idx s' i'::p',h=>by
  simp only[pX,Bool.and_eq_true,beq_iff_eq]at h;rw[h.1.1,h.1.2,Jv h.2]
 | [],.aW _ _::_,h|[],.idx _ _::_,h | .aW _ _::_,[],h | .idx _ _::_,[],h | .aW _ _::_,.idx _ _::_,h | .idx _ _::_,.aW _ _::_,h=>by simp[pX]at h
def G0(C:Ctx)(vs:List Nat)(N:Nat)(kids:List Nat)(X:TypeId)(r:Nat)(p:List St)(u:V)(p':List St)(x:Operand):M (List (Nat×V)):=
 match x with
 | .tmp s=>if pX p p'=true/\vs.contains s=false/\s≠r/\r<N then
   .get s λv=>match v with
   | .d none k (.slice e te) y=>(dp p u).bind λz =>
    if h:z.2.t = .slice e te then
     if C.ty X=some (.slice e te)/\(z.2.n<=k\/te.depth+1<=k)/\z.2.n≠0/\z.1=none/\u.eV=true then
      (fw p u (.slice e te) y).bind λu2=>iu false r s kids (.ret [(r,u2),(s,.dead)])
     else .fail
    else .fail
   | _=>.fail
  else .fail
 | _=>.fail
def M.calm{α:Type}:M α->Prop
 | .ret _=>True
 | .fail=>True
 | .get _ _=>False
 | .cr _ _ k=>∀x,(k x).calm
 | .bc _ k=>k.calm
 | .ask _ _=>False
 | .ite _ x y=>x.calm/\y.calm
theorem q5{α:Type}{T T':List V}:{m:M α}->{a:α}->{log:List Nat}->m.calm->m.ai T a log->m.ai T' a log
 | .ret _,_,_,_,h=>h
 | .fail,_,_,_,h=>h.elim
 | .get _ _,_,_,c,_=>c.elim
 | .cr _ _ k,a,log,c,⟨x,hx,h⟩=>⟨x,hx,q5 (c x) h⟩
 | .bc _ k,a,log,c,⟨hb,h⟩=>⟨hb,q5 (m:=k) c h⟩
 | .ask _ _,_,_,c,_=>c.elim
 | .ite _ x y,a,log,c,h=>by
  rcases h with⟨hb,h⟩|⟨hb,h⟩
  ·exact .inl ⟨hb,q5 (m:=x) c.1 h⟩
  ·exact .inr ⟨hb,q5 (m:=y) c.2 h⟩
theorem iv{α β:Type}{f:α->M β}(hf:∀a,(f a).calm):{m:M α}->m.calm->(m.bind f).calm
 | .ret a,_=>hf a
 | .fail,_=>trivial
 | .get _ _,c=>c.elim
 | .cr _ _ k,c=>λx=>iv hf (c x)
 | .bc _ k,c=>iv (m:=k) hf c
 | .ask _ _,c=>c.elim
 | .ite _ x y,c=>⟨iv (m:=x) hf c.1,iv (m:=y) hf c.2⟩
theorem rk:(p:List St)->(n:Nat)->(t:Ty)->(x:t.den)->(aL p n t x).calm
 | [],_,_,_=>trivial
 | .aW i off::p,n,.agg t,x=>by
  simp only[aL];split
  ·split
   ·exact rk _ _ _ _
   ·trivial
  ·trivial
 | .idx sz i::p,n+1,.slice _ t,x=>by
  simp only[aL];split
  ·exact λy=>rk _ _ _ _
  ·trivial
 | .idx _ _::p,0,.slice _ _,_=>by simp only[aL];trivial
 | .aW _ _::p,_,.int _,_ | .aW _ _::p,_,.bool,_ | .aW _ _::p,_,.str,_ | .aW _ _::p,_,.raw _,_ | .aW _ _::p,_,.cap _ _,_ | .aW _ _::p,_,.unit,_ | .aW _ _::p,_,.pair _ _,_ | .aW _ _::p,_,.slice _ _,_=>by simp only[aL];trivial
 | .idx _ _::p,_,.int _,_ | .idx _ _::p,_,.bool,_ | .idx _ _::p,_,.str,_ | .idx _ _::p,_,.raw _,_ | .idx _ _::p,_,.cap _ _,_ | .idx _ _::p,_,.unit,_ | .idx _ _::p,_,.pair _ _,_ | .idx _ _::p,_,.agg _,_=>by simp only[aL];trivial
theorem VC[ae]{f:(t1:Ty)->t1.den->M t1.den}(hf:∀t1 x1,(f t1 x1).calm):(i:Nat)->(t:Ty)->(x:t.den)->(gX i t x f).calm
 | 0,.pair _ _,x=>by simp only[gX];refine iv ?_ (hf _ _);intro _;trivial
 | i+1,.pair _ b,x=>by simp only[gX];refine iv ?_ (VC hf i b x.2);intro _;trivial
 | 0,.int _,x|0,.bool,x|0,.str,x|0,.raw _,x|0,.cap _ _,x|0,.unit,x|0,.agg _,x|0,.slice _ _,x=>by simp only[gX];exact hf _ _
 | _+1,.int _,x|_+1,.bool,x|_+1,.str,x|_+1,.raw _,x|_+1,.cap _ _,x|_+1,.unit,x|_+1,.agg _,x|_+1,.slice _ _,x=>by simp only[gX];trivial
theorem B2[ae]:(p:List St)->(t:Ty)->(x:t.den)->(t':Ty)->(y:t'.den)->(eK p t x t' y).calm
 | [],t,x,t',y=>by
  simp only[eK];split<;>trivial
 | .aW i off::p,.agg t,x,t',y=>by
  simp only[eK];split
  ·split
   ·exact VC (λt1 x1=>B2 p t1 x1 t' y) _ _ _
   ·trivial
  ·trivial
 | .idx sz i::p,.slice _ t,x,t',y=>by
  simp only[eK];split
  ·intro z;refine iv ?_ (B2 p t z t' y);intro _ _;trivial
  ·trivial
 | .aW _ _::p,.int _,_,_,_ | .aW _ _::p,.bool,_,_,_ | .aW _ _::p,.str,_,_,_ | .aW _ _::p,.raw _,_,_,_ | .aW _ _::p,.cap _ _,_,_,_ | .aW _ _::p,.unit,_,_,_ | .aW _ _::p,.pair _ _,_,_,_ | .aW _ _::p,.slice _ _,_,_,_=>by simp only[eK];trivial
 | .idx _ _::p,.int _,_,_,_ | .idx _ _::p,.bool,_,_,_ | .idx _ _::p,.str,_,_,_ | .idx _ _::p,.raw _,_,_,_ | .idx _ _::p,.cap _ _,_,_,_ | .idx _ _::p,.unit,_,_,_ | .idx _ _::p,.pair _ _,_,_,_ | .idx _ _::p,.agg _,_,_,_=>by simp only[eK];trivial
theorem ajl[ae]{p:List St}{k n:Nat}{t:Ty}{x:t.den}:(pL p k n t x).calm:=by
 unfold pL;split
 ·split
  ·intro y;refine iv ?_ (rk _ _ _ _);intro _;trivial
  ·trivial
 ·split
  ·split
   ·refine iv ?_ (rk _ _ _ _);intro _;trivial
   ·trivial
  ·trivial
 ·trivial
theorem aj7[ae]{p:List St}(u:V):(dp p u).calm:=by
 cases u with
 | box l n t x=>refine iv ?_ (rk _ _ _ _);intro _;trivial
 | d l n t x =>
  simp only[dp];split
  ·(refine iv ?_ (rk _ _ _ _);intro _;trivial)
  ·trivial
 | bK k n t x=>exact ajl
 | _=>trivial
theorem ai8[ae]{p:List St}{t:Ty}{y:t.den}(u:V):(fw p u t y).calm:=by
 cases u with
 | box l n t x=>refine iv ?_ (B2 _ _ _ _ _);intro _;trivial
 | d l n t x =>
  simp only[fw];split
  ·(refine iv ?_ (B2 _ _ _ _ _);intro _;trivial)
  ·trivial
 | _=>trivial
section
variable{P:Program}{C:Ctx}{w w' w0:World}{S S':Nat->Prop}{L L' L0:Nat->aj}{s N:Nat}{vs:List Nat}{T T':List V}{tm tm':Array Value}{a:Act}
theorem Inv.ghost[ae](hI:Inv w0 L0 N vs T a w L){r:Nat}{p:List St}{u:V}(hr:T.getD r .dead = .hole u p)(hu:u.eV=true)(c8:r<N)(cJ:∀z,(T.getD z .dead).dV r=false\/(T.getD z .dead).on r=false):
  ∃g cur e,L g = .own r (node [] 0 p).1/\w.heap[g]?=some (.cells cur e (0,0))/\(node [] 0 p).2<cur.size/\u.root=none/\Inv w0 L0 N vs (T.set r u) a (w.setCell ⟨g,(node [] 0 p).2,none⟩ (.slice none 0 0)) L:=by
 have hs:=hI.aS r;rw[hr]at hs;obtain⟨h0,g,cur,e,h1,h2,h3,h4⟩:=hs;refine⟨g,cur,e,h1,h2,h3,h0,?_⟩;have hT:∀z,(T.set r u).getD z .dead=if z=r/\r<T.length then u else T.getD z .dead:=λz=>az _ _ _ _ _
 have bw:(T.set r u).getD r .dead=u:=by rw[hT,if_pos ⟨rfl,by rw[hI.len];exact c8⟩]
 have bn:u.aD=true:=by cases u<;>simp[V.eV,V.aD]at hu ⊢
 have rG:∀k,L k ≠ .own r (node [] 0 p).1->(w.setCell ⟨g,(node [] 0 p).2,none⟩ (.slice none 0 0)).heap[k]?=w.heap[k]?:=λk hk=>se (by rintro rfl;exact hk h1);refine Inv.upd (λz=>z=r\/(T.getD z .dead).on r=true) hI hI.size (by simp[hI.len]) hI.dy ?_ (λk hk=>hI.free k (by simpa[World.setCell]using hk)) hI.inj ?_ ?_ ?_ ?_ ?_ ?_
 ·refine⟨hI.fr.os,hI.fr.tape,hI.fr.output,by simpa[World.setCell]using hI.fr.size,hI.fr.drawn,λk hk h=>?_,hI.fr.gm⟩;obtain⟨e1,e2⟩:=hI.fr.aO k hk h;refine⟨e1,?_⟩;rw[rG k (by rw[e1];rcases h with h|h<;>rw[h]<;>simp),e2]
 ·intro k z q hk;rw[hT];split
  ·exact bn
  ·exact hI.owner k z q hk
 ·intro z hz k hk;refine⟨rfl,rG k (λhe=>?_)⟩;have hz:=not_or.1 hz;rcases hk with hk|⟨r',q,hk,aV⟩
  ·rw[he]at hk;cases hk
  ·rw[he]at hk;injection hk with hk _;subst hk;rcases aV with aV|aV
   ·exact hz.1 aV.symm
   ·exact hz.2 aV
 ·intro z hz;have hz:=not_or.1 hz;exact⟨by rw[hT,if_neg (λh=>hz.1 h.1)],rfl⟩
 ·intro z r' af;rw[hT]at af;split at af
  ·simp[V.on,h0]at af
  ·exact hI.roots z r' af
 ·intro z r' hz af _;have hz:=not_or.1 hz;refine⟨by rw[hT,if_neg (λh=>hz.2 (by rw[<-h.1];exact af))],rfl⟩
 ·intro z hz;by_cases dt:z=r
  ·subst dt;rw[bw];exact ax.aO (L':=L) (T':=T.set z u) (tm':=a.tmps) (λk _=>⟨rfl,rfl⟩) (λr' aV _=>by simp[V.on,h0]at aV) h4
  ·have af:(T.getD z .dead).on r=true:=hz.resolve_left dt;rw[hT,if_neg (λh=>dt h.1)];have hd:=(cJ z).resolve_right (by rw[af];simp);unfold V.dV at hd;rw[af,Bool.true_and]at hd;have bd:=hI.aS z;generalize T.getD z .dead=v at hd bd af;cases v with
   | ptr r2 p2 t2=>exact bd
   | _=>simp at hd
theorem akp[ae]{g o:Nat}{cur:Array Value}{e:TypeId}{v c:Value}(hg:w.heap[g]?=some (.cells cur e (0,0)))(ho:o<cur.size):
  (w.setCell ⟨g,o,none⟩ v).setRow g (putCells (cur.setIfInBounds o v) o [c])=w.setRow g (putCells cur o [c]):=by
 have hp:putCells (cur.setIfInBounds o v) o [c]=putCells cur o [c]:=by
  apply Array.ext_getElem?;intro i;by_cases hi:i=o
  ·subst hi;have e1:=Cj (cur:=cur.setIfInBounds i v) (o:=i) (cs:=[c]) (by simp;omega);have e2:=Cj (cur:=cur) (o:=i) (cs:=[c]) (by simp;omega);have e3:=e1.trans e2.symm;have:=congrArg (λl=>l[0]?) e3;simpa[List.getElem?_take,List.getElem?_drop]using this
  ·rw[Ck (by simp;omega) i (by simp;omega),Ck (by simp;omega) i (by simp;omega),Array.getElem?_setIfInBounds,if_neg (Ne.symm hi)]
 have hh:((w.setCell ⟨g,o,none⟩ v).setRow g (putCells (cur.setIfInBounds o v) o [c])).heap=(w.setRow g (putCells cur o [c])).heap:=by
  rw[hp];apply Array.ext_getElem?;intro i;by_cases hi:i=g
  ·subst hi;rw[setRow_heap _ i _ _ _ _ (Jk hg),setRow_heap _ i _ _ _ _ hg]
  ·rw[setRow_other _ g i _ hi,setRow_other _ g i _ hi,se hi]
 calc (w.setCell ⟨g,o,none⟩ v).setRow g (putCells (cur.setIfInBounds o v) o [c])
   = { w.setRow g (putCells cur o [c])with heap:=((w.setCell ⟨g,o,none⟩ v).setRow g (putCells (cur.setIfInBounds o v) o [c])).heap }:=rfl
  _={ w.setRow g (putCells cur o [c])with heap:=(w.setRow g (putCells cur o [c])).heap }:=by rw[hh]
  _=w.setRow g (putCells cur o [c]):=rfl
theorem akV[ae](hI:Inv w0 L0 N vs T a w L)(hC:bt P C){o:Oper}{X:TypeId}{t r:Nat}{kids:List Nat}{p p':List St}{u:V}{x:Operand}{ups:List (Nat×V)}{log:List Nat}(ho:o.op = .store X (.tmp t) x)(av:o.dst=none)
  (ht:addrOf t (T.getD t .dead)=some (r,p)) (cK:∀r p,addrOf t (T.getD t .dead)=some (r,p)->∃g,a.eval (.tmp t) = .pointer (some ⟨g,(node [] 0 p).2,none⟩)/\L g = .own r (node [] 0 p).1)
  (hr:T.getD r .dead = .hole u p') (h:(G0 C vs N kids X r p u p' x).ai T ups log):Step P o w0 L0 N vs (ah T ups) a w:=by
 cases x with
 | tmp s =>
  simp only[G0]at h;split at h
  ·rename_i hc;obtain⟨HH,iH,bj,c8⟩:=hc;obtain rfl:=Jv HH;obtain⟨ew,rfl,h⟩:=h;dsimp only at h;generalize bh:T.getD s .dead=v at h;split at h
   ·rename_i k e te y;obtain⟨⟨l,n',t',x'⟩,l1,l2,rfl,hz,h⟩:=M.ak h;dsimp only at h;split at h
    ·rename_i ht';subst ht';split at h
     ·rename_i ue;obtain⟨hX,jX,gP,rfl,BD⟩:=ue;obtain⟨u2,l3,l4,rfl,hm,h⟩:=M.ak h;obtain⟨cJ,log2,h⟩:=jP h;obtain⟨rfl,_⟩:=h;have SF:∀z,(T.getD z .dead).dV r=false\/(T.getD z .dead).on r=false:=by
       intro z;by_cases gv:z=s
       ·right;rw[gv,bh];rfl
       ·exact .inl (cJ z gv)
      obtain⟨g,cur,e2,g1,g2,g3,b8,bu⟩:=Inv.ghost hI hr BD c8 SF;obtain⟨g',o4,Hp⟩:=cK r p ht;obtain rfl:=hI.inj g g' r _ g1 Hp;have iA:∀z,z≠r->(T.set r u).getD z .dead=T.getD z .dead:=λz hz=>by rw[az,if_neg (λh=>hz h.1)]
      have afA:(T.set r u).getD r .dead=u:=by rw[az,if_pos ⟨rfl,by rw[hI.len];exact c8⟩]
      have gS:=hI.aS s;rw[bh]at gS;obtain⟨_,cs,hf,bn⟩:=gS;have hf:cs=[a.tmps.getD s undef]:=hf;have dH:=Own.one bn;have aJ:(execOp a.eval o).run P w = .ok .skip (w.setRow g (putCells cur (node [] 0 p).2 cs)):=by
       have aX:=sd (P:=P) (w:=w) (o:=(node [] 0 p).2) (hC X _ hX) g2 (show Form (.slice e te) cs (a.eval (.tmp s))from hf) dH (Own.len bn) (by simp only[Ty.sz];omega);simp[execOp,ho,o4,aX]
      have hlen:cs.length=1:=by rw[hf];rfl
      have ag2:(w.setCell ⟨g,(node [] 0 p).2,none⟩ (.slice none 0 0)).setRow g (putCells (cur.setIfInBounds (node [] 0 p).2 (.slice none 0 0)) (node [] 0 p).2 cs)=w.setRow g (putCells cur (node [] 0 p).2 cs):=by
       rw[hf];exact akp g2 g3
      intro K Q hK;unfold Oper.wp;rw[aJ,Oper.upon_skip,av,<-ag2];have jV:(ah T [(r,u2),(s,V.dead)]).length=N:=by rw[cj,hI.len]
      have bW:s<N:=by
       rcases Nat.lt_or_ge s N with h|h
       ·exact h
       ·rw[dW (by rw[hI.len];exact h)]at bh;cases bh
      have bJ:(ah T [(r,u2),(s,V.dead)]).getD s .dead = .dead:=by
       show ((T.set r u2).set s .dead).getD s .dead = .dead;rw[az,if_pos ⟨rfl,by simp[hI.len,bW]⟩]
      have bw:(ah T [(r,u2),(s,V.dead)]).getD r .dead=u2:=by
       show ((T.set r u2).set s .dead).getD r .dead=u2;rw[az,if_neg (λh=>bj h.1.symm),az,if_pos ⟨rfl,by rw[hI.len];exact c8⟩]
      have bg:∀z,z≠r->z≠s->(ah T [(r,u2),(s,V.dead)]).getD z .dead=T.getD z .dead:=by
       intro z h1 h2;show ((T.set r u2).set s .dead).getD z .dead=_;rw[az,if_neg (λh=>h2 h.1),az,if_neg (λh=>h1 h.1)]
      have hz1:(dp p u).ai (T.set r u) (none,⟨n',.slice e te,x'⟩) l1:=q5 (aj7 u) hz;have jW:(fw p u (.slice e te) y).ai (T.set r u) u2 l3:=q5 (ai8 u) hm;refine hK a _ _ (Inv.store (m:=n') (src:=some s) bu afA hz1 jW (by rw[b8];simp) g1 (Jk g2) (by simp only[Ty.sz,Array.size_setIfInBounds];omega) (by rw[hlen];rfl) ?_ jV bw ?_ ?_ ?_)
      ·intro s' bD;injection bD with bD;subst bD;have hnv:s∉vs:=λbS=>by
        rw[List.contains_iff_mem.2 bS]at iH;cases iH
       exact⟨bj,hnv,bJ,by rw[iA s bj,bh];rfl⟩
      ·intro z h1 h2 af;have G9:z≠s:=λe=>h2 (by rw[e]);rw[iA z h1]at af ⊢;refine .inr ⟨bg z h1 G9,.inl ?_⟩;have hd:=(SF z).resolve_right (by rw[af];simp);unfold V.dV at hd;rw[af,Bool.true_and]at hd;generalize T.getD z .dead=v at hd;cases v with
       | ptr r2 p2 t2 =>
        have:u.dm=false:=by cases u<;>simp[V.eV,V.dm]at BD ⊢
        simp only[bU,this,Bool.not_false,Bool.and_true,Bool.or_eq_true];exact .inr (by simpa using hd)
       | _=>simp at hd
      ·intro z h1 h2 af;rw[iA z h1];exact bg z h1 (λe=>h2 (by rw[e]))
      ·obtain⟨k9,c9,HE⟩:=Own.Gn (t:=.slice e te) jX bn;refine Own.eL c9 (λk hk=>?_) (λk d rest hd hk=>?_) HE
       ·rcases hk with hk|⟨_,_,hk,_⟩
        ·refine⟨.inl (dQ bu hk),?_⟩;rw[setRow_other _ g k _ (by rintro rfl;rw[g1]at hk;cases hk),se (by rintro rfl;rw[g1]at hk;cases hk)]
        ·cases hk
       ·have aA:L k = .own s (d::rest):=by simpa using hk
        have S7:k≠g:=by rintro rfl;rw[g1]at aA;injection aA with aA _;exact bj aA.symm
        have gp:aP (dw r (node [] 0 p).1 (node [] 0 p).2 (Ty.slice e te).sz n' (some s)) (w.setCell ⟨g,(node [] 0 p).2,none⟩ (.slice none 0 0)) L (λ_=>.free) k=if rest.length<n' then .own r ((node [] 0 p).1++((node [] 0 p).2+d)::rest)else .al:=by
         rw[cM bu (by rw[aA];simp),aA];simp only[ef,dw];rw[if_neg bj,if_pos trivial,if_pos hd]
        refine⟨by rw[setRow_other _ g k _ S7,se S7],λh=>by rw[gp,if_pos h],λh=>.inl (by rw[gp,if_neg (by omega)])⟩
     ·exact h.elim
    ·exact h.elim
   ·exact h.elim
  ·exact h.elim
 | const c=>exact h.elim
 | func f=>exact h.elim
 | global g=>exact h.elim
end
end Go.Proofs.YtbhogmdpmkpinaaGreat.P.Am
set_option linter.constructorNameAsVariable false
namespace Go.Proofs.YtbhogmdpmkpinaaGreat.P.Am
def eJ:List (Nat×V)->Nat->Option V
 | [],_=>none
 | u::l,s=>cond (u.1==s) (some u.2) (eJ l s)
def F6(q:Nat)(l:List Nat):Nat:=bb+(2*((q - bb) / 2 % 100000+100000*((q - bb) / 2 / 100000 ||| iK false l))+1)
def M.eM{α:Type}(ov:List (Nat×V)):M α->M α
 | .ret a=>.ret a
 | .fail=>.fail
 | .get s k=>match eJ ov s with
  | some v=>(k v).eM ov
  | none=>.get s λv=>(k v).eM ov
 | .cr t m k=>.cr t m λx=>(k x).eM ov
 | .bc b k=>.bc b (k.eM ov)
 | .ask q k=>cond ((q - bb) % 2==0)
   (match eJ ov ((q - bb) / 2)with
    | some v=>.bc (v.eV&&decide (bb<=q)) (k.eM ov)
    | none=>.ask q (k.eM ov))
   (.bc ((ov.all λu=>eZ q u.1 u.2)&&decide (bb<=q)) (.ask (F6 q (ov.map (·.1))) (k.eM ov)))
 | .ite b x y=>.ite b (x.eM ov) (y.eM ov)
theorem Vl{ov:List (Nat×V)}{s:Nat}{v:V}(h:eJ ov s=some v):(s,v)∈ov:=by
 induction ov with
 | nil=>cases h
 | cons u l ih =>
  simp only[eJ]at h;cases hu:(u.1==s)with
  | true =>
   rw[hu]at h;simp only[cond_true,Option.some.injEq]at h;obtain⟨u1,u2⟩:=u;simp only[beq_iff_eq]at hu;subst hu h;simp
  | false =>
   rw[hu]at h;exact List.mem_cons_of_mem _ (ih h)
theorem ai0{ov:List (Nat×V)}{s:Nat}(h:eJ ov s=none):s∉ov.map (·.1):=by
 induction ov with
 | nil=>simp
 | cons u l ih =>
  simp only[eJ]at h;cases hu:(u.1==s)with
  | true=>rw[hu]at h;cases h
  | false =>
   rw[hu]at h;simp only[List.map_cons,List.mem_cons,not_or];exact⟨λe=>by rw[e]at hu;simp at hu,ih h⟩
theorem ajn{x:Nat}(h:(x % 2==0)=false):x % 2=1:=by
 rw[beq_eq_false_iff_ne]at h;omega
theorem pay{r mm:Nat}(hr:r<100000):(2*(r+100000*mm)+1) % 2=1/\(2*(r+100000*mm)+1) / 2=r+100000*mm/\(r+100000*mm) / 100000=mm/\(r+100000*mm) % 100000=r:=by
 refine⟨?_,?_,?_,?_⟩<;>omega
theorem aeA(q:Nat)(l:List Nat):F6 q l - bb=2*((q - bb) / 2 % 100000+100000*((q - bb) / 2 / 100000 ||| iK false l))+1:=Nat.add_sub_cancel_left _ _
theorem V4{T T':List V}{ov:List (Nat×V)}{q:Nat}(hl:T'.length=T.length)(hq:(q - bb) % 2=0)(hb:(T'.getD ((q - bb) / 2) .dead).eV=true)(au:(q - bb) / 2<T.length):dM q T'=true:=by
 unfold dM;rw[Bool.and_eq_true];refine⟨F7 λs hs=>?_,Bool.or_eq_true_iff.2 (.inr (decide_eq_true (by rw[hl];exact au)))⟩;unfold eZ;rw[hq,Nat.zero_add];by_cases he:s=(q - bb) / 2
 ·rw[he,hb,Bool.or_true];rfl
 ·have:(s != (q - bb) / 2)=true:=bne_iff_ne.2 he;rw[this,Bool.true_or];rfl
theorem ajv[ae]{T T':List V}{ov:List (Nat×V)}{q:Nat}(hl:T'.length=T.length)(hT:∀s,T'.getD s .dead=(eJ ov s).getD (T.getD s .dead))(BA:(q - bb) % 2=1)(uK:∀u∈ov,eZ q u.1 u.2=true)(hb:dM (F6 q (ov.map (·.1))) T=true):dM q T'=true:=by
 have e:=aeA q (ov.map (·.1));have hr:(q - bb) / 2 % 100000<100000:=Nat.mod_lt _ (Nat.zero_lt_succ 99999);generalize hm:((q - bb) / 2 / 100000 ||| iK false (ov.map (·.1)))=mm at e;obtain⟨e1,e2,e3,e4⟩:=pay (mm:=mm) hr;unfold dM at hb ⊢;rw[Bool.and_eq_true]at hb ⊢;refine⟨F7 λs hs=>?_,Bool.or_eq_true_iff.2 (.inl (beq_iff_eq.2 BA))⟩;rw[Nat.zero_add,hT];cases hv:eJ ov s with
 | some v=>exact uK (s,v) (Vl hv)
 | none =>
  have dI:s<T.length:=by omega
  have:=tC hb.1 s dI;unfold eZ at this ⊢;rw[e,e1,e2,e3,e4,Nat.zero_add]at this;rw[BA];simp only[Option.getD_none];have SH:mm.testBit (s+1)=((q - bb) / 2 / 100000).testBit (s+1):=by
   rw[<-hm,Nat.testBit_or,vb (ai0 hv),Bool.or_false]
  have afF:mm.testBit 0=((q - bb) / 2 / 100000).testBit 0:=by
   rw[<-hm,Nat.testBit_or,vc,Bool.or_false]
  rw[SH,afF,show ((1:Nat)==0)=false from rfl,cond_false]at this;rw[show ((1:Nat)==0)=false from rfl,cond_false];exact this
theorem pN[ae]{α:Type}{T T':List V}{ov:List (Nat×V)}(hl:T'.length=T.length)(fD:∀s,s∈ov.map (·.1)->s<T.length)(hT:∀s,T'.getD s .dead=(eJ ov s).getD (T.getD s .dead))(m:M α):
  ∀{a:α} {log:List Nat},(m.eM ov).ai T a log->∃ay,m.ai T' a ay:=by
 induction m with
 | ret _=>intro a log h;exact⟨[],h.1,rfl⟩
 | fail=>intro a log h;exact h.elim
 | get s k ih =>
  intro a log h;simp only[M.eM]at h;have hs:=hT s;split at h
  ·rename_i v hv;rw[hv]at hs;obtain⟨ay,h⟩:=ih v h;exact⟨s::ay,ay,rfl,by rw[hs];exact h⟩
  ·rename_i hv;rw[hv]at hs;obtain⟨l1,rfl,h⟩:=h;obtain⟨ay,h⟩:=ih _ h;exact⟨s::ay,ay,rfl,by rw[hs];exact h⟩
 | cr _ _ k ih =>
  intro a log h;obtain⟨x,hx,h⟩:=h;obtain⟨ay,h⟩:=ih x h;exact⟨ay,x,hx,h⟩
 | bc _ k ih =>
  intro a log h;obtain⟨hb,h⟩:=h;obtain⟨ay,h⟩:=ih h;exact⟨ay,hb,h⟩
 | ite _ x y ihx ihy =>
  intro a log h;rcases h with⟨hb,h⟩|⟨hb,h⟩
  ·obtain⟨ay,h⟩:=ihx h;exact⟨ay,.inl ⟨hb,h⟩⟩
  ·obtain⟨ay,h⟩:=ihy h;exact⟨ay,.inr ⟨hb,h⟩⟩
 | ask q k ih =>
  intro a log h;simp only[M.eM]at h;cases hq:((q - bb) % 2==0)with
  | true =>
   rw[hq]at h;simp only[cond_true]at h;simp only[beq_iff_eq]at hq;split at h
   ·rename_i v hv;obtain⟨hb,h⟩:=h;simp only[Bool.and_eq_true,decide_eq_true_eq]at hb;obtain⟨ay,h⟩:=ih h;exact⟨q::ay,⟨V4 (ov:=ov) hl hq (by rw[hT,hv];exact hb.1) (fD _ (List.mem_map_of_mem (f:=(·.1)) (Vl hv))),hb.2⟩,ay,rfl,h⟩
   ·rename_i hv;obtain⟨⟨hb,hk⟩,l1,rfl,h⟩:=h;obtain⟨ay,h⟩:=ih h;unfold dM at hb;rw[Bool.and_eq_true,hq]at hb;have au:(q - bb) / 2<T.length:=by simpa using hb.2
    have:=tC hb.1 _ au;unfold eZ at this;rw[hq,Nat.zero_add]at this;exact⟨q::ay,⟨V4 (ov:=ov) hl hq (by rw[hT,hv];simpa using this) au,hk⟩,ay,rfl,h⟩
  | false =>
   rw[hq]at h;obtain⟨uK,⟨hb,hk⟩,l1,rfl,h⟩:=h;simp only[Bool.and_eq_true,decide_eq_true_eq,List.all_eq_true]at uK;obtain⟨ay,h⟩:=ih h;have BA:=ajn hq;exact⟨q::ay,⟨ajv hl hT BA uK.1 hb,uK.2⟩,ay,rfl,h⟩
def Rn(N:Nat)(kids:List Nat)(s r:Nat)(p:List St)(t':Ty)(u:V)(m:M (List (Nat×V))):M (List (Nat×V)):=
 (dp p u).bind λz=>match z with
  | (none,⟨n,t,x⟩) =>
   if n≠0/\t.depth≠0/\s<N/\r<N/\s≠r/\t=t' then
    match p with
    | []=>iu true r s kids ((m.eM [(r,.dead),(s,.d none n t x)]).bind λups=>.ret ((r,.dead)::(s,.d none n t x)::ups))
    | _::_=>match t,x with
     | .slice e te,x=>(fw p u (.slice e te) []).bind λu'=>iu false r s kids ((m.eM [(r,.hole u' p),(s,.d none n (.slice e te) x)]).bind λups=>.ret ((r,.hole u' p)::(s,.d none n (.slice e te) x)::ups))
     | _,_=>m
   else m
  | _=>m
def lH(N:Nat)(kids:Nat->List Nat):List Nat->M (List (Nat×V))->M (List (Nat×V))
 | [],m=>m
 | s::l,m=>.get s λv=>match v with
  | .view r p t=>.get r λu=>match u with
   | .d _ _ _ _=>match p with
    | []=>sC N [s] (lH N kids l m)
    | _::_=>lH N kids l m
   | .box _ _ _ _=>Rn N (kids r) s r p t u (lH N kids l m)
   | _=>lH N kids l m
  | _=>lH N kids l m
section
variable{P:Program}{C:Ctx}{w w' w0:World}{S S':Nat->Prop}{L L' L0:Nat->aj}{s N:Nat}{vs:List Nat}{T T':List V}{tm tm':Array Value}{a:Act}
theorem W0[ae]{r s:Nat}{v1 v2:V}(gQ:s≠r)(hr:r<T.length)(hs:s<T.length):(∀z,((T.set r v1).set s v2).getD z .dead=(eJ [(r,v1),(s,v2)] z).getD (T.getD z .dead))/\∀z,z∈[(r,v1),(s,v2)].map (·.1)->z<T.length:=by
 refine⟨λz=>?_,λz hz=>?_⟩
 ·simp only[eJ];rw[az,az];by_cases h1:z=r
  ·subst h1;simp[gQ.symm,hr]
  ·have e1:(r==z)=false:=by simpa using Ne.symm h1
   by_cases h2:z=s
   ·subst h2;rw[e1];simp[hs]
   ·have e2:(s==z)=false:=by simpa using Ne.symm h2
    rw[e1,e2];simp[h1,h2]
 ·simp only[List.map_cons,List.map_nil,List.mem_cons,List.not_mem_nil,or_false]at hz;rcases hz with rfl|rfl
  ·exact hr
  ·exact hs
theorem aeS[ae]{m:M (List (Nat×V))}{kids:List Nat}{r:Nat}{p:List St}{t':Ty}{u:V}{ups:List (Nat×V)}{log:List Nat}(hI:Inv w0 L0 N vs T a w L)(hs:T.getD s .dead = .view r p t')(hr:T.getD r .dead=u)(ud:∃l n t x,u = .box l n t x)
  (h0:(Rn N kids s r p t' u m).ai T ups log):∃T1 L1 bL log2,Inv w0 L0 N vs T1 a w L1/\m.ai T1 bL log2/\ah T ups=ah T1 bL:=by
 obtain⟨z,l1,l2,rfl,hz,h⟩:=M.ak h0;obtain⟨l,n,t,x⟩:=z;have fh:∀{log},m.ai T ups log->∃T1 L1 bL log2,Inv w0 L0 N vs T1 a w L1/\m.ai T1 bL log2/\ah T ups=ah T1 bL:=λh=>⟨T,L,ups,_,hI,h,rfl⟩;have hu:u.eV=true:=by obtain⟨l0,n0,t0,x0,rfl⟩:=ud;rfl
 cases l with
 | some _=>exact fh h
 | none =>
  dsimp only at h;split at h
  ·rename_i hc;obtain⟨hn,hd,bW,c8,bj,rfl⟩:=hc;have hTl:T.length=N:=hI.len;cases p with
   | nil =>
    obtain⟨cJ,log2,h⟩:=jP h;obtain⟨bL,l3,l4,rfl,h1,h2⟩:=M.ak h;obtain⟨rfl,_⟩:=h2;obtain⟨o8,fD⟩:=W0 (T:=T) (v1:=.dead) (v2:=.d none n t x) bj (by omega) (by omega);obtain⟨fu,h1⟩:=pN (T':=(T.set r .dead).set s (.d none n t x)) (by simp) fD o8 m h1;have HX:(p8 [] (T.getD r .dead)).ai T (none,⟨n,t,x⟩) l1:=by
     rw[hr];obtain⟨l0,n0,t0,x0,rfl⟩:=ud;exact hz
    have cu:mJ r s T=true:=by
     unfold mJ;rw[List.all_eq_true];intro b hb;obtain⟨i,hi⟩:=List.mem_iff_getElem?.1 hb;simp only[List.getElem?_mapIdx,Option.map_eq_some_iff]at hi;obtain⟨v,hv,rfl⟩:=hi;have jT:T.getD i .dead=v:=by simp[List.getD_eq_getElem?_getD,hv]
     simp only[id_eq,Bool.or_eq_true,beq_iff_eq,bne_iff_ne];by_cases nQ:i=s
     ·exact .inl nQ
     ·right;have:=cJ i nQ;rw[jT]at this;simpa[V.on]using this
    obtain⟨L',gI⟩:=Inv.take hI hs bW HX hn hd cu;exact⟨_,L',bL,fu,gI,h1,rfl⟩
   | cons st p =>
    dsimp only at h;split at h
    ·rename_i e te x;obtain⟨u',l3,l4,rfl,hm,h⟩:=M.ak h;obtain⟨cJ,log2,h⟩:=jP h;obtain⟨bL,l5,l6,rfl,h1,h2⟩:=M.ak h;obtain⟨rfl,_⟩:=h2;obtain⟨o8,fD⟩:=W0 (T:=T) (v1:=.hole u' (st::p)) (v2:=.d none n (.slice e te) x) bj (by omega) (by omega);obtain⟨fu,h1⟩:=pN (T':=(T.set r (.hole u' (st::p))).set s (.d none n (.slice e te) x)) (by simp) fD o8 m h1;obtain⟨L',gI⟩:=Inv.ak9 hI hs hr hu bW c8 hz hm hn cJ;exact⟨_,L',bL,fu,gI,h1,rfl⟩
    ·exact fh h
  ·exact fh h
theorem mY[ae]{w:World}{a:Act}{m:M (List (Nat×V))}{kids:Nat->List Nat}:{ss:List Nat}->{T:List V}->{L:Nat->aj}->{ups:List (Nat×V)}->{log:List Nat}->Inv w0 L0 N vs T a w L->(lH N kids ss m).ai T ups log ->
  ∃T1 L1 bL log2,Inv w0 L0 N vs T1 a w L1/\m.ai T1 bL log2/\ah T ups=ah T1 bL
 | [],T,L,ups,log,hI,h=>⟨T,L,ups,log,hI,h,rfl⟩
 | s::l,T,L,ups,log,hI,h=>by
  obtain⟨ew,rfl,h⟩:=h;dsimp only at h;generalize bh:T.getD s .dead=v at h;split at h
  ·rename_i r p t';obtain⟨log2,rfl,h⟩:=h;dsimp only at h;generalize uU:T.getD r .dead=u at h;split at h
   ·split at h
    ·obtain⟨T1,L1,bL,fu,k1,k2,k3⟩:=vN hI h;obtain⟨T2,L2,kG,ke,j1,j2,j3⟩:=mY k1 k2;exact⟨T2,L2,kG,ke,j1,j2,k3.trans j3⟩
    ·exact mY hI h
   ·obtain⟨T1,L1,bL,fu,k1,k2,k3⟩:=aeS hI bh uU ⟨_,_,_,_,rfl⟩ h;obtain⟨T2,L2,kG,ke,j1,j2,j3⟩:=mY k1 k2;exact⟨T2,L2,kG,ke,j1,j2,k3.trans j3⟩
   ·exact mY hI h
  ·exact mY hI h
end
def CD(C:Ctx)(vs:List Nat)(N:Nat)(kids:List Nat)(X:TypeId)(r:Nat)(u:V)(x:Operand)(m:M (List (Nat×V))):M (List (Nat×V)):=
 match u with
 | .box _ _ t0 _=>(cq C X x).bind λv=>match v with
  | .d l 0 t y=>if t=t0/\C.ty X=some t/\t.depth≠0/\r<N/\l≠some r then
    iu false r r kids (.bc (fj vs (.box l 0 t y)) (.ret [(r,.box l 0 t y)]))
   else m
  | _=>m
 | _=>m
def om(r:Nat):Nat->List Nat->aj:=λz q=>if z=r then (match q with|[]=>.own r []|_::_=>.other)else .own z q
section
variable{P:Program}{C:Ctx}{w w' w0:World}{S S':Nat->Prop}{L L' L0:Nat->aj}{s N:Nat}{vs:List Nat}{T T':List V}{tm tm':Array Value}{a:Act}
theorem CC{r z z':Nat}{q q':List Nat}(h:om r z q = .own z' q'):z'=z/\q'=q/\(z=r->q=[]):=by
 unfold om at h;split at h
 ·rename_i hz;split at h
  ·injection h with h1 h2;exact⟨by rw[<-h1,hz],h2.symm,λ_=>rfl⟩
  ·cases h
 ·rename_i hz;injection h with h1 h2;exact⟨h1.symm,h2.symm,λe=>absurd e hz⟩
theorem Xa[ae]{r:Nat}{X:Nat->Prop}(hr:X r):fe (om r) X:=by
 refine⟨λz q hX=>?_,λz q z' q' hX h=>?_,λz q z2 q2 z' q' h1 h2=>?_,λz q=>?_⟩
 ·unfold om;rw[if_neg (λe:z=r=>hX (e▸hr))]
 ·obtain⟨rfl,_⟩:=CC h;exact hX
 ·obtain⟨rfl,rfl,_⟩:=CC h1;obtain⟨h3,h4,_⟩:=CC h2;exact⟨h3,h4⟩
 ·unfold om
  repeat' split
  all_goals simp
theorem ak2[ae](hI:Inv w0 L0 N vs T a w L)(hC:bt P C){o:Oper}{X:TypeId}{t r:Nat}{kids:List Nat}{u:V}{x:Operand}{m:M (List (Nat×V))}{ups:List (Nat×V)}{log:List Nat}(ho:o.op = .store X (.tmp t) x)(av:o.dst=none)
  (ht:addrOf t (T.getD t .dead)=some (r,[])) (cK:∀r p,addrOf t (T.getD t .dead)=some (r,p)->∃g,a.eval (.tmp t) = .pointer (some ⟨g,(node [] 0 p).2,none⟩)/\L g = .own r (node [] 0 p).1)
  (hr:T.getD r .dead=u) (hm:∀{log:List Nat},m.ai T ups log->Step P o w0 L0 N vs (ah T ups) a w) (h:(CD C vs N kids X r u x m).ai T ups log):Step P o w0 L0 N vs (ah T ups) a w:=by
 unfold CD at h;split at h
 ·rename_i l0 n0 t0 x0;obtain⟨v,l1,l2,rfl,hx,h2⟩:=M.ak h;split at h2
  ·rename_i l tt y;split at h2
   ·rename_i hc;obtain⟨rfl,hX,hd,c8,uC⟩:=hc;obtain⟨cJ,log2,h3⟩:=jP h2;obtain⟨aI,rfl,_⟩:=h3;obtain⟨g,o4,hg⟩:=cK r [] ht;have ba:=hI.aS r;rw[hr]at ba;obtain⟨_,g2,cur,e,k1,k2,k3,k4,k5⟩:=ba;obtain rfl:=hI.inj g g2 r _ hg k2;have dK:∃s0,(∀r',l=some r'->(T.getD r' .dead).deep=true)/\∃cs,Form tt cs (a.eval x)/\Own w L (SL L l) s0 0 tt y [] 0 cs:=by
     rcases jz hI hx with⟨s,_,_,h⟩|⟨_,h⟩
     ·exact⟨s,h⟩
     ·exact⟨0,h L T a.tmps 0 w⟩
    obtain⟨s0,rI,cs,hf,bM⟩:=dK;have dH:=Own.one bM;have hlen:=Own.len bM;have afV:a.eval (.tmp t) = .pointer (some ⟨g,0,none⟩):=o4;have aJ:(execOp a.eval o).run P w = .ok .skip (w.setRow g (putCells cur 0 cs)):=by
     have aX:=sd (P:=P) (w:=w) (o:=0) (hC X _ hX) k3 hf dH hlen (by omega);simp[execOp,ho,afV,aX]
    have fJ:(putCells cur 0 cs).toList=cs:=by
     simp[putCells,hlen,k4]
    intro K Q hK;unfold Oper.wp;rw[aJ,Oper.upon_skip,av];have bw:(ah T [(r,V.box l 0 tt y)]).getD r .dead = .box l 0 tt y:=by
     show (T.set r _).getD r .dead=_;rw[az,if_pos ⟨rfl,by rw[hI.len];exact c8⟩]
    have bg:∀z,z≠r->(ah T [(r,V.box l 0 tt y)]).getD z .dead=T.getD z .dead:=by
     intro z hz;show (T.set r _).getD z .dead=_;rw[az,if_neg (λh=>hz h.1)]
    have mq:∀z,z≠r->(T.getD z .dead).on r=true->∃p' t',T.getD z .dead = .ptr r p' t'/\shallow p'=true:=by
     intro z gv af;have hb:(T.getD z .dead).dV r=false:=cJ z gv;unfold V.dV at hb;rw[af,Bool.true_and]at hb;generalize T.getD z .dead=v at hb af;cases v with
     | ptr r2 p2 t2 =>
      have:r2=r:=by simpa[V.on,V.root]using af
      subst this;exact⟨p2,t2,rfl,by simpa using hb⟩
     | _=>simp at hb
    have rH:∀r',l=some r'->r'≠r/\(T.getD r' .dead).on r=false:=by
     intro r' dB;have a8:r'≠r:=λe=>uC (by rw[dB,e]);refine⟨a8,?_⟩;cases af:(T.getD r' .dead).on r with
     | false=>rfl
     | true =>
      obtain⟨p',t',he,_⟩:=mq r' a8 af;have:=rI r' dB;rw[he]at this;simp[V.deep]at this
    have HC:∀k,k≠g->(w.setRow g (putCells cur 0 cs)).heap[k]?=w.heap[k]?:=λk hk=>setRow_other w g k _ hk;refine hK a _ _ (Inv.gf (f:=om r) (X:=λz=>z=r\/(T.getD z .dead).on r=true) (nl:=λ_=>.free) hI (Xa (.inl rfl)) ?_ (λ_ _ _ _ _ h=>by cases h) hI.size (by rw[cj,hI.len]) hI.dy ?_ ?_ ?_ ?_ ?_)
    ·refine⟨rfl,rfl,rfl,by simp[World.setRow],Nat.le_refl _,λk hk hx=>HC k ?_,λ_ _=>rfl,λ_ _ _ _ h=>by cases h⟩
     rintro rfl
     exact hx r _ hg (.inl rfl)
    ·intro k z q hz hk;by_cases dt:z=r
     ·subst dt;rw[bw];rfl
     ·rw[bg z dt];unfold aP at hk;split at hk
      ·obtain⟨s0,q0,e0,f0⟩:=ey hk;obtain⟨rfl,rfl,_⟩:=CC f0;exact hI.owner k _ _ e0
      ·cases hk
    ·intro z r' hz af aV;have hz:=not_or.1 hz;rcases aV with rfl|aV
     ·exact absurd af hz.2
     ·by_cases h2:r'=r
      ·subst h2;exact absurd af hz.2
      ·obtain⟨p',t',he,_⟩:=mq r' h2 aV;rw[he];rfl
    ·intro z hz;have hz:=not_or.1 hz;exact⟨bg z hz.1,rfl⟩
    ·intro z r' hz af;by_cases h1:z=r
     ·subst h1;rw[bw]at af;exact r4 aI r' af
     ·rw[bg z h1]at af;exact hI.roots z r' af
    ·intro z hz;by_cases h1:z=r
     ·subst h1;rw[bw];refine⟨λr' aV=>?_,g,putCells cur 0 cs,e,k1,?_,setRow_heap w g cur _ e _ k3,by rw[Cl (by omega)];exact k4,?_⟩
      ·rw[bg r' (rH r' aV).1];exact rI r' aV
      ·rw[cM hI (by rw[hg];simp),hg];simp[ef,om,node]
      ·rw[fJ];refine Own.du (Rd.move (λk hk=>?_) (Own.ee bM));rcases hk with hk|⟨r',q,dB,hk⟩
       ·exact⟨.inl (dQ hI hk),HC k (by rintro rfl;rw[hg]at hk;cases hk)⟩
       ·obtain⟨h1,h2⟩:=rH r' dB;refine⟨.inr ⟨r',q,dB,vj hI (Xa (X:=λz'=>z'=z\/(T.getD z' .dead).on z=true) (.inl rfl)) hk (not_or.2 ⟨h1,by rw[h2];simp⟩)⟩,HC k ?_⟩
        rintro rfl
        rw[hg]at hk;injection hk with hk _;exact h1 hk.symm
     ·rw[bg z h1];have af:(T.getD z .dead).on r=true:=hz.resolve_left h1;obtain⟨p',t',he,dP⟩:=mq z h1 af;have bd:=hI.aS z;rw[he]at bd ⊢;obtain⟨g3,j1,j2⟩:=bd;refine⟨g3,j1,?_⟩;rw[pU dP]at j2 ⊢;rw[cM hI (by rw[j2];simp),j2];simp[ef,om]
   ·exact hm h2
  ·exact hm h2
 ·exact hm h
end
def Gt(C:Ctx)(vs:List Nat)(X:TypeId)(d:Nat)(x:Operand)(m:M (List (Nat×V))):M (List (Nat×V)):=
 match x with
 | .tmp s=>.get s λv=>match v with
  | .d none k t y=>if k≠0/\t.depth≠0 then
    (if C.ty X=some t/\s≠d/\s<100000/\vs.contains d=true then iu true s d [] (.ret [(d,.box none k t y),(s,.view d [] t)])else .fail)
   else m
  | _=>m
 | _=>m
section
variable{P:Program}{C:Ctx}{w w' w0:World}{S S':Nat->Prop}{L L' L0:Nat->aj}{s N:Nat}{vs:List Nat}{T T':List V}{tm tm':Array Value}{a:Act}
theorem akF[ae](hI:Inv w0 L0 N vs T a w L)(hC:bt P C){o:Oper}{X:TypeId}{x:Operand}{d:Nat}{m:M (List (Nat×V))}{ups:List (Nat×V)}{log:List Nat}(ho:o.op = .box X x)(av:o.dst=some d)(hd:d<N)(hid:(T.getD d .dead).idle=true)
  (h:(Gt C vs X d x m).ai T ups log) (hm:∀log,m.ai T ups log->Step P o w0 L0 N vs (ah T ups) a w):Step P o w0 L0 N vs (ah T ups) a w:=by
 unfold Gt at h;split at h
 ·rename_i s;obtain⟨ay,rfl,h⟩:=h;generalize hv:T.getD s .dead=v at h;dsimp only at h;split at h
  ·rename_i k t y;split at h
   ·rename_i uB;obtain⟨hk0,nN⟩:=uB;split at h
    ·rename_i hc;obtain⟨hX,bH,hs5,rD⟩:=hc;obtain⟨cJ,log2,h⟩:=jP h;obtain⟨rfl,_⟩:=h;clear hm;have cJ:∀z,z≠d->(T.getD z .dead).on s=false:=λz hz=>by simpa using cJ z hz
     have gS:=hI.aS s;rw[hv]at gS;obtain⟨_,cs,hf,bM⟩:=gS;have cT:=Form.cells hf (Own.one bM);have bW:s<N:=by
      rcases Nat.lt_or_ge s N with h|h
      ·exact h
      ·rw[dW (by rw[hI.len];exact h)]at hv;cases hv
     have aJ:(execOp a.eval o).run P w = .ok (.value (.pointer (some ⟨w.heap.size,0,none⟩))) (w.alloc (.cells (a.tmps.getD s undef).cells X)):=by
      have afW:a.tmps.getD s undef=a.eval (.tmp s):=rfl;rw[afW];simp[execOp,ho,Instr.box,newVar,newRow,newObj,Sem.run]
     have bJ:(ah T [(d,V.box none k t y),(s,V.view d [] t)]).getD s .dead = .view d [] t:=by
      show ((T.set d _).set s _).getD s .dead=_;rw[az,if_pos ⟨rfl,by simp[hI.len,bW]⟩]
     have bO:(ah T [(d,V.box none k t y),(s,V.view d [] t)]).getD d .dead = .box none k t y:=by
      show ((T.set d _).set s _).getD d .dead=_;rw[az,if_neg (λh=>bH h.1.symm),az,if_pos ⟨rfl,by rw[hI.len];exact hd⟩]
     have bg:∀z,z≠d->z≠s->(ah T [(d,V.box none k t y),(s,V.view d [] t)]).getD z .dead=T.getD z .dead:=by
      intro z h1 h2;show ((T.set d _).set s _).getD z .dead=_;rw[az,if_neg (λh=>h2 h.1),az,if_neg (λh=>h1 h.1)]
     have fJ:∀c z,z≠d->(a.put (some d) c).tmps.getD z undef=a.tmps.getD z undef:=λc z h=>jA (by simpa using Ne.symm h);have uN:∀c,(a.put (some d) c).tmps.getD d undef=c:=λc=>by
      show (a.tmps.setIfInBounds d c).getD d undef=c;rw[dG,if_pos ⟨rfl,by rw[hI.size];exact hd⟩]
     refine Step.value (L':=aP (gx s [] 0 t.sz k d) w L (λg=>if g=w.heap.size then .own d []else .free)) av aJ ?_
     have Ta:aP (gx s [] 0 t.sz k d) w L (λg=>if g=w.heap.size then .own d []else .free) w.heap.size = .own d []:=by
      unfold aP;rw[if_neg (Nat.lt_irrefl _)];exact if_pos rfl
     have bd:(w.alloc (.cells (a.tmps.getD s undef).cells X)).heap.size=w.heap.size+1:=by simp
     have HZ:Wd w (w.alloc (.cells (a.tmps.getD s undef).cells X)) L (λg=>if g=w.heap.size then .own d []else .free) (λz=>z=s\/z=d):=by
      refine⟨rfl,rfl,rfl,by omega,Nat.le_refl _,λk' aA _=>Go.RowKit.Below.heap_alloc w _ k' aA,λk' aA=>?_,λk' z q aA h=>?_⟩
      ·exact if_neg (by omega)
      ·change (if k'=w.heap.size then aj.own d []else aj.free)=_ at h
       split at h
       ·injection h with h _;exact .inr h.symm
       ·cases h
     have agE:Own (w.alloc (.cells (a.tmps.getD s undef).cells X)) (aP (gx s [] 0 t.sz k d) w L (λg=>if g=w.heap.size then .own d []else .free)) (SL (aP (gx s [] 0 t.sz k d) w L (λg=>if g=w.heap.size then .own d []else .free)) none) d k t y [] 0 cs:=by
      refine Own.move (λk' aA=>⟨aA,Go.RowKit.Below.heap_alloc w _ k' ?_⟩) (λk' dd rest _ aA=>⟨aA,Go.RowKit.Below.heap_alloc w _ k' ?_⟩) (Own.taken (Nat.le_refl _) hI (λk' aA=>by
       rcases aA with aA|⟨_,_,aA,_⟩
       ·exact aA
       ·cases aA) bM)
      ·rcases aA with aA|⟨_,_,aA,_⟩
       ·unfold aP at aA;split at aA
        ·assumption
        ·change (if k'=w.heap.size then aj.own d []else aj.free)=_ at aA
         split at aA<;>cases aA
       ·cases aA
      ·unfold aP at aA;split at aA
       ·assumption
       ·change (if k'=w.heap.size then aj.own d []else aj.free)=_ at aA
        split at aA
        ·injection aA with _ aA;cases aA
        ·cases aA
     have nL:(a.tmps.getD s undef).cells.size=t.sz:=by rw[<-Array.length_toList,cT,Own.len bM]
     refine Inv.gf (X:=λz=>z=s\/z=d) hI (VM bH) HZ ?_ (by simp[Act.put,hI.size]) (by rw[cj,hI.len]) hI.dy ?_ ?_ ?_ ?_ ?_
     ·intro g g' z q hg h h';change (if g=w.heap.size then aj.own d []else aj.free)=_ at h
      split at h
      ·rename_i hgg;injection h with h1 h2;subst h1 h2;unfold aP at h';split at h'
       ·obtain⟨s0,q0,e0,f0⟩:=ey h';rcases pJ f0 with⟨_,i,rest,_,_,h3⟩|⟨h1,_,h2,_⟩
        ·cases h3
        ·exact absurd h2.symm h1
       ·change (if g'=w.heap.size then aj.own d []else aj.free)=_ at h'
        split at h'
        ·rename_i Hq;rw[hgg,Hq]
        ·cases h'
      ·cases h
     ·intro g z q hz h;rcases hz with rfl|rfl
      ·exfalso;unfold aP at h;split at h
       ·obtain⟨s0,q0,e0,f0⟩:=ey h;rcases pJ f0 with⟨_,_,_,_,h1,_⟩|⟨_,h1,h2,_⟩
        ·exact bH h1
        ·exact h1 h2.symm
       ·change (if g=w.heap.size then aj.own d []else aj.free)=_ at h
        split at h
        ·injection h with h _;exact bH h.symm
        ·cases h
      ·rw[bO];rfl
     ·intro z r' hz af aV;have hz:=not_or.1 hz;rcases aV with rfl|rfl
      ·rw[cJ z hz.2]at af;cases af
      ·exact V.jy hid
     ·intro z hz;have hz:=not_or.1 hz;exact⟨bg z hz.2 hz.1,fJ _ z hz.2⟩
     ·intro z r' hz af;rcases hz with rfl|rfl
      ·rw[bJ]at af;have:d=r':=by simpa[V.on,V.root]using af
       subst this;simpa using rD
      ·rw[bO]at af;simp[V.on,V.root]at af
     ·intro z hz;rcases hz with rfl|rfl
      ·rw[bJ,fJ _ _ bH];refine⟨by rw[bO];simp only[V.deep,Bool.and_eq_true,bne_iff_ne];exact⟨hk0,nN⟩,.inr ⟨w.heap.size,_,X,.inl (by rw[bO];rfl),Ta,nO _ _,by simp only[node];omega,?_⟩⟩;rw[cT];simp only[node,List.drop_zero];rw[List.take_of_length_le (by rw[Own.len bM];exact Nat.le_refl _)];exact hf
      ·rw[bO,uN];refine⟨by simp,w.heap.size,_,X,rfl,Ta,nO _ _,nL,?_⟩;rw[cT];exact agE
    ·exact h.elim
   ·exact hm _ h
  ·exact hm _ h
 ·exact hm _ h
end
def pB(u:V):V->Bool
 | .ptr _ p _=>shallow p && !u.dm
 | .view _ p _=>(shallow p && !u.dm)||(match p with|[]=>u.dm|_=>false)
 | _=>false
def jG(r:Nat)(q:List Nat)(o sz i:Nat)(ls:List Nat):aj->aj
 | .own s z=>if s=r then (match cut q z with
   | some (y::rest)=>if o<=y/\y<o+sz then .own i ((y - o)::rest)else .other
   | _=>.other)
  else if ls.contains s then .al else .other
 | x=>x
def tX(r:Nat)(q:List Nat)(o sz i:Nat):aj->aj
 | .own j (y::rest)=>if j=i/\y<sz then .own r (q++(o+y)::rest)else .other
 | .own _ []=>.other
 | x=>x
def oJ(r:Nat)(q:List Nat)(o sz i:Nat)(L L':Nat->aj):Nat->aj:=λk=>match L k with
 | .free=>tX r q o sz i (L' k)
 | .own s z=>if s=r/\CA q o sz z=true then tX r q o sz i (L' k)else .own s z
 | x=>x
def ja(r:Nat)(q:List Nat)(o sz:Nat)(l:aj):Prop:=l = .free\/∃z,l = .own r z/\jN q o sz z
section
variable{P:Program}{C:Ctx}{w w' w0:World}{S S':Nat->Prop}{L L' L0:Nat->aj}{s N:Nat}{vs:List Nat}{T T':List V}{tm tm':Array Value}{a:Act}
theorem A8{r:Nat}{q:List Nat}{o sz i:Nat}{l:aj}{s:Nat}{z:List Nat}(h:tX r q o sz i l = .own s z):∃y rest,l = .own i (y::rest)/\y<sz/\s=r/\z=q++(o+y)::rest:=by
 cases l with
 | own j z' =>
  cases z' with
  | nil=>cases h
  | cons y rest =>
   unfold tX at h;dsimp only at h;split at h
   ·rename_i hc;obtain⟨rfl,hy⟩:=hc;injection h with h1 h2;exact⟨y,rest,rfl,hy,h1.symm,h2.symm⟩
   ·cases h
 | al=>cases h
 | other=>cases h
 | free=>cases h
theorem qY[ae]{r:Nat}{q:List Nat}{o sz i k:Nat}(h:ja r q o sz (L k)):oJ r q o sz i L L' k=tX r q o sz i (L' k):=by
 unfold oJ;rcases h with h|⟨z,h,hu⟩
 ·rw[h]
 ·rw[h];dsimp only;rw[if_pos ⟨rfl,p7.2 hu⟩]
theorem tI[ae]{r:Nat}{q:List Nat}{o sz i k:Nat}(h:¬ja r q o sz (L k)):oJ r q o sz i L L' k=L k:=by
 unfold oJ;cases hl:L k with
 | own s z =>
  dsimp only;rw[if_neg]
  rintro⟨rfl,hu⟩
  exact h (.inr ⟨z,hl,p7.1 hu⟩)
 | al=>rfl
 | other=>rfl
 | free=>exact absurd (.inl hl) h
theorem JD[ae]{r:Nat}{q:List Nat}{o sz i:Nat}{ls:List Nat}{l:aj}(h:¬ja r q o sz l):jG r q o sz i ls l = .al\/jG r q o sz i ls l = .other:=by
 cases l with
 | own s z =>
  unfold jG;dsimp only;split
  ·rename_i hs;subst hs;split
   ·rename_i y rest hc;rw[if_neg]
    ·exact .inr rfl
    ·rintro⟨h1,h2⟩
     refine h (.inr ⟨z,rfl,y - o,rest,by omega,?_⟩);rw[nv hc];congr 2;omega
   ·exact .inr rfl
  ·split<;>simp
 | al=>exact .inl rfl
 | other=>exact .inr rfl
 | free=>exact absurd (.inl rfl) h
theorem JE[ae]{r:Nat}{q:List Nat}{o sz i:Nat}{ls:List Nat}{l:aj}{j:Nat}{z:List Nat}(h:jG r q o sz i ls l = .own j z):∃y rest,j=i/\z=y::rest/\l = .own r (q++(o+y)::rest):=by
 cases l with
 | own s z' =>
  unfold jG at h;dsimp only at h;split at h
  ·rename_i hs;subst hs;split at h
   ·rename_i y rest hc;split at h
    ·rename_i hb;injection h with h1 h2;refine⟨y - o,rest,h1.symm,h2.symm,?_⟩;rw[nv hc];congr 3;omega
    ·cases h
   ·cases h
  ·split at h<;>cases h
 | al=>cases h
 | other=>cases h
 | free=>cases h
theorem alm[ae]{r:Nat}{q:List Nat}{o sz i:Nat}{ls:List Nat}{y:Nat}{rest:List Nat}(h:y<sz):jG r q o sz i ls (.own r (q++(o+y)::rest)) = .own i (y::rest):=by
 unfold jG;dsimp only;rw[if_pos rfl,lT];dsimp only;rw[if_pos ⟨by omega,by omega⟩,show o+y - o=y by omega]
theorem aqH{q:List Nat}{o sz:Nat}:¬jN q o sz []:=by
 rintro⟨d,rest,_,h⟩
 have:=congrArg List.length h;simp at this
theorem aqI{q:List Nat}{o sz:Nat}:¬jN q o sz q:=by
 rintro⟨d,rest,_,h⟩
 have:=congrArg List.length h;simp at this
theorem Inv.aeU[ae](hI:Inv w0 L0 N vs T a w L){d:Nat}(hd:d<N)(hid:(T.getD d .dead).idle=true){r i:Nat}{p:List St}{ls:List Nat}{ps:List (Ty×Mode)}{rs:List (Ty×Nat)}{u u2:V}{n n':Nat}{t:Ty}{x y:t.den}{log log2:List Nat}{c:Value}
  (hr:T.getD r .dead=u) (hz:(dp p u).ai T (none,⟨n',t,x⟩) log) (hm:(fw p u t y).ai T u2 log2) (hn:t.depth<=n) (uG:t.depth<=n') {g0:Nat} {cur:Array Value} {e:TypeId}
  (hg:L g0 = .own r (node [] 0 p).1) (SY:w.heap[g0]?=some (.cells cur e (0,0)))
  (aZ:Left w w' (λk=>jG r (node [] 0 p).1 (node [] 0 p).2 t.sz i ls (L k)) L' ps rs)
  (mn:∀k s q,L' k = .own s q->s=i)
  (uJ:Own w' L' (λk=>L' k = .al) i n t y [] 0 ((cur.toList.drop (node [] 0 p).2).take t.sz)) (jV:T'.length=N) (bw:T'.getD r .dead=u2)
  {V0:V} (bO:T'.getD d .dead=V0) (ua:∀r,V0.on r=false) (ub:∀L2 tm',ax L2 T' tm' d V0 w' c)
  (hT:∀z,z≠d->z≠r->(T.getD z .dead).on r=true->(T'.getD z .dead = .dead/\(T.getD z .dead).aD=false)\/(T'.getD z .dead=T.getD z .dead/\pB u (T.getD z .dead)=true))
  (gJ:∀z,z≠d->z≠r->(T.getD z .dead).on r=false->T'.getD z .dead=T.getD z .dead) :
  Inv w0 L0 N vs T' (a.put (some d) c) w' (oJ r (node [] 0 p).1 (node [] 0 p).2 t.sz i L L'):=by
 have b8:=Wm hz;obtain⟨lp,uL,uh,Bw⟩:=IH hm;have ba:=hI.aS r;rw[hr]at ba;obtain⟨_,_,_,gr,kY⟩:=ky hz ba;have br:r≠d:=by
  refine cV hid ?_;rw[hr];exact gr
 have cF:∀k q,L k ≠ .own d q:=λk q h=>by
  have:=hI.owner k d q h;rw[V.jy hid]at this;cases this
 have my:∀k,¬ja r (node [] 0 p).1 (node [] 0 p).2 t.sz (L k)->(oJ r (node [] 0 p).1 (node [] 0 p).2 t.sz i L L' k=L k/\w'.heap[k]?=w.heap[k]?):=by
  intro k h;have au:k<w.heap.size:=hI.lt (λe=>h (.inl e));exact⟨tI h,(aZ.aO k au (JD h)).2⟩
 have agf:∀k q,L' k = .own i q->ja r (node [] 0 p).1 (node [] 0 p).2 t.sz (L k):=by
  intro k q hk;apply Classical.byContradiction;intro hp;have au:k<w.heap.size:=hI.lt (λe=>hp (.inl e));have h9:=(aZ.aO k au (JD hp)).1;rw[hk]at h9;rcases JD (i:=i) (ls:=ls) hp with h|h<;>rw[h]at h9<;>cases h9
 have fJ:∀s',s'≠d->(a.put (some d) c).tmps.getD s' undef=a.tmps.getD s' undef:=λs' h=>jA (by simpa using Ne.symm h);let X:Nat->Prop:=λz=>z=d\/z=r\/(T.getD z .dead).on r=true;have lf:∀z,¬X z->z≠d/\z≠r/\(T.getD z .dead).on r=false:=by
  intro z hz;have hz:=not_or.1 hz;have dj:=not_or.1 hz.2;exact⟨hz.1,dj.1,by simpa using dj.2⟩
 have agA:∀k z,¬X z->(L k = .al\/∃r' q,L k = .own r' q/\(r'=z\/(T.getD z .dead).on r'=true))->¬ja r (node [] 0 p).1 (node [] 0 p).2 t.sz (L k):=by
  intro k z hz hk hp;obtain⟨h1,h2,h3⟩:=lf z hz;rcases hp with hp|⟨z',hp,_⟩
  ·rcases hk with hk|⟨_,_,hk,_⟩<;>rw[hp]at hk<;>cases hk
  ·rcases hk with hk|⟨r',q',hk,cU⟩
   ·rw[hp]at hk;cases hk
   ·rw[hp]at hk;injection hk with hk _;subst hk;rcases cU with rfl|cU
    ·exact h2 rfl
    ·rw[h3]at cU;cases cU
 refine Inv.upd X hI (by simp[Act.put,hI.size]) jV hI.dy ?_ ?_ ?_ ?_ ?_ ?_ ?_ ?_ ?_
 ·refine⟨aZ.os.trans hI.fr.os,aZ.tape.trans hI.fr.tape,aZ.output.trans hI.fr.output,Nat.le_trans hI.fr.size aZ.size,Nat.le_trans hI.fr.drawn aZ.drawn,λk hk h0=>?_,hI.fr.gm⟩;have h1:=hI.fr.aO k hk h0;have pe:¬ja r (node [] 0 p).1 (node [] 0 p).2 t.sz (L k):=by
   rintro (h|⟨z,h,_⟩)<;>rw[h1.1]at h<;>rcases h0 with h0|h0<;>rw[h0]at h<;>cases h
  have:=my k pe;exact⟨this.1.trans h1.1,this.2.trans h1.2⟩
 ·intro k hk;have hf:=hI.free k (Nat.le_trans aZ.size hk);rw[qY (.inl hf),aZ.free k hk];rfl
 ·intro k k' s q h h';by_cases hp:ja r (node [] 0 p).1 (node [] 0 p).2 t.sz (L k)
  ·rw[qY hp]at h;obtain⟨y1,rest,e1,e2,rfl,rfl⟩:=A8 h;by_cases cc:ja s (node [] 0 p).1 (node [] 0 p).2 t.sz (L k')
   ·rw[qY cc]at h';obtain⟨y2,Je,e3,e4,_,e5⟩:=A8 h';have e6:=List.append_cancel_left e5;injection e6 with e6 e7;have:y1=y2:=by omega
    subst this e7;exact aZ.inj k k' _ _ e1 e3
   ·rw[tI cc]at h';exact absurd (.inr ⟨_,h',y1,rest,e2,rfl⟩) cc
  ·rw[tI hp]at h;by_cases cc:ja r (node [] 0 p).1 (node [] 0 p).2 t.sz (L k')
   ·rw[qY cc]at h';obtain⟨y1,rest,e1,e2,rfl,rfl⟩:=A8 h';exact absurd (.inr ⟨_,h,y1,rest,e2,rfl⟩) hp
   ·rw[tI cc]at h';exact hI.inj k k' s q h h'
 ·intro k s q h;by_cases hp:ja r (node [] 0 p).1 (node [] 0 p).2 t.sz (L k)
  ·rw[qY hp]at h;obtain⟨y1,rest,e1,e2,rfl,rfl⟩:=A8 h;rw[bw,uL];exact gr
  ·rw[tI hp]at h;have ho:=hI.owner k s q h;have bH:s≠d:=cV hid ho;by_cases bj:s=r
   ·subst bj;rw[bw,uL];exact gr
   ·cases af:(T.getD s .dead).on r with
    | false=>rw[gJ s bH bj af];exact ho
    | true =>
     rcases hT s bH bj af with⟨_,h⟩|⟨h,_⟩
     ·rw[h]at ho;cases ho
     ·rw[h];exact ho
 ·intro z hz k hk;exact my k (agA k z hz hk)
 ·intro z hz;obtain⟨h1,h2,h3⟩:=lf z hz;exact⟨gJ z h1 h2 h3,fJ z h1⟩
 ·intro z r' h;by_cases gT:z=d
  ·subst gT;rw[bO,ua]at h;cases h
  ·by_cases dt:z=r
   ·subst dt;rw[bw]at h;simp[V.on,lp,b8]at h
   ·cases af:(T.getD z .dead).on r with
    | false=>rw[gJ z gT dt af]at h;exact hI.roots z r' h
    | true =>
     rcases hT z gT dt af with⟨h1,_⟩|⟨h1,_⟩
     ·rw[h1]at h;simp[V.on,V.root]at h
     ·rw[h1]at h;exact hI.roots z r' h
 ·intro z r' hz af ho;obtain⟨h1,h2,h3⟩:=lf z hz;have nS:r'≠d:=cV hid ho;have fK:r'≠r:=λe=>by rw[e,h3]at af;cases af
  refine⟨?_,fJ r' nS⟩;cases Tq:(T.getD r' .dead).on r with
  | false=>exact gJ r' nS fK Tq
  | true =>
   rcases hT r' nS fK Tq with⟨_,h⟩|⟨h,_⟩
   ·rw[h]at ho;cases ho
   ·exact h
 ·intro z hX;by_cases gT:z=d
  ·subst gT;rw[bO];show ax _ _ _ _ _ _ ((a.tmps.setIfInBounds z c).getD z undef);rw[dG,if_pos ⟨rfl,by rw[hI.size];exact hd⟩];exact ub _ _
  ·by_cases dt:z=r
   ·subst dt;rw[bw,fJ z gT];have o6:¬ja z (node [] 0 p).1 (node [] 0 p).2 t.sz (L g0):=by
     rintro (h|⟨z',h,hu⟩)
     ·rw[hg]at h;cases h
     ·rw[hg]at h;injection h with _ h;subst h;exact aqI hu
    have o7:=my g0 o6;refine IG (T2:=T') (cur:=cur) (e':=e) (g':=g0) (cur':=cur) ba hz hm (λr' aV=>by rw[b8]at aV;cases aV) ?_ ?_
    ·refine⟨λk hk=>?_,λk q2 hk hq HU=>?_,hg,by rw[o7.1];exact hg,SY,by rw[o7.2];exact SY,rfl,λ_ _=>rfl,λk hk=>hI.inj k g0 z _ hk hg⟩
     ·rw[b8]at hk ⊢;rcases hk with hk|⟨_,_,hk,_⟩
      ·have:=my k (by rintro (h|⟨_,h,_⟩)<;>rw[hk]at h<;>cases h);exact⟨.inl (by rw[this.1];exact hk),this.2⟩
      ·cases hk
     ·exact my k (by
       rintro (h|⟨z',h,hu⟩)
       ·rw[hk]at h;cases h
       ·rw[hk]at h;injection h with _ h;subst h;exact HU hu)
    ·refine Own.cap hn uG (Own.move (S:=λ_=>False) (λk hk=>hk.elim) (λk dd rest gM hk=>⟨?_,rfl⟩) (Own.full hn uJ));rw[Nat.zero_add,List.nil_append]at hk;rw[qY (agf k _ hk),hk];show (if i=i/\dd<t.sz then _ else _)=_
     rw[if_pos ⟨rfl,gM⟩]
   ·have af:(T.getD z .dead).on r=true:=by
     rcases hX with h|h|h
     ·exact absurd h gT
     ·exact absurd h dt
     ·exact h
    rcases hT z gT dt af with⟨h,_⟩|⟨h,hk⟩
    ·rw[h];trivial
    ·rw[h,fJ z gT];have bd:=hI.aS z;have fH:∀k,L k = .own r []->oJ r (node [] 0 p).1 (node [] 0 p).2 t.sz i L L' k=L k/\w'.heap[k]?=w.heap[k]?:=λk hk=>my k (by
      rintro (h|⟨z',h,hu⟩)
      ·rw[hk]at h;cases h
      ·rw[hk]at h;injection h with _ h;subst h;exact aqH hu)
     generalize hv:T.getD z .dead=v at hk af bd;cases v with
     | ptr r2 p2 t2 =>
      have:r2=r:=by simpa[V.on,V.root]using af
      subst this;simp only[pB,Bool.and_eq_true]at hk;obtain⟨g,h1,h2⟩:=bd;refine⟨g,h1,?_⟩;rw[pU hk.1]at h2 ⊢;rw[(fH g h2).1];exact h2
     | view r2 p2 t2 =>
      have:r2=r:=by simpa[V.on,V.root]using af
      subst this;obtain⟨ch,h1⟩:=bd;refine⟨by rw[bw,uh,<-hr];exact ch,?_⟩;rcases h1 with⟨h1,h2,l,n1,x1,h3,h4⟩|⟨g,cur1,e1,h1,h2,h3,h4,h5⟩
      ·rw[hr]at h3;subst h3;obtain⟨x2,rfl⟩:=VG hm;exact .inl ⟨h1,by rw[fJ r2 br];exact h2,l,n1,x2,bw,h4⟩
      ·rw[hr]at h1;have dP:shallow p2=true:=by
        simp only[pB,Bool.or_eq_true,Bool.and_eq_true]at hk;rcases hk with hk|hk
        ·exact hk.1
        ·cases p2 with
         | nil=>rfl
         | cons _ _=>cases hk
       refine .inr ⟨g,cur1,e1,by rw[bw,Bw];exact h1,?_⟩;rw[pU dP]at h2 ⊢;have:=fH g h2;exact⟨by rw[this.1];exact h2,by rw[this.2];exact h3,h4,h5⟩
     | _=>simp[pB]at hk
end
end Go.Proofs.YtbhogmdpmkpinaaGreat.P.Am
